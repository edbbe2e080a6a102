/-
  skeinlaw12.CodeCompares: the walk.
-/
import Derived.Test.YtcebejcdfdahjaaCodeLives
import Derived.Test.YtcebejcdfdahjaaWide
import Derived.Deep.Cut
namespace Go.Proofs.Ytcebejcdfdahjaa
open Go.RowKit
attribute [local go_sem] cell_set
set_option maxRecDepth 100000
set_option linter.unusedVariables false

theorem cmp_rd {W : World} {U V : Option Addr} {l k : List Int} {cu cv : Nat} (h1 : IntsRd W U l) (h2 : IntsRd W V k) (hl : l.length ≤ 100000) (hk : k.length ≤ 100000) :
    Calls Try.prog 37 #[.slice U l.length cu, .slice V k.length cv] W fun e w' => e = .returned (.int .i64 (cmpN l k)) ∧ Below W.heap.size W w' :=
  code_compare U V _ _ cu cv l k W rfl rfl hl hk (Lib.hid h1) (Lib.hid h2)
theorem eq_rd {W : World} {U V : Option Addr} {l k : List Int} {cu cv : Nat} (h1 : IntsRd W U l) (h2 : IntsRd W V k) (hl : l.length ≤ 100000) (hk : k.length ≤ 100000) :
    Calls Try.prog 39 #[.slice U l.length cu, .slice V k.length cv] W fun e w' => e = .returned (.bool (decide (l = k))) ∧ Below W.heap.size W w' :=
  eq_ints U V _ _ cu cv l k W rfl rfl hl hk (Lib.hid h1) (Lib.hid h2)
theorem wide_rd {W : World} {g : Nat} {l : List Int} (h : Row W 3 1 (.slice (some ⟨g, 0, none⟩) (l.length + 64) (l.length + 64)) (l.length + 64) (ivals (wideL l))) : IntsRd W (some ⟨g, 0, none⟩) l := fun i hi => by
  refine ⟨g, 0, rfl, h.lt g (by simp [ownB]), ?_⟩
  rw [Nat.zero_add, h.cellAt i (by omega)]
  have := wideL_lo hi
  have hw := wideL_len l
  rw [List.getD_eq_getElem?_getD, List.getElem?_eq_getElem (by omega)] at this
  simp [ivals, hw, show i < l.length + 64 by omega] at this ⊢
  exact this
theorem spare_rd {W : World} {g : Nat} {l : List Int} (h : Row W 3 1 (.slice (some ⟨g, 0, none⟩) (l.length + 64) (l.length + 64)) (l.length + 64) (ivals (wideL l))) (hl : l.length ≤ 100000) :
    Calls Try.prog 40 #[.slice (some ⟨g, 0, none⟩) l.length (l.length + 64)] W fun e w' => e = .returned (.bool true) ∧ Below W.heap.size W w' :=
  spare_ints g _ _ l W rfl rfl hl (Lib.hid h)
structure CmpS (A B C : Option Addr) (gx gy : Nat) (a b c : List Int) (X : World) : Prop where
  ra : IntsRd X A a
  rb : IntsRd X B b
  rc : IntsRd X C c
  rx : Row X 3 1 (.slice (some ⟨gx, 0, none⟩) (a.length + 64) (a.length + 64)) (a.length + 64) (ivals (wideL a))
  ry : Row X 3 1 (.slice (some ⟨gy, 0, none⟩) (b.length + 64) (b.length + 64)) (b.length + 64) (ivals (wideL b))
theorem CmpS.below {A B C : Option Addr} {gx gy : Nat} {a b c : List Int} {X X' : World} (h : CmpS A B C gx gy a b c X) (hb : Below X.heap.size X X') : CmpS A B C gx gy a b c X' :=
  ⟨h.ra.below hb, h.rb.below hb, h.rc.below hb, h.rx.keep fun t ht => hb.block t (h.rx.lt t ht), h.ry.keep fun t ht => hb.block t (h.ry.lt t ht)⟩
section
variable (A B C : Option Addr) (ca cb cc : Nat) (a b c : List Int) (w : World)
set_option maxHeartbeats 4000000 in
theorem compares_walk (ha : Hid (IntsRd w A a)) (hb : Hid (IntsRd w B b)) (hc : Hid (IntsRd w C c)) (h1 : a.length ≤ 1000000000000000000) (h2 : b.length ≤ 1000000000000000000) (h3 : c.length ≤ 1000000000000000000) :
    Calls Try.prog 6 #[.slice A a.length ca, .slice B b.length cb, .slice C c.length cc] w fun e w' => e = .returned (.bool true) ∧ Below w.heap.size w w' := by
  obtain ⟨M, hM⟩ : ∃ M, a.length + b.length = M := ⟨_, rfl⟩
  obtain ⟨N, hN⟩ : ∃ N, M + c.length = N := ⟨_, rfl⟩
  have s1 : IntKind.i64.wrap ((a.length : Int) + (b.length : Int)) = (M : Int) := by rw [IntWalk.i64_in _ (by omega)]; omega
  have s2 : IntKind.i64.wrap ((M : Int) + (c.length : Int)) = (N : Int) := by rw [IntWalk.i64_in _ (by omega)]; omega
  have HMN := Lib.hid (And.intro hM hN)
  clear hM hN h1 h2 h3
  by_cases hbig : 65536 < N
  · go_enter Try.func6, Try.ntmps6
    go_wp2_with (go_at_call 35; refine (lives12 _).mono ?_; rintro e w1 ⟨rfl, hb1⟩)
    go_ret
    exact ⟨rfl, hb1⟩
  · have hla : a.length ≤ 100000 := by have := HMN.out; omega
    have hlb : b.length ≤ 100000 := by have := HMN.out; omega
    have hlc : c.length ≤ 100000 := by have := HMN.out; omega
    clear HMN
    go_enter Try.func6, Try.ntmps6
    go_upto_region 4 with (go_at_call 36
                           refine (wide_ints A _ ca a _ rfl hla ha).mono ?_
                           rintro e w1 ⟨gx, rfl, hgx, hx, hb1⟩
                           have HX := Lib.hid (And.intro hx hb1)
                           clear hx hb1)
    go_upto_region 5 with (go_at_call 36
                           refine (wide_ints B _ cb b _ rfl hlb (Lib.hid (hb.out.below HX.out.2))).mono ?_
                           rintro e w2 ⟨gy, rfl, hgy, hy, hb2⟩
                           have HB := Lib.hid (HX.out.2.trans (hb2.mono HX.out.2.size))
                           have HS : Hid (CmpS A B C gx gy a b c w2) := ⟨ha.out.below HB.out, hb.out.below HB.out, hc.out.below HB.out, HX.out.1.keep fun t ht => hb2.block t (HX.out.1.lt t ht), hy⟩
                           clear hy hb2 HX)
    obtain ⟨n, hn⟩ : ∃ n, cmpN a b = n := ⟨_, rfl⟩
    have HN := Lib.hid hn
    have HN2 : Hid (cmpN b a = -n) := Lib.hid (by rw [cmpN_neg a b, hn])
    go_upto_region 6 with (go_at_call 37
                           refine (cmp_rd (wide_rd HS.out.rx) (wide_rd HS.out.ry) hla hlb).mono ?_
                           rintro e wq ⟨rfl, hq⟩
                           rw [HN.out]
                           have HB := Lib.hid (HB.out.trans (hq.mono HB.out.size))
                           have HS := Lib.hid (HS.out.below hq)
                           clear hq)
    have hr := cmpN_rng a b
    rw [hn] at hr
    have HE : Hid (decide (a = b) = decide (n = 0)) := Lib.hid (by rw [← hn]; exact decide_eq_decide.2 (cmpN_eq a b).symm)
    have HT : Hid (n ≤ 0 → cmpN b c ≤ 0 → cmpN a c ≤ 0) := Lib.hid fun h1 h2 => cmpN_trans a b c (by rw [hn]; exact h1) h2
    obtain ⟨r1, hr1⟩ : ∃ r1, cmpN b c = r1 := ⟨_, rfl⟩
    obtain ⟨r2, hr2⟩ : ∃ r2, cmpN a c = r2 := ⟨_, rfl⟩
    have HR1 := Lib.hid hr1
    have HR2 := Lib.hid hr2
    rw [hr1, hr2] at HT
    clear hn hr1 hr2
    rcases hr with rfl | rfl | rfl
    · have HT2 := HT.out (by decide)
      by_cases hc1 : r1 ≤ 0
      · have hc2 := HT2 hc1
        clear HT2
        go_wp2_with (first
          | (go_at_call 38
             refine (rcompare A B _ _ ca cb a b _ rfl rfl hla hlb (Lib.hid HS.out.ra) (Lib.hid HS.out.rb)).mono ?_
             rintro e wq ⟨rfl, hq⟩
             rw [HN.out]
             have HB := Lib.hid (HB.out.trans (hq.mono HB.out.size))
             have HS := Lib.hid (HS.out.below hq)
             clear hq)
          | (go_at_call 37
             refine (cmp_rd (by first | (with_reducible exact wide_rd HS.out.rx) | (with_reducible exact wide_rd HS.out.ry)) (by first | (with_reducible exact wide_rd HS.out.rx) | (with_reducible exact wide_rd HS.out.ry) | (with_reducible exact HK.out)) (by omega) (by omega)).mono ?_
             rintro e wq ⟨rfl, hq⟩
             first | rw [HN2.out] | rw [cmpN_self] | rw [HR1.out] | rw [HR2.out]
             have HB := Lib.hid (HB.out.trans (hq.mono HB.out.size))
             have HS := Lib.hid (HS.out.below hq)
             clear hq)
          | (go_at_call 39
             refine (eq_rd (by first | (with_reducible exact HS.out.ra) | (with_reducible exact wide_rd HS.out.rx) | (with_reducible exact wide_rd HS.out.ry)) (by first | (with_reducible exact HS.out.ra) | (with_reducible exact HS.out.rb)) (by omega) (by omega)).mono ?_
             rintro e wq ⟨rfl, hq⟩
             first | rw [HE.out] | rw [decide_eq_true rfl]
             have HB := Lib.hid (HB.out.trans (hq.mono HB.out.size))
             have HS := Lib.hid (HS.out.below hq)
             clear hq)
          | (go_at_call 40
             refine (spare_rd (by first | (with_reducible exact HS.out.rx) | (with_reducible exact HS.out.ry)) (by omega)).mono ?_
             rintro e wq ⟨rfl, hq⟩
             have HB := Lib.hid (HB.out.trans (hq.mono HB.out.size))
             have HS := Lib.hid (HS.out.below hq)
             clear hq)
          | (go_at_call 16
             refine (copy_ints C cc c _ HS.out.rc (by omega)).mono ?_
             rintro e wq ⟨VK, ck, rfl, hf⟩
             have HK := Lib.hid hf.1.ints
             have hq := hf.2.2
             clear hf
             have HB := Lib.hid (HB.out.trans (hq.mono HB.out.size))
             have HS := Lib.hid (HS.out.below hq)
             clear hq)
          | (go_at_call 35
             refine (lives12 _).mono ?_
             rintro e wq ⟨rfl, hq⟩
             have HB := Lib.hid (HB.out.trans (hq.mono HB.out.size))
             have HS := Lib.hid (HS.out.below hq)
             clear hq))
        go_ret
        exact ⟨rfl, HB.out⟩
      · clear HT2
        go_wp2_with (first
          | (go_at_call 38
             refine (rcompare A B _ _ ca cb a b _ rfl rfl hla hlb (Lib.hid HS.out.ra) (Lib.hid HS.out.rb)).mono ?_
             rintro e wq ⟨rfl, hq⟩
             rw [HN.out]
             have HB := Lib.hid (HB.out.trans (hq.mono HB.out.size))
             have HS := Lib.hid (HS.out.below hq)
             clear hq)
          | (go_at_call 37
             refine (cmp_rd (by first | (with_reducible exact wide_rd HS.out.rx) | (with_reducible exact wide_rd HS.out.ry)) (by first | (with_reducible exact wide_rd HS.out.rx) | (with_reducible exact wide_rd HS.out.ry) | (with_reducible exact HK.out)) (by omega) (by omega)).mono ?_
             rintro e wq ⟨rfl, hq⟩
             first | rw [HN2.out] | rw [cmpN_self] | rw [HR1.out] | rw [HR2.out]
             have HB := Lib.hid (HB.out.trans (hq.mono HB.out.size))
             have HS := Lib.hid (HS.out.below hq)
             clear hq)
          | (go_at_call 39
             refine (eq_rd (by first | (with_reducible exact HS.out.ra) | (with_reducible exact wide_rd HS.out.rx) | (with_reducible exact wide_rd HS.out.ry)) (by first | (with_reducible exact HS.out.ra) | (with_reducible exact HS.out.rb)) (by omega) (by omega)).mono ?_
             rintro e wq ⟨rfl, hq⟩
             first | rw [HE.out] | rw [decide_eq_true rfl]
             have HB := Lib.hid (HB.out.trans (hq.mono HB.out.size))
             have HS := Lib.hid (HS.out.below hq)
             clear hq)
          | (go_at_call 40
             refine (spare_rd (by first | (with_reducible exact HS.out.rx) | (with_reducible exact HS.out.ry)) (by omega)).mono ?_
             rintro e wq ⟨rfl, hq⟩
             have HB := Lib.hid (HB.out.trans (hq.mono HB.out.size))
             have HS := Lib.hid (HS.out.below hq)
             clear hq)
          | (go_at_call 16
             refine (copy_ints C cc c _ HS.out.rc (by omega)).mono ?_
             rintro e wq ⟨VK, ck, rfl, hf⟩
             have HK := Lib.hid hf.1.ints
             have hq := hf.2.2
             clear hf
             have HB := Lib.hid (HB.out.trans (hq.mono HB.out.size))
             have HS := Lib.hid (HS.out.below hq)
             clear hq)
          | (go_at_call 35
             refine (lives12 _).mono ?_
             rintro e wq ⟨rfl, hq⟩
             have HB := Lib.hid (HB.out.trans (hq.mono HB.out.size))
             have HS := Lib.hid (HS.out.below hq)
             clear hq))
        go_ret
        exact ⟨rfl, HB.out⟩
    · have HT2 := HT.out (by decide)
      by_cases hc1 : r1 ≤ 0
      · have hc2 := HT2 hc1
        clear HT2
        go_wp2_with (first
          | (go_at_call 38
             refine (rcompare A B _ _ ca cb a b _ rfl rfl hla hlb (Lib.hid HS.out.ra) (Lib.hid HS.out.rb)).mono ?_
             rintro e wq ⟨rfl, hq⟩
             rw [HN.out]
             have HB := Lib.hid (HB.out.trans (hq.mono HB.out.size))
             have HS := Lib.hid (HS.out.below hq)
             clear hq)
          | (go_at_call 37
             refine (cmp_rd (by first | (with_reducible exact wide_rd HS.out.rx) | (with_reducible exact wide_rd HS.out.ry)) (by first | (with_reducible exact wide_rd HS.out.rx) | (with_reducible exact wide_rd HS.out.ry) | (with_reducible exact HK.out)) (by omega) (by omega)).mono ?_
             rintro e wq ⟨rfl, hq⟩
             first | rw [HN2.out] | rw [cmpN_self] | rw [HR1.out] | rw [HR2.out]
             have HB := Lib.hid (HB.out.trans (hq.mono HB.out.size))
             have HS := Lib.hid (HS.out.below hq)
             clear hq)
          | (go_at_call 39
             refine (eq_rd (by first | (with_reducible exact HS.out.ra) | (with_reducible exact wide_rd HS.out.rx) | (with_reducible exact wide_rd HS.out.ry)) (by first | (with_reducible exact HS.out.ra) | (with_reducible exact HS.out.rb)) (by omega) (by omega)).mono ?_
             rintro e wq ⟨rfl, hq⟩
             first | rw [HE.out] | rw [decide_eq_true rfl]
             have HB := Lib.hid (HB.out.trans (hq.mono HB.out.size))
             have HS := Lib.hid (HS.out.below hq)
             clear hq)
          | (go_at_call 40
             refine (spare_rd (by first | (with_reducible exact HS.out.rx) | (with_reducible exact HS.out.ry)) (by omega)).mono ?_
             rintro e wq ⟨rfl, hq⟩
             have HB := Lib.hid (HB.out.trans (hq.mono HB.out.size))
             have HS := Lib.hid (HS.out.below hq)
             clear hq)
          | (go_at_call 16
             refine (copy_ints C cc c _ HS.out.rc (by omega)).mono ?_
             rintro e wq ⟨VK, ck, rfl, hf⟩
             have HK := Lib.hid hf.1.ints
             have hq := hf.2.2
             clear hf
             have HB := Lib.hid (HB.out.trans (hq.mono HB.out.size))
             have HS := Lib.hid (HS.out.below hq)
             clear hq)
          | (go_at_call 35
             refine (lives12 _).mono ?_
             rintro e wq ⟨rfl, hq⟩
             have HB := Lib.hid (HB.out.trans (hq.mono HB.out.size))
             have HS := Lib.hid (HS.out.below hq)
             clear hq))
        go_ret
        exact ⟨rfl, HB.out⟩
      · clear HT2
        go_wp2_with (first
          | (go_at_call 38
             refine (rcompare A B _ _ ca cb a b _ rfl rfl hla hlb (Lib.hid HS.out.ra) (Lib.hid HS.out.rb)).mono ?_
             rintro e wq ⟨rfl, hq⟩
             rw [HN.out]
             have HB := Lib.hid (HB.out.trans (hq.mono HB.out.size))
             have HS := Lib.hid (HS.out.below hq)
             clear hq)
          | (go_at_call 37
             refine (cmp_rd (by first | (with_reducible exact wide_rd HS.out.rx) | (with_reducible exact wide_rd HS.out.ry)) (by first | (with_reducible exact wide_rd HS.out.rx) | (with_reducible exact wide_rd HS.out.ry) | (with_reducible exact HK.out)) (by omega) (by omega)).mono ?_
             rintro e wq ⟨rfl, hq⟩
             first | rw [HN2.out] | rw [cmpN_self] | rw [HR1.out] | rw [HR2.out]
             have HB := Lib.hid (HB.out.trans (hq.mono HB.out.size))
             have HS := Lib.hid (HS.out.below hq)
             clear hq)
          | (go_at_call 39
             refine (eq_rd (by first | (with_reducible exact HS.out.ra) | (with_reducible exact wide_rd HS.out.rx) | (with_reducible exact wide_rd HS.out.ry)) (by first | (with_reducible exact HS.out.ra) | (with_reducible exact HS.out.rb)) (by omega) (by omega)).mono ?_
             rintro e wq ⟨rfl, hq⟩
             first | rw [HE.out] | rw [decide_eq_true rfl]
             have HB := Lib.hid (HB.out.trans (hq.mono HB.out.size))
             have HS := Lib.hid (HS.out.below hq)
             clear hq)
          | (go_at_call 40
             refine (spare_rd (by first | (with_reducible exact HS.out.rx) | (with_reducible exact HS.out.ry)) (by omega)).mono ?_
             rintro e wq ⟨rfl, hq⟩
             have HB := Lib.hid (HB.out.trans (hq.mono HB.out.size))
             have HS := Lib.hid (HS.out.below hq)
             clear hq)
          | (go_at_call 16
             refine (copy_ints C cc c _ HS.out.rc (by omega)).mono ?_
             rintro e wq ⟨VK, ck, rfl, hf⟩
             have HK := Lib.hid hf.1.ints
             have hq := hf.2.2
             clear hf
             have HB := Lib.hid (HB.out.trans (hq.mono HB.out.size))
             have HS := Lib.hid (HS.out.below hq)
             clear hq)
          | (go_at_call 35
             refine (lives12 _).mono ?_
             rintro e wq ⟨rfl, hq⟩
             have HB := Lib.hid (HB.out.trans (hq.mono HB.out.size))
             have HS := Lib.hid (HS.out.below hq)
             clear hq))
        go_ret
        exact ⟨rfl, HB.out⟩
    · go_wp2_with (first
        | (go_at_call 38
           refine (rcompare A B _ _ ca cb a b _ rfl rfl hla hlb (Lib.hid HS.out.ra) (Lib.hid HS.out.rb)).mono ?_
           rintro e wq ⟨rfl, hq⟩
           rw [HN.out]
           have HB := Lib.hid (HB.out.trans (hq.mono HB.out.size))
           have HS := Lib.hid (HS.out.below hq)
           clear hq)
        | (go_at_call 37
           refine (cmp_rd (by first | (with_reducible exact wide_rd HS.out.rx) | (with_reducible exact wide_rd HS.out.ry)) (by first | (with_reducible exact wide_rd HS.out.rx) | (with_reducible exact wide_rd HS.out.ry) | (with_reducible exact HK.out)) (by omega) (by omega)).mono ?_
           rintro e wq ⟨rfl, hq⟩
           first | rw [HN2.out] | rw [cmpN_self] | rw [HR1.out] | rw [HR2.out]
           have HB := Lib.hid (HB.out.trans (hq.mono HB.out.size))
           have HS := Lib.hid (HS.out.below hq)
           clear hq)
        | (go_at_call 39
           refine (eq_rd (by first | (with_reducible exact HS.out.ra) | (with_reducible exact wide_rd HS.out.rx) | (with_reducible exact wide_rd HS.out.ry)) (by first | (with_reducible exact HS.out.ra) | (with_reducible exact HS.out.rb)) (by omega) (by omega)).mono ?_
           rintro e wq ⟨rfl, hq⟩
           first | rw [HE.out] | rw [decide_eq_true rfl]
           have HB := Lib.hid (HB.out.trans (hq.mono HB.out.size))
           have HS := Lib.hid (HS.out.below hq)
           clear hq)
        | (go_at_call 40
           refine (spare_rd (by first | (with_reducible exact HS.out.rx) | (with_reducible exact HS.out.ry)) (by omega)).mono ?_
           rintro e wq ⟨rfl, hq⟩
           have HB := Lib.hid (HB.out.trans (hq.mono HB.out.size))
           have HS := Lib.hid (HS.out.below hq)
           clear hq)
        | (go_at_call 16
           refine (copy_ints C cc c _ HS.out.rc (by omega)).mono ?_
           rintro e wq ⟨VK, ck, rfl, hf⟩
           have HK := Lib.hid hf.1.ints
           have hq := hf.2.2
           clear hf
           have HB := Lib.hid (HB.out.trans (hq.mono HB.out.size))
           have HS := Lib.hid (HS.out.below hq)
           clear hq)
        | (go_at_call 35
           refine (lives12 _).mono ?_
           rintro e wq ⟨rfl, hq⟩
           have HB := Lib.hid (HB.out.trans (hq.mono HB.out.size))
           have HS := Lib.hid (HS.out.below hq)
           clear hq))
      go_ret
      exact ⟨rfl, HB.out⟩
end
end Go.Proofs.Ytcebejcdfdahjaa
