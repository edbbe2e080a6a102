/-
  Contracts of skeinref03: Neat, there.
-/
import Derived.Test.YtcebejcdfdahjaaRef03N
import Derived.Test.YtcebejcdfdahjaaNetMove
namespace Go.Proofs.Ytcebejcdfdahjaa
open Go.RowKit Go.Shelf
attribute [local go_sem] cell_set
set_option maxRecDepth 100000
set_option linter.unusedVariables false

theorem lkK_rng {pn : Int → Nat} {cells : List Int} {free : Nat} {W : List (Pt × Pt)} (hok : NetOk pn cells free W) : ∀ i, i < (lkK pn cells free W W.length).length → 0 ≤ (lkK pn cells free W W.length).getD i 0 ∧ (lkK pn cells free W W.length).getD i 0 < (lkK pn cells free W W.length).length := fun i hi => by
  have hil : i < (allPs pn cells free).length := by rw [allPs_len]; rwa [lkK_len] at hi
  have hp := allPs_is pn (List.getElem_mem hil)
  have hpi := plc_at pn (List.getElem?_eq_getElem hil)
  obtain ⟨q, hq1, hq2⟩ := hok.lnk hp
  have hl := lkK_at hok (Nat.le_refl _) hp (by rw [List.take_length]; exact hq1)
  rw [hpi] at hl
  have hl2 : (lkK pn cells free W W.length).getD i 0 = (plc pn cells free q : Int) := by rw [List.getD_eq_getElem?_getD, hl]; rfl
  have := plc_lt pn hq2
  rw [hl2, lkK_len]; omega

set_option maxHeartbeats 1000000 in
theorem rneat (A : Option Addr) (n cap : Nat) (L : List (ByteArray × Int)) (VA VB : Option Addr) (ca cb : Nat) (cells : List Int) (free : Nat) (W : List (Pt × Pt)) (w : World) (hn : n = L.length) (HL : Hid (AgRd w A L)) (hs : SigOk L) (HC : Hid (IntsRd w VA cells)) (HW : Hid (WrRd w VB W)) (hc : cells.length ≤ 5000) (hf : free ≤ 100) (hw : W.length ≤ 40000)
    (hok : Hid (NetOk (pnL L) cells free W)) :
    Calls Try.prog 70 #[.slice A n cap, netV VA ca cells free VB cb W] w fun e w' => ∃ V1 c1 V2 c2, e = .returned (netV V1 c1 cells free V2 c2 (tidyW (allPs (pnL L) cells free) W)) ∧ NetFresh w w' V1 c1 cells V2 c2 (tidyW (allPs (pnL L) cells free) W) := by
  subst hn
  have hbA : Below w.heap.size w ((w.alloc (.cells #[.slice VA cells.length ca, .int .i64 (free : Int), .slice VB W.length cb] 26)).alloc (.cells #[.slice none 0 0, .int .i64 0, .slice none 0 0] 26)) := by (repeat (first | exact Below.refl _ _ | (with_reducible refine Below.drew ?_) | (with_reducible refine Below.alloc ?_ (by (try simp); (try omega)) _) | (with_reducible refine Below.setCell ?_ (by (try simp); (try omega)) _) | (with_reducible refine Below.trans ?_ (Below.mono (by assumption) (by (try simp); (try omega))))))
  have HTd : Hid (refW (allPs (pnL L) cells free) (lkK (pnL L) cells free W W.length) (lkK (pnL L) cells free W W.length).length = tidyW (allPs (pnL L) cells free) W) := by show _ = _; rw [lkK_len]; exact refW_tidy hok.out
  have HRg := Lib.hid (lkK_rng hok.out)
  have HKl := Lib.hid (lkK_len (pnL L) cells free W W.length)
  have HKa : Hid ((lkK (pnL L) cells free W W.length).length = (allPs (pnL L) cells free).length) := by show _ = _; rw [lkK_len, allPs_len]
  go_enter Try.func70, Try.ntmps70
  go_wp2_with fail
  refine absW (fun X => Below w.heap.size w X ∧ w.heap.size + 1 < X.heap.size ∧ (X.cell? ⟨w.heap.size, 0, none⟩ = some (.slice VA cells.length ca) ∧ X.cell? ⟨w.heap.size, 1, none⟩ = some (.int .i64 (free : Int)) ∧ X.cell? ⟨w.heap.size, 2, none⟩ = some (.slice VB W.length cb)) ∧ X.heap[w.heap.size + 1]? = some (.cells #[.slice none 0 0, .int .i64 0, .slice none 0 0] 26 (0, 0)))
    ⟨hbA, by simp, ⟨by go_simp, by go_simp, by go_simp⟩, by have := heap_alloc_new (w.alloc (.cells #[.slice VA cells.length ca, .int .i64 (free : Int), .slice VB W.length cb] 26)) (.cells #[.slice none 0 0, .int .i64 0, .slice none 0 0] 26); simpa using this⟩ ?_
  rintro X ⟨hb1, hz1, S1, hr1⟩
  have HB1 := Lib.hid hb1
  have HR1 := Lib.hid hr1
  clear hb1 hr1 hbA
  go_region_held3 (fun X => X.cell? ⟨w.heap.size, 0, none⟩ = some (.slice VA cells.length ca) ∧ X.cell? ⟨w.heap.size, 1, none⟩ = some (.int .i64 (free : Int)) ∧ X.cell? ⟨w.heap.size, 2, none⟩ = some (.slice VB W.length cb))
    (first | exact keep3s S3 (by omega) | exact S3 | exact S2 | exact S1)
    (first
      | (go_at_call 76; refine (rlinks A _ cap L VA VB ca cb cells free W _ rfl (Lib.hid (HL.out.below HB1.out.drew)) hs (Lib.hid (HC.out.below HB1.out.drew)) (Lib.hid (HW.out.below HB1.out.drew)) hc hf hw hok).mono ?_; rintro e w2 ⟨VL, cl, rfl, hfl⟩
         have S2 := keep3 hfl.2.2 (by show w.heap.size < X.heap.size; omega) S1
         have HB2 : Hid (Below X.heap.size X w2) := ((Below.refl _ X).drew).trans hfl.2.2
         have HB2w : Hid (Below w.heap.size w w2) := HB1.out.trans (HB2.out.mono HB1.out.size)
         have HV2 : Hid (IntsRd w2 VL (lkK (pnL L) cells free W W.length)) := Row.ints (cap := cl) (by rw [HKl.out]; exact hfl.1)
         clear hfl)
      | (go_at_call 77; refine (rnet A _ cap L VA ca _ cells free VL cl _ (lkK (pnL L) cells free W W.length) _ rfl rfl HKl.out.symm (Lib.hid (HL.out.below HB2w.out)) hs (Lib.hid (HC.out.below HB2w.out)) HV2 hc hf HKa HRg).mono ?_; rintro e w3 ⟨V1, c1, V2, c2, rfl, hnf⟩
         have hb3 := hnf.1.2.2
         have S3 := keep3 hb3 (by have := HB2.out.size; omega) S2
         have HNF := Lib.hid hnf
         have hr3 : w3.heap[w.heap.size + 1]? = some (.cells #[.slice none 0 0, .int .i64 0, .slice none 0 0] 26 (0, 0)) := (hb3.block _ (by have := HB2.out.size; omega)).trans ((HB2.out.block _ hz1).trans HR1.out)
         have t0 : w3.cell? ⟨w.heap.size + 1, 0, none⟩ = some (.slice none 0 0) := by simp [World.cell?, hr3]
         have t1 : w3.cell? ⟨w.heap.size + 1, 1, none⟩ = some (.int .i64 0) := by simp [World.cell?, hr3]
         have t2 : w3.cell? ⟨w.heap.size + 1, 2, none⟩ = some (.slice none 0 0) := by simp [World.cell?, hr3]
         have u0 : w3.frozen? ⟨w.heap.size + 1, 0, none⟩ = false := by simp [World.frozen?, hr3]
         have u1 : w3.frozen? ⟨w.heap.size + 1, 1, none⟩ = false := by simp [World.frozen?, hr3]
         have u2 : w3.frozen? ⟨w.heap.size + 1, 2, none⟩ = false := by simp [World.frozen?, hr3]
         clear hnf hb3 hr3))
  go_wp2
  exact bodyPost_ret (v := netV V1 c1 cells free V2 c2 (refW (allPs (pnL L) cells free) (lkK (pnL L) cells free W W.length) (lkK (pnL L) cells free W W.length).length)) (by simp only [results, Try.results70]; go_simp) rfl ⟨V1, c1, V2, c2, by rw [HTd.out], by rw [← HTd.out]; exact HNF.out.set3 (b := w.heap.size + 1) HB2w.out (by omega) (by have := HB2.out.size; omega) _ _ _⟩

set_option maxHeartbeats 400000 in
theorem there_is (VF VC : Option Addr) (nf nc cf cc : Nat) (cs fs : List Int) (c s : Int) (w : World) (hnf : nf = fs.length) (hnc : nc = cs.length)
    (HF : Hid (IntsRd w VF fs)) (HC : Hid (IntsRd w VC cs)) (hl1 : fs.length ≤ 100000) (hl2 : cs.length ≤ 100000) (h : (c < 0 ∧ 0 ≤ s ∧ s < fs.length) ∨ (0 ≤ c ∧ c < cs.length)) :
    Calls Try.prog 69 #[.agg #[.int .i64 c, .int .i64 s], .slice VC nc cc, .slice VF nf cf] w fun e w' => e = .returned (encPt (toPt cs fs (c, s))) ∧ Below w.heap.size w w' := by
  subst hnf hnc
  rcases h with ⟨h1, h2, h3⟩ | ⟨h1, h2⟩
  · obtain ⟨k, rfl⟩ := Int.eq_ofNat_of_zero_le h2
    have hk : k < fs.length := by omega
    obtain ⟨b, off, rfl, hb, e0⟩ := HF.out k hk
    have HT : Hid (toPt cs fs (c, (k : Int)) = (-1, fs.getD k 0)) := by show _ = _; unfold toPt; rw [if_pos h1]; rfl
    generalize fs.getD k 0 = x at e0 HT
    go_enter Try.func69, Try.ntmps69
    go_wp2
    exact bodyPost_ret (v := encPt (-1, x)) (by unfold encPt; simp only [results, Try.results69]; go_simp) rfl ⟨by rw [HT.out], by (repeat (first | exact Below.refl _ _ | (with_reducible refine Below.drew ?_) | (with_reducible refine Below.alloc ?_ (by (try simp); (try omega)) _) | (with_reducible refine Below.setCell ?_ (by (try simp); (try omega)) _) | (with_reducible refine Below.trans ?_ (Below.mono (by assumption) (by (try simp); (try omega))))))⟩
  · obtain ⟨k, rfl⟩ := Int.eq_ofNat_of_zero_le h1
    have hk : k < cs.length := by omega
    obtain ⟨b, off, rfl, hb, e0⟩ := HC.out k hk
    have HT : Hid (toPt cs fs ((k : Int), s) = (cs.getD k 0, s)) := by show _ = _; unfold toPt; rw [if_neg (by show ¬ (k : Int) < 0; omega)]; rfl
    generalize cs.getD k 0 = x at e0 HT
    go_enter Try.func69, Try.ntmps69
    go_wp2_with fail
    (refine region_tail 8 (by kernel_rfl) (by kernel_rfl) ?_; simp only [List.take_succ_cons, List.take_zero, List.drop_succ_cons, List.drop_zero]; repeat still_step; try refine wpStill_nil ?_)
    go_wp2
    exact bodyPost_ret (v := encPt (x, s)) (by unfold encPt; simp only [results, Try.results69]; go_simp) rfl ⟨by rw [HT.out], by (repeat (first | exact Below.refl _ _ | (with_reducible refine Below.drew ?_) | (with_reducible refine Below.alloc ?_ (by (try simp); (try omega)) _) | (with_reducible refine Below.setCell ?_ (by (try simp); (try omega)) _) | (with_reducible refine Below.trans ?_ (Below.mono (by assumption) (by (try simp); (try omega))))))⟩
end Go.Proofs.Ytcebejcdfdahjaa
