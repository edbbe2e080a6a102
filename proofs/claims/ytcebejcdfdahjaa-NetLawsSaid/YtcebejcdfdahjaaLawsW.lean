/-
  The statement NetLaws: its walk.
-/
import Derived.Test.YtcebejcdfdahjaaLawsB
import Derived.Test.YtcebejcdfdahjaaLawsC
import Derived.Test.YtcebejcdfdahjaaLawsF
import Derived.Test.YtcebejcdfdahjaaLawsH
import Derived.Test.YtcebejcdfdahjaaLawsI
import Derived.Test.YtcebejcdfdahjaaNetLines
import Derived.Test.YtcebejcdfdahjaaNetEnds
import Derived.Test.YtcebejcdfdahjaaNetPorts
/-
  The statement NetLaws: there and back; the plain lines.
-/
namespace Go.Proofs.Ytcebejcdfdahjaa
open Go.RowKit
attribute [local go_sem] cell_set
set_option maxRecDepth 100000
set_option linter.unusedVariables false

section
variable (Q : Exit → Act → World → Prop) (v0 : Value) (b : Nat) (VA VB VX VY V1 V2 V3 V4 W1 W2 : Option Addr) (nc ca nw cb nx cx ny cy n1 c1 n2 c2 b7 n3 c3 n4 c4 b16 B d1 d2 n7 n8 : Nat) (fr F F3 F7 : Int) (P : Option Addr → Nat → Option Addr → Nat → World → Prop)
set_option maxHeartbeats 4000000 in
theorem nl_30 (v4 : Value) (a : Act) (X : World) (ht7 : NBx X b7 V1 n1 c1 F V2 n2 c2) (ht16 : NBx X b16 V3 n3 c3 F3 V4 n4 c4)
    (hB0 : X.cell? ⟨B, 0, none⟩ = some (.slice W1 nx d1)) (hB1 : X.cell? ⟨B, 1, none⟩ = some (.slice W2 ny d2))
    (HM : Hid (∀ Z, Below X.heap.size X Z → Calls Try.prog 13 #[v0, .agg #[.slice V3 n3 c3, .int .i64 F3, .slice V4 n4 c4], .slice W1 nx d1, .slice W2 ny d2] Z fun e w' => ∃ V5 c5 V6 c6, e = .returned (.tuple #[.agg #[.slice V5 n1 c5, .int .i64 F, .slice V6 n2 c6], .int .i64 0]) ∧ (∀ Z', Below w'.heap.size w' Z' → P V5 c5 V6 c6 Z') ∧ Below Z.heap.size Z w'))
    (HEq : Hid (∀ V5 c5 V6 c6 Z, Below X.heap.size X Z → P V5 c5 V6 c6 Z → Calls Try.prog 19 #[.agg #[.slice V5 n1 c5, .int .i64 F, .slice V6 n2 c6], .agg #[.slice V1 n1 c1, .int .i64 F, .slice V2 n2 c2]] Z fun e w' => e = .returned (.bool true) ∧ Below Z.heap.size Z w'))
    (hgo : Hid (∀ a' X', FrN 286 [] [(0, v0), (4, v4), (7, .pointer (some ⟨b7, 0, none⟩))] a' → Below X.heap.size X X' → Q .normal a' X'))
    (ha : FrN 286 [] [(0, v0), (4, v4), (7, .pointer (some ⟨b7, 0, none⟩)), (16, .pointer (some ⟨b16, 0, none⟩)), (17, .pointer (some ⟨B, 0, none⟩))] a) : (nlT 30).wp Try.prog Q a X := by
  obtain ⟨U, rfl, e0, e4, e7, e16, e17, -⟩ := ha.open286
  have HT := Lib.hid ht7
  obtain ⟨m0, m1, m2, mlt⟩ := ht16
  have HX0 := Lib.hid (Below.refl X.heap.size X)
  unfold FrNL
  simp only [e0, e4, e7, e16, e17]
  clear e0 e4 e7 e16 e17 ha ht7
  show (Code.seq _ _).wp _ _ _ _
  go_wp2_with fail
  refine (HM.out _ HX0.out).mono ?_
  rintro e w1 ⟨V5, k5, V6, k6, rfl, hp, hb1⟩
  have HB1 := Lib.hid hb1
  have HP := Lib.hid hp
  clear hb1 hp m0 m1 m2 mlt hB0 hB1
  go_upto_region 31 with fail
  refine absW (fun X' => Below X.heap.size X X' ∧ (∀ Z, Below X'.heap.size X' Z → P V5 k5 V6 k6 Z) ∧ NBx X' w1.heap.size V5 n1 k5 F V6 n2 k6 ∧ NBx X' b7 V1 n1 c1 F V2 n2 c2) ⟨HB1.out.alloc HB1.out.size _, fun Z hZ => HP.out Z (((Below.refl _ _).alloc (Nat.le_refl _) _).trans (hZ.mono (by simp))), ⟨by go_simp, by go_simp, by go_simp, by simp⟩, HT.out.below (HB1.out.alloc HB1.out.size _)⟩ ?_
  rintro X2 ⟨hb2, hp2, h9, h7⟩
  have HP2 := Lib.hid hp2
  have HB2 := Lib.hid hb2
  generalize w1.heap.size = b20 at h9 ⊢
  obtain ⟨m0, m1, m2, mlt2⟩ := h7
  obtain ⟨k0, k1, k2, klt2⟩ := h9
  clear hb2 hp2
  go_wp2_with fail
  refine (HEq.out V5 k5 V6 k6 _ HB2.out (HP2.out _ (Below.refl _ _))).mono ?_
  rintro e w4 ⟨rfl, hb5⟩
  have HB7 := Lib.hid (HB2.out.trans (hb5.mono HB2.out.size))
  clear hb5 m0 m1 m2 k0 k1 k2
  simp only []
  go_at_K
  repeat (first
    | exact hgo.out _ _ ⟨rfl, rfl, rfl, rfl, rfl, trivial⟩ HB7.out
    | go_values | go_skip | go_guarded | go_step | go_upon | go_back)
set_option maxHeartbeats 4000000 in
theorem nl_33 (v7 : Value) (a : Act) (X : World) (htb : LB X b VA nc ca fr VB nw cb VX nx cx VY ny cy)
    (HW : Hid (fr ≤ 32 → ∀ Z, Below X.heap.size X Z → Calls Try.prog 58 #[.int .i64 fr] Z fun e w' => ∃ V5 c5 V6 c6, e = .returned (.agg #[.slice V5 n7 c5, .int .i64 F7, .slice V6 n8 c6]) ∧ (∀ Z', Below w'.heap.size w' Z' → P V5 c5 V6 c6 Z') ∧ Below Z.heap.size Z w'))
    (hret : Hid (∀ a' X', FrN 286 [] [(6, .bool true)] a' → Below X.heap.size X X' → Q .ret a' X'))
    (hnext : Hid (fr ≤ 32 → ∀ a' X' V5 c5 V6 c6 b22, FrN 286 [] [(0, v0), (4, .pointer (some ⟨b, 0, none⟩)), (7, v7), (22, .pointer (some ⟨b22, 0, none⟩))] a' → Below X.heap.size X X' → NBx X' b22 V5 n7 c5 F7 V6 n8 c6 → (∀ Z', Below X'.heap.size X' Z' → P V5 c5 V6 c6 Z') → (nlT 36).wp Try.prog Q a' X'))
    (ha : FrN 286 [] [(0, v0), (4, .pointer (some ⟨b, 0, none⟩)), (7, v7)] a) : (nlT 33).wp Try.prog Q a X := by
  obtain ⟨U, rfl, e0, e4, e7, -⟩ := ha.open286
  obtain ⟨c0, c1, c2, d0, d1, clt⟩ := htb
  have HX0 := Lib.hid (Below.refl X.heap.size X)
  have clt0 : b < X.heap.size := by omega
  unfold FrNL
  simp only [e0, e4, e7]
  clear e0 e4 e7 ha
  show (Code.seq _ _).wp _ _ _ _
  by_cases h32 : fr ≤ 32
  · have g1 : ¬ (32 < fr) := by omega
    have HWW := Lib.hid (HW.out h32)
    have HN := Lib.hid (hnext.out h32)
    go_wp2_with fail
    refine (HWW.out _ HX0.out).mono ?_
    rintro e w1 ⟨V5, k5, V6, k6, rfl, hp, hb1⟩
    have HB1 := Lib.hid hb1
    have HP := Lib.hid hp
    clear hb1 hp c0 c1 c2 d0 d1
    simp only []
    go_at_K
    repeat (first
      | exact HN.out _ _ V5 k5 V6 k6 _ ⟨rfl, rfl, rfl, rfl, rfl, rfl, trivial⟩ (HB1.out.alloc HB1.out.size _) ⟨by go_simp, by go_simp, by go_simp, by simp⟩ (fun Z' hZ => HP.out Z' (((Below.refl _ _).alloc (Nat.le_refl _) _).trans (hZ.mono (by simp))))
      | go_values | go_skip | go_guarded | go_step | go_upon | go_back)
  · have g1 : 32 < fr := by omega
    go_wp2_with (go_at_call 12; refine (works03 _).mono ?_; rintro e w9 ⟨rfl, hb9⟩
                 have HB9 := Lib.hid hb9
                 clear hb9)
    exact hret.out _ _ ⟨rfl, rfl, rfl, trivial⟩ HB9.out
end
end Go.Proofs.Ytcebejcdfdahjaa
/-
  The statement NetLaws: renumbered.
-/
namespace Go.Proofs.Ytcebejcdfdahjaa
open Go.RowKit
attribute [local go_sem] cell_set
set_option maxRecDepth 100000
set_option linter.unusedVariables false

section
variable (Q : Exit → Act → World → Prop) (v0 : Value) (b : Nat) (VA VB VX VY V1 V2 : Option Addr) (nc ca nw cb nx cx ny cy n1 c1 n2 c2 b7 n3 n4 : Nat) (fr F F3 E : Int) (P : Option Addr → Nat → Option Addr → Nat → World → Prop)
set_option maxHeartbeats 4000000 in
theorem nl_17 (a : Act) (X : World) (htb : LB X b VA nc ca fr VB nw cb VX nx cx VY ny cy) (ht7 : NBx X b7 V1 n1 c1 F V2 n2 c2)
    (HM : Hid (∀ Z, Below X.heap.size X Z → Calls Try.prog 13 #[v0, .agg #[.slice V1 n1 c1, .int .i64 F, .slice V2 n2 c2], .slice VX nx cx, .slice VY ny cy] Z fun e w' => ∃ V3 c3 V4 c4, e = .returned (.tuple #[.agg #[.slice V3 n3 c3, .int .i64 F3, .slice V4 n4 c4], .int .i64 E]) ∧ (∀ Z', Below w'.heap.size w' Z' → P V3 c3 V4 c4 Z') ∧ Below Z.heap.size Z w'))
    (hbr : Hid (E = 0 → ∀ a' X' V3 c3 V4 c4 b16, FrN 286 [] [(0, v0), (4, .pointer (some ⟨b, 0, none⟩)), (5, .pointer (some ⟨b + 1, 0, none⟩)), (7, .pointer (some ⟨b7, 0, none⟩)), (16, .pointer (some ⟨b16, 0, none⟩))] a' → Below X.heap.size X X' → NBx X' b16 V3 n3 c3 F3 V4 n4 c4 → (∀ Z', Below X'.heap.size X' Z' → P V3 c3 V4 c4 Z') → ∀ Q' : Exit → Act → World → Prop, (∀ a'' X'', FrN 286 [] [(0, v0), (4, .pointer (some ⟨b, 0, none⟩)), (7, .pointer (some ⟨b7, 0, none⟩))] a'' → Below X.heap.size X X'' → Q' .normal a'' X'') → (nlT 19).wp Try.prog Q' a' X'))
    (hnext : Hid (∀ a' X', FrN 286 [] [(0, v0), (4, .pointer (some ⟨b, 0, none⟩)), (7, .pointer (some ⟨b7, 0, none⟩))] a' → Below X.heap.size X X' → (nlT 33).wp Try.prog Q a' X'))
    (ha : FrN 286 [] [(0, v0), (4, .pointer (some ⟨b, 0, none⟩)), (5, .pointer (some ⟨b + 1, 0, none⟩)), (7, .pointer (some ⟨b7, 0, none⟩))] a) : (nlT 17).wp Try.prog Q a X := by
  obtain ⟨U, rfl, e0, e4, e5, e7, -⟩ := ha.open286
  obtain ⟨c0, c1, c2, d0, d1, clt⟩ := htb
  obtain ⟨m0, m1, m2, mlt⟩ := ht7
  have HX0 := Lib.hid (Below.refl X.heap.size X)
  unfold FrNL
  simp only [e0, e4, e5, e7]
  clear e0 e4 e5 e7 ha
  show (Code.seq _ _).wp _ _ _ _
  go_wp2_with fail
  refine (HM.out _ HX0.out).mono ?_
  rintro e w1 ⟨V3, k3, V4, k4, rfl, hp, hb1⟩
  have HB1 := Lib.hid hb1
  have HP := Lib.hid hp
  clear hb1 hp c0 c1 c2 d0 d1 m0 m1 m2
  by_cases hE : E = 0
  · subst hE
    have HN := Lib.hid (hbr.out rfl)
    simp only []
    go_at_K
    repeat (first
      | refine HN.out _ _ V3 k3 V4 k4 _ ⟨rfl, rfl, rfl, rfl, rfl, rfl, rfl, trivial⟩ (HB1.out.alloc HB1.out.size _) ⟨by go_simp, by go_simp, by go_simp, by simp⟩ (fun Z' hZ => HP.out Z' (((Below.refl _ _).alloc (Nat.le_refl _) _).trans (hZ.mono (by simp)))) _ (fun a2 X2 hf2 hb2 => ?_)
      | exact hnext.out _ _ hf2 hb2
      | go_values | go_skip | go_guarded | go_step | go_upon | go_back)
  · have g1 : (E == 0) = false := by rw [beq_eq_false_iff_ne]; exact hE
    simp only []
    go_at_K
    repeat (first
      | exact hnext.out _ _ ⟨rfl, rfl, rfl, rfl, rfl, trivial⟩ (HB1.out.alloc HB1.out.size _)
      | go_values | go_skip | go_guarded | go_step | go_upon | go_back)
end
end Go.Proofs.Ytcebejcdfdahjaa
namespace Go.Proofs.Ytcebejcdfdahjaa
open Go.RowKit
set_option maxRecDepth 100000
set_option linter.unusedVariables false

section
variable {L : List (ByteArray × Int)} {cells : List Int} {f : Nat} {W : List (Pt × Pt)} {xs ys : List Int}
theorem chkN_len (hk : chkN L cells (f : Int) W = 0) : W.length ≤ 20000 ∧ cells.length ≤ 4096 ∧ f ≤ 64 ∧ (allPs (pnL L) cells f).length ≤ 40000 ∧ 2 * W.length = (allPs (pnL L) cells f).length ∧ SigOk L := by
  obtain ⟨hz, h1, h2, h3, h4, h5⟩ := netChk_ok hk
  have h5' : NetOk (pnL L) cells f W := h5
  have hs := chk_sig hz
  have h6 := firstN_le (pnL_le hs) cells f cells.length
  have h7 := h5'.twice
  have h8 := allPs_len (pnL L) cells f
  exact ⟨by omega, h1, by omega, by omega, h7, hs⟩
theorem home_all {T : List (Pt × Pt)} (hT : tidyW (allPs (pnL L) cells f) W = T) (hk : chkN L cells (f : Int) W = 0) (hE : mvE L cells (f : Int) T xs ys = 0) :
    eachN xs cells.length ∧ eachN ys f ∧ (mvC L cells (f : Int) T xs ys).length = cells.length ∧ mvF L cells (f : Int) T xs ys = (f : Int) ∧ (mvW L cells (f : Int) T xs ys).length ≤ 20000 ∧
    mvE L (mvC L cells (f : Int) T xs ys) (mvF L cells (f : Int) T xs ys) (mvW L cells (f : Int) T xs ys) (bkN xs cells.length) (bkN ys f) = 0 ∧
    mvC L (mvC L cells (f : Int) T xs ys) (mvF L cells (f : Int) T xs ys) (mvW L cells (f : Int) T xs ys) (bkN xs cells.length) (bkN ys f) = cells ∧
    mvF L (mvC L cells (f : Int) T xs ys) (mvF L cells (f : Int) T xs ys) (mvW L cells (f : Int) T xs ys) (bkN xs cells.length) (bkN ys f) = (f : Int) ∧
    mvW L (mvC L cells (f : Int) T xs ys) (mvF L cells (f : Int) T xs ys) (mvW L cells (f : Int) T xs ys) (bkN xs cells.length) (bkN ys f) = T := by
  subst hT
  obtain ⟨hx, hy⟩ := mv_each hE
  have hkT : chkN L cells (f : Int) (tidyW (allPs (pnL L) cells f) W) = 0 := chkN_tidy hk
  obtain ⟨_, e1, e2, e3⟩ := mv_is hkT hx hy
  have hm := moved_chk hkT hx hy
  have hh := home_is hk hx hy
  rw [e1, e2, e3]
  refine ⟨hx, hy, outK_len _ _ _, rfl, (chkN_len hm).1, hh⟩
end
set_option maxHeartbeats 4000000 in
theorem laws_walk (A : Option Addr) (n cap : Nat) (L : List (ByteArray × Int)) (VA VB : Option Addr) (ca cb : Nat) (cells : List Int) (fr : Int) (W : List (Pt × Pt)) (VX : Option Addr) (nx cx : Nat) (xs : List Int) (VY : Option Addr) (ny cy : Nat) (ys : List Int) (w : World)
    (hn : n = L.length) (hcap : L.length ≤ cap) (HL : Hid (AgRd w A L)) (hl : L.length ≤ maxLen) (HC : Hid (IntsRd w VA cells)) (HW : Hid (WrRd w VB W)) (hc : cells.length ≤ maxLen) (hw : W.length ≤ maxLen) (hnc : nx = xs.length) (hnf : ny = ys.length)
    (HXs : Hid (IntsRd w VX xs)) (HYs : Hid (IntsRd w VY ys)) (hcs : xs.length ≤ maxLen) (hfs : ys.length ≤ maxLen) :
    Calls Try.prog 10 #[.slice A n cap, netV VA ca cells fr VB cb W, .agg #[.slice VX nx cx, .slice VY ny cy]] w fun e w' => e = .returned (.bool true) ∧ Below w.heap.size w w' := by
  subst hn
  obtain ⟨k, hk⟩ : ∃ k, chkN L cells fr W = k := ⟨_, rfl⟩
  go_enter Try.func10, Try.ntmps10
  refine (show ∀ a, FrN 286 [] [(0, .slice A L.length cap), (1, netV VA ca cells fr VB cb W), (2, .agg #[.slice VX nx cx, .slice VY ny cy])] a → (nlT 0).wp Try.prog _ a w from ?_) _ ⟨rfl, rfl, rfl, rfl, rfl, trivial⟩
  intro a ha
  have hret0 : ∀ a' X, FrN 286 [] [(6, .bool true)] a' → Below w.heap.size w X → bodyPost Try.prog Try.f10 (fun e w' => e = Ending.returned (Value.bool true) ∧ Below w.heap.size w w') .ret a' X := fun a' X hf hb => by
    obtain ⟨hsz, hdf, s4, _⟩ := hf
    refine bodyPost_ret (results_tmp rfl _ _ _) hdf ⟨?_, hb⟩
    rw [Array.getD_eq_getD_getElem?, s4]; rfl
  refine nl_0 _ A L.length cap L VA VB VX VY ca cb nx cx ny cy cells fr W w a rfl HL hl hc hw (Lib.hid hret0) (Lib.hid fun hL hc2 hw2 hnx hny a3 X3 hf3 hb3 ht3 => ?_) ha
  by_cases h0 : k ≠ 0
  · refine nl_3 (n1 := 0) (F := 0) (n2 := 0) (E := k) (P := fun _ _ _ _ _ => True) (htb := ht3) (HT := Lib.hid ?_) (hret := Lib.hid fun a' X' hf hb => hret0 a' X' hf (hb3.trans (hb.mono hb3.size))) (hnext := Lib.hid fun h => absurd h h0) (ha := hf3)
    intro Z hZ
    have hz := hb3.trans (hZ.mono hb3.size)
    refine (net_tidy_bad A _ cap L VA VB ca cb cells fr W Z rfl hcap (Lib.hid (HL.out.below hz)) hl (Lib.hid (HC.out.below hz)) (Lib.hid (HW.out.below hz)) (by omega) (by omega) (fun h => h0 (hk.symm.trans h))).mono ?_
    rintro e w' ⟨rfl, hb⟩
    rw [show (netChk (pnL L) L.length (chk L) cells fr W).1 = k from hk]
    exact ⟨none, 0, none, 0, rfl, fun _ _ => trivial, hb⟩
  replace h0 : k = 0 := Decidable.of_not_not h0
  subst h0
  obtain ⟨f, rfl⟩ := Int.eq_ofNat_of_zero_le (netChk_ok hk).2.2.1
  obtain ⟨hwl, hc4, hf64, hall, h2w, hs⟩ := chkN_len hk
  have hok : NetOk (pnL L) cells f W := chkN_ok hk
  have hkT0 : chkN L cells (f : Int) (tidyW (allPs (pnL L) cells f) W) = 0 := chkN_tidy hk
  have hTT0 := hok.tidy_tidy
  have hb10 : ∀ i, i < (tidyW (allPs (pnL L) cells f) W).length → bef ((tidyW (allPs (pnL L) cells f) W).getD i default).1 ((tidyW (allPs (pnL L) cells f) W).getD i default).2 = true := fun i hi => tidy_bef hi
  have hb20 : ∀ i, i + 1 < (tidyW (allPs (pnL L) cells f) W).length → bef ((tidyW (allPs (pnL L) cells f) W).getD i default).1 ((tidyW (allPs (pnL L) cells f) W).getD (i + 1) default).1 = true := fun i hi => tidy_step hi
  obtain ⟨T, hT⟩ : ∃ T, tidyW (allPs (pnL L) cells f) W = T := ⟨_, rfl⟩
  rw [hT] at hkT0 hTT0 hb10 hb20
  obtain ⟨htl, _, _, _, h2t, _⟩ := chkN_len hkT0
  have hokT : NetOk (pnL L) cells f T := chkN_ok hkT0
  have hnyf : ny = f := by omega
  refine nl_3 (n1 := cells.length) (F := (f : Int)) (n2 := T.length) (E := 0) (P := fun V1 c1 V2 c2 Z => IntsRd Z V1 cells ∧ WrRd Z V2 T) (htb := ht3) (HT := Lib.hid ?_) (hret := Lib.hid fun a' X' hf hb => hret0 a' X' hf (hb3.trans (hb.mono hb3.size))) (hnext := Lib.hid fun _ a6 X6 V1 c1 V2 c2 b7 hf6 hb6 h76 hp6 => ?_) (ha := hf3)
  · intro Z hZ
    have hz := hb3.trans (hZ.mono hb3.size)
    refine (net_tidy_ok A _ cap L VA VB ca cb cells (f : Int) W Z rfl hcap (Lib.hid (HL.out.below hz)) hl (Lib.hid (HC.out.below hz)) (Lib.hid (HW.out.below hz)) (by omega) (by omega) hk).mono ?_
    rintro e w' ⟨V1, c1, V2, c2, rfl, hnf⟩
    rw [show tidyW (allPs (pnL L) cells (f : Int).toNat) W = T from hT] at hnf ⊢
    exact ⟨V1, c1, V2, c2, rfl, fun Z' hZ' => ⟨hnf.1.1.ints.below hZ', hnf.2.1.wires.below hZ'⟩, hnf.1.2.2⟩
  have hw6 := hb3.trans (hb6.mono hb3.size)
  have ht6 := ht3.below hb6
  refine nl_6 (m := (allPs (pnL L) cells f).length) (P3 := fun V3 c3 V4 c4 Z => IntsRd Z V3 cells ∧ WrRd Z V4 T) (htb := h76) (hm := by omega) (hm2 := by omega) (HT := Lib.hid ?_) (HPo := Lib.hid ?_) (HEn := Lib.hid ?_) (HEq := Lib.hid ?_) (hnext := Lib.hid fun a11 X11 hf11 hb11 => ?_) (ha := hf6)
  · intro Z hZ
    have hz := hw6.trans (hZ.mono hw6.size)
    refine (net_tidy_ok A _ cap L V1 V2 c1 c2 cells (f : Int) T Z rfl hcap (Lib.hid (HL.out.below hz)) hl (Lib.hid (hp6 Z hZ).1) (Lib.hid (hp6 Z hZ).2) (by omega) (by omega) hkT0).mono ?_
    rintro e w' ⟨V3, c3, V4, c4, rfl, hnf⟩
    rw [show tidyW (allPs (pnL L) cells (f : Int).toNat) T = T from hTT0] at hnf ⊢
    exact ⟨V3, c3, V4, c4, rfl, fun Z' hZ' => ⟨hnf.1.1.ints.below hZ', hnf.2.1.wires.below hZ'⟩, hnf.1.2.2⟩
  · intro Z hZ
    have hz := hw6.trans (hZ.mono hw6.size)
    refine (ports_ok A _ cap L V1 V2 c1 c2 cells T Z f rfl hcap (Lib.hid (HL.out.below hz)) hl (Lib.hid (hp6 Z hZ).1) (Lib.hid (hp6 Z hZ).2) (by omega) (by omega) hkT0).mono ?_
    rintro e w' ⟨V, c, rfl, hfr⟩
    exact ⟨V, c, rfl, hfr.2.2⟩
  · intro Z hZ
    have hz := hw6.trans (hZ.mono hw6.size)
    refine (ends_ok A _ cap L V1 V2 c1 c2 cells T Z f rfl hcap (Lib.hid (HL.out.below hz)) hl (Lib.hid (hp6 Z hZ).1) (Lib.hid (hp6 Z hZ).2) (by omega) (by omega) hkT0).mono ?_
    rintro e w' ⟨V, c, rfl, hfr⟩
    exact ⟨V, c, rfl, hfr.2.2⟩
  · intro V3 c3 V4 c4 Z hZ hp
    refine (eq_net V3 V4 V1 V2 c3 c4 c1 c2 cells cells (f : Int) (f : Int) T T Z (by omega) (by omega) (by omega) (by omega) (Lib.hid hp.1) (Lib.hid hp.2) (Lib.hid (hp6 Z hZ).1) (Lib.hid (hp6 Z hZ).2)).mono ?_
    rintro e w' ⟨rfl, hb⟩
    exact ⟨by simp, hb⟩
  have hw11 := hw6.trans (hb11.mono hw6.size)
  have hp11 := fun Z (hZ : Below X11.heap.size X11 Z) => hp6 Z (hb11.trans (hZ.mono hb11.size))
  refine nl_11 (T := T) (htb := h76.below hb11) (HW := Lib.hid (hp11 X11 (Below.refl _ _)).2) (hT := by omega) (hb1 := Lib.hid hb10) (hb2 := Lib.hid hb20) (hnext := Lib.hid fun a17 X17 hf17 hb17 => ?_) (ha := hf11)
  have hw17 := hw11.trans (hb17.mono hw11.size)
  have hp17 := fun Z (hZ : Below X17.heap.size X17 Z) => hp11 Z (hb17.trans (hZ.mono hb17.size))
  have ht17 := (ht6.below hb11).below hb17
  have h717 := (h76.below hb11).below hb17
  -- renumbered, and back
  refine nl_17 (n3 := (mvC L cells (f : Int) T xs ys).length) (F3 := mvF L cells (f : Int) T xs ys) (n4 := (mvW L cells (f : Int) T xs ys).length) (E := mvE L cells (f : Int) T xs ys) (P := fun V3 c3 V4 c4 Z => IntsRd Z V3 (mvC L cells (f : Int) T xs ys) ∧ WrRd Z V4 (mvW L cells (f : Int) T xs ys)) (htb := ht17) (ht7 := h717) (HM := Lib.hid ?_)
    (hbr := Lib.hid fun hE a19 X19 V3 c3 V4 c4 b16 hf19 hb19 h1619 hp19 Q' hgo => ?_) (hnext := Lib.hid fun a33 X33 hf33 hb33 => ?_) (ha := hf17)
  · intro Z hZ
    have hz := hw17.trans (hZ.mono hw17.size)
    refine (net_move_any A _ cap L V1 V2 c1 c2 cells (f : Int) T VX nx cx xs VY ny cy ys Z rfl hcap (HL.out.below hz) hl (hp17 Z hZ).1 (hp17 Z hZ).2 (by omega) (by omega) hnc hnf (HXs.out.below hz) (HYs.out.below hz) (by omega) (by omega)).mono ?_
    rintro e w' ⟨V3, c3, V4, c4, rfl, hr1, hr2, hb⟩
    exact ⟨V3, c3, V4, c4, rfl, fun Z' hZ' => ⟨hr1.ints.below hZ', hr2.wires.below hZ'⟩, hb⟩
  · obtain ⟨hx, hy, hCl, hFm, hWl, g1, g2, g3, g4⟩ := home_all hT hk hE
    obtain ⟨C, hC⟩ : ∃ C, mvC L cells (f : Int) T xs ys = C := ⟨_, rfl⟩
    obtain ⟨Fm, hF⟩ : ∃ F, mvF L cells (f : Int) T xs ys = F := ⟨_, rfl⟩
    obtain ⟨Wm, hWm⟩ : ∃ W, mvW L cells (f : Int) T xs ys = W := ⟨_, rfl⟩
    rw [hC, hF, hWm] at g1 g2 g3 g4
    rw [hC] at hCl h1619 hp19
    rw [hF] at hFm h1619
    rw [hWm] at hWl h1619 hp19
    clear hC hF hWm hE
    have hw19 := hw17.trans (hb19.mono hw17.size)
    refine nl_19 (htb := ht17.below hb19) (HE1 := Lib.hid ?_) (HE2 := Lib.hid ?_) (hnext := Lib.hid fun a21 X21 hf21 hb21 => ?_) (ha := hf19)
    · intro Z hZ
      have hz := hw19.trans (hZ.mono hw19.size)
      refine (reach VX nx cx xs cells.length Z hnc (by omega) (by omega) (Lib.hid (HXs.out.below hz))).mono ?_
      rintro e w' ⟨rfl, hb⟩
      exact ⟨by rw [decide_eq_true hx], hb⟩
    · intro Z hZ
      have hz := hw19.trans (hZ.mono hw19.size)
      refine (reach VY ny cy ys f Z hnf (by omega) (by omega) (Lib.hid (HYs.out.below hz))).mono ?_
      rintro e w' ⟨rfl, hb⟩
      exact ⟨by rw [decide_eq_true hy], hb⟩
    have hw21 := hw19.trans (hb21.mono hw19.size)
    have ht21 := (ht17.below hb19).below hb21
    refine nl_21 (htb := ht21) (hnx := by omega) (hny := by omega) (hnext := Lib.hid fun a22 X22 x17 hf22 hbk => ?_) (ha := hf21)
    obtain ⟨B, o1, o2, rfl, hBB, hO1, hO2, hgB, hg1, hg2, n1, n2, n3, hb22⟩ := hbk
    have hw22 := hw21.trans (hb22.mono hw21.size)
    have hz21 := hw21.size
    have hnx' : nx = cells.length := hnx
    subst hnyf
    subst hnx'
    have hR1 : Row X22 3 1 (.slice (some ⟨o1, 0, none⟩) cells.length cells.length) cells.length (ivals (outK (idsN cells.length) xs 0)) := by
      rw [outK, idsN_len, ivals_replicate]
      exact ⟨by simp, .inr ⟨o1, cells.length, _, rfl, hO1, Nat.le_refl _, by unfold maxLen; omega, by simp [size_madeCells], by rw [toList_madeCells_one]; simp⟩⟩
    have hR2 : Row X22 3 1 (.slice (some ⟨o2, 0, none⟩) ny ny) ny (ivals (outK (idsN ny) ys 0)) := by
      rw [outK, idsN_len, ivals_replicate]
      exact ⟨by simp, .inr ⟨o2, ny, _, rfl, hO2, Nat.le_refl _, by unfold maxLen; omega, by simp [size_madeCells], by rw [toList_madeCells_one]; simp⟩⟩
    have ht22 := ht21.below hb22
    refine nl_22 (xs := xs) (w := X21) (B := B) (o1 := o1) (o2 := o2) (hbX := hb22) (htb := ht21) (HX := Lib.hid (HXs.out.below hw21)) (he := Lib.hid hx) (hn := by omega) (hbB := hgB) (hbo := hg1) (hbn := n1) (hB := hBB) (hR := hR1) (hnext := Lib.hid fun a26 X26 hf26 hr26 hk26 => ?_) (ha := hf22)
    have hb26 : Below X21.heap.size X21 X26 := hb22.trans (hk26.below hb22.size (by simp; omega))
    have hBB26 := (hk26.block B (heap_lt hBB) (by simpa using n1)).trans hBB
    have hR26 := hR2.keep fun c hc => hk26.block c (hR2.lt c hc) (by simp [ownB] at hc; subst hc; simp; omega)
    refine nl_26 (ys := ys) (w := X21) (B := B) (o1 := o1) (o2 := o2) (hbX := hb26) (htb := ht21) (HX := Lib.hid (HYs.out.below hw21)) (he := Lib.hid hy) (hn := by omega) (hbB := hgB) (hbo := hg2) (hbn := n2) (hB := hBB26) (hR := hR26) (hnext := Lib.hid fun a30 X30 hf30 hr30 hk30 => ?_) (ha := hf26)
    have hb30 : Below X21.heap.size X21 X30 := hb26.trans (hk30.below hb26.size (by simp; omega))
    have hBB30 := (hk30.block B (heap_lt hBB26) (by simpa using n2)).trans hBB26
    have hr1 := hr26.keep fun c hc => hk30.block c (hr26.lt c hc) (by simp [ownB] at hc; subst hc; simp; omega)
    have hw30 := hw21.trans (hb30.mono hw21.size)
    have hb1930 := hb21.trans (hb30.mono hb21.size)
    have hb1730 := hb19.trans (hb1930.mono hb19.size)
    obtain ⟨q1, q2, q3, q4, q5, q6, q7, q8, _⟩ := hf30
    have hi1 : IntsRd X30 (some ⟨o1, 0, none⟩) (bkN xs cells.length) := Row.ints (cap := cells.length) (by rw [bkN_len]; exact hr1)
    have hi2 : IntsRd X30 (some ⟨o2, 0, none⟩) (bkN ys ny) := Row.ints (cap := ny) (by rw [bkN_len]; exact hr30)
    refine nl_30 (W1 := some ⟨o1, 0, none⟩) (W2 := some ⟨o2, 0, none⟩) (nx := cells.length) (ny := ny) (d1 := cells.length) (d2 := ny) (P := fun V5 c5 V6 c6 Z => IntsRd Z V5 cells ∧ WrRd Z V6 T) (n1 := cells.length) (F := (ny : Int)) (n2 := T.length) (ht7 := h717.below hb1730) (ht16 := h1619.below hb1930) (hB0 := by simp [World.cell?, hBB30]) (hB1 := by simp [World.cell?, hBB30]) (HM := Lib.hid ?_) (HEq := Lib.hid ?_)
      (hgo := Lib.hid fun a' X' hf hb => hgo a' X' ?_ (hb1730.trans (hb.mono hb1730.size))) (ha := ⟨q1, q2, q3, q4, q6, q7, q8, trivial⟩)
    · intro Z hZ
      have hz := hw30.trans (hZ.mono hw30.size)
      have hpz := hp19 Z (hb1930.trans (hZ.mono hb1930.size))
      refine (net_move_any A _ cap L V3 V4 c3 c4 C Fm Wm (some ⟨o1, 0, none⟩) cells.length cells.length (bkN xs cells.length) (some ⟨o2, 0, none⟩) ny ny (bkN ys ny) Z rfl hcap (HL.out.below hz) hl hpz.1 hpz.2 (by omega) (by omega) (bkN_len _ _).symm (bkN_len _ _).symm (hi1.below hZ) (hi2.below hZ) (by rw [bkN_len]; omega) (by rw [bkN_len]; omega)).mono ?_
      rintro e w' ⟨V5, c5, V6, c6, rfl, hr1, hr2, hb⟩
      rw [g2] at hr1
      rw [g4] at hr2
      rw [g1, g2, g3, g4]
      exact ⟨V5, c5, V6, c6, rfl, fun Z' hZ' => ⟨hr1.ints.below hZ', hr2.wires.below hZ'⟩, hb⟩
    · intro V5 c5 V6 c6 Z hZ hp
      have hp7 := hp17 Z (hb1730.trans (hZ.mono hb1730.size))
      refine (eq_net V5 V6 V1 V2 c5 c6 c1 c2 cells cells (ny : Int) (ny : Int) T T Z (by omega) (by omega) (by omega) (by omega) (Lib.hid hp.1) (Lib.hid hp.2) (Lib.hid hp7.1) (Lib.hid hp7.2)).mono ?_
      rintro e w' ⟨rfl, hb⟩
      exact ⟨by simp, hb⟩
    · exact hf
  -- the plain lines
  have hw33 := hw17.trans (hb33.mono hw17.size)
  have ht33 := ht17.below hb33
  have h733 := h717.below hb33
  have hp33 := fun Z (hZ : Below X33.heap.size X33 Z) => hp17 Z (hb33.trans (hZ.mono hb33.size))
  refine nl_33 (n7 := 0) (F7 := ((2 * f : Nat) : Int)) (n8 := (lineW f).length) (P := fun V5 c5 V6 c6 Z => WrRd Z V6 (lineW f)) (htb := ht33) (HW := Lib.hid fun h32 => ?_) (hret := Lib.hid fun a' X' hf hb => hret0 a' X' hf (hw33.trans (hb.mono hw33.size))) (hnext := Lib.hid fun h32 a36 X36 V5 c5 V6 c6 b22 hf36 hb36 h2236 hp36 => ?_) (ha := hf33)
  · intro Z hZ
    refine (wires_ok f Z (by omega)).mono ?_
    rintro e w' ⟨V, c, rfl, hnf⟩
    exact ⟨none, 0, V, c, rfl, fun Z' hZ' => hnf.2.1.wires.below hZ', hnf.1.2.2⟩
  have hf32 : f ≤ 32 := by omega
  have hw36 := hw33.trans (hb36.mono hw33.size)
  refine nl_36 (hf := hf32) (htb := ht33.below hb36) (hnext := Lib.hid fun a41 X41 VJ cJ hf41 hb41 hpj => ?_) (ha := hf36)
  have hw41 := hw36.trans (hb41.mono hw36.size)
  have ht41 := (ht33.below hb36).below hb41
  have h741 := (h733.below hb36).below hb41
  have h2241 := h2236.below hb41
  have hp41 := fun Z (hZ : Below X41.heap.size X41 Z) => hp33 Z ((hb36.trans (hb41.mono hb36.size)).trans (hZ.mono (Nat.le_trans hb36.size hb41.size)))
  have hp22 := fun Z (hZ : Below X41.heap.size X41 Z) => hp36 Z (hb41.trans (hZ.mono hb41.size))
  obtain ⟨hls1, hls2⟩ := line_same hokT
  rw [hTT0] at hls2
  have hlw := lineW_len f
  have hlj := lineJ_len f
  have hkL : (netChk (pnL L) L.length (chk L) [] ((2 * f : Nat) : Int) (lineW f)).1 = 0 := by
    rw [netChk_of (netChk_ok hk).1 (by simp) (by omega) (by simp) (line_ok (pnL L) f)]
  have hjk : JOk (f : Int).toNat ((2 * f : Nat) : Int).toNat (lineJ f) := line_jok f
  have hpe : plugE 0 0 cells.length ([] : List Int).length (f : Int) ((2 * f : Nat) : Int) (lineJ f) = 0 := by
    have e1 : (leftF (f : Int).toNat ((2 * f : Nat) : Int).toNat (lineJ f)).length = f := hls1
    unfold plugE
    rw [if_neg (by simp), if_neg (by simp), if_neg (by simpa using hjk), if_neg (by rw [e1]; simp; omega)]
  refine nl_41 (PS := fun V7 c7 V8 c8 Z => IntsRd Z V7 cells ∧ WrRd Z V8 T) (hf := hf32) (htb := ht41) (ht7 := h741) (ht22 := h2241) (HP := Lib.hid ?_) (HW := Lib.hid ?_) (hnext := Lib.hid fun a43 X43 V7 c7 V8 c8 b25 b26 hf43 hb43 h2543 h2643 hp43 => ?_) (ha := hf41)
  · intro Z hZ
    have hz := hw41.trans (hZ.mono hw41.size)
    refine (net_plug A _ cap L V1 V2 V5 V6 VJ c1 c2 c5 c6 f cJ cells [] (f : Int) ((2 * f : Nat) : Int) T (lineW f) (lineJ f) Z rfl hcap (Lib.hid (HL.out.below hz)) hl (Lib.hid (hp41 Z hZ).1) (Lib.hid (hp41 Z hZ).2) (Lib.hid fun i hi => by simp at hi) (Lib.hid (hp22 Z hZ)) hlj.symm (Lib.hid (hpj.below hZ)) (by omega) (by omega) (by omega) (by simp) (by omega) 0 0 hkT0 hkL).mono ?_
    rintro e w' ⟨V7, c7, C', F', V8, c8, W', rfl, hnf, hcase⟩
    rw [hpe] at hcase ⊢
    rcases hcase with ⟨h, _⟩ | ⟨_, rfl, rfl, rfl⟩
    · exact absurd rfl h
    have e1 : (leftF (f : Int).toNat ((2 * f : Nat) : Int).toNat (lineJ f)).length = f := hls1
    have e2 : tidyF (allPs (pnL L) (cells ++ []) f) (mP (pnL L) cells [] (f : Int).toNat ((2 * f : Nat) : Int).toNat T (lineW f) (lineJ f)) = T := hls2
    rw [e1, e2] at hnf ⊢
    rw [List.append_nil] at hnf ⊢
    exact ⟨V7, c7, V8, c8, rfl, fun Z' hZ' => ⟨hnf.1.1.ints.below hZ', hnf.2.1.wires.below hZ'⟩, hnf.1.2.2⟩
  · intro Z
    exact wires_bad _ Z (.inl (by omega))
  have hw43 := hw41.trans (hb43.mono hw41.size)
  refine nl_43 (PL := fun V9 c9 V10 c10 Z => WrRd Z V10 (lineW f)) (htb := ht41.below hb43) (ht7 := h741.below hb43) (ht22 := h2241.below hb43) (ht25 := h2543) (ht26 := h2643) (HE1 := Lib.hid ?_) (HL := Lib.hid ?_) (HE2 := Lib.hid ?_) (HE0 := Lib.hid ?_) (HW := Lib.hid ?_) (hret := Lib.hid fun a' X' hf hb => hret0 a' X' hf (hw43.trans (hb.mono hw43.size))) (ha := hf43)
  · intro Z hZ
    have hpz := hp41 Z (hb43.trans (hZ.mono hb43.size))
    refine (eq_net V7 V8 V1 V2 c7 c8 c1 c2 cells cells (f : Int) (f : Int) T T Z (by omega) (by omega) (by omega) (by omega) (Lib.hid (hp43 Z hZ).1) (Lib.hid (hp43 Z hZ).2) (Lib.hid hpz.1) (Lib.hid hpz.2)).mono ?_
    rintro e w' ⟨rfl, hb⟩
    exact ⟨by simp, hb⟩
  · intro Z hZ
    refine (lines_ok f Z hf32).mono ?_
    rintro e w' ⟨V, c, rfl, hnf⟩
    exact ⟨none, 0, V, c, rfl, fun Z' hZ' => hnf.2.1.wires.below hZ', hnf.1.2.2⟩
  · intro V9 c9 V10 c10 Z hZ hp
    have hpz := hp22 Z (hb43.trans (hZ.mono hb43.size))
    refine (eq_net V5 V6 V9 V10 c5 c6 c9 c10 [] [] ((2 * f : Nat) : Int) ((2 * f : Nat) : Int) (lineW f) (lineW f) Z (by simp) (by simp) (by omega) (by omega) (Lib.hid (fun i hi => by simp at hi)) (Lib.hid hpz) (Lib.hid (fun i hi => by simp at hi)) (Lib.hid hp)).mono ?_
    rintro e w' ⟨rfl, hb⟩
    exact ⟨by simp, hb⟩
  · intro Z
    refine (eq_net none none none none 0 0 0 0 [] [] 0 0 [] [] Z (by simp) (by simp) (by simp) (by simp) (Lib.hid (IntsRd.nil _ _)) (Lib.hid (WrRd.nil _ _)) (Lib.hid (IntsRd.nil _ _)) (Lib.hid (WrRd.nil _ _))).mono ?_
    rintro e w' ⟨rfl, hb⟩
    exact ⟨by simp, hb⟩
  · intro Z
    exact wires_bad _ Z (.inr (by omega))
end Go.Proofs.Ytcebejcdfdahjaa
