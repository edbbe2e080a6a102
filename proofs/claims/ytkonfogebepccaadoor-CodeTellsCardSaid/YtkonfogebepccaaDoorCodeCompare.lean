/-
  Contracts of (code.list).compare, code.Compare.
-/
import Derived.Test.YtkonfogebepccaaDoorEqN
import Derived.Test.YtkonfogebepccaaDoorRef03K
import Derived.BigQuiet
import Derived.Deep.QuietTactic
import Derived.Scope
import Derived.WalkMore
import Derived.ScopeJumps
/-
  Plain: codes compared; contracts of skeinref12.Compare, skeinref00.WideInts, SpareInts.
-/
namespace Go.Proofs.YtkonfogebepccaaDoor
open Go.RowKit
attribute [local go_sem] cell_set
set_option maxRecDepth 100000
set_option linter.unusedVariables false

def cmpN : List Int → List Int → Int
  | [], [] => 0
  | [], _ :: _ => -1
  | _ :: _, [] => 1
  | a :: r, b :: s => if a < b then -1 else if b < a then 1 else cmpN r s
theorem cmpN_step {l k : List Int} {j : Nat} (h1 : j < l.length) (h2 : j < k.length) (h : l.getD j 0 = k.getD j 0) : cmpN (l.drop j) (k.drop j) = cmpN (l.drop (j + 1)) (k.drop (j + 1)) := by
  rw [List.drop_eq_getElem_cons h1, List.drop_eq_getElem_cons h2]
  simp only [List.getD_eq_getElem?_getD, List.getElem?_eq_getElem h1, List.getElem?_eq_getElem h2, Option.getD_some] at h
  rw [cmpN, h]; simp
theorem cmpN_lt {l k : List Int} {j : Nat} (h1 : j < l.length) (h2 : j < k.length) (h : l.getD j 0 < k.getD j 0) : cmpN (l.drop j) (k.drop j) = -1 := by
  rw [List.drop_eq_getElem_cons h1, List.drop_eq_getElem_cons h2]
  simp only [List.getD_eq_getElem?_getD, List.getElem?_eq_getElem h1, List.getElem?_eq_getElem h2, Option.getD_some] at h
  rw [cmpN, if_pos h]
theorem cmpN_gt {l k : List Int} {j : Nat} (h1 : j < l.length) (h2 : j < k.length) (h : k.getD j 0 < l.getD j 0) : cmpN (l.drop j) (k.drop j) = 1 := by
  rw [List.drop_eq_getElem_cons h1, List.drop_eq_getElem_cons h2]
  simp only [List.getD_eq_getElem?_getD, List.getElem?_eq_getElem h1, List.getElem?_eq_getElem h2, Option.getD_some] at h
  rw [cmpN, if_neg (by omega), if_pos h]
theorem cmpN_end1 {l k : List Int} {j : Nat} (h1 : j = l.length) (h2 : j < k.length) : cmpN (l.drop j) (k.drop j) = -1 := by
  rw [List.drop_of_length_le (by omega), List.drop_eq_getElem_cons h2]; rfl
theorem cmpN_end2 {l k : List Int} {j : Nat} (h1 : j < l.length) (h2 : j = k.length) : cmpN (l.drop j) (k.drop j) = 1 := by
  rw [List.drop_of_length_le (l := k) (by omega), List.drop_eq_getElem_cons h1]; rfl
theorem cmpN_end0 {l k : List Int} {j : Nat} (h1 : j = l.length) (h2 : j = k.length) : cmpN (l.drop j) (k.drop j) = 0 := by
  rw [List.drop_of_length_le (l := k) (by omega), List.drop_of_length_le (by omega)]; rfl

set_option maxHeartbeats 1000000 in
theorem rcompare (A B : Option Addr) (n m ca cb : Nat) (l k : List Int) (w : World) (hn : n = l.length) (hm : m = k.length) (hl : l.length ≤ 100000) (hl2 : k.length ≤ 100000) (HA : Hid (IntsRd w A l)) (HB : Hid (IntsRd w B k)) :
    Calls Tryd.prog 108 #[.slice A n ca, .slice B m cb] w fun e w' => e = .returned (.int .i64 (cmpN l k)) ∧ Below w.heap.size w w' := by
  subst hn hm
  go_enter Tryd.func108, Tryd.ntmps108
  go_wp2
  go_loopw [5] (fun i wr => ∃ j : Nat, i = .int .i64 j ∧ j ≤ l.length ∧ j ≤ k.length ∧ Hid (cmpN l k = cmpN (l.drop j) (k.drop j) ∧ Below w.heap.size w wr)) (fun i _ => l.length - (intOf i).toNat)
  case atStart => exact ⟨0, rfl, by omega, by omega, rfl, Below.refl _ _⟩
  case round =>
    obtain ⟨j, rfl, hj, hj2, HN⟩ := hrel
    by_cases hlt : j < l.length
    · by_cases hlt2 : j < k.length
      · obtain ⟨b, off, rfl, hb, e0⟩ := HA.out j hlt
        obtain ⟨b2, off2, rfl, hb2, e2⟩ := HB.out j hlt2
        have c0 := (HN.out.2.cell (p := ⟨b, off + j, none⟩) hb).trans e0
        have c2 := (HN.out.2.cell (p := ⟨b2, off2 + j, none⟩) hb2).trans e2
        have hbr : b < wr.heap.size := Nat.lt_of_lt_of_le hb HN.out.2.size
        have hbr2 : b2 < wr.heap.size := Nat.lt_of_lt_of_le hb2 HN.out.2.size
        have H1 : Hid (l.getD j 0 = k.getD j 0 → cmpN l k = cmpN (l.drop (j + 1)) (k.drop (j + 1))) := fun h => HN.out.1.trans (cmpN_step hlt hlt2 h)
        have H2 : Hid (l.getD j 0 < k.getD j 0 → cmpN l k = -1) := fun h => HN.out.1.trans (cmpN_lt hlt hlt2 h)
        have H3 : Hid (k.getD j 0 < l.getD j 0 → cmpN l k = 1) := fun h => HN.out.1.trans (cmpN_gt hlt hlt2 h)
        clear e0 e2
        generalize l.getD j 0 = x at c0 H1 H2 H3
        generalize k.getD j 0 = y at c2 H1 H2 H3
        rcases (by omega : x < y ∨ (¬ x < y ∧ y < x) ∨ (¬ x < y ∧ ¬ y < x)) with h | ⟨h, h'⟩ | ⟨h, h'⟩
        · have HR := Lib.hid (H2.out h)
          go_wp2_with fail
          go_quiet (fail)
          go_wp2
          go_ret
          exact ⟨retI HR.out.symm, below_drewN HN.out.2 _⟩
        · have HR := Lib.hid (H3.out h')
          go_wp2_with fail
          go_quiet (fail)
          go_wp2_with fail
          go_quiet (fail)
          go_wp2
          go_ret
          exact ⟨retI HR.out.symm, by have := HN.out.2; first | exact below_drewN (below_drewN this _) _ | exact below_drewN this _⟩
        · have HR := Lib.hid (H1.out (by omega))
          go_wp2_with fail
          go_quiet (fail)
          go_wp2_with fail
          go_quiet (fail)
          go_wp2
          go_roundw
          case rel => exact ⟨j + 1, by go_num, by omega, by omega, HR.out, by have := HN.out.2; first | exact below_drewN (below_drewN this _) _ | exact below_drewN this _⟩
          case measure => simp [intOf]; omega
      · have HR : Hid (cmpN l k = 1) := HN.out.1.trans (cmpN_end2 hlt (by omega))
        go_wp2
        go_ret
        exact ⟨retI HR.out.symm, HN.out.2⟩
    · by_cases hlt2 : j < k.length
      · have HR : Hid (cmpN l k = -1) := HN.out.1.trans (cmpN_end1 (by omega) hlt2)
        have hjl : l.length < k.length := by omega
        go_wp2
        go_ret
        exact ⟨retI HR.out.symm, HN.out.2⟩
      · have HR : Hid (cmpN l k = 0) := HN.out.1.trans (cmpN_end0 (by omega) (by omega))
        have hjl : l.length = k.length := by omega
        have hjl1 : ¬ l.length < k.length := by omega
        have hjl2 : ¬ k.length < l.length := by omega
        clear hjl
        go_wp2
        go_ret
        exact ⟨retI HR.out.symm, HN.out.2⟩
end Go.Proofs.YtkonfogebepccaaDoor
namespace Go.Proofs.YtkonfogebepccaaDoor
open Go.RowKit
attribute [local go_sem] cell_set
set_option maxRecDepth 100000
set_option linter.unusedVariables false

theorem scope_from {P : Program} {c X : Code} {a a1 : Act} {w w1 : World} {Q : Exit → Act → World → Prop} (l : Nat) (J : Act → World → Prop) (μ : Act → World → Nat) (hf : findLabel c l = some (Code.skip.seq X)) (hJ : J a1 w1)
    (enter : ∀ Q' : Exit → Act → World → Prop, X.wp P Q' a1 w1 → c.wp P Q' a w) (pass : ∀ a w, J a w → X.wp P (Exit.jump l (fun a' w' => J a' w' ∧ μ a' w' < μ a w) Q) a w) : (Code.scope c).wp P Q a w :=
  wp_scope_jumps l J μ hf (enter _ (Code.wp_mono (fun e a w h => by cases e <;> first | exact h | exact ⟨h.1, h.2.1⟩) (pass a1 w1 hJ))) (fun a w h => wp_seq (wp_skip (pass a w h)))
set_option maxHeartbeats 4000000 in
theorem compare_is (A B : Option Addr) (n m ca cb : Nat) (l k : List Int) (w : World) (hn : n = l.length) (hm : m = k.length) (hl : l.length ≤ 100000) (hl2 : k.length ≤ 100000) (HA : Hid (IntsRd w A l)) (HB : Hid (IntsRd w B k)) :
    Calls Tryd.prog 94 #[.slice A n ca, .slice B m cb] w fun e w' => e = .returned (.int .i64 (cmpN l k)) ∧ Below w.heap.size w w' := by
  subst hn hm
  go_enter Tryd.func94, Tryd.ntmps94
  go_wp2
  refine scope_from (a1 := { tmps := #[.slice A l.length ca, .slice B k.length cb, undef, undef, .int .i64 0, .int .i64 0, undef, undef, undef, undef, undef, undef, undef, undef, undef, undef, undef, undef, undef, undef, undef, undef, undef, undef, undef, undef, undef, undef, undef, undef, undef, undef, undef, undef, undef, undef, undef, undef, undef, undef, undef, undef, undef, undef, undef, undef, undef, undef, undef], defers := [] }) (w1 := w) 0 (fun a' wr => ∃ (j : Nat) (u6 u7 u8 u9 u10 u11 u12 u13 u14 u15 u16 u17 u18 u19 u20 u21 u22 u23 u24 u25 u26 u27 u28 u29 u30 u31 u32 u33 u34 u35 u36 u37 u38 u39 u40 u41 u42 u43 u44 u45 u46 u47 u48 : Value), a' = { tmps := #[.slice A l.length ca, .slice B k.length cb, undef, undef, .int .i64 0, .int .i64 j, u6, u7, u8, u9, u10, u11, u12, u13, u14, u15, u16, u17, u18, u19, u20, u21, u22, u23, u24, u25, u26, u27, u28, u29, u30, u31, u32, u33, u34, u35, u36, u37, u38, u39, u40, u41, u42, u43, u44, u45, u46, u47, u48], defers := [] } ∧ j ≤ l.length ∧ j ≤ k.length ∧ Hid (cmpN l k = cmpN (l.drop j) (k.drop j) ∧ Below w.heap.size w wr)) (fun a' _ => l.length - (intOf (a'.tmps.getD 5 undef)).toNat) rfl ?_ ?_ ?_
  · exact ⟨0, undef, undef, undef, undef, undef, undef, undef, undef, undef, undef, undef, undef, undef, undef, undef, undef, undef, undef, undef, undef, undef, undef, undef, undef, undef, undef, undef, undef, undef, undef, undef, undef, undef, undef, undef, undef, undef, undef, undef, undef, undef, undef, undef, rfl, by omega, by omega, rfl, Below.refl _ _⟩
  · intro Q' h
    go_wp2
    go_step3
    rename_i K hK
    exact hK _ _ h
  · rintro a' wr ⟨j, u6, u7, u8, u9, u10, u11, u12, u13, u14, u15, u16, u17, u18, u19, u20, u21, u22, u23, u24, u25, u26, u27, u28, u29, u30, u31, u32, u33, u34, u35, u36, u37, u38, u39, u40, u41, u42, u43, u44, u45, u46, u47, u48, rfl, hj, hj2, HN⟩
    by_cases hlt : j < l.length
    · by_cases hlt2 : j < k.length
      · obtain ⟨b, off, rfl, hb, e0⟩ := HA.out j hlt
        obtain ⟨b2, off2, rfl, hb2, e2⟩ := HB.out j hlt2
        have c0 := (HN.out.2.cell (p := ⟨b, off + j, none⟩) hb).trans e0
        have c2 := (HN.out.2.cell (p := ⟨b2, off2 + j, none⟩) hb2).trans e2
        have hbr : b < wr.heap.size := Nat.lt_of_lt_of_le hb HN.out.2.size
        have hbr2 : b2 < wr.heap.size := Nat.lt_of_lt_of_le hb2 HN.out.2.size
        have H1 : Hid (l.getD j 0 = k.getD j 0 → cmpN l k = cmpN (l.drop (j + 1)) (k.drop (j + 1))) := fun h => HN.out.1.trans (cmpN_step hlt hlt2 h)
        have H2 : Hid (l.getD j 0 < k.getD j 0 → cmpN l k = -1) := fun h => HN.out.1.trans (cmpN_lt hlt hlt2 h)
        have H3 : Hid (k.getD j 0 < l.getD j 0 → cmpN l k = 1) := fun h => HN.out.1.trans (cmpN_gt hlt hlt2 h)
        have hjn : ¬ j = l.length := by omega
        have hjn2 : ¬ j = k.length := by omega
        clear e0 e2
        generalize l.getD j 0 = x at c0 H1 H2 H3
        generalize k.getD j 0 = y at c2 H1 H2 H3
        rcases (by omega : x < y ∨ (¬ x < y ∧ y < x) ∨ x = y) with h | ⟨h, h'⟩ | h
        · have HR := Lib.hid (H2.out h)
          have hxy : ¬ x = y := by omega
          go_wp2_with fail
          go_quiet (fail)
          go_wp2_with fail
          go_quiet (fail)
          go_wp2
          simp only [Exit.jump]
          go_ret
          exact ⟨retI HR.out.symm, by have := HN.out.2; first | exact below_drewN (below_drewN this _) _ | exact below_drewN this _⟩
        · have HR := Lib.hid (H3.out h')
          have hxy : ¬ x = y := by omega
          go_wp2_with fail
          go_quiet (fail)
          go_wp2_with fail
          go_quiet (fail)
          go_wp2
          simp only [Exit.jump]
          go_ret
          exact ⟨retI HR.out.symm, by have := HN.out.2; first | exact below_drewN (below_drewN this _) _ | exact below_drewN this _⟩
        · have HR := Lib.hid (H1.out h)
          subst h
          go_wp2_with fail
          go_quiet (fail)
          go_wp2
          go_step3
          refine ⟨rfl, ⟨j + 1, _, _, _, _, _, _, _, _, _, _, _, _, _, _, _, _, _, _, _, _, _, _, _, _, _, _, _, _, _, _, _, _, _, _, _, _, _, _, _, _, _, _, _, rfl, by omega, by omega, HR.out, below_drewN HN.out.2 _⟩, by simp [intOf]; omega⟩
      · have HR : Hid (cmpN l k = 1) := HN.out.1.trans (cmpN_end2 hlt (by omega))
        have hjn : ¬ j = l.length := by omega
        obtain rfl : k.length = j := by omega
        go_wp2
        simp only [Exit.jump]
        go_ret
        exact ⟨retI HR.out.symm, HN.out.2⟩
    · by_cases hlt2 : j < k.length
      · have HR : Hid (cmpN l k = -1) := HN.out.1.trans (cmpN_end1 (by omega) hlt2)
        have hjn2 : ¬ j = k.length := by omega
        obtain rfl : l.length = j := by omega
        go_wp2
        simp only [Exit.jump]
        go_ret
        exact ⟨retI HR.out.symm, HN.out.2⟩
      · have HR : Hid (cmpN l k = 0) := HN.out.1.trans (cmpN_end0 (by omega) (by omega))
        have hj1 : j = l.length := by omega
        have hj2' : j = k.length := by omega
        go_wp2
        simp only [Exit.jump]
        go_ret
        exact ⟨retI HR.out.symm, HN.out.2⟩
theorem code_compare (A B : Option Addr) (n m ca cb : Nat) (l k : List Int) (w : World) (hn : n = l.length) (hm : m = k.length) (hl : l.length ≤ 100000) (hl2 : k.length ≤ 100000) (HA : Hid (IntsRd w A l)) (HB : Hid (IntsRd w B k)) :
    Calls Tryd.prog 86 #[.slice A n ca, .slice B m cb] w fun e w' => e = .returned (.int .i64 (cmpN l k)) ∧ Below w.heap.size w w' := by
  subst hn hm
  go_enter Tryd.func86, Tryd.ntmps86
  go_wp2_with (go_at_call 94; refine (compare_is A B _ _ ca cb l k _ rfl rfl hl hl2 HA HB).mono ?_; rintro e w1 ⟨rfl, hb1⟩)
  go_ret
  exact ⟨rfl, hb1⟩
end Go.Proofs.YtkonfogebepccaaDoor
