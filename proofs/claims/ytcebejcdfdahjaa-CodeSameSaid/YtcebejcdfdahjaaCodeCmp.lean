/-
  Plain: codes compared; contracts of skeinref12.Compare, skeinref00.WideInts, SpareInts.
-/
import Derived.Test.YtcebejcdfdahjaaEqN
import Derived.Test.YtcebejcdfdahjaaRef03L
import Derived.BigQuiet
import Derived.Deep.QuietTactic
namespace Go.Proofs.Ytcebejcdfdahjaa
open Go.RowKit
attribute [local go_sem] cell_set
set_option maxRecDepth 100000
set_option linter.unusedVariables false

def cmpN : List Int → List Int → Int
  | [], [] => 0
  | [], _ :: _ => -1
  | _ :: _, [] => 1
  | a :: r, b :: s => if a < b then -1 else if b < a then 1 else cmpN r s
theorem cmpN_rng (a b : List Int) : cmpN a b = -1 ∨ cmpN a b = 0 ∨ cmpN a b = 1 := by
  induction a generalizing b with
  | nil => cases b <;> simp [cmpN]
  | cons x r ih =>
    cases b with
    | nil => simp [cmpN]
    | cons y s =>
      unfold cmpN
      split
      · simp
      · split
        · simp
        · exact ih s
theorem cmpN_self (a : List Int) : cmpN a a = 0 := by
  induction a with
  | nil => rfl
  | cons x r ih => unfold cmpN; simp [ih]
theorem cmpN_neg (a b : List Int) : cmpN b a = -cmpN a b := by
  induction a generalizing b with
  | nil => cases b <;> simp [cmpN]
  | cons x r ih =>
    cases b with
    | nil => simp [cmpN]
    | cons y s =>
      unfold cmpN
      by_cases h1 : x < y
      · rw [if_neg (by omega), if_pos h1, if_pos h1]; rfl
      · by_cases h2 : y < x
        · rw [if_pos h2, if_neg h1, if_pos h2]
        · rw [if_neg h2, if_neg h1, if_neg h1, if_neg h2]
          exact ih s
theorem cmpN_eq (a b : List Int) : cmpN a b = 0 ↔ a = b := by
  refine ⟨fun h => ?_, fun h => h ▸ cmpN_self a⟩
  induction a generalizing b with
  | nil => cases b with
    | nil => rfl
    | cons y s => simp [cmpN] at h
  | cons x r ih =>
    cases b with
    | nil => simp [cmpN] at h
    | cons y s =>
      unfold cmpN at h
      by_cases h1 : x < y
      · rw [if_pos h1] at h; simp at h
      · rw [if_neg h1] at h
        by_cases h2 : y < x
        · rw [if_pos h2] at h; simp at h
        · rw [if_neg h2] at h
          rw [ih s h, show x = y by omega]
theorem cmpN_trans (a b c : List Int) (h1 : cmpN a b ≤ 0) (h2 : cmpN b c ≤ 0) : cmpN a c ≤ 0 := by
  induction a generalizing b c with
  | nil => cases c <;> simp [cmpN]
  | cons x r ih =>
    cases b with
    | nil => simp [cmpN] at h1
    | cons y s =>
      cases c with
      | nil => simp [cmpN] at h2
      | cons z t =>
        unfold cmpN at h1 h2 ⊢
        by_cases a1 : x < y
        · by_cases b1 : y < z
          · rw [if_pos (by omega)]; omega
          · rw [if_neg b1] at h2
            by_cases b2 : z < y
            · rw [if_pos b2] at h2; omega
            · rw [if_pos (by omega)]; omega
        · rw [if_neg a1] at h1
          by_cases a2 : y < x
          · rw [if_pos a2] at h1; omega
          · rw [if_neg a2] at h1
            by_cases b1 : y < z
            · rw [if_pos (by omega)]; omega
            · rw [if_neg b1] at h2
              by_cases b2 : z < y
              · rw [if_pos b2] at h2; omega
              · rw [if_neg b2] at h2
                rw [if_neg (by omega), if_neg (by omega)]
                exact ih s t h1 h2
theorem cmpN_step {l k : List Int} {j : Nat} (h1 : j < l.length) (h2 : j < k.length) (h : l.getD j 0 = k.getD j 0) : cmpN (l.drop j) (k.drop j) = cmpN (l.drop (j + 1)) (k.drop (j + 1)) := by
  rw [List.drop_eq_getElem_cons h1, List.drop_eq_getElem_cons h2]
  simp only [List.getD_eq_getElem?_getD, List.getElem?_eq_getElem h1, List.getElem?_eq_getElem h2, Option.getD_some] at h
  rw [cmpN, h]; simp
theorem cmpN_lt {l k : List Int} {j : Nat} (h1 : j < l.length) (h2 : j < k.length) (h : l.getD j 0 < k.getD j 0) : cmpN (l.drop j) (k.drop j) = -1 := by
  rw [List.drop_eq_getElem_cons h1, List.drop_eq_getElem_cons h2]
  simp only [List.getD_eq_getElem?_getD, List.getElem?_eq_getElem h1, List.getElem?_eq_getElem h2, Option.getD_some] at h
  rw [cmpN, if_pos h]
theorem cmpN_gt {l k : List Int} {j : Nat} (h1 : j < l.length) (h2 : j < k.length) (h : k.getD j 0 < l.getD j 0) : cmpN (l.drop j) (k.drop j) = 1 := by
  rw [List.drop_eq_getElem_cons h1, List.drop_eq_getElem_cons h2]
  simp only [List.getD_eq_getElem?_getD, List.getElem?_eq_getElem h1, List.getElem?_eq_getElem h2, Option.getD_some] at h
  rw [cmpN, if_neg (by omega), if_pos h]
theorem cmpN_end1 {l k : List Int} {j : Nat} (h1 : j = l.length) (h2 : j < k.length) : cmpN (l.drop j) (k.drop j) = -1 := by
  rw [List.drop_of_length_le (by omega), List.drop_eq_getElem_cons h2]; rfl
theorem cmpN_end2 {l k : List Int} {j : Nat} (h1 : j < l.length) (h2 : j = k.length) : cmpN (l.drop j) (k.drop j) = 1 := by
  rw [List.drop_of_length_le (l := k) (by omega), List.drop_eq_getElem_cons h1]; rfl
theorem cmpN_end0 {l k : List Int} {j : Nat} (h1 : j = l.length) (h2 : j = k.length) : cmpN (l.drop j) (k.drop j) = 0 := by
  rw [List.drop_of_length_le (l := k) (by omega), List.drop_of_length_le (by omega)]; rfl

set_option maxHeartbeats 1000000 in
theorem rcompare (A B : Option Addr) (n m ca cb : Nat) (l k : List Int) (w : World) (hn : n = l.length) (hm : m = k.length) (hl : l.length ≤ 100000) (hl2 : k.length ≤ 100000) (HA : Hid (IntsRd w A l)) (HB : Hid (IntsRd w B k)) :
    Calls Try.prog 38 #[.slice A n ca, .slice B m cb] w fun e w' => e = .returned (.int .i64 (cmpN l k)) ∧ Below w.heap.size w w' := by
  subst hn hm
  go_enter Try.func38, Try.ntmps38
  go_wp2
  go_loopw [5] (fun i wr => ∃ j : Nat, i = .int .i64 j ∧ j ≤ l.length ∧ j ≤ k.length ∧ Hid (cmpN l k = cmpN (l.drop j) (k.drop j) ∧ Below w.heap.size w wr)) (fun i _ => l.length - (intOf i).toNat)
  case atStart => exact ⟨0, rfl, by omega, by omega, rfl, Below.refl _ _⟩
  case round =>
    obtain ⟨j, rfl, hj, hj2, HN⟩ := hrel
    by_cases hlt : j < l.length
    · by_cases hlt2 : j < k.length
      · obtain ⟨b, off, rfl, hb, e0⟩ := HA.out j hlt
        obtain ⟨b2, off2, rfl, hb2, e2⟩ := HB.out j hlt2
        have c0 := (HN.out.2.cell (p := ⟨b, off + j, none⟩) hb).trans e0
        have c2 := (HN.out.2.cell (p := ⟨b2, off2 + j, none⟩) hb2).trans e2
        have hbr : b < wr.heap.size := Nat.lt_of_lt_of_le hb HN.out.2.size
        have hbr2 : b2 < wr.heap.size := Nat.lt_of_lt_of_le hb2 HN.out.2.size
        have H1 : Hid (l.getD j 0 = k.getD j 0 → cmpN l k = cmpN (l.drop (j + 1)) (k.drop (j + 1))) := fun h => HN.out.1.trans (cmpN_step hlt hlt2 h)
        have H2 : Hid (l.getD j 0 < k.getD j 0 → cmpN l k = -1) := fun h => HN.out.1.trans (cmpN_lt hlt hlt2 h)
        have H3 : Hid (k.getD j 0 < l.getD j 0 → cmpN l k = 1) := fun h => HN.out.1.trans (cmpN_gt hlt hlt2 h)
        clear e0 e2
        generalize l.getD j 0 = x at c0 H1 H2 H3
        generalize k.getD j 0 = y at c2 H1 H2 H3
        rcases (by omega : x < y ∨ (¬ x < y ∧ y < x) ∨ (¬ x < y ∧ ¬ y < x)) with h | ⟨h, h'⟩ | ⟨h, h'⟩
        · have HR := Lib.hid (H2.out h)
          go_wp2_with fail
          go_quiet (fail)
          go_wp2
          go_ret
          exact ⟨retI HR.out.symm, below_drewN HN.out.2 _⟩
        · have HR := Lib.hid (H3.out h')
          go_wp2_with fail
          go_quiet (fail)
          go_wp2_with fail
          go_quiet (fail)
          go_wp2
          go_ret
          exact ⟨retI HR.out.symm, by have := HN.out.2; first | exact below_drewN (below_drewN this _) _ | exact below_drewN this _⟩
        · have HR := Lib.hid (H1.out (by omega))
          go_wp2_with fail
          go_quiet (fail)
          go_wp2_with fail
          go_quiet (fail)
          go_wp2
          go_roundw
          case rel => exact ⟨j + 1, by go_num, by omega, by omega, HR.out, by have := HN.out.2; first | exact below_drewN (below_drewN this _) _ | exact below_drewN this _⟩
          case measure => simp [intOf]; omega
      · have HR : Hid (cmpN l k = 1) := HN.out.1.trans (cmpN_end2 hlt (by omega))
        go_wp2
        go_ret
        exact ⟨retI HR.out.symm, HN.out.2⟩
    · by_cases hlt2 : j < k.length
      · have HR : Hid (cmpN l k = -1) := HN.out.1.trans (cmpN_end1 (by omega) hlt2)
        have hjl : l.length < k.length := by omega
        go_wp2
        go_ret
        exact ⟨retI HR.out.symm, HN.out.2⟩
      · have HR : Hid (cmpN l k = 0) := HN.out.1.trans (cmpN_end0 (by omega) (by omega))
        have hjl : l.length = k.length := by omega
        have hjl1 : ¬ l.length < k.length := by omega
        have hjl2 : ¬ k.length < l.length := by omega
        clear hjl
        go_wp2
        go_ret
        exact ⟨retI HR.out.symm, HN.out.2⟩
end Go.Proofs.Ytcebejcdfdahjaa
