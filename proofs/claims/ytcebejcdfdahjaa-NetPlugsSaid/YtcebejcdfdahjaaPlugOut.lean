/-
  Plain: the lists that the answer's Plugged fills: the places, step by step; the links that come.
-/
import Derived.Test.YtcebejcdfdahjaaPlugTwin
namespace Go.Proofs.Ytcebejcdfdahjaa
open Go.RowKit
set_option linter.unusedVariables false

theorem set_map_range {NL k : Nat} {f g : Nat → Int} {v : Int} (hk : k < NL) (hv : g k = v) (h : ∀ i, i ≠ k → g i = f i) : (List.range NL).map g = ((List.range NL).map f).set k v := by
  refine List.ext_getElem (by simp) fun i h1 h2 => ?_
  rw [List.getElem_set]
  simp only [List.getElem_map, List.getElem_range]
  by_cases e : k = i
  · subst e; rw [if_pos rfl, hv]
  · rw [if_neg e]; exact h i fun e2 => e e2.symm
section
variable (c d : Nat → Bool) (NL : Nat)
/-- The places of the free ports below k; then also those of the cells' ports. -/
def pl3 (k : Nat) : List Int := (List.range NL).map fun i => if i < k ∧ c i = true then (cntN c (i + 1) : Int) else 0
def pl4 (k : Nat) : List Int := (List.range NL).map fun i => if c i = true then (cntN c (i + 1) : Int) else if i < k ∧ d i = true then ((cntN c NL : Int) + (cntN d (i + 1) : Int)) else 0
variable {c d NL}
theorem pl3_len (k : Nat) : (pl3 c NL k).length = NL := by simp [pl3]
theorem pl4_len (k : Nat) : (pl4 c d NL k).length = NL := by simp [pl4]
theorem pl3_zero : pl3 c NL 0 = List.replicate NL 0 := by
  unfold pl3
  refine List.ext_getElem (by simp) fun i h1 h2 => ?_
  simp
theorem pl3_yes {k : Nat} (hk : k < NL) (h : c k = true) : pl3 c NL (k + 1) = (pl3 c NL k).set k ((cntN c k : Int) + 1) := by
  refine set_map_range hk ?_ fun i hi => ?_
  · rw [if_pos ⟨by omega, h⟩, cntN_succ, if_pos h]; omega
  · by_cases e : i < k ∧ c i = true
    · rw [if_pos e, if_pos ⟨by omega, e.2⟩]
    · rw [if_neg e, if_neg (fun h => e ⟨by omega, h.2⟩)]
theorem pl3_no {k : Nat} (h : c k = false) : pl3 c NL (k + 1) = pl3 c NL k := by
  unfold pl3
  refine List.map_congr_left fun i _ => ?_
  by_cases e : i < k ∧ c i = true
  · rw [if_pos e, if_pos ⟨by omega, e.2⟩]
  · rw [if_neg e, if_neg (fun h2 => e ⟨by
      rcases Nat.lt_or_eq_of_le (Nat.le_of_lt_succ h2.1) with h3 | h3
      · exact h3
      · rw [h3, h] at h2; exact absurd h2.2 (by simp), h2.2⟩)]
theorem pl4_zero : pl4 c d NL 0 = pl3 c NL NL := by
  unfold pl3 pl4
  refine List.map_congr_left fun i hi => ?_
  have := List.mem_range.1 hi
  by_cases e : c i = true
  · rw [if_pos e, if_pos ⟨this, e⟩]
  · rw [if_neg e, if_neg (by omega), if_neg (fun h => e h.2)]
theorem pl4_yes {k : Nat} (hk : k < NL) (h : d k = true) (hc : c k = false) : pl4 c d NL (k + 1) = (pl4 c d NL k).set k ((cntN c NL : Int) + (cntN d k : Int) + 1) := by
  refine set_map_range hk ?_ fun i hi => ?_
  · rw [if_neg (by rw [hc]; simp), if_pos ⟨by omega, h⟩, cntN_succ, if_pos h]; omega
  · refine ite_congr rfl (fun _ => rfl) fun _ => ?_
    by_cases e : i < k ∧ d i = true
    · rw [if_pos e, if_pos ⟨by omega, e.2⟩]
    · rw [if_neg e, if_neg (fun h => e ⟨by omega, h.2⟩)]
theorem pl4_no {k : Nat} (h : d k = false) : pl4 c d NL (k + 1) = pl4 c d NL k := by
  unfold pl4
  refine List.map_congr_left fun i _ => ?_
  refine ite_congr rfl (fun _ => rfl) fun _ => ?_
  by_cases e : i < k ∧ d i = true
  · rw [if_pos e, if_pos ⟨by omega, e.2⟩]
  · rw [if_neg e, if_neg (fun h2 => e ⟨by
      rcases Nat.lt_or_eq_of_le (Nat.le_of_lt_succ h2.1) with h3 | h3
      · exact h3
      · rw [h3, h] at h2; exact absurd h2.2 (by simp), h2.2⟩)]
theorem pl4_at {i : Nat} (hi : i < NL) : (pl4 c d NL NL).getD i 0 = if c i = true then (cntN c (i + 1) : Int) else if d i = true then ((cntN c NL : Int) + (cntN d (i + 1) : Int)) else 0 := by
  unfold pl4
  rw [List.getD_eq_getElem?_getD, List.getElem?_map, List.getElem?_range hi]
  simp only [Option.map_some, Option.getD_some, hi, true_and]
theorem cntN_mono {c : Nat → Bool} {i k : Nat} (h : i ≤ k) : cntN c i ≤ cntN c k := by
  induction h with
  | refl => exact Nat.le_refl _
  | step _ ih => rw [cntN_succ]; omega
end
section
variable (pn : Int → Nat) (csA csB : List Int) (fA fB : Nat) (WA WB : List (Pt × Pt)) (J : List (Int × Int))
/-- The links that come, of the ports whose place lies below k. -/
def outQ (k : Nat) : List Int := (leftS pn csA csB fA fB J).map fun x => if plS pn csA csB fA fB x < k then ((leftS pn csA csB fA fB J).idxOf (endS WA WB J x) : Int) else 0
variable {pn csA csB fA fB WA WB J}
/-- A place that is given tells whose it is. -/
theorem pl_at {x : Sd} (hx : isSd pn csA csB fA fB x) : (pl4 (c3 pn csA csB fA fB J) (c4 pn csA fA fB) (firstN pn csA fA csA.length + firstN pn csB fB csB.length) (firstN pn csA fA csA.length + firstN pn csB fB csB.length)).getD (plS pn csA csB fA fB x) 0 = if x ∈ leftS pn csA csB fA fB J then ((leftS pn csA csB fA fB J).idxOf x : Int) + 1 else 0 := by
  rw [pl4_at (plS_lt hx)]
  have h3 := c3_iff (J := J) hx
  have h4 := c4_iff hx
  by_cases hm : x ∈ leftS pn csA csB fA fB J
  · rw [if_pos hm, left_at hm]
    have hm2 := (leftS_mem.1 hm).2
    by_cases h : x.2.1 < 0
    · rw [if_pos h, if_pos (h3.2 ⟨h, hm2 h⟩), cntN_succ, if_pos (h3.2 ⟨h, hm2 h⟩)]; omega
    · rw [if_neg h, if_neg (fun e => h (h3.1 e).1), if_pos (h4.2 h), cntN_succ, if_pos (h4.2 h)]; omega
  · rw [if_neg hm]
    have h1 : x.2.1 < 0 := by
      refine Decidable.by_contra fun h => hm (leftS_mem.2 ⟨hx, fun h2 => absurd h2 h⟩)
    have h2 : twJ J x ≠ none := fun h => hm (leftS_mem.2 ⟨hx, fun _ => h⟩)
    rw [if_neg (fun e => h2 (h3.1 e).2), if_neg (fun e => (h4.1 e) h1)]
theorem c4_not {i : Nat} (hf : fA ≤ firstN pn csA fA csA.length) (h : c4 pn csA fA fB i = true) : c3 pn csA csB fA fB J i = false := by
  unfold c4 at h
  rw [decide_eq_true_eq] at h
  unfold c3
  rw [decide_eq_false (by omega), Bool.false_and]
theorem outQ_len (k : Nat) : (outQ pn csA csB fA fB WA WB J k).length = (leftS pn csA csB fA fB J).length := by simp [outQ]
theorem outQ_zero : outQ pn csA csB fA fB WA WB J 0 = List.replicate (leftS pn csA csB fA fB J).length 0 := by
  unfold outQ
  refine List.ext_getElem (by simp) fun i h1 h2 => ?_
  simp
theorem outQ_no {k : Nat} {x : Sd} (hx : isSd pn csA csB fA fB x) (hk : plS pn csA csB fA fB x = k) (h : x ∉ leftS pn csA csB fA fB J) : outQ pn csA csB fA fB WA WB J (k + 1) = outQ pn csA csB fA fB WA WB J k := by
  unfold outQ
  refine List.map_congr_left fun y hy => ?_
  by_cases e : plS pn csA csB fA fB y < k
  · rw [if_pos e, if_pos (by omega)]
  · rw [if_neg e, if_neg]
    intro h2
    have h3 : plS pn csA csB fA fB y = plS pn csA csB fA fB x := by omega
    exact h (plS_inj (leftS_mem.1 hy).1 hx h3 ▸ hy)
theorem outQ_yes {k : Nat} {x : Sd} (hk : plS pn csA csB fA fB x = k) (h : x ∈ leftS pn csA csB fA fB J) : outQ pn csA csB fA fB WA WB J (k + 1) = (outQ pn csA csB fA fB WA WB J k).set ((leftS pn csA csB fA fB J).idxOf x) ((leftS pn csA csB fA fB J).idxOf (endS WA WB J x) : Int) := by
  have hx := (leftS_mem.1 h).1
  have hi := List.idxOf_lt_length_iff.2 h
  unfold outQ
  refine List.ext_getElem (by simp) fun i h1 h2 => ?_
  rw [List.getElem_set]
  simp only [List.getElem_map]
  by_cases e : (leftS pn csA csB fA fB J).idxOf x = i
  · subst e
    rw [if_pos rfl, List.getElem_idxOf, if_pos (by omega)]
  · rw [if_neg e]
    have hil : i < (leftS pn csA csB fA fB J).length := by simpa using h1
    have hy := List.getElem_mem hil
    by_cases e2 : plS pn csA csB fA fB (leftS pn csA csB fA fB J)[i] < k
    · rw [if_pos e2, if_pos (by omega)]
    · rw [if_neg e2, if_neg]
      intro h3
      have h4 : plS pn csA csB fA fB (leftS pn csA csB fA fB J)[i] = plS pn csA csB fA fB x := by omega
      have h5 := plS_inj (leftS_mem.1 hy).1 hx h4
      refine e ?_
      rw [← h5]
      exact leftS_nodup.idxOf_getElem i (by simpa using h1)
theorem outQ_all : outQ pn csA csB fA fB WA WB J (firstN pn csA fA csA.length + firstN pn csB fB csB.length) = outP pn csA csB fA fB WA WB J := by
  unfold outQ outP
  refine List.map_congr_left fun y hy => ?_
  rw [if_pos (plS_lt (leftS_mem.1 hy).1)]
/-- What the list of twins tells of a place. -/
theorem TwL.zero {l : List Int} (h : TwL pn csA csB fA fB J l) {i : Nat} (hi : i < firstN pn csA fA csA.length + firstN pn csB fB csB.length) : (l.getD i 0 = 0 ↔ isL J (sideAt pn csA csB fA fB i) = true) := by
  obtain ⟨x, hx, rfl⟩ := side_of (csA := csA) (csB := csB) (fA := fA) (fB := fB) hi
  rw [List.getD_eq_getElem?_getD, h.at_ x hx, sideAt_pl hx]
  cases ht : twJ J x with
  | none => simp [isL, ht]
  | some z =>
    simp only [isL, ht, Option.getD_some, Option.isNone_some]
    constructor
    · intro h; omega
    · intro h; cases h
end
end Go.Proofs.Ytcebejcdfdahjaa
