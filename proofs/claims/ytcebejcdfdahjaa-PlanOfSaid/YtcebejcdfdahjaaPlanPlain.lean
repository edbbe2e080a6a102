/-
  Plain: a rule's right side as a table, and the table as that rule.
-/
import Derived.Test.YtcebejcdfdahjaaRulePlain
namespace Go.Proofs.Ytcebejcdfdahjaa
set_option linter.unusedVariables false

/-- What the free ports are linked to, so far as a list of wires tells. -/
def facesL (W : List (Pt × Pt)) (M : Nat) : List Pt := (List.range M).map fun (s : Nat) => (lnk W (-1, (s : Int))).getD (0, 0)
theorem facesL_len (W : List (Pt × Pt)) (M : Nat) : (facesL W M).length = M := by simp [facesL]
theorem facesL_nil (M : Nat) : facesL [] M = List.replicate M (0, 0) := by
  refine List.ext_getElem (by simp [facesL]) fun i h1 h2 => ?_
  simp [facesL, lnk]
theorem facesL_at {W : List (Pt × Pt)} {M s : Nat} (h : s < M) : (facesL W M).getD s default = (lnk W (-1, (s : Int))).getD (0, 0) := by simp [facesL, List.getD_eq_getElem?_getD, h]
/-- One wire from a free port. -/
def stepF (F : List Pt) (w : Pt × Pt) : List Pt := if w.2.1 < 0 then (F.set w.1.2.toNat w.2).set w.2.2.toNat w.1 else F.set w.1.2.toNat w.2
theorem facesL_step {W : List (Pt × Pt)} {M : Nat} {s : Nat} {q : Pt} (hs : s < M) (h1 : ((-1 : Int), (s : Int)) ∉ ends W) (h2 : q ∉ ends W) (hq : q.1 < 0 → ∃ j : Nat, j < M ∧ q = (-1, (j : Int)) ∧ j ≠ s) :
    facesL (W ++ [((-1, (s : Int)), q)]) M = stepF (facesL W M) ((-1, (s : Int)), q) := by
  refine List.ext_getElem (by unfold stepF; split <;> simp [facesL]) fun i hi1 hi2 => ?_
  have hi : i < M := by simpa [facesL] using hi1
  unfold stepF
  simp only [Int.toNat_natCast]
  by_cases hq0 : q.1 < 0
  · obtain ⟨j, hj, rfl, hjs⟩ := hq hq0
    simp only [show ((-1 : Int) < 0) = True by simp, if_true, List.getElem_set, Int.toNat_natCast]
    simp only [facesL, List.getElem_map, List.getElem_range, lnk_snoc]
    by_cases e1 : j = i
    · subst e1
      rw [lnk_none h2]
      have a1 : ¬ ((s : Int) = (j : Int)) := by omega
      simp [a1]
    · by_cases e2 : s = i
      · subst e2
        rw [lnk_none h1]
        simp [e1]
      · have a1 : ¬ ((s : Int) = (i : Int)) := by omega
        have a2 : ¬ ((j : Int) = (i : Int)) := by omega
        simp [e1, e2, a1, a2]
  · simp only [hq0, if_false, List.getElem_set]
    simp only [facesL, List.getElem_map, List.getElem_range, lnk_snoc]
    by_cases e2 : s = i
    · subst e2
      rw [lnk_none h1]
      simp
    · have : q ≠ (-1, (i : Int)) := fun e => hq0 (by rw [e]; simp)
      have a1 : ¬ ((s : Int) = (i : Int)) := by omega
      simp [e2, this, a1]
/-- The wires of a tidy net: those from free ports, and those from cells'. -/
def outerT (pn : Int → Nat) (M : Nat) (lk : Pt → Option Pt) : List (Pt × Pt) := tidyF (freePs M) lk
def innerT (pn : Int → Nat) (cells : List Int) (lk : Pt → Option Pt) : List (Pt × Pt) := tidyF (cellPs pn 0 cells) lk
theorem tidy_parts (pn : Int → Nat) (cells : List Int) (M : Nat) (lk : Pt → Option Pt) : tidyF (allPs pn cells M) lk = outerT pn M lk ++ innerT pn cells lk := by
  unfold tidyF outerT innerT allPs tidyF
  exact List.filterMap_append
section
variable {pn : Int → Nat} {cells : List Int} {M : Nat} {W : List (Pt × Pt)} (h : NetOk pn cells M W)
include h
theorem outer_at {p q : Pt} (hm : (p, q) ∈ outerT pn M (lnk W)) : ∃ s : Nat, s < M ∧ p = (-1, (s : Int)) ∧ (q.1 < 0 → ∃ j : Nat, j < M ∧ q = (-1, (j : Int)) ∧ j ≠ s) := by
  obtain ⟨h1, h2, h3⟩ := tidyF_mem.1 hm
  simp only [freePs, List.mem_map, List.mem_range] at h1
  obtain ⟨s, hs, rfl⟩ := h1
  refine ⟨s, hs, rfl, fun hq => ?_⟩
  have hi := allPs_mem.1 (h.lnkin h2).2
  obtain ⟨c, t⟩ := q
  unfold isPt at hi
  by_cases hc : c = -1
  · subst hc
    simp only [if_true, decide_eq_true_eq] at hi
    obtain ⟨j, rfl⟩ := Int.eq_ofNat_of_zero_le hi.1
    refine ⟨j, by omega, rfl, fun e => ?_⟩
    subst e
    exact lnk_irr h.nodup _ h2
  · simp only [hc, if_false, decide_eq_true_eq] at hi
    simp only at hq
    omega
omit h in
theorem inner_at {p q : Pt} (hm : (p, q) ∈ innerT pn cells (lnk W)) : 0 ≤ p.1 ∧ 0 ≤ q.1 := by
  obtain ⟨h1, h2, h3⟩ := tidyF_mem.1 hm
  obtain ⟨c, k, h4, h5, rfl⟩ := cellPs_mem pn h1
  unfold bef at h3
  simp only [decide_eq_true_eq] at h3
  exact ⟨by show (0 : Int) ≤ _; omega, by omega⟩
theorem tidy_all_nodup : (ends (tidyW (allPs pn cells M) W)).Nodup := tidyF_nodup (allPs_nodup pn cells M) (fun _ _ h' => lnk_sym h.nodup h')
omit h in
theorem free_inner (s : Int) : ((-1 : Int), s) ∉ ends (innerT pn cells (lnk W)) := fun hm => by
  obtain ⟨y, hy | hy⟩ := mem_ends.1 hm
  · have := (inner_at hy).1; simp at this
  · have := (inner_at hy).2; simp at this
omit h in
theorem lnk_append (A B : List (Pt × Pt)) (p : Pt) : lnk (A ++ B) p = (lnk A p).or (lnk B p) := by
  induction A with
  | nil => simp [lnk]
  | cons w r ih =>
    obtain ⟨x, y⟩ := w
    simp only [List.cons_append, lnk]
    by_cases h1 : x = p
    · simp [h1]
    · rw [if_neg h1, if_neg h1]
      by_cases h2 : y = p
      · simp [h2]
      · rw [if_neg h2, if_neg h2, ih]
theorem faces_outer {s : Nat} (hs : s < M) : lnk (outerT pn M (lnk W)) (-1, (s : Int)) = lnk W (-1, (s : Int)) := by
  have hp : ((-1 : Int), (s : Int)) ∈ allPs pn cells M := allPs_mem.2 (by unfold isPt; simp; omega)
  have e := h.tidy_lnk hp
  rw [tidyW_F, tidy_parts, lnk_append, lnk_none (free_inner s), Option.or_none] at e
  exact e
theorem facesL_outer : facesL (outerT pn M (lnk W)) M = facesL W M := by
  unfold facesL
  exact List.map_congr_left fun s hs => by rw [faces_outer h (List.mem_range.1 hs)]
/-- The wires that the table's faces tell, from the first so many. -/
def faceW (F : List Pt) : Nat → List (Pt × Pt)
  | 0 => []
  | k + 1 => faceW F k ++ (if (F.getD k default).1 = -1 ∧ 0 ≤ (F.getD k default).2 ∧ (F.getD k default).2 < k ∧ F.getD (F.getD k default).2.toNat default = (-1, (k : Int)) then [] else [((-1, (k : Int)), F.getD k default)])
omit h in
theorem faceW_len (F : List Pt) (k : Nat) : (faceW F k).length ≤ k := by
  induction k with
  | zero => simp [faceW]
  | succ k ih =>
    unfold faceW
    rw [List.length_append]
    split <;> simp <;> omega
theorem faceW_outer {k : Nat} (hk : k ≤ M) : faceW (facesL W M) k = tidyF (freePs k) (lnk W) := by
  induction k with
  | zero => simp [faceW, freePs, tidyF]
  | succ k ih =>
    have hk' : k < M := by omega
    have hp : isPt pn cells M (-1, (k : Int)) = true := by unfold isPt; simp; omega
    obtain ⟨q, hq, hqi⟩ := h.lnk hp
    have e : freePs (k + 1) = freePs k ++ [((-1 : Int), (k : Int))] := by simp [freePs, List.range_succ]
    unfold faceW
    rw [ih (by omega), e, tidyF_snoc _ _ hq, facesL_at hk', hq]
    simp only [Option.getD_some]
    congr 1
    obtain ⟨c, t⟩ := q
    unfold isPt at hqi
    by_cases hc : c = -1
    · subst hc
      simp only [if_true, decide_eq_true_eq] at hqi
      obtain ⟨j, rfl⟩ := Int.eq_ofNat_of_zero_le hqi.1
      have hjM : j < M := by omega
      have hjk : j ≠ k := fun e => by subst e; exact lnk_irr h.nodup _ hq
      have hb := lnk_sym h.nodup hq
      rw [Int.toNat_natCast, facesL_at hjM, hb]
      simp only [Option.getD_some]
      by_cases hlt : j < k
      · have : bef (-1, (k : Int)) (-1, (j : Int)) = false := by unfold bef; simp; omega
        rw [this, if_pos ⟨trivial, by omega, by omega, trivial⟩]
        simp
      · have : bef (-1, (k : Int)) (-1, (j : Int)) = true := by unfold bef; simp; omega
        rw [this, if_neg (by intro hh; omega)]
        simp
    · simp only [hc, if_false, decide_eq_true_eq] at hqi
      have : bef (-1, (k : Int)) (c, t) = true := by unfold bef; simp; omega
      rw [this, if_neg (fun hh => hc hh.1)]
      simp
/-- The table's wires are the tidy rule's. -/
theorem plan_back : faceW (facesL W M) M ++ innerT pn cells (lnk W) = tidyW (allPs pn cells M) W := by
  rw [tidyW_F, tidy_parts, faceW_outer h (Nat.le_refl _)]
  rfl
end
end Go.Proofs.Ytcebejcdfdahjaa
