/-
  Plain: the walk over a web, the places at which it finds the cells, the code.
-/
import Derived.Test.YtcebejcdfdahjaaNetPlain
namespace Go.Proofs.Ytcebejcdfdahjaa
set_option linter.unusedVariables false

/-- A cell that is found: laid behind the list, once. -/
def addC (l : List Int) (c : Int) : List Int := if 0 ≤ c ∧ c ∉ l then l ++ [c] else l
def rowP (pn : Int → Nat) (cs : List Int) (Lk : Pt → Pt) (c : Int) : List Pt := (List.range (pn (cs.getD c.toNat 0))).map fun (k : Nat) => Lk (c, (k : Int))
def freeP (fr : Nat) (Lk : Pt → Pt) : List Pt := (List.range fr).map fun (k : Nat) => Lk (-1, (k : Int))
def visitK (R : List Pt) (l : List Int) (k : Nat) : List Int := (R.take k).foldl (fun l p => addC l p.1) l
def visit (R : List Pt) (l : List Int) : List Int := visitK R l R.length
def walkF (row : Int → List Pt) : Nat → Nat → List Int → List Int
  | 0, _, l => l
  | f + 1, i, l => if i < l.length then walkF row f (i + 1) (visit (row (l.getD i 0)) l) else l
/-- The cells of a net that are found, all numbers below n. -/
structure Fnd (n : Nat) (l : List Int) : Prop where
  nd : l.Nodup
  lt : ∀ x ∈ l, 0 ≤ x ∧ x < n
theorem Fnd.len {n : Nat} {l : List Int} (h : Fnd n l) : l.length ≤ n := nodup_lt h.nd h.lt
theorem Fnd.nil (n : Nat) : Fnd n [] := ⟨List.nodup_nil, by simp⟩
theorem Fnd.add {n : Nat} {l : List Int} (h : Fnd n l) {c : Int} (hc : c < n) : Fnd n (addC l c) := by
  unfold addC
  split
  · rename_i h1
    refine ⟨List.nodup_append.2 ⟨h.nd, by simp, fun a ha b hb => ?_⟩, fun x hx => ?_⟩
    · simp only [List.mem_singleton] at hb; subst hb; exact fun e => h1.2 (e ▸ ha)
    · simp only [List.mem_append, List.mem_singleton] at hx
      rcases hx with hx | rfl
      · exact h.lt x hx
      · exact ⟨h1.1, hc⟩
  · exact h
theorem addC_len (l : List Int) (c : Int) : l.length ≤ (addC l c).length := by
  unfold addC; split <;> simp
theorem visitK_succ {R : List Pt} {l : List Int} {k : Nat} (hk : k < R.length) : visitK R l (k + 1) = addC (visitK R l k) (R.getD k default).1 := by
  unfold visitK
  rw [List.take_add_one, List.getElem?_eq_getElem hk, List.getD_eq_getElem?_getD, List.getElem?_eq_getElem hk, List.foldl_append]
  rfl
theorem visitK_0 (R : List Pt) (l : List Int) : visitK R l 0 = l := by simp [visitK]
theorem Fnd.visitK {n : Nat} {l : List Int} (h : Fnd n l) {R : List Pt} (hR : ∀ p ∈ R, p.1 < n) (k : Nat) : Fnd n (visitK R l k) := by
  induction k with
  | zero => rw [visitK_0]; exact h
  | succ k ih =>
    by_cases hk : k < R.length
    · rw [visitK_succ hk]
      refine ih.add (hR _ ?_)
      rw [List.getD_eq_getElem?_getD, List.getElem?_eq_getElem hk]; exact List.getElem_mem hk
    · have : Go.Proofs.Ytcebejcdfdahjaa.visitK R l (k + 1) = Go.Proofs.Ytcebejcdfdahjaa.visitK R l k := by
        unfold Go.Proofs.Ytcebejcdfdahjaa.visitK
        rw [List.take_of_length_le (by omega), List.take_of_length_le (by omega)]
      rw [this]; exact ih
theorem visitK_len (R : List Pt) (l : List Int) (k : Nat) : l.length ≤ (visitK R l k).length := by
  unfold visitK
  generalize R.take k = R'
  induction R' generalizing l with
  | nil => exact Nat.le_refl _
  | cons p r ih => exact Nat.le_trans (addC_len l p.1) (ih _)
theorem visitK_pre (R : List Pt) (l : List Int) (k : Nat) : l <+: visitK R l k := by
  unfold visitK
  generalize R.take k = R'
  induction R' generalizing l with
  | nil => exact List.prefix_refl _
  | cons p r ih =>
    refine List.IsPrefix.trans ?_ (ih (addC l p.1))
    unfold addC
    split
    · exact List.prefix_append _ _
    · exact List.prefix_refl _
theorem walkF_done {row : Int → List Pt} {f i : Nat} {l : List Int} (h : l.length ≤ i) : walkF row f i l = l := by
  cases f with
  | zero => rfl
  | succ f => rw [walkF, if_neg (by omega)]
theorem walkF_step {row : Int → List Pt} {f i : Nat} {l : List Int} (h : i < l.length) : walkF row (f + 1) i l = walkF row f (i + 1) (visit (row (l.getD i 0)) l) := by
  rw [walkF, if_pos h]
/-! ### Where the walk found the cells -/
def fdOf (n : Nat) (l : List Int) : List Int := (List.range n).map fun (c : Nat) => if (c : Int) ∈ l then (l.idxOf (c : Int) : Int) else -1
theorem fdOf_len (n : Nat) (l : List Int) : (fdOf n l).length = n := by simp [fdOf]
theorem fdOf_nil (n : Nat) : fdOf n [] = List.replicate n (-1) := by
  refine List.ext_getElem (by simp [fdOf]) fun i h1 h2 => ?_
  simp [fdOf]
theorem fdOf_at {n : Nat} {l : List Int} {c : Nat} (hc : c < n) : (fdOf n l).getD c 0 = if (c : Int) ∈ l then (l.idxOf (c : Int) : Int) else -1 := by
  simp [fdOf, hc]
theorem fdOf_neg {n : Nat} {l : List Int} {c : Nat} (hc : c < n) : (fdOf n l).getD c 0 < 0 ↔ (c : Int) ∉ l := by
  rw [fdOf_at hc]
  by_cases h : (c : Int) ∈ l
  · rw [if_pos h]; constructor
    · intro h2; omega
    · intro h2; exact absurd h h2
  · rw [if_neg h]; simp [h]
theorem fdOf_snoc {n : Nat} {l : List Int} {c : Nat} (hc : c < n) (h : (c : Int) ∉ l) : fdOf n (l ++ [(c : Int)]) = (fdOf n l).set c (l.length : Int) := by
  refine List.ext_getElem (by simp [fdOf]) fun i h1 h2 => ?_
  simp only [fdOf, List.getElem_map, List.getElem_range, List.getElem_set]
  by_cases e : c = i
  · subst e
    rw [if_pos rfl, if_pos (by simp), List.idxOf_append, if_neg h]
    simp
  · rw [if_neg e]
    have hne : (i : Int) ≠ (c : Int) := by omega
    by_cases hi : (i : Int) ∈ l
    · rw [if_pos (by simp [hi]), if_pos hi, List.idxOf_append, if_pos hi]
    · rw [if_neg (by simp [hi, hne]), if_neg hi]
theorem addC_fd {n : Nat} {l : List Int} {c : Nat} (hc : c < n) : (fdOf n l).getD c 0 < 0 → addC l (c : Int) = l ++ [(c : Int)] ∧ fdOf n (addC l (c : Int)) = (fdOf n l).set c (l.length : Int) := fun h => by
  have hn := (fdOf_neg hc).1 h
  have e : addC l (c : Int) = l ++ [(c : Int)] := by unfold addC; rw [if_pos ⟨by omega, hn⟩]
  exact ⟨e, by rw [e, fdOf_snoc hc hn]⟩
theorem addC_no {n : Nat} {l : List Int} {c : Nat} (hc : c < n) (h : ¬ (fdOf n l).getD c 0 < 0) : addC l (c : Int) = l := by
  have hn : (c : Int) ∈ l := by
    rcases Classical.em ((c : Int) ∈ l) with h' | h'
    · exact h'
    · exact absurd ((fdOf_neg hc).2 h') h
  unfold addC
  rw [if_neg (fun h' => h'.2 hn)]
theorem addC_neg {l : List Int} {c : Int} (hc : c < 0) : addC l c = l := by unfold addC; rw [if_neg (by omega)]
/-- The marks taken away again, one by one. -/
def fdK (n : Nat) (l : List Int) (j : Nat) : List Int := (List.range n).map fun (c : Nat) => if (c : Int) ∈ l ∧ (c : Int) ∉ l.take j then (l.idxOf (c : Int) : Int) else -1
theorem fdK_len (n : Nat) (l : List Int) (j : Nat) : (fdK n l j).length = n := by simp [fdK]
theorem fdK_0 (n : Nat) (l : List Int) : fdK n l 0 = fdOf n l := by simp [fdK, fdOf]
theorem fdK_all (n : Nat) (l : List Int) : fdK n l l.length = fdOf n [] := by
  refine List.ext_getElem (by simp [fdK, fdOf]) fun i h1 h2 => ?_
  simp only [fdK, fdOf, List.getElem_map, List.getElem_range, List.take_length]
  rw [if_neg (fun h => h.2 h.1)]; simp
theorem fdK_succ {n : Nat} {l : List Int} {j c : Nat} (hj : j < l.length) (e : l.getD j 0 = (c : Int)) : fdK n l (j + 1) = (fdK n l j).set c (-1) := by
  refine List.ext_getElem (by simp [fdK]) fun i h1 h2 => ?_
  have hm : ∀ x : Int, x ∈ l.take (j + 1) ↔ x ∈ l.take j ∨ x = l.getD j 0 := fun x => by
    rw [List.take_add_one, List.getElem?_eq_getElem hj, List.getD_eq_getElem?_getD, List.getElem?_eq_getElem hj, List.mem_append]; simp only [Option.toList_some, List.mem_singleton, Option.getD_some]
  simp only [fdK, List.getElem_map, List.getElem_range, List.getElem_set]
  by_cases h : c = i
  · subst h
    rw [if_pos rfl, if_neg]
    rintro ⟨_, h'⟩
    exact h' ((hm _).2 (.inr e.symm))
  · rw [if_neg h]
    have : ((i : Int) ∈ l.take (j + 1)) ↔ (i : Int) ∈ l.take j := by
      rw [hm, e]; simp only [or_iff_left_iff_imp]; intro h'; omega
    simp only [this]
/-! ### The code -/
def markN0 (fd : List Int) (p : Pt) : Int := if p.1 < 0 then -1 - p.2 else 8 * fd.getD p.1.toNat 0 + p.2
/-- The part of the code for cell c. -/
def cellC (cs : List Int) (row : Int → List Pt) (fd : List Int) (c : Int) : List Int := cs.getD c.toNat 0 :: (row c).map (markN0 fd)
def codeK (cs : List Int) (row : Int → List Pt) (fd : List Int) (p : Pt) (l : List Int) : List Int := markN0 fd p :: l.flatMap (cellC cs row fd)
theorem codeK_len {cs : List Int} {row : Int → List Pt} {fd : List Int} {p : Pt} {l : List Int} (h : ∀ c ∈ l, (row c).length ≤ 7) : (codeK cs row fd p l).length ≤ 1 + 8 * l.length := by
  have : (l.flatMap (cellC cs row fd)).length ≤ 8 * l.length := by
    induction l with
    | nil => simp
    | cons c r ih =>
      have h1 := h c (by simp)
      have h2 := ih fun x hx => h x (by simp [hx])
      simp only [List.flatMap_cons, List.length_append, cellC, List.length_cons, List.length_map]
      omega
  simp only [codeK, List.length_cons]; omega
/-- The port at which a walk begins. -/
def startP (Lk : Pt → Pt) (p : Pt) : Pt := if p.1 < 0 then Lk p else p
def walkL (n : Nat) (row : Int → List Pt) (c : Int) : List Int := walkF row (n + 1) 0 (addC [] c)
def codeN (pn : Int → Nat) (cs : List Int) (Lk : Pt → Pt) (p : Pt) : List Int :=
  codeK cs (rowP pn cs Lk) (fdOf cs.length (walkL cs.length (rowP pn cs Lk) (startP Lk p).1)) (startP Lk p) (walkL cs.length (rowP pn cs Lk) (startP Lk p).1)
theorem Fnd.walkF {n : Nat} {row : Int → List Pt} (hR : ∀ c p, p ∈ row c → p.1 < n) (f i : Nat) {l : List Int} (h : Fnd n l) : Fnd n (walkF row f i l) := by
  induction f generalizing i l with
  | zero => exact h
  | succ f ih =>
    rw [Go.Proofs.Ytcebejcdfdahjaa.walkF]
    split
    · exact ih _ (h.visitK (hR _) _)
    · exact h
theorem updL_at (Lk : Pt → Pt) (a b p : Pt) : (fun x => if x = a then b else Lk x) p = if p = a then b else Lk p := rfl
end Go.Proofs.Ytcebejcdfdahjaa
