/-
  Plain: the partners so far, as two lists; what skeinlaw12.alike asks of them.
-/
import Derived.Test.YtcebejcdfdahjaaSamePlain
namespace Go.Proofs.Ytcebejcdfdahjaa
set_option linter.unusedVariables false

/-- Of each cell its partner's number and one; 0: it has none. -/
def toL (n : Nat) (dA dB : List Int) : List Int := (List.range n).map fun (c : Nat) => if (c : Int) ∈ dA then dB.getD (dA.idxOf (c : Int)) 0 + 1 else 0
theorem toL_len (n : Nat) (dA dB : List Int) : (toL n dA dB).length = n := by simp [toL]
theorem toL_nil (n : Nat) : toL n [] [] = List.replicate n 0 := by
  refine List.ext_getElem (by simp [toL]) fun i h1 h2 => ?_
  simp [toL]
theorem toL_at {n : Nat} {dA dB : List Int} {c : Nat} (hc : c < n) : (toL n dA dB).getD c 0 = if (c : Int) ∈ dA then dB.getD (dA.idxOf (c : Int)) 0 + 1 else 0 := by simp [toL, hc]
structure Par (n m : Nat) (dA dB : List Int) : Prop where
  na : dA.Nodup
  nb : dB.Nodup
  len : dA.length = dB.length
  la : ∀ x ∈ dA, 0 ≤ x ∧ x < n
  lb : ∀ x ∈ dB, 0 ≤ x ∧ x < m
theorem Par.nil (n m : Nat) : Par n m [] [] := ⟨List.nodup_nil, List.nodup_nil, rfl, by simp, by simp⟩
theorem Par.swap {n m : Nat} {dA dB : List Int} (h : Par n m dA dB) : Par m n dB dA := ⟨h.nb, h.na, h.len.symm, h.lb, h.la⟩
theorem Par.cap {n m : Nat} {dA dB : List Int} (h : Par n m dA dB) : dA.length ≤ n := nodup_lt h.na h.la
theorem getD_get {l : List Int} {i : Nat} (hi : i < l.length) : l.getD i 0 = l[i] := by simp [List.getD_eq_getElem?_getD, hi]
theorem idx_get {l : List Int} {x : Int} (h : l.idxOf x < l.length) : l.getD (l.idxOf x) 0 = x := by
  rw [getD_get h, List.getElem_idxOf]
theorem Par.to_ne {n m : Nat} {dA dB : List Int} (h : Par n m dA dB) {c : Nat} (hc : c < n) : (toL n dA dB).getD c 0 ≠ 0 ↔ (c : Int) ∈ dA := by
  rw [toL_at hc]
  by_cases hm : (c : Int) ∈ dA
  · rw [if_pos hm]
    have hi := List.idxOf_lt_length_iff.2 hm
    have hi2 : dA.idxOf (c : Int) < dB.length := by rw [← h.len]; exact hi
    have := (h.lb _ (List.getElem_mem hi2)).1
    rw [getD_get hi2]
    constructor
    · intro _; exact hm
    · intro _; omega
  · rw [if_neg hm]; simp [hm]
theorem Par.rng {n m : Nat} {dA dB : List Int} (h : Par n m dA dB) {c : Nat} (hc : c < n) : 0 ≤ (toL n dA dB).getD c 0 ∧ (toL n dA dB).getD c 0 ≤ m := by
  rw [toL_at hc]
  by_cases hm : (c : Int) ∈ dA
  · rw [if_pos hm]
    have hi := List.idxOf_lt_length_iff.2 hm
    have hi2 : dA.idxOf (c : Int) < dB.length := by rw [← h.len]; exact hi
    have := h.lb _ (List.getElem_mem hi2)
    rw [getD_get hi2]
    omega
  · rw [if_neg hm]; omega
/-- The law's test is the walk's. -/
theorem Par.test {n m : Nat} {dA dB : List Int} (h : Par n m dA dB) {c d : Nat} (hc : c < n) (hd : d < m) :
    (((toL n dA dB).getD c 0 ≠ 0 ∧ (toL n dA dB).getD c 0 ≠ (d : Int) + 1) ∨ ((toL m dB dA).getD d 0 ≠ 0 ∧ (toL m dB dA).getD d 0 ≠ (c : Int) + 1)) ↔ dA.idxOf (c : Int) ≠ dB.idxOf (d : Int) := by
  have t1 := h.to_ne hc
  have t2 := h.swap.to_ne hd
  have v1 := toL_at (dA := dA) (dB := dB) hc
  have v2 := toL_at (dA := dB) (dB := dA) hd
  have hle : dA.idxOf (c : Int) ≤ dA.length := List.idxOf_le_length
  by_cases hm : (c : Int) ∈ dA
  · have hi := List.idxOf_lt_length_iff.2 hm
    have hi2 : dA.idxOf (c : Int) < dB.length := by rw [← h.len]; exact hi
    rw [if_pos hm] at v1
    by_cases hm2 : (d : Int) ∈ dB
    · have hj := List.idxOf_lt_length_iff.2 hm2
      have hj2 : dB.idxOf (d : Int) < dA.length := by rw [h.len]; exact hj
      rw [if_pos hm2] at v2
      constructor
      · rintro (⟨_, h2⟩ | ⟨_, h2⟩) e
        · rw [v1, e, idx_get hj] at h2; exact h2 rfl
        · rw [v2, ← e, idx_get hi] at h2; exact h2 rfl
      · intro e
        refine .inl ⟨t1.2 hm, fun h2 => e ?_⟩
        rw [v1, getD_get hi2] at h2
        have h3 : dB[dA.idxOf (c : Int)] = (d : Int) := by omega
        rw [← h3, h.nb.idxOf_getElem]
    · have hj : dB.idxOf (d : Int) = dB.length := List.idxOf_eq_length hm2
      constructor
      · intro _; rw [hj, ← h.len]; omega
      · intro _
        refine .inl ⟨t1.2 hm, fun h2 => hm2 ?_⟩
        rw [v1, getD_get hi2] at h2
        have h3 : dB[dA.idxOf (c : Int)] = (d : Int) := by omega
        rw [← h3]; exact List.getElem_mem hi2
  · have hi : dA.idxOf (c : Int) = dA.length := List.idxOf_eq_length hm
    rw [if_neg hm] at v1
    by_cases hm2 : (d : Int) ∈ dB
    · have hj := List.idxOf_lt_length_iff.2 hm2
      have hj2 : dB.idxOf (d : Int) < dA.length := by rw [h.len]; exact hj
      rw [if_pos hm2] at v2
      constructor
      · intro _; rw [hi]; omega
      · intro _
        refine .inr ⟨t2.2 hm2, fun h2 => hm ?_⟩
        rw [v2, getD_get hj2] at h2
        have h3 : dA[dB.idxOf (d : Int)] = (c : Int) := by omega
        rw [← h3]; exact List.getElem_mem hj2
    · have hj : dB.idxOf (d : Int) = dB.length := List.idxOf_eq_length hm2
      constructor
      · rintro (⟨h1, _⟩ | ⟨h1, _⟩)
        · exact absurd (t1.1 h1) hm
        · exact absurd (t2.1 h1) hm2
      · intro e; rw [hi, hj, h.len] at e; exact absurd rfl e
theorem toL_snoc {n : Nat} {dA dB : List Int} {c : Nat} {q : Int} (hc : c < n) (hm : (c : Int) ∉ dA) (hl : dA.length = dB.length) : toL n (dA ++ [(c : Int)]) (dB ++ [q]) = (toL n dA dB).set c (q + 1) := by
  refine List.ext_getElem (by simp [toL]) fun i h1 h2 => ?_
  simp only [toL, List.getElem_map, List.getElem_range, List.getElem_set]
  by_cases e : c = i
  · subst e
    rw [if_pos rfl, if_pos (by simp), List.idxOf_append, if_neg hm]
    simp [hl]
  · rw [if_neg e]
    have hne : ¬ (i : Int) = (c : Int) := by omega
    by_cases hi : (i : Int) ∈ dA
    · have hlt := List.idxOf_lt_length_iff.2 hi
      rw [if_pos (by simp [hi]), if_pos hi, List.idxOf_append, if_pos hi]
      simp [List.getD_eq_getElem?_getD, List.getElem?_append_left (show dA.idxOf (i : Int) < dB.length by omega)]
    · rw [if_neg (by simp [hi, hne]), if_neg hi]
theorem Par.add {n m : Nat} {dA dB : List Int} (h : Par n m dA dB) {c d : Nat} (hc : c < n) (hd : d < m) (hm : (c : Int) ∉ dA) (hm2 : (d : Int) ∉ dB) : Par n m (dA ++ [(c : Int)]) (dB ++ [(d : Int)]) := by
  refine ⟨List.nodup_append.2 ⟨h.na, by simp, fun a ha b hb => ?_⟩, List.nodup_append.2 ⟨h.nb, by simp, fun a ha b hb => ?_⟩, by simp [h.len], fun x hx => ?_, fun x hx => ?_⟩
  · rw [List.mem_singleton] at hb; subst hb; exact fun e => hm (e ▸ ha)
  · rw [List.mem_singleton] at hb; subst hb; exact fun e => hm2 (e ▸ ha)
  · rcases List.mem_append.1 hx with hx | hx
    · exact h.la x hx
    · rw [List.mem_singleton] at hx; subst hx; omega
  · rcases List.mem_append.1 hx with hx | hx
    · exact h.lb x hx
    · rw [List.mem_singleton] at hx; subst hx; omega
theorem Par.both {n m : Nat} {dA dB : List Int} (h : Par n m dA dB) {c d : Int} (e : ¬ dA.idxOf c ≠ dB.idxOf d) (hm : c ∉ dA) : d ∉ dB := fun h2 => by
  have e' : dA.idxOf c = dB.idxOf d := Classical.byContradiction e
  have hj := List.idxOf_lt_length_iff.2 h2
  rw [← e', List.idxOf_eq_length hm, h.len] at hj
  omega
/-! ### The walk's steps -/
section
variable {labA labB : Int → Int} {rowA rowB : Int → List Pt} {f : Nat} {p q : Pt} {Q : List (Pt × Pt)} {dA dB : List Int}
theorem alk_nil : alk labA labB rowA rowB f [] dA dB = true := by cases f <;> rfl
theorem alk_free (h : p.1 < 0 ∨ q.1 < 0) : alk labA labB rowA rowB (f + 1) ((p, q) :: Q) dA dB = if p = q then alk labA labB rowA rowB f Q dA dB else false := by rw [alk, if_pos h]
theorem alk_bad (h : ¬ (p.1 < 0 ∨ q.1 < 0)) (hc : p.2 ≠ q.2 ∨ labA p.1 ≠ labB q.1 ∨ dA.idxOf p.1 ≠ dB.idxOf q.1) : alk labA labB rowA rowB (f + 1) ((p, q) :: Q) dA dB = false := by rw [alk, if_neg h, if_pos hc]
theorem alk_old (h : ¬ (p.1 < 0 ∨ q.1 < 0)) (hc : ¬ (p.2 ≠ q.2 ∨ labA p.1 ≠ labB q.1 ∨ dA.idxOf p.1 ≠ dB.idxOf q.1)) (hm : p.1 ∈ dA) : alk labA labB rowA rowB (f + 1) ((p, q) :: Q) dA dB = alk labA labB rowA rowB f Q dA dB := by rw [alk, if_neg h, if_neg hc, if_pos hm]
theorem alk_new (h : ¬ (p.1 < 0 ∨ q.1 < 0)) (hc : ¬ (p.2 ≠ q.2 ∨ labA p.1 ≠ labB q.1 ∨ dA.idxOf p.1 ≠ dB.idxOf q.1)) (hm : p.1 ∉ dA) : alk labA labB rowA rowB (f + 1) ((p, q) :: Q) dA dB = alk labA labB rowA rowB f (Q ++ (rowA p.1).zip (rowB q.1)) (dA ++ [p.1]) (dB ++ [q.1]) := by rw [alk, if_neg h, if_neg hc, if_neg hm]
end
end Go.Proofs.Ytcebejcdfdahjaa
