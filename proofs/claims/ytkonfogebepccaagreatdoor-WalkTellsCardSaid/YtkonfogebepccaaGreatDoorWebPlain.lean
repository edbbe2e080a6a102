/-
  Plain: the walk over a web, the places at which it finds the cells, the code.
-/
import Derived.Test.YtkonfogebepccaaGreatDoorNetPlainK
import Derived.Test.YtkonfogebepccaaGreatDoorNetMove
/-
  Plain: links of tidy nets, of nets renumbered; there and back (the theorems are in NetPlainK).
-/

namespace Go.Proofs.YtkonfogebepccaaGreatDoor
set_option linter.unusedVariables false

/-- A cell that is found: laid behind the list, once. -/
def addC (l : List Int) (c : Int) : List Int := if 0 ≤ c ∧ c ∉ l then l ++ [c] else l
def rowP (pn : Int → Nat) (cs : List Int) (Lk : Pt → Pt) (c : Int) : List Pt := (List.range (pn (cs.getD c.toNat 0))).map fun (k : Nat) => Lk (c, (k : Int))
def visitK (R : List Pt) (l : List Int) (k : Nat) : List Int := (R.take k).foldl (fun l p => addC l p.1) l
def visit (R : List Pt) (l : List Int) : List Int := visitK R l R.length
def walkF (row : Int → List Pt) : Nat → Nat → List Int → List Int
  | 0, _, l => l
  | f + 1, i, l => if i < l.length then walkF row f (i + 1) (visit (row (l.getD i 0)) l) else l
/-- The cells of a net that are found, all numbers below n. -/
structure Fnd (n : Nat) (l : List Int) : Prop where
  nd : l.Nodup
  lt : ∀ x ∈ l, 0 ≤ x ∧ x < n
theorem Fnd.len {n : Nat} {l : List Int} (h : Fnd n l) : l.length ≤ n := nodup_lt h.nd h.lt
theorem Fnd.nil (n : Nat) : Fnd n [] := ⟨List.nodup_nil, by simp⟩
theorem Fnd.add {n : Nat} {l : List Int} (h : Fnd n l) {c : Int} (hc : c < n) : Fnd n (addC l c) := by
  unfold addC
  split
  · rename_i h1
    refine ⟨List.nodup_append.2 ⟨h.nd, by simp, fun a ha b hb => ?_⟩, fun x hx => ?_⟩
    · simp only [List.mem_singleton] at hb; subst hb; exact fun e => h1.2 (e ▸ ha)
    · simp only [List.mem_append, List.mem_singleton] at hx
      rcases hx with hx | rfl
      · exact h.lt x hx
      · exact ⟨h1.1, hc⟩
  · exact h
theorem visitK_succ {R : List Pt} {l : List Int} {k : Nat} (hk : k < R.length) : visitK R l (k + 1) = addC (visitK R l k) (R.getD k default).1 := by
  unfold visitK
  rw [List.take_add_one, List.getElem?_eq_getElem hk, List.getD_eq_getElem?_getD, List.getElem?_eq_getElem hk, List.foldl_append]
  rfl
theorem visitK_0 (R : List Pt) (l : List Int) : visitK R l 0 = l := by simp [visitK]
theorem Fnd.visitK {n : Nat} {l : List Int} (h : Fnd n l) {R : List Pt} (hR : ∀ p ∈ R, p.1 < n) (k : Nat) : Fnd n (visitK R l k) := by
  induction k with
  | zero => rw [visitK_0]; exact h
  | succ k ih =>
    by_cases hk : k < R.length
    · rw [visitK_succ hk]
      refine ih.add (hR _ ?_)
      rw [List.getD_eq_getElem?_getD, List.getElem?_eq_getElem hk]; exact List.getElem_mem hk
    · have : Go.Proofs.YtkonfogebepccaaGreatDoor.visitK R l (k + 1) = Go.Proofs.YtkonfogebepccaaGreatDoor.visitK R l k := by
        unfold Go.Proofs.YtkonfogebepccaaGreatDoor.visitK
        rw [List.take_of_length_le (by omega), List.take_of_length_le (by omega)]
      rw [this]; exact ih
theorem visitK_pre (R : List Pt) (l : List Int) (k : Nat) : l <+: visitK R l k := by
  unfold visitK
  generalize R.take k = R'
  induction R' generalizing l with
  | nil => exact List.prefix_refl _
  | cons p r ih =>
    refine List.IsPrefix.trans ?_ (ih (addC l p.1))
    unfold addC
    split
    · exact List.prefix_append _ _
    · exact List.prefix_refl _
theorem walkF_done {row : Int → List Pt} {f i : Nat} {l : List Int} (h : l.length ≤ i) : walkF row f i l = l := by
  cases f with
  | zero => rfl
  | succ f => rw [walkF, if_neg (by omega)]
theorem walkF_step {row : Int → List Pt} {f i : Nat} {l : List Int} (h : i < l.length) : walkF row (f + 1) i l = walkF row f (i + 1) (visit (row (l.getD i 0)) l) := by
  rw [walkF, if_pos h]
/-! ### Where the walk found the cells -/
theorem addC_neg {l : List Int} {c : Int} (hc : c < 0) : addC l c = l := by unfold addC; rw [if_neg (by omega)]
/-! ### The code -/
def markN0 (fd : List Int) (p : Pt) : Int := if p.1 < 0 then -1 - p.2 else 8 * fd.getD p.1.toNat 0 + p.2
/-- The part of the code for cell c. -/
def cellC (cs : List Int) (row : Int → List Pt) (fd : List Int) (c : Int) : List Int := cs.getD c.toNat 0 :: (row c).map (markN0 fd)
def codeK (cs : List Int) (row : Int → List Pt) (fd : List Int) (p : Pt) (l : List Int) : List Int := markN0 fd p :: l.flatMap (cellC cs row fd)
/-- The port at which a walk begins. -/
def startP (Lk : Pt → Pt) (p : Pt) : Pt := if p.1 < 0 then Lk p else p
def walkL (n : Nat) (row : Int → List Pt) (c : Int) : List Int := walkF row (n + 1) 0 (addC [] c)
theorem Fnd.walkF {n : Nat} {row : Int → List Pt} (hR : ∀ c p, p ∈ row c → p.1 < n) (f i : Nat) {l : List Int} (h : Fnd n l) : Fnd n (walkF row f i l) := by
  induction f generalizing i l with
  | zero => exact h
  | succ f ih =>
    rw [Go.Proofs.YtkonfogebepccaaGreatDoor.walkF]
    split
    · exact ih _ (h.visitK (hR _) _)
    · exact h
end Go.Proofs.YtkonfogebepccaaGreatDoor
