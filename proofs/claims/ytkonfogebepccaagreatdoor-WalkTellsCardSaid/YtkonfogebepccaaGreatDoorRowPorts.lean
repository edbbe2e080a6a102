/-
  Rows of ports and of ints that 'make' makes; a list of ints, filled so far.
-/
import Derived.Test.YtkonfogebepccaaGreatDoorRef03K
import Derived.Test.YtkonfogebepccaaGreatDoorNetPlainK
namespace Go.Proofs.YtkonfogebepccaaGreatDoor
open Go.RowKit
attribute [local go_sem] cell_set
set_option maxRecDepth 100000
set_option linter.unusedVariables false

/-- A list that is written from its head on. -/
def partL (l : List Int) (k : Nat) : List Int := l.take k ++ List.replicate (l.length - k) 0
theorem partL_0 (l : List Int) : partL l 0 = List.replicate l.length 0 := by simp [partL]
theorem partL_all (l : List Int) : partL l l.length = l := by simp [partL]
theorem partL_succ {l : List Int} {k : Nat} (h : k < l.length) : partL l (k + 1) = (partL l k).set k (l.getD k 0) := by
  have e : l.length - k = (l.length - (k + 1)) + 1 := by omega
  unfold partL
  rw [e, List.replicate_succ, List.set_append_right _ _ (by simp; omega)]
  simp only [List.length_take]
  rw [show k - min k l.length = 0 by omega, List.set_cons_zero, List.take_add_one, List.getElem?_eq_getElem h]
  simp only [List.getD_eq_getElem?_getD, List.getElem?_eq_getElem h, Option.toList_some, Option.getD_some, List.append_assoc, List.singleton_append]
theorem partL_alln {l : List Int} {n : Nat} (h : l.length = n) : partL l n = l := h ▸ partL_all l
end Go.Proofs.YtkonfogebepccaaGreatDoor
