/-
  What a list of seen numbers holds. (Split off from Each.)
-/
import Derived.Test.YtkonfogebepccaaGreatDoorRef03K
namespace Go.Proofs.YtkonfogebepccaaGreatDoor
open Go.RowKit
attribute [local go_sem] cell_set
set_option maxRecDepth 100000
set_option linter.unusedVariables false

theorem bool_info : (Tryz.prog.info? 4).map (fun i => (i.zero, i.size, i.bytes)) = some (some (.bool false), 1, 1) := by kernel_rfl
def bvals (l : List Bool) : List Value := l.map Value.bool
theorem bvals_set (l : List Bool) (j : Nat) (x : Bool) : (bvals l).set j (.bool x) = bvals (l.set j x) := by simp [bvals, List.map_set]
theorem bvals_replicate (n : Nat) : bvals (List.replicate n false) = List.replicate n (.bool false) := by simp [bvals]
instance (l : List Int) (most : Nat) : Decidable (eachN l most) := by unfold eachN; infer_instance
end Go.Proofs.YtkonfogebepccaaGreatDoor
