/-
  A row that 'make' made; of each port's place the place of its partner. (Split off from Ref03L, for seats that lack skeinref03.Links.)
-/
import Derived.Test.YtkonfogebepccaaDoorRef03A
namespace Go.Proofs.YtkonfogebepccaaDoor
open Go.RowKit
attribute [local go_sem] cell_set
set_option maxRecDepth 100000
set_option linter.unusedVariables false

/-- A row that 'make' made. -/
theorem Row.made (w : World) (e : TypeId) (z : Value) (n : Nat) (h63 : n ≤ maxLen) : Row (w.alloc (.cells (madeCells #[z] n) e)) e 1 (.slice (some ⟨w.heap.size, 0, none⟩) n n) n (List.replicate n z) :=
  ⟨by simp, .inr ⟨w.heap.size, n, _, rfl, heap_alloc_new w _, Nat.le_refl _, h63, by simp [size_madeCells], by rw [toList_madeCells_one]; simp⟩⟩
end Go.Proofs.YtkonfogebepccaaDoor
