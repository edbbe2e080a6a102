/-
  'for x := range f' where each round lays a box for its variable: the law of XRange, the assignment laying one block.
-/
import Derived.Test.YtkonfogebepccaaDoorRange
import Derived.Test.YtkonfogebepccaaDoorMaps
import Derived.RangeFuncBox
namespace Go.Proofs.YtkonfogebepccaaDoor
open Go.RowKit
set_option linter.unusedVariables false

theorem KQ.alloc {Q : List Nat} {A B : World} (h : KQ Q A B) (hQ : ∀ b ∈ Q, b < A.heap.size) (o : Obj) : KQ Q A (B.alloc o) :=
  ⟨by have := h.size; simp; omega, fun b hb => (Below.heap_alloc B o b (Nat.lt_of_lt_of_le (hQ b hb) h.size)).trans (h.same b hb)⟩
theorem KQ.below {Q : List Nat} {A B : World} (hb : Below A.heap.size A B) (hQ : ∀ b ∈ Q, b < A.heap.size) : KQ Q A B := ⟨hb.size, fun b h => hb.block b (hQ b h)⟩
theorem KQ.kp {Q F : List Nat} {A B : World} (h : Kp F A B) (hQ : ∀ b ∈ Q, b < A.heap.size ∧ b ∉ F) : KQ Q A B := ⟨h.size, fun b hb => h.block b (hQ b hb).1 (hQ b hb).2⟩

end Go.Proofs.YtkonfogebepccaaDoor
