/-
  'for x := range f': the kit's law over an iterator that stops, without fences, the frame of a round told by a function of the frame at the loop.
-/
import Derived.RangeFuncWrites
import Derived.RangeFuncBox
import Derived.RangeFuncLeaves
import Derived.RangeFuncCalls
namespace Go.Proofs.Ytogbanlfihabpaa
open Go.RowKit

/-- What an iterator over a slice wants kept: the blocks Q. -/
structure KQ (Q : List Nat) (W W' : World) : Prop where
  size : W.heap.size ≤ W'.heap.size
  same : ∀ b ∈ Q, W'.heap[b]? = W.heap[b]?
theorem KQ.refl (Q : List Nat) (A : World) : KQ Q A A := ⟨Nat.le_refl _, fun _ _ => rfl⟩
theorem KQ.trans {Q : List Nat} {A B C : World} (h : KQ Q A B) (k : KQ Q B C) : KQ Q A C := ⟨Nat.le_trans h.size k.size, fun b hb => (k.same b hb).trans (h.same b hb)⟩
theorem KQ.sub {Q R : List Nat} {A B : World} (h : KQ Q A B) (hR : ∀ b ∈ R, b ∈ Q) : KQ R A B := ⟨h.size, fun b hb => h.same b (hR b hb)⟩
theorem KQ.setCell {Q : List Nat} {A B : World} (h : KQ Q A B) {p : Addr} (hp : p.block ∉ Q) (u : Value) : KQ Q A (B.setCell p u) :=
  ⟨by simpa using h.size, fun b hb => (Below.heap_setCell B p u b (fun e => hp (e ▸ hb))).trans (h.same b hb)⟩
theorem KQ.book {Q : List Nat} {n0 : Nat} (hQ : ∀ b ∈ Q, b < n0) (W : World) (l : Nat) (o o' : Obj) (hl : n0 ≤ l) (_ : W.heap[l]? = some o) (_ : o.isCells = false) (_ : o.isWalk = false) : KQ Q W (W.putObj l o') :=
  ⟨by simp, fun b hb => World.putObj_heap_other (fun e => by have := hQ b hb; omega)⟩
theorem KQ.cell {Q : List Nat} {w w' : World} (h : KQ Q w w') {p : Addr} (hp : p.block ∈ Q) : w'.cell? p = w.cell? p := World.cell?_of_block (h.same _ hp)
theorem KQ.frozen {Q : List Nat} {w w' : World} (h : KQ Q w w') {p : Addr} (hp : p.block ∈ Q) : w'.frozen? p = w.frozen? p := World.frozen?_of_block (h.same _ hp)

end Go.Proofs.Ytogbanlfihabpaa
