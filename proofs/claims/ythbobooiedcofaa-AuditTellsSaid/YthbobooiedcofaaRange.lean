/-
  'for x := range f': the kit's law over an iterator that stops, without fences, the frame of a round told by a function of the frame at the loop.
-/
import Derived.RangeFuncWrites
import Derived.RangeFuncBox
import Derived.RangeFuncLeaves
import Derived.RangeFuncCalls
namespace Go.Proofs.Ythbobooiedcofaa
open Go.RowKit

/-- What an iterator over a slice wants kept: the blocks Q. -/
structure KQ (Q : List Nat) (W W' : World) : Prop where
  size : W.heap.size ≤ W'.heap.size
  same : ∀ b ∈ Q, W'.heap[b]? = W.heap[b]?
theorem KQ.refl (Q : List Nat) (A : World) : KQ Q A A := ⟨Nat.le_refl _, fun _ _ => rfl⟩
theorem KQ.trans {Q : List Nat} {A B C : World} (h : KQ Q A B) (k : KQ Q B C) : KQ Q A C := ⟨Nat.le_trans h.size k.size, fun b hb => (k.same b hb).trans (h.same b hb)⟩
theorem KQ.sub {Q R : List Nat} {A B : World} (h : KQ Q A B) (hR : ∀ b ∈ R, b ∈ Q) : KQ R A B := ⟨h.size, fun b hb => h.same b (hR b hb)⟩
theorem KQ.setCell {Q : List Nat} {A B : World} (h : KQ Q A B) {p : Addr} (hp : p.block ∉ Q) (u : Value) : KQ Q A (B.setCell p u) :=
  ⟨by simpa using h.size, fun b hb => (Below.heap_setCell B p u b (fun e => hp (e ▸ hb))).trans (h.same b hb)⟩
theorem KQ.book {Q : List Nat} {n0 : Nat} (hQ : ∀ b ∈ Q, b < n0) (W : World) (l : Nat) (o o' : Obj) (hl : n0 ≤ l) (_ : W.heap[l]? = some o) (_ : o.isCells = false) (_ : o.isWalk = false) : KQ Q W (W.putObj l o') :=
  ⟨by simp, fun b hb => World.putObj_heap_other (fun e => by have := hQ b hb; omega)⟩
theorem KQ.cell {Q : List Nat} {w w' : World} (h : KQ Q w w') {p : Addr} (hp : p.block ∈ Q) : w'.cell? p = w.cell? p := World.cell?_of_block (h.same _ hp)
theorem KQ.frozen {Q : List Nat} {w w' : World} (h : KQ Q w w') {p : Addr} (hp : p.block ∈ Q) : w'.frozen? p = w.frozen? p := World.frozen?_of_block (h.same _ hp)

theorem rf {P : Program} {α : Type} {g : Operand} {ps : Array Tmp} {assign body : Code} {Q : Exit → Act → World → Prop} {a : Act} {w : World}
    {gf : Nat} {lb : Array Value} (hg : a.eval g = .func (.func gf) #[] lb) (eg : ∀ args w, (callFunc gf args).run P w = .ok (.enter gf args) w)
    {encs : α → Array Value} {QQ : List Nat} {S Sp : List α → Prop} {N : Nat} (hseq : SeqStopsK Fence.wide 4 P gf lb encs (KQ QQ) S Sp N w) (hQ : ∀ b ∈ QQ, b < w.heap.size) (hps : ∀ x, (encs x).size = ps.size)
    (I : List α → World → Prop) (Ix : Code → List α → World → Prop) (hI : OwnFrom w.heap.size I) (hIx : ∀ c, OwnFrom w.heap.size (Ix c)) (h0 : I [] w) (f : Act → α → Act)
    (hassign : ∀ (l : Nat) (x : α) (W : World) (K : Act → World → Prop), K (f a x) W →
      assign.wpIn (Fence.wide.inRound l) 3 P (Exit.then K (fun _ _ _ => False)) { tmps := (ps.zip (encs x)).foldl (fun t (p, v) => t.setIfInBounds p v) a.tmps, defers := [] } W)
    (hbody : ∀ (l : Nat) (pre : List α) (x : α) (W : World), I pre W → pre.length < N → body.wpIn (Fence.wide.inRound l) 3 P (ownPostG w.heap.size (KQ QQ) I Ix (pre ++ [x]) W) (f a x) W)
    (hdone : ∀ (D : Nat) (xs : List α) (W : World), w.heap.size ≤ D → S xs → I xs W → W.heap[D]? = some (.deferred (some [])) → Q .normal { a with defers := { target := .collected D, args := #[] } :: a.defers } W)
    (hstop : ∀ (D : Nat) (c : Code) (pre : List α) (W : World), w.heap.size ≤ D → Sp pre → Ix c pre W → W.heap[D]? = some (.deferred (some [])) → c.wp P Q { a with defers := { target := .collected D, args := #[] } :: a.defers } W) :
    (Code.rangeFunc g ps assign body).wp P Q a w :=
  (wpIn_wide (n := 5)).1 (wpIn_rangeFunc_ownG (F := Fence.wide) (n := 5) rfl (by omega) hg trivial eg hseq (fun h k => h.trans k) (KQ.book hQ) (Below.refl _ _) hps I Ix hI hIx h0 (f a) hassign hbody hdone
    (fun D c pre W h1 h2 h3 h4 => (wpIn_wide (n := 5)).2 (hstop D c pre W h1 h2 h3 h4)))
end Go.Proofs.Ythbobooiedcofaa
