/-
  Contracts of net.fine, net.Tidy.
-/
import Derived.Test.YtogbanlfihabpaaNetBuild
namespace Go.Proofs.Ytogbanlfihabpaa
open Go.RowKit Go.Shelf
attribute [local go_sem] cell_set
set_option maxRecDepth 100000
set_option linter.unusedVariables false

theorem Fresh.mv {w0 w w' w'' : World} {e : TypeId} {size n : Nat} {v : Value} {xs : List Value} (h : Fresh w w' e size n v xs) (h0 : Below w0.heap.size w0 w) (hk : ∀ b, w.heap.size ≤ b → b < w'.heap.size → w''.heap[b]? = w'.heap[b]?) (hb : Below w0.heap.size w0 w'') : Fresh w0 w'' e size n v xs :=
  ⟨h.1.keep fun b hb => hk b (h.2.1 b hb) (h.1.lt b hb), fun b hb => Nat.le_trans h0.size (h.2.1 b hb), hb⟩
theorem NetFresh.mv {w0 w w' w'' : World} {V1 V2 : Option Addr} {c1 c2 : Nat} {cells : List Int} {W : List (Pt × Pt)} (h : NetFresh w w' V1 c1 cells V2 c2 W) (h0 : Below w0.heap.size w0 w) (hk : ∀ b, w.heap.size ≤ b → b < w'.heap.size → w''.heap[b]? = w'.heap[b]?) (hb : Below w0.heap.size w0 w'') : NetFresh w0 w'' V1 c1 cells V2 c2 W :=
  ⟨h.1.mv h0 hk hb, h.2.mv h0 hk hb⟩
section
variable (A : Option Addr) (n cap : Nat) (L : List (ByteArray × Int)) (VA VB : Option Addr) (ca cb : Nat) (cells : List Int) (free : Int) (W : List (Pt × Pt)) (w : World)
end
end Go.Proofs.Ytogbanlfihabpaa
