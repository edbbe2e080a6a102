/-
  Contract of net.Check.
-/
import Derived.Test.YtkonfogebepccaaDoorNetIs
import Derived.Test.YtkonfogebepccaaDoorRef03C
import Derived.Deep.Cut
import Derived.Deep.RegionHeld3
namespace Go.Proofs.YtkonfogebepccaaDoor
open Go.RowKit Go.Shelf
attribute [local go_sem] cell_set
attribute [local go_sem] Oper.semAt_some
attribute [local go_sem high] run_eql_port
set_option maxRecDepth 100000
set_option linter.unusedVariables false

/-- Two results in boxes of their own. -/
structure RB (W : World) (b : Nat) (e a : Int) : Prop where
  e0 : W.cell? ⟨b, 0, none⟩ = some (.int .i64 e)
  a0 : W.cell? ⟨b + 1, 0, none⟩ = some (.int .i64 a)
  ef : W.frozen? ⟨b, 0, none⟩ = false
  af : W.frozen? ⟨b + 1, 0, none⟩ = false
  lt : b + 1 < W.heap.size
theorem RB.keep {W W' : World} {b : Nat} {e a : Int} (h : RB W b e a) (hz : W.heap.size ≤ W'.heap.size) (h0 : W'.heap[b]? = W.heap[b]?) (h1 : W'.heap[b + 1]? = W.heap[b + 1]?) : RB W' b e a :=
  ⟨(World.cell?_of_block h0).trans h.e0, (World.cell?_of_block h1).trans h.a0, (World.frozen?_of_block h0).trans h.ef, (World.frozen?_of_block h1).trans h.af, Nat.lt_of_lt_of_le h.lt hz⟩
theorem RB.below {W W' : World} {b : Nat} {e a : Int} (h : RB W b e a) (hb : Below W.heap.size W W') : RB W' b e a :=
  h.keep hb.size (hb.block b (by have := h.lt; omega)) (hb.block (b + 1) h.lt)
theorem RB.set {W : World} {b : Nat} {e a : Int} (h : RB W b e a) (e' a' : Int) : RB ((W.setCell ⟨b, 0, none⟩ (.int .i64 e')).setCell ⟨b + 1, 0, none⟩ (.int .i64 a')) b e' a' := by
  obtain ⟨h1, h2, h3, h4, h5⟩ := h
  refine ⟨?_, ?_, ?_, ?_, by simpa using h5⟩
  · rw [cell_set, if_neg (by omega), cell_set, if_pos ⟨rfl, rfl⟩, h1]; rfl
  · rw [cell_set, if_pos ⟨rfl, rfl⟩, cell_set, if_neg (by omega), h2]; rfl
  · rw [World.frozen?_setCell, World.frozen?_setCell]; exact h3
  · rw [World.frozen?_setCell, World.frozen?_setCell]; exact h4
structure CkI (w : World) (m b : Nat) (f : Pt → Option Value) (e a : Int) (W : World) : Prop where
  be : Below w.heap.size w W
  mp : MP encPt W m f
  vb : W.cell? ⟨m + 1, 0, none⟩ = some (.map (some m))
  rb : RB W b e a
  lt : m + 1 < W.heap.size
theorem CkI.keep {w : World} {m b : Nat} {f : Pt → Option Value} {e a : Int} {W W' : World} (h : CkI w m b f e a W) (hb : Below w.heap.size w W') (hz : W.heap.size ≤ W'.heap.size) (hk : ∀ x ∈ [m, m + 1, b, b + 1], W'.heap[x]? = W.heap[x]?) : CkI w m b f e a W' :=
  ⟨hb, h.mp.keep (hk m (by simp)), (World.cell?_of_block (hk (m + 1) (by simp))).trans h.vb, h.rb.keep hz (hk b (by simp)) (hk (b + 1) (by simp)), Nat.lt_of_lt_of_le h.lt hz⟩
theorem CkI.grown {w : World} {m b : Nat} {f : Pt → Option Value} {e a : Int} {W W' : World} (h : CkI w m b f e a W) {row : Option Nat} (hg : W.grownBy W' row) {C : Nat} (hC : w.heap.size ≤ C) (hm : m + 1 < C) (hb : b + 1 < C) (hr : ∀ r, row = some r → C ≤ r ∧ ∃ o : Obj, W.heap[r]? = some o ∧ o.isCells = false) : CkI w m b f e a W' := by
  have hl := h.lt
  have hl2 := h.rb.lt
  refine h.keep (h.be.grown hg h.be.size (fun r e => Nat.le_trans hC (hr r e).1)) hg.size fun x hx => hg.block x ?_ fun e => ?_
  · simp only [List.mem_cons, List.not_mem_nil, or_false] at hx; omega
  · have := (hr x e.symm).1
    simp only [List.mem_cons, List.not_mem_nil, or_false] at hx; omega
theorem RB.grown {W W' : World} {b : Nat} {e a : Int} (h : RB W b e a) {row : Option Nat} (hg : W.grownBy W' row) {C : Nat} (hb : b + 1 < C) (hr : ∀ r, row = some r → C ≤ r ∧ ∃ o : Obj, W.heap[r]? = some o ∧ o.isCells = false) : RB W' b e a := by
  have hl := h.lt
  exact h.keep hg.size (hg.block b (by omega) (fun e => by have := (hr b e.symm).1; omega)) (hg.block (b + 1) hl (fun e => by have := (hr _ e.symm).1; omega))
end Go.Proofs.YtkonfogebepccaaDoor
