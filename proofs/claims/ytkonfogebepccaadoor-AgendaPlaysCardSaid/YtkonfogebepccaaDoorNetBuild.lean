/-
  Contract of net.build: a tidy net.
-/
import Derived.Test.YtkonfogebepccaaDoorNetLinks
namespace Go.Proofs.YtkonfogebepccaaDoor
open Go.RowKit Go.Shelf
attribute [local go_sem] cell_set
attribute [local go_sem] Oper.semAt_some
set_option maxRecDepth 100000
set_option linter.unusedVariables false

/-- A net in fresh memory. -/
def NetFresh (w w' : World) (V1 : Option Addr) (c1 : Nat) (cells : List Int) (V2 : Option Addr) (c2 : Nat) (W : List (Pt × Pt)) : Prop :=
  Fresh w w' 3 1 cells.length (.slice V1 cells.length c1) (ivals cells) ∧ Fresh w w' 108 4 W.length (.slice V2 W.length c2) (wrvals W)
theorem wrvals_snoc (W : List (Pt × Pt)) (p q : Pt) : wrvals (W ++ [(p, q)]) = wrvals W ++ [.int .i64 p.1, .int .i64 p.2, .int .i64 q.1, .int .i64 q.2] := by simp [wrvals]
/-- What the loop keeps: a net in a box, its wires in memory of the loop's own; nothing else has turned. -/
def BI (w0 : World) (Bn : Nat) (V1 : Option Addr) (c1 n1 : Nat) (free : Int) (ws : List (Pt × Pt)) (X : World) : Prop :=
  Kp [Bn] w0 X ∧ Bn < w0.heap.size ∧ ∃ V2 c2, X.heap[Bn]? = some (.cells #[.slice V1 n1 c1, .int .i64 free, .slice V2 ws.length c2] 64 (0, 0)) ∧ Row X 108 4 (.slice V2 ws.length c2) ws.length (wrvals ws) ∧ ∀ b ∈ ownB (.slice V2 ws.length c2), w0.heap.size ≤ b
section
variable {w0 X X' : World} {Bn : Nat} {V1 : Option Addr} {c1 n1 : Nat} {free : Int} {ws : List (Pt × Pt)}
theorem BI.keep (h : BI w0 Bn V1 c1 n1 free ws X) (hk : Kp [] X X') : BI w0 Bn V1 c1 n1 free ws X' := by
  obtain ⟨h1, h2, V2, c2, h3, h4, h5⟩ := h
  exact ⟨h1.trans hk (by simp), h2, V2, c2, (hk.block Bn (heap_lt h3) (by simp)).trans h3, h4.kp hk (by simp), h5⟩
theorem BI.grown (h : BI w0 Bn V1 c1 n1 free ws X) {row : Option Nat} (hg : X.grownBy X' row) (hr : ∀ r, row = some r → w0.heap.size ≤ r ∧ ∃ o : Obj, X.heap[r]? = some o ∧ o.isCells = false) : BI w0 Bn V1 c1 n1 free ws X' := by
  obtain ⟨h1, h2, V2, c2, h3, h4, h5⟩ := h
  have hr2 : ∀ r, row = some r → ∃ o : Obj, X.heap[r]? = some o ∧ o.isCells = false := fun r e => (hr r e).2
  refine ⟨?_, h2, V2, c2, (grownBy_keeps_cells hg hr2 h3 rfl).trans h3, h4.keep fun b hb => ?_, h5⟩
  · cases row with
    | none => exact h1.trans (G := []) ⟨hg.os, hg.tape, hg.output, hg.size, fun b hb _ => hg.block b hb (by simp)⟩ (by simp)
    | some r => exact h1.trans (G := [r]) ⟨hg.os, hg.tape, hg.output, hg.size, fun b hb hn => hg.block b hb (by simpa using hn)⟩ (fun b hb => by simp at hb; subst hb; exact .inr (hr b rfl).1)
  · rcases h4.2 with ⟨e, _⟩ | ⟨g, cap, cur, e, hh, _⟩
    · rw [e] at hb; simp [ownB] at hb
    · rw [e] at hb; simp [ownB] at hb; subst hb
      exact grownBy_keeps_cells hg hr2 hh rfl
theorem BI.cells (h : BI w0 Bn V1 c1 n1 free ws X) : X.cell? ⟨Bn, 0, none⟩ = some (.slice V1 n1 c1) ∧ X.cell? ⟨Bn, 1, none⟩ = some (.int .i64 free) ∧ X.frozen? ⟨Bn, 2, none⟩ = false := by
  obtain ⟨_, _, V2, c2, h3, _⟩ := h
  simp [World.cell?, World.frozen?, h3]
/-- One more wire. -/
theorem BI.app {V2 : Option Addr} {c2 : Nat} (h1 : Kp [Bn] w0 X) (h2 : Bn < w0.heap.size) (h3 : X.heap[Bn]? = some (.cells #[.slice V1 n1 c1, .int .i64 free, .slice V2 ws.length c2] 64 (0, 0)))
    (h5 : ∀ b ∈ ownB (.slice V2 ws.length c2), w0.heap.size ≤ b) {V5 : Option Addr} {c5 : Nat} {w5 : World} {p q : Pt}
    (k5 : Kp (ownB (.slice V2 ws.length c2)) X w5) (o5 : ownB (.slice V5 (ws.length + 1) c5) = ownB (.slice V2 ws.length c2) ∨ ownB (.slice V5 (ws.length + 1) c5) = [X.heap.size])
    (r5 : Row w5 108 4 (.slice V5 (ws.length + 1) c5) (ws.length + 1) (wrvals ws ++ [.int .i64 p.1, .int .i64 p.2, .int .i64 q.1, .int .i64 q.2])) :
    w5.cell? ⟨Bn, 2, none⟩ = some (.slice V2 ws.length c2) ∧ w5.frozen? ⟨Bn, 2, none⟩ = false ∧ Kp [Bn] w0 (w5.setCell ⟨Bn, 2, none⟩ (.slice V5 (ws.length + 1) c5)) ∧ BI w0 Bn V1 c1 n1 free (ws ++ [(p, q)]) (w5.setCell ⟨Bn, 2, none⟩ (.slice V5 (ws.length + 1) c5)) := by
  have hn : Bn ∉ ownB (.slice V2 ws.length c2) := fun hb => absurd (h5 _ hb) (by omega)
  have e3 : w5.heap[Bn]? = some (.cells #[.slice V1 n1 c1, .int .i64 free, .slice V2 ws.length c2] 64 (0, 0)) := (k5.block Bn (heap_lt h3) hn).trans h3
  have hz := h1.size
  have h5' : ∀ b ∈ ownB (.slice V5 (ws.length + 1) c5), w0.heap.size ≤ b := fun b hb => by
    rcases o5 with e | e
    · exact h5 b (e ▸ hb)
    · rw [e] at hb; simp at hb; omega
  have hk : Kp [Bn] w0 (w5.setCell ⟨Bn, 2, none⟩ (.slice V5 (ws.length + 1) c5)) := (h1.trans k5 (fun b hb => .inr (h5 b hb))).setCell (p := ⟨Bn, 2, none⟩) (.inl (by simp)) _
  refine ⟨by simp [World.cell?, e3], by simp [World.frozen?, e3], hk, hk, h2, V5, c5, ?_, ?_, ?_⟩
  · rw [List.length_append]
    simp [World.setCell, Array.getElem?_modify, e3]
  · rw [wrvals_snoc, List.length_append]
    exact r5.keep fun b hb => Below.heap_setCell w5 _ _ b (by
      have := h5' b hb
      show b ≠ Bn
      omega)
  · rw [List.length_append]; exact h5'
end
theorem KeepsFrom.below {B : Nat} {W W' : World} (h : Below W.heap.size W W') : KeepsFrom B W W' := ⟨h.size, fun k o _ hk _ => (h.block k (heap_lt hk)).trans hk⟩
end Go.Proofs.YtkonfogebepccaaDoor
