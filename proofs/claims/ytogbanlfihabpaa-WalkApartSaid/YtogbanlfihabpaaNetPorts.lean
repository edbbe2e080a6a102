/-
  net.Ports.
-/
import Derived.Test.YtogbanlfihabpaaNetTop
import Derived.Test.YtogbanlfihabpaaRef03N
namespace Go.Proofs.Ytogbanlfihabpaa
open Go.RowKit
attribute [local go_sem] cell_set
attribute [local go_sem] Oper.semAt_some
set_option maxRecDepth 100000
set_option linter.unusedVariables false

/-- What the loop keeps: a list of ports in a box. -/
def BP (w0 : World) (Bl : Nat) (ps : List Pt) (X : World) : Prop :=
  Kp [Bl] w0 X ∧ Bl < w0.heap.size ∧ ∃ V c, X.heap[Bl]? = some (.cells #[.slice V ps.length c] 44 (0, 0)) ∧ Row X 41 2 (.slice V ps.length c) ps.length (pvals ps) ∧ ∀ b ∈ ownB (.slice V ps.length c), w0.heap.size ≤ b
section
variable {w0 X X' : World} {Bl : Nat} {ps : List Pt}
theorem BP.keep (h : BP w0 Bl ps X) (hk : Kp [] X X') : BP w0 Bl ps X' := by
  obtain ⟨h1, h2, V2, c2, h3, h4, h5⟩ := h
  exact ⟨h1.trans hk (by simp), h2, V2, c2, (hk.block Bl (heap_lt h3) (by simp)).trans h3, h4.kp hk (by simp), h5⟩
theorem BP.grown (h : BP w0 Bl ps X) {row : Option Nat} (hg : X.grownBy X' row) (hr : ∀ r, row = some r → w0.heap.size ≤ r ∧ ∃ o : Obj, X.heap[r]? = some o ∧ o.isCells = false) : BP w0 Bl ps X' := by
  obtain ⟨h1, h2, V2, c2, h3, h4, h5⟩ := h
  have hr2 : ∀ r, row = some r → ∃ o : Obj, X.heap[r]? = some o ∧ o.isCells = false := fun r e => (hr r e).2
  refine ⟨?_, h2, V2, c2, (grownBy_keeps_cells hg hr2 h3 rfl).trans h3, h4.keep fun b hb => ?_, h5⟩
  · cases row with
    | none => exact h1.trans (G := []) ⟨hg.os, hg.tape, hg.output, hg.size, fun b hb _ => hg.block b hb (by simp)⟩ (by simp)
    | some r => exact h1.trans (G := [r]) ⟨hg.os, hg.tape, hg.output, hg.size, fun b hb hn => hg.block b hb (by simpa using hn)⟩ (fun b hb => by simp at hb; subst hb; exact .inr (hr b rfl).1)
  · rcases h4.2 with ⟨e, _⟩ | ⟨g, cap, cur, e, hh, _⟩
    · rw [e] at hb; simp [ownB] at hb
    · rw [e] at hb; simp [ownB] at hb; subst hb
      exact grownBy_keeps_cells hg hr2 hh rfl
/-- One more port. -/
theorem BP.app {V2 : Option Addr} {c2 : Nat} (h1 : Kp [Bl] w0 X) (h2 : Bl < w0.heap.size) (h3 : X.heap[Bl]? = some (.cells #[.slice V2 ps.length c2] 44 (0, 0)))
    (h5 : ∀ b ∈ ownB (.slice V2 ps.length c2), w0.heap.size ≤ b) {V5 : Option Addr} {c5 : Nat} {w5 : World} {p : Pt}
    (k5 : Kp (ownB (.slice V2 ps.length c2)) X w5) (o5 : ownB (.slice V5 (ps.length + 1) c5) = ownB (.slice V2 ps.length c2) ∨ ownB (.slice V5 (ps.length + 1) c5) = [X.heap.size])
    (r5 : Row w5 41 2 (.slice V5 (ps.length + 1) c5) (ps.length + 1) (pvals ps ++ [.int .i64 p.1, .int .i64 p.2])) :
    w5.cell? ⟨Bl, 0, none⟩ = some (.slice V2 ps.length c2) ∧ w5.frozen? ⟨Bl, 0, none⟩ = false ∧ Kp [Bl] w0 (w5.setCell ⟨Bl, 0, none⟩ (.slice V5 (ps.length + 1) c5)) ∧ BP w0 Bl (ps ++ [p]) (w5.setCell ⟨Bl, 0, none⟩ (.slice V5 (ps.length + 1) c5)) := by
  have hn : Bl ∉ ownB (.slice V2 ps.length c2) := fun hb => absurd (h5 _ hb) (by omega)
  have e3 : w5.heap[Bl]? = some (.cells #[.slice V2 ps.length c2] 44 (0, 0)) := (k5.block Bl (heap_lt h3) hn).trans h3
  have hz := h1.size
  have h5' : ∀ b ∈ ownB (.slice V5 (ps.length + 1) c5), w0.heap.size ≤ b := fun b hb => by
    rcases o5 with e | e
    · exact h5 b (e ▸ hb)
    · rw [e] at hb; simp at hb; omega
  have hk : Kp [Bl] w0 (w5.setCell ⟨Bl, 0, none⟩ (.slice V5 (ps.length + 1) c5)) := (h1.trans k5 (fun b hb => .inr (h5 b hb))).setCell (p := ⟨Bl, 0, none⟩) (.inl (by simp)) _
  have hpv : pvals (ps ++ [p]) = pvals ps ++ [.int .i64 p.1, .int .i64 p.2] := by simp [pvals]
  refine ⟨by simp [World.cell?, e3], by simp [World.frozen?, e3], hk, hk, h2, V5, c5, ?_, ?_, ?_⟩
  · rw [List.length_append]
    simp [World.setCell, Array.getElem?_modify, e3]
  · rw [hpv, List.length_append]
    exact r5.keep fun b hb => Below.heap_setCell w5 _ _ b (by
      have := h5' b hb
      show b ≠ Bl
      omega)
  · rw [List.length_append]; exact h5'
end
section
variable (A : Option Addr) (n cap : Nat) (L : List (ByteArray × Int)) (VA VB : Option Addr) (ca cb : Nat) (cells : List Int) (free : Int) (W : List (Pt × Pt)) (w : World)
end
end Go.Proofs.Ytogbanlfihabpaa
