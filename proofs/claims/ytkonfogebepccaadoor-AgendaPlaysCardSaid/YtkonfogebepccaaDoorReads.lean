/-
  Lists in memory as lists: of ints, of wires; copies of them; '=='.
-/
import Derived.Test.YtkonfogebepccaaDoorChecked
import Derived.Test.YtkonfogebepccaaDoorOwn
import Derived.Test.YtkonfogebepccaaDoorAgentsN
import Derived.Test.YtkonfogebepccaaDoorNetSpec
namespace Go.Proofs.YtkonfogebepccaaDoor
open Go.RowKit
attribute [local go_sem] cell_set
set_option maxRecDepth 100000

/-- The slice at A reads as l. -/
def IntsRd (w : World) (A : Option Addr) (l : List Int) : Prop := ∀ i, i < l.length → ∃ b off, A = some ⟨b, off, none⟩ ∧ b < w.heap.size ∧ w.cell? ⟨b, off + i, none⟩ = some (.int .i64 (l.getD i 0))
def WrRd (w : World) (A : Option Addr) (W : List (Pt × Pt)) : Prop := ∀ i, i < W.length → ∃ b off, A = some ⟨b, off, none⟩ ∧ b < w.heap.size ∧ w.cell? ⟨b, off + i * 4, none⟩ = some (.int .i64 (W.getD i default).1.1) ∧ w.cell? ⟨b, off + i * 4 + 1, none⟩ = some (.int .i64 (W.getD i default).1.2) ∧
  w.cell? ⟨b, off + i * 4 + 2, none⟩ = some (.int .i64 (W.getD i default).2.1) ∧ w.cell? ⟨b, off + i * 4 + 3, none⟩ = some (.int .i64 (W.getD i default).2.2)
theorem IntsRd.below {w w' : World} {A : Option Addr} {l : List Int} (h : IntsRd w A l) (hb : Below w.heap.size w w') : IntsRd w' A l := fun i hi => by
  obtain ⟨b, off, hA, hlt, h0⟩ := h i hi
  exact ⟨b, off, hA, Nat.lt_of_lt_of_le hlt hb.size, (hb.cell (p := ⟨b, off + i, none⟩) hlt).trans h0⟩
theorem WrRd.below {w w' : World} {A : Option Addr} {W : List (Pt × Pt)} (h : WrRd w A W) (hb : Below w.heap.size w w') : WrRd w' A W := fun i hi => by
  obtain ⟨b, off, hA, hlt, h0, h1, h2, h3⟩ := h i hi
  exact ⟨b, off, hA, Nat.lt_of_lt_of_le hlt hb.size, (hb.cell (p := ⟨b, off + i * 4, none⟩) hlt).trans h0, (hb.cell (p := ⟨b, off + i * 4 + 1, none⟩) hlt).trans h1, (hb.cell (p := ⟨b, off + i * 4 + 2, none⟩) hlt).trans h2, (hb.cell (p := ⟨b, off + i * 4 + 3, none⟩) hlt).trans h3⟩
/-- The slice at A reads as these ports. -/
def PtsRd (w : World) (A : Option Addr) (P : List Pt) : Prop := ∀ i, i < P.length → ∃ b off, A = some ⟨b, off, none⟩ ∧ b < w.heap.size ∧ w.cell? ⟨b, off + i * 2, none⟩ = some (.int .i64 (P.getD i default).1) ∧ w.cell? ⟨b, off + i * 2 + 1, none⟩ = some (.int .i64 (P.getD i default).2)
theorem PtsRd.below {w w' : World} {A : Option Addr} {P : List Pt} (h : PtsRd w A P) (hb : Below w.heap.size w w') : PtsRd w' A P := fun i hi => by
  obtain ⟨b, off, hA, hlt, h0, h1⟩ := h i hi
  exact ⟨b, off, hA, Nat.lt_of_lt_of_le hlt hb.size, (hb.cell (p := ⟨b, off + i * 2, none⟩) hlt).trans h0, (hb.cell (p := ⟨b, off + i * 2 + 1, none⟩) hlt).trans h1⟩
def ivals (l : List Int) : List Value := l.map fun x => Value.int .i64 x
def wrvals (W : List (Pt × Pt)) : List Value := W.flatMap fun x => [Value.int .i64 x.1.1, .int .i64 x.1.2, .int .i64 x.2.1, .int .i64 x.2.2]
theorem wrvals_at (W : List (Pt × Pt)) {i : Nat} (hi : i < W.length) : (wrvals W)[i * 4]? = some (.int .i64 (W.getD i default).1.1) ∧ (wrvals W)[i * 4 + 1]? = some (.int .i64 (W.getD i default).1.2) ∧ (wrvals W)[i * 4 + 2]? = some (.int .i64 (W.getD i default).2.1) ∧ (wrvals W)[i * 4 + 3]? = some (.int .i64 (W.getD i default).2.2) := by
  induction W generalizing i with
  | nil => simp at hi
  | cons p r ih =>
    have hc : wrvals (p :: r) = .int .i64 p.1.1 :: .int .i64 p.1.2 :: .int .i64 p.2.1 :: .int .i64 p.2.2 :: wrvals r := rfl
    cases i with
    | zero => rw [hc]; exact ⟨rfl, rfl, rfl, rfl⟩
    | succ i =>
      rw [hc, show (i + 1) * 4 = i * 4 + 1 + 1 + 1 + 1 by omega]
      have := ih (i := i) (by simpa using hi)
      simpa using this
theorem Row.wires {w : World} {V : Option Addr} {cap : Nat} {W : List (Pt × Pt)} (h : Row w 108 4 (.slice V W.length cap) W.length (wrvals W)) : WrRd w V W := fun i hi => by
  obtain ⟨g, c, cur, e, hg, _⟩ := h.some_ (by omega)
  simp only [Value.slice.injEq, true_and] at e
  obtain ⟨rfl, rfl⟩ := e
  obtain ⟨a0, a1, a2, a3⟩ := wrvals_at W hi
  refine ⟨g, 0, rfl, heap_lt hg, ?_, ?_, ?_, ?_⟩
  · rw [Nat.zero_add, h.cellAt _ (by omega)]; exact a0
  · rw [Nat.zero_add, h.cellAt _ (by omega)]; exact a1
  · rw [Nat.zero_add, h.cellAt _ (by omega)]; exact a2
  · rw [Nat.zero_add, h.cellAt _ (by omega)]; exact a3
theorem int_info : (Tryd.prog.info? 3).map (fun i => (i.zero, i.size, i.bytes)) = some (some (.int .i64 0), 1, 8) := by kernel_rfl
theorem wire_info : (Tryd.prog.info? 108).map (fun i => (i.zero, i.size, i.bytes)) = some (some (.agg #[.int .i64 0, .int .i64 0, .int .i64 0, .int .i64 0]), 4, 32) := by kernel_rfl
/-- A fresh row. -/
def Fresh (w w' : World) (e : TypeId) (size n : Nat) (v : Value) (xs : List Value) : Prop := Row w' e size v n xs ∧ (∀ b ∈ ownB v, w.heap.size ≤ b) ∧ Below w.heap.size w w'
end Go.Proofs.YtkonfogebepccaaDoor
