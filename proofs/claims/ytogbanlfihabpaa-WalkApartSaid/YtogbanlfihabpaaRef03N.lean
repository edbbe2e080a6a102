/-
  Contracts of skeinref03: Net, Neat.
-/
import Derived.Test.YtogbanlfihabpaaNetTop
import Derived.Deep.RegionLaw
namespace Go.Proofs.Ytogbanlfihabpaa
open Go.RowKit Go.Shelf
attribute [local go_sem] cell_set
set_option maxRecDepth 100000
set_option linter.unusedVariables false

theorem Row.pts {w : World} {V : Option Addr} {cap : Nat} {P : List Pt} (h : Row w 41 2 (.slice V P.length cap) P.length (pvals P)) : PtsRd w V P := fun i hi => by
  obtain ⟨g, c, cur, e, hg, _⟩ := h.some_ (by omega)
  simp only [Value.slice.injEq, true_and] at e
  obtain ⟨rfl, rfl⟩ := e
  obtain ⟨a0, a1⟩ := pvals_at P hi
  refine ⟨g, 0, rfl, heap_lt hg, ?_, ?_⟩
  · rw [Nat.zero_add, h.cellAt _ (by omega)]; exact a0
  · rw [Nat.zero_add, h.cellAt _ (by omega)]; exact a1
end Go.Proofs.Ytogbanlfihabpaa
