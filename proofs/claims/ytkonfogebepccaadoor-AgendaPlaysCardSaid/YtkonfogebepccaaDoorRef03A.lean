/-
  Contracts of skeinref03: All.
-/
import Derived.Test.YtkonfogebepccaaDoorRef02
/-
  Contracts of skeinref03: Place.
-/
/-
  Contracts of skeinref03: First, Place, All.
-/
namespace Go.Proofs.YtkonfogebepccaaDoor
open Go.RowKit
attribute [local go_sem] cell_set
set_option maxRecDepth 100000

end Go.Proofs.YtkonfogebepccaaDoor
namespace Go.Proofs.YtkonfogebepccaaDoor
open Go.RowKit
attribute [local go_sem] cell_set
set_option maxRecDepth 100000
set_option linter.unusedVariables false

end Go.Proofs.YtkonfogebepccaaDoor
namespace Go.Proofs.YtkonfogebepccaaDoor
open Go.RowKit
attribute [local go_sem] cell_set
set_option maxRecDepth 100000
set_option linter.unusedVariables false

def pvals (P : List Pt) : List Value := P.flatMap fun x => [Value.int .i64 x.1, .int .i64 x.2]
theorem pvals_at (P : List Pt) {i : Nat} (hi : i < P.length) : (pvals P)[i * 2]? = some (.int .i64 (P.getD i default).1) ∧ (pvals P)[i * 2 + 1]? = some (.int .i64 (P.getD i default).2) := by
  induction P generalizing i with
  | nil => simp at hi
  | cons p r ih =>
    have hc : pvals (p :: r) = .int .i64 p.1 :: .int .i64 p.2 :: pvals r := rfl
    cases i with
    | zero => rw [hc]; exact ⟨rfl, rfl⟩
    | succ i =>
      rw [hc, show (i + 1) * 2 = i * 2 + 1 + 1 by omega]
      have := ih (i := i) (by simpa using hi)
      simpa using this
theorem port_info : (Tryd.prog.info? 83).map (fun i => (i.zero, i.size, i.bytes)) = some (some (.agg #[.int .i64 0, .int .i64 0]), 2, 16) := by kernel_rfl
end Go.Proofs.YtkonfogebepccaaDoor
