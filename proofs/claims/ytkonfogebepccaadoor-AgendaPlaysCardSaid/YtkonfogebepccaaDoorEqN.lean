/-
  Contracts of skeinref00 for nets: CopyNet, EqInts, EqWires, EqNet, SizeAgents, Long.
-/
import Derived.Test.YtkonfogebepccaaDoorRef02
import Derived.Laws.StructEq
namespace Go.Proofs.YtkonfogebepccaaDoor
open Go.RowKit
attribute [local go_sem] cell_set
set_option maxRecDepth 100000
set_option linter.unusedVariables false

def eqP (p q : Pt) : Bool := decide (p = q)
def eqW (p q : Pt × Pt) : Bool := decide (p = q)
theorem run_equal_port (d : Nat) (a b c e : Int) (w : World) : (Op.equalIn (d + 3) 83 (.agg #[.int .i64 a, .int .i64 b]) (.agg #[.int .i64 c, .int .i64 e])).run Tryd.prog w = .ok (eqP (a, b) (c, e)) w := by
  unfold eqP
  go_simp
  by_cases h1 : a = c <;> by_cases h2 : b = e <;> simp [h1, h2]
theorem run_equal_wire (d : Nat) (a b c e a' b' c' e' : Int) (w : World) : (Op.equalIn (d + 5) 108 (.agg #[.int .i64 a, .int .i64 b, .int .i64 c, .int .i64 e]) (.agg #[.int .i64 a', .int .i64 b', .int .i64 c', .int .i64 e'])).run Tryd.prog w = .ok (eqW ((a, b), (c, e)) ((a', b'), (c', e'))) w := by
  unfold eqW
  go_simp
  by_cases h1 : a = a' <;> by_cases h2 : b = b' <;> by_cases h3 : c = c' <;> by_cases h4 : e = e' <;> simp [h1, h2, h3, h4]
theorem run_eql_port (w : World) (a b c e : Int) : (binOp .eql 83 (.agg #[.int .i64 a, .int .i64 b]) (.agg #[.int .i64 c, .int .i64 e])).run Tryd.prog w = .ok (.bool (eqP (a, b) (c, e))) w := by
  rw [run_eql_struct, run_equal_port 9997]; rfl
theorem run_eql_wire (w : World) (a b c e a' b' c' e' : Int) : (binOp .eql 108 (.agg #[.int .i64 a, .int .i64 b, .int .i64 c, .int .i64 e]) (.agg #[.int .i64 a', .int .i64 b', .int .i64 c', .int .i64 e'])).run Tryd.prog w = .ok (.bool (eqW ((a, b), (c, e)) ((a', b'), (c', e')))) w := by
  rw [run_eql_struct, run_equal_wire 9995]; rfl
theorem run_neq_wire (w : World) (a b c e a' b' c' e' : Int) : (binOp .neq 108 (.agg #[.int .i64 a, .int .i64 b, .int .i64 c, .int .i64 e]) (.agg #[.int .i64 a', .int .i64 b', .int .i64 c', .int .i64 e'])).run Tryd.prog w = .ok (.bool (!eqW ((a, b), (c, e)) ((a', b'), (c', e')))) w := by
  rw [run_neq_struct, run_equal_wire 9995]; rfl
attribute [local go_sem high] run_neq_wire
attribute [local go_sem high] run_eql_wire
end Go.Proofs.YtkonfogebepccaaDoor
