/-
  Contract of net.Check$1: is it a port?
-/
import Derived.Test.YtkonfogebepccaaDoorNetSeq
import Derived.Test.YtkonfogebepccaaDoorEqN
import Derived.Test.YtkonfogebepccaaDoorRangeBox
/-
  Maps whose keys are ports.
-/
namespace Go.Proofs.YtkonfogebepccaaDoor
open Go.RowKit
set_option maxRecDepth 100000
set_option linter.unusedVariables false

def encPt (p : Pt) : Value := .agg #[.int .i64 p.1, .int .i64 p.2]
end Go.Proofs.YtkonfogebepccaaDoor
namespace Go.Proofs.YtkonfogebepccaaDoor
open Go.RowKit
attribute [local go_sem] cell_set
set_option maxRecDepth 100000
set_option linter.unusedVariables false

section
variable (Bn Bs : Nat) (A : Option Addr) (cap : Nat) (L : List (ByteArray × Int)) (VA VB : Option Addr) (ca cb : Nat) (cells : List Int) (free n2 : Nat) (c s : Int) (w : World)
end
end Go.Proofs.YtkonfogebepccaaDoor
