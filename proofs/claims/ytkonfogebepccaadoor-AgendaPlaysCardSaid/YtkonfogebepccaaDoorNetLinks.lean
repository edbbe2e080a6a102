/-
  Contracts of net.before and net.links.
-/
import Derived.Test.YtkonfogebepccaaDoorRef03K
import Derived.Test.YtkonfogebepccaaDoorNetCheck
/-
  Plain: the answer's tidy wires are the tidy wires.
-/
namespace Go.Proofs.YtkonfogebepccaaDoor
open Go.RowKit
set_option linter.unusedVariables false

section
variable {pn : Int → Nat} {cells : List Int} {free : Nat} {W : List (Pt × Pt)}
end
end Go.Proofs.YtkonfogebepccaaDoor
namespace Go.Proofs.YtkonfogebepccaaDoor
open Go.RowKit
attribute [local go_sem] cell_set
set_option maxRecDepth 100000
set_option linter.unusedVariables false

end Go.Proofs.YtkonfogebepccaaDoor
