/-
  Contract of net.Move.
-/
import Derived.Test.YtkonfogebepccaaGreatDoorNetTop
namespace Go.Proofs.YtkonfogebepccaaGreatDoor
open Go.RowKit Go.Shelf
attribute [local go_sem] cell_set
set_option maxRecDepth 100000
set_option linter.unusedVariables false

end Go.Proofs.YtkonfogebepccaaGreatDoor
