/-
  Contract of net.Pairs.
-/
import Derived.Test.YtkonfogebepccaaDoorRef03N
import Derived.Test.YtkonfogebepccaaDoorRef03N
namespace Go.Proofs.YtkonfogebepccaaDoor
open Go.RowKit Go.Shelf
attribute [local go_sem] cell_set
set_option maxRecDepth 100000
set_option linter.unusedVariables false

section
variable (A : Option Addr) (n cap : Nat) (L : List (ByteArray × Int)) (VA VB : Option Addr) (ca cb : Nat) (cells : List Int) (free : Int) (W : List (Pt × Pt)) (w : World)
end
end Go.Proofs.YtkonfogebepccaaDoor
