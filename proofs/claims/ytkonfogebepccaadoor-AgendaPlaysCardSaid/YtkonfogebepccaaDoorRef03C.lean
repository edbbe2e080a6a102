/-
  Contract of skeinref03.Check.
-/
import Derived.Test.YtkonfogebepccaaDoorRef03K
/-
  What a list of seen numbers holds. (Split off from Each.)
-/
namespace Go.Proofs.YtkonfogebepccaaDoor
open Go.RowKit
attribute [local go_sem] cell_set
set_option maxRecDepth 100000
set_option linter.unusedVariables false

instance (l : List Int) (most : Nat) : Decidable (eachN l most) := by unfold eachN; infer_instance
end Go.Proofs.YtkonfogebepccaaDoor
namespace Go.Proofs.YtkonfogebepccaaDoor
open Go.RowKit
attribute [local go_sem] cell_set
set_option maxRecDepth 100000
set_option linter.unusedVariables false

section
variable {pn : Int → Nat} {most : Nat} {cS : Int × Int} {cells : List Int} {free : Int} {W : List (Pt × Pt)}
end

end Go.Proofs.YtkonfogebepccaaDoor
