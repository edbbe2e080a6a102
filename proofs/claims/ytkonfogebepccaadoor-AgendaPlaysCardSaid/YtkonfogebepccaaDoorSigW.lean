/-
  Contracts of package sig: Word, Name, Pair, Unpair, and of the reference for them.
-/
import Derived.Test.YtkonfogebepccaaDoorChecked
import Derived.Test.YtkonfogebepccaaDoorBase
import Derived.WalkKit
import Derived.Below
import Derived.Lib.Hide
import Derived.Outline
namespace Go.Proofs.YtkonfogebepccaaDoor
open Go.RowKit
attribute [local go_sem] cell_set

def okc (c : UInt8) : Bool := (decide (97 ≤ (c.toNat : Int)) && decide ((c.toNat : Int) ≤ 122)) || (decide (65 ≤ (c.toNat : Int)) && decide ((c.toNat : Int) ≤ 90)) || (decide (48 ≤ (c.toNat : Int)) && decide ((c.toNat : Int) ≤ 57)) || decide ((c.toNat : Int) = 95)
def bgn (lo hi : Int) : List UInt8 → Bool
  | [] => false
  | c :: t => decide (t.length ≤ 15) && decide (lo ≤ (c.toNat : Int)) && decide ((c.toNat : Int) ≤ hi) && t.all okc
def bgnS (s : ByteArray) (lo hi : Int) : Bool := bgn lo hi s.data.toList

set_option maxRecDepth 100000
/-! The reference's own -/
/-! Pair, Unpair -/
end Go.Proofs.YtkonfogebepccaaDoor
