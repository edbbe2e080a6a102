/-
  The ports of a net as an iterator: net.ports$1, net.ports.
-/
import Derived.Test.YtkonfogebepccaaDoorRef03K
import Derived.Test.YtkonfogebepccaaDoorRange
import Derived.Shelf.Abstract
import Derived.OwnWalkIn
import Derived.TacticsInMore
import Derived.LoopNIn
import Derived.LoopIn
/-
  What a map of seen numbers holds. (Split off from Numbers.)
-/
namespace Go.Proofs.YtkonfogebepccaaDoor
open Go.RowKit
attribute [local go_sem] cell_set
set_option maxRecDepth 100000
set_option linter.unusedVariables false

end Go.Proofs.YtkonfogebepccaaDoor
namespace Go.Proofs.YtkonfogebepccaaDoor
open Go.RowKit Go.Shelf
attribute [local go_sem] Oper.semAt_some
set_option maxRecDepth 100000
set_option linter.unusedVariables false

/-- What the iterator reads. -/
structure PSet (w : World) (Bn Bs : Nat) (A : Option Addr) (cap : Nat) (L : List (ByteArray × Int)) (VA VB : Option Addr) (ca cb : Nat) (cells : List Int) (free n2 : Nat) : Prop where
  n : NBox w Bn VA cells.length ca free VB n2 cb
  s : w.cell? ⟨Bs, 0, none⟩ = some (.slice A L.length cap)
  sl : Bs < w.heap.size
  c : IntsRd w VA cells
  a : AgRd w A L
theorem PSet.below {w w' : World} {Bn Bs cap ca cb free n2 : Nat} {A VA VB : Option Addr} {L : List (ByteArray × Int)} {cells : List Int} (h : PSet w Bn Bs A cap L VA VB ca cb cells free n2) (hb : Below w.heap.size w w') : PSet w' Bn Bs A cap L VA VB ca cb cells free n2 :=
  ⟨h.n.below hb, (hb.cell (p := ⟨Bs, 0, none⟩) h.sl).trans h.s, Nat.lt_of_lt_of_le h.sl hb.size, h.c.below hb, h.a.below hb⟩
end Go.Proofs.YtkonfogebepccaaDoor
