/-
  skeinref00.num: a mark.
-/
import Derived.Test.YtkonfogebepccaaGreatDoorBagPlain
import Derived.Test.YtkonfogebepccaaGreatDoorTails
import Derived.Test.YtkonfogebepccaaGreatDoorEqN
import Derived.Deep.LoopGhost
import Derived.Deep.QuietTactic
import Derived.Deep.Cut
import Derived.Outline
import Derived.Deep.RegionHeld3
import Derived.Deep.RegionLaw
import Derived.BigQuiet
namespace Go.Proofs.YtkonfogebepccaaGreatDoor
open Go.RowKit
attribute [local go_sem] cell_set
set_option maxRecDepth 100000

theorem num_is (n i : Nat) (hn : n ≤ 1000) (hi : i ≤ 2000000) (w : World) : Calls Tryz.prog 24 #[.int .i64 (n : Int), .int .i64 (i : Int)] w fun e w' => e = .returned (.int .i64 (markB n i)) ∧ w = w' := by
  have h0 : IntKind.i64.wrap (1048576 * (n : Int)) = 1048576 * (n : Int) := IntWalk.i64_in _ (by omega)
  have h1 : IntKind.i64.wrap (1048576 * (n : Int) + (i : Int)) = 1048576 * (n : Int) + (i : Int) := IntWalk.i64_in _ (by omega)
  have h2 : IntKind.i64.wrap (1048576 * (n : Int) + (i : Int) + 1) = 1048576 * (n : Int) + (i : Int) + 1 := IntWalk.i64_in _ (by omega)
  go_enter Tryz.func24, Tryz.ntmps24
  go_wp2
  go_ret
  exact ⟨retI (by unfold markB; first | omega | (simp; omega) | (unfold wrap64; omega)), rfl⟩
end Go.Proofs.YtkonfogebepccaaGreatDoor
