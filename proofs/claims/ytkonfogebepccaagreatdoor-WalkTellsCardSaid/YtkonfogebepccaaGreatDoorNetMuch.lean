/-
  Contract of skeinlaw03.much.
-/
import Derived.Test.YtkonfogebepccaaGreatDoorEqN
/-
  Contract of skeinref00.SizeAgents.
-/
namespace Go.Proofs.YtkonfogebepccaaGreatDoor
open Go.RowKit
attribute [local go_sem] cell_set
set_option maxRecDepth 100000
set_option linter.unusedVariables false

def SomeI (w : World) (e : Ending) (w' : World) : Prop := ∃ m : Int, e = .returned (.int .i64 m) ∧ w = w'
set_option maxHeartbeats 400000 in
theorem size_agents (A : Option Addr) (n cap : Nat) (L : List (ByteArray × Int)) (w : World) (hn : n = L.length) (hl : L.length ≤ maxLen) (HL : Hid (AgRd w A L)) :
    Calls Tryz.prog 20 #[.slice A n cap] w (SomeI w) := by
  subst hn
  unfold maxLen at hl
  go_enter Tryz.func20, Tryz.ntmps20
  go_wp2
  go_loop [3, 4] (fun t i => ∃ k : Nat, ∃ m : Int, i = .int .i64 k ∧ k ≤ L.length ∧ t = .int .i64 m) (fun _ i => L.length - (intOf i).toNat)
  case atStart => exact ⟨0, _, rfl, by omega, rfl⟩
  case round =>
    obtain ⟨k, m, rfl, hk, rfl⟩ := hrel
    by_cases hlt : k < L.length
    · by_cases hm : m ≤ 2147483647
      · obtain ⟨b, off, rfl, hb, e0, e1⟩ := HL.out k hlt
        clear e1
        generalize agN L k = s at e0
        go_wp2
        go_round
        case rel => exact ⟨k + 1, _, by go_num, by omega, rfl⟩
        case measure => simp [intOf]; omega
      · go_wp2
        go_ret
        exact ⟨_, rfl, rfl⟩
    · go_wp2
      go_ret
      exact ⟨_, rfl, rfl⟩

end Go.Proofs.YtkonfogebepccaaGreatDoor
namespace Go.Proofs.YtkonfogebepccaaGreatDoor
open Go.RowKit
attribute [local go_sem] cell_set
set_option maxRecDepth 100000
set_option linter.unusedVariables false

end Go.Proofs.YtkonfogebepccaaGreatDoor
