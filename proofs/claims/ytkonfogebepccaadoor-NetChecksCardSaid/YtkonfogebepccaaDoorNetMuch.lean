/-
  Contract of skeinlaw03.much.
-/
import Derived.Test.YtkonfogebepccaaDoorEqN
/-
  Contract of skeinref00.SizeAgents.
-/
namespace Go.Proofs.YtkonfogebepccaaDoor
open Go.RowKit
attribute [local go_sem] cell_set
set_option maxRecDepth 100000
set_option linter.unusedVariables false

def SomeI (w : World) (e : Ending) (w' : World) : Prop := ∃ m : Int, e = .returned (.int .i64 m) ∧ w = w'
set_option maxHeartbeats 400000 in
theorem size_agents (A : Option Addr) (n cap : Nat) (L : List (ByteArray × Int)) (w : World) (hn : n = L.length) (hl : L.length ≤ maxLen) (HL : Hid (AgRd w A L)) :
    Calls Tryd.prog 66 #[.slice A n cap] w (SomeI w) := by
  subst hn
  unfold maxLen at hl
  go_enter Tryd.func66, Tryd.ntmps66
  go_wp2
  go_loop [3, 4] (fun t i => ∃ k : Nat, ∃ m : Int, i = .int .i64 k ∧ k ≤ L.length ∧ t = .int .i64 m) (fun _ i => L.length - (intOf i).toNat)
  case atStart => exact ⟨0, _, rfl, by omega, rfl⟩
  case round =>
    obtain ⟨k, m, rfl, hk, rfl⟩ := hrel
    by_cases hlt : k < L.length
    · by_cases hm : m ≤ 2147483647
      · obtain ⟨b, off, rfl, hb, e0, e1⟩ := HL.out k hlt
        clear e1
        generalize agN L k = s at e0
        go_wp2
        go_round
        case rel => exact ⟨k + 1, _, by go_num, by omega, rfl⟩
        case measure => simp [intOf]; omega
      · go_wp2
        go_ret
        exact ⟨_, rfl, rfl⟩
    · go_wp2
      go_ret
      exact ⟨_, rfl, rfl⟩

def SomeB (P : Bool → Prop) (w : World) (e : Ending) (w' : World) : Prop := ∃ r : Bool, e = .returned (.bool r) ∧ P r ∧ Below w.heap.size w w'
end Go.Proofs.YtkonfogebepccaaDoor
namespace Go.Proofs.YtkonfogebepccaaDoor
open Go.RowKit
attribute [local go_sem] cell_set
set_option maxRecDepth 100000
set_option linter.unusedVariables false

set_option maxHeartbeats 400000 in
theorem much_is (A : Option Addr) (n cap : Nat) (L : List (ByteArray × Int)) (VA VB : Option Addr) (n1 n2 ca cb : Nat) (free : Int) (w : World) (hn : n = L.length) (hl : L.length ≤ maxLen) (HL : Hid (AgRd w A L)) (h1 : n1 ≤ maxLen) (h2 : n2 ≤ maxLen) :
    Calls Tryd.prog 19 #[.slice A n cap, .agg #[.slice VA n1 ca, .int .i64 free, .slice VB n2 cb]] w (SomeB (fun r => r = false → L.length ≤ 1024 ∧ n1 ≤ 8192 ∧ n2 ≤ 32768) w) := by
  subst hn
  have hbA : ∀ o : Obj, Below w.heap.size w (w.alloc o) := fun o => (Below.refl _ _).alloc (Nat.le_refl _) o
  unfold maxLen at hl h1 h2
  by_cases c1 : 1024 < L.length
  · go_enter Tryd.func19, Tryd.ntmps19
    go_wp2
    go_ret
    exact ⟨_, rfl, fun h => by simp at h, hbA _⟩
  · have HSz : Hid (∀ Z, Below w.heap.size w Z → Calls Tryd.prog 66 #[.slice A L.length cap] Z (SomeI Z)) := fun Z hz => size_agents A _ cap L Z rfl (by simp only [maxLen]; omega) (Lib.hid (HL.out.below hz))
    go_enter Tryd.func19, Tryd.ntmps19
    go_wp2_with fail
    refine (HSz.out _ (hbA _)).mono ?_
    rintro e w1 ⟨m, rfl, rfl⟩
    go_wp2_with fail
    refine (long_is m _).mono ?_
    rintro e w1 ⟨rfl, rfl⟩
    by_cases c2 : 2147483647 < m
    · have d2 : decide (2147483647 < m) = true := by simpa using c2
      rw [d2]
      go_wp2
      go_ret
      exact ⟨_, rfl, fun h => by simp at h, hbA _⟩
    · have d2 : decide (2147483647 < m) = false := by simpa using c2
      rw [d2]
      by_cases c3 : 8192 < n1
      · go_wp2
        go_ret
        exact ⟨_, rfl, fun h => by simp at h, hbA _⟩
      · go_wp2
        go_ret
        exact ⟨_, rfl, fun h => by simp at h; omega, hbA _⟩
end Go.Proofs.YtkonfogebepccaaDoor
