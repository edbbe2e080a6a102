/-
  skeinref00.Bag: the lists of a kind, where there are none.
-/
import Derived.Test.YtkonfogebepccaaDoorBagNum
namespace Go.Proofs.YtkonfogebepccaaDoor
open Go.RowKit
attribute [local go_sem] cell_set
set_option maxRecDepth 100000
set_option linter.unusedVariables false

set_option maxHeartbeats 4000000 in
theorem apBytes_none (G : Nat) (w : World) (h : w.cell? ⟨G, 0, none⟩ = some (.slice none 0 0)) : Calls Tryd.prog 53 #[.pointer (some ⟨G, 0, none⟩)] w fun e w' => e = .returned (.bool true) ∧ w = w' := by
  go_enter Tryd.func53, Tryd.ntmps53
  go_wp2_with fail
  go_loopw [3] (fun n wr => n = .int .i64 0 ∧ Hid (w = wr)) (fun _ _ => 0)
  case atStart => exact ⟨rfl, rfl⟩
  case round =>
    obtain ⟨rfl, hw⟩ := hrel
    obtain rfl := hw.out
    go_wp2_with fail
    go_loopw [5, 6, 7] (fun x y n wr => x = .slice none 0 0 ∧ y = .slice none 0 0 ∧ n = .int .i64 0 ∧ Hid (w = wr)) (fun _ _ _ _ => 0)
    case atStart => exact ⟨rfl, rfl, rfl, rfl⟩
    case round =>
      obtain ⟨rfl, rfl, rfl, hw⟩ := hrel
      obtain rfl := hw.out
      go_wp2_with fail
      go_loopw [10] (fun n wr => n = .int .i64 0 ∧ Hid (w = wr)) (fun _ _ => 0)
      case atStart => exact ⟨rfl, rfl⟩
      case round =>
        obtain ⟨rfl, hw⟩ := hrel
        obtain rfl := hw.out
        go_wp2_with fail
        go_ret
        exact ⟨rfl, rfl⟩
set_option maxHeartbeats 4000000 in
theorem apBools_none (G : Nat) (w : World) (h : w.cell? ⟨G, 2, none⟩ = some (.slice none 0 0)) : Calls Tryd.prog 55 #[.pointer (some ⟨G, 0, none⟩)] w fun e w' => e = .returned (.bool true) ∧ w = w' := by
  go_enter Tryd.func55, Tryd.ntmps55
  go_wp2_with fail
  go_loopw [3] (fun n wr => n = .int .i64 0 ∧ Hid (w = wr)) (fun _ _ => 0)
  case atStart => exact ⟨rfl, rfl⟩
  case round =>
    obtain ⟨rfl, hw⟩ := hrel
    obtain rfl := hw.out
    go_wp2_with fail
    go_loopw [5, 6, 7] (fun x y n wr => x = .slice none 0 0 ∧ y = .slice none 0 0 ∧ n = .int .i64 0 ∧ Hid (w = wr)) (fun _ _ _ _ => 0)
    case atStart => exact ⟨rfl, rfl, rfl, rfl⟩
    case round =>
      obtain ⟨rfl, rfl, rfl, hw⟩ := hrel
      obtain rfl := hw.out
      go_wp2_with fail
      go_loopw [10] (fun n wr => n = .int .i64 0 ∧ Hid (w = wr)) (fun _ _ => 0)
      case atStart => exact ⟨rfl, rfl⟩
      case round =>
        obtain ⟨rfl, hw⟩ := hrel
        obtain rfl := hw.out
        go_wp2_with fail
        go_ret
        exact ⟨rfl, rfl⟩
set_option maxHeartbeats 4000000 in
theorem apTexts_none (G : Nat) (w : World) (h : w.cell? ⟨G, 3, none⟩ = some (.slice none 0 0)) : Calls Tryd.prog 56 #[.pointer (some ⟨G, 0, none⟩)] w fun e w' => e = .returned (.bool true) ∧ w = w' := by
  go_enter Tryd.func56, Tryd.ntmps56
  go_wp2_with fail
  go_loopw [3] (fun n wr => n = .int .i64 0 ∧ Hid (w = wr)) (fun _ _ => 0)
  case atStart => exact ⟨rfl, rfl⟩
  case round =>
    obtain ⟨rfl, hw⟩ := hrel
    obtain rfl := hw.out
    go_wp2_with fail
    go_loopw [5, 6, 7] (fun x y n wr => x = .slice none 0 0 ∧ y = .slice none 0 0 ∧ n = .int .i64 0 ∧ Hid (w = wr)) (fun _ _ _ _ => 0)
    case atStart => exact ⟨rfl, rfl, rfl, rfl⟩
    case round =>
      obtain ⟨rfl, rfl, rfl, hw⟩ := hrel
      obtain rfl := hw.out
      go_wp2_with fail
      go_loopw [10] (fun n wr => n = .int .i64 0 ∧ Hid (w = wr)) (fun _ _ => 0)
      case atStart => exact ⟨rfl, rfl⟩
      case round =>
        obtain ⟨rfl, hw⟩ := hrel
        obtain rfl := hw.out
        go_wp2_with fail
        go_ret
        exact ⟨rfl, rfl⟩
set_option maxHeartbeats 4000000 in
theorem apAgents_none (G : Nat) (w : World) (h : w.cell? ⟨G, 4, none⟩ = some (.slice none 0 0)) : Calls Tryd.prog 57 #[.pointer (some ⟨G, 0, none⟩)] w fun e w' => e = .returned (.bool true) ∧ w = w' := by
  go_enter Tryd.func57, Tryd.ntmps57
  go_wp2_with fail
  go_loopw [3] (fun n wr => n = .int .i64 0 ∧ Hid (w = wr)) (fun _ _ => 0)
  case atStart => exact ⟨rfl, rfl⟩
  case round =>
    obtain ⟨rfl, hw⟩ := hrel
    obtain rfl := hw.out
    go_wp2_with fail
    go_loopw [5, 6, 7] (fun x y n wr => x = .slice none 0 0 ∧ y = .slice none 0 0 ∧ n = .int .i64 0 ∧ Hid (w = wr)) (fun _ _ _ _ => 0)
    case atStart => exact ⟨rfl, rfl, rfl, rfl⟩
    case round =>
      obtain ⟨rfl, rfl, rfl, hw⟩ := hrel
      obtain rfl := hw.out
      go_wp2_with fail
      go_loopw [10] (fun n wr => n = .int .i64 0 ∧ Hid (w = wr)) (fun _ _ => 0)
      case atStart => exact ⟨rfl, rfl⟩
      case round =>
        obtain ⟨rfl, hw⟩ := hrel
        obtain rfl := hw.out
        go_wp2_with fail
        go_ret
        exact ⟨rfl, rfl⟩
set_option maxHeartbeats 4000000 in
theorem apNets_none (G : Nat) (w : World) (h : w.cell? ⟨G, 8, none⟩ = some (.slice none 0 0)) : Calls Tryd.prog 61 #[.pointer (some ⟨G, 0, none⟩)] w fun e w' => e = .returned (.bool true) ∧ w = w' := by
  go_enter Tryd.func61, Tryd.ntmps61
  go_wp2_with fail
  go_loopw [3] (fun n wr => n = .int .i64 0 ∧ Hid (w = wr)) (fun _ _ => 0)
  case atStart => exact ⟨rfl, rfl⟩
  case round =>
    obtain ⟨rfl, hw⟩ := hrel
    obtain rfl := hw.out
    go_wp2_with fail
    go_loopw [5, 6, 7] (fun x y n wr => x = .slice none 0 0 ∧ y = .slice none 0 0 ∧ n = .int .i64 0 ∧ Hid (w = wr)) (fun _ _ _ _ => 0)
    case atStart => exact ⟨rfl, rfl, rfl, rfl⟩
    case round =>
      obtain ⟨rfl, rfl, rfl, hw⟩ := hrel
      obtain rfl := hw.out
      go_wp2_with fail
      go_loopw [10] (fun n wr => n = .int .i64 0 ∧ Hid (w = wr)) (fun _ _ => 0)
      case atStart => exact ⟨rfl, rfl⟩
      case round =>
        obtain ⟨rfl, hw⟩ := hrel
        obtain rfl := hw.out
        go_wp2_with fail
        go_ret
        exact ⟨rfl, rfl⟩
set_option maxHeartbeats 4000000 in
theorem apRules_none (G : Nat) (w : World) (h : w.cell? ⟨G, 9, none⟩ = some (.slice none 0 0)) : Calls Tryd.prog 62 #[.pointer (some ⟨G, 0, none⟩)] w fun e w' => e = .returned (.bool true) ∧ w = w' := by
  go_enter Tryd.func62, Tryd.ntmps62
  go_wp2_with fail
  go_loopw [3] (fun n wr => n = .int .i64 0 ∧ Hid (w = wr)) (fun _ _ => 0)
  case atStart => exact ⟨rfl, rfl⟩
  case round =>
    obtain ⟨rfl, hw⟩ := hrel
    obtain rfl := hw.out
    go_wp2_with fail
    go_loopw [5, 6, 7] (fun x y n wr => x = .slice none 0 0 ∧ y = .slice none 0 0 ∧ n = .int .i64 0 ∧ Hid (w = wr)) (fun _ _ _ _ => 0)
    case atStart => exact ⟨rfl, rfl, rfl, rfl⟩
    case round =>
      obtain ⟨rfl, rfl, rfl, hw⟩ := hrel
      obtain rfl := hw.out
      go_wp2_with fail
      go_loopw [10] (fun n wr => n = .int .i64 0 ∧ Hid (w = wr)) (fun _ _ => 0)
      case atStart => exact ⟨rfl, rfl⟩
      case round =>
        obtain ⟨rfl, hw⟩ := hrel
        obtain rfl := hw.out
        go_wp2_with fail
        go_ret
        exact ⟨rfl, rfl⟩
set_option maxHeartbeats 4000000 in
theorem apSteps_none (G : Nat) (w : World) (h : w.cell? ⟨G, 10, none⟩ = some (.slice none 0 0)) : Calls Tryd.prog 63 #[.pointer (some ⟨G, 0, none⟩)] w fun e w' => e = .returned (.bool true) ∧ w = w' := by
  go_enter Tryd.func63, Tryd.ntmps63
  go_wp2_with fail
  go_loopw [3] (fun n wr => n = .int .i64 0 ∧ Hid (w = wr)) (fun _ _ => 0)
  case atStart => exact ⟨rfl, rfl⟩
  case round =>
    obtain ⟨rfl, hw⟩ := hrel
    obtain rfl := hw.out
    go_wp2_with fail
    go_loopw [5, 6, 7] (fun x y n wr => x = .slice none 0 0 ∧ y = .slice none 0 0 ∧ n = .int .i64 0 ∧ Hid (w = wr)) (fun _ _ _ _ => 0)
    case atStart => exact ⟨rfl, rfl, rfl, rfl⟩
    case round =>
      obtain ⟨rfl, rfl, rfl, hw⟩ := hrel
      obtain rfl := hw.out
      go_wp2_with fail
      go_loopw [10] (fun n wr => n = .int .i64 0 ∧ Hid (w = wr)) (fun _ _ => 0)
      case atStart => exact ⟨rfl, rfl⟩
      case round =>
        obtain ⟨rfl, hw⟩ := hrel
        obtain rfl := hw.out
        go_wp2_with fail
        go_ret
        exact ⟨rfl, rfl⟩
set_option maxHeartbeats 4000000 in
theorem apRows_none (G : Nat) (w : World) (h : w.cell? ⟨G, 11, none⟩ = some (.slice none 0 0)) : Calls Tryd.prog 64 #[.pointer (some ⟨G, 0, none⟩)] w fun e w' => e = .returned (.bool true) ∧ w = w' := by
  go_enter Tryd.func64, Tryd.ntmps64
  go_wp2_with fail
  go_loopw [3] (fun n wr => n = .int .i64 0 ∧ Hid (w = wr)) (fun _ _ => 0)
  case atStart => exact ⟨rfl, rfl⟩
  case round =>
    obtain ⟨rfl, hw⟩ := hrel
    obtain rfl := hw.out
    go_wp2_with fail
    go_loopw [5, 6, 7] (fun x y n wr => x = .slice none 0 0 ∧ y = .slice none 0 0 ∧ n = .int .i64 0 ∧ Hid (w = wr)) (fun _ _ _ _ => 0)
    case atStart => exact ⟨rfl, rfl, rfl, rfl⟩
    case round =>
      obtain ⟨rfl, rfl, rfl, hw⟩ := hrel
      obtain rfl := hw.out
      go_wp2_with fail
      go_loopw [10] (fun n wr => n = .int .i64 0 ∧ Hid (w = wr)) (fun _ _ => 0)
      case atStart => exact ⟨rfl, rfl⟩
      case round =>
        obtain ⟨rfl, hw⟩ := hrel
        obtain rfl := hw.out
        go_wp2_with fail
        go_ret
        exact ⟨rfl, rfl⟩
end Go.Proofs.YtkonfogebepccaaDoor
