/-
  A wiring: New.
-/
import Derived.Test.YthbobooiedcofaaWirDrop
import Derived.Deep.DeepCutAuto
namespace Go.Proofs.Ythbobooiedcofaa
open Go.RowKit
attribute [local go_sem] cell_set
set_option maxRecDepth 100000
set_option linter.unusedVariables false

section
variable (A : Nat) (S : Ars) (FA : List Nat) (w : World)
theorem wi_new_bad (free : Int) (hf : free < 0 ∨ 64 < free) (h : PA w A S FA) :
    Calls Try.prog 13 #[.pointer (some ⟨A, 0, none⟩), .int .i64 free] w fun e w' => e = .returned (.tuple #[.pointer none, .int .i64 1]) ∧ Below w.heap.size w w' := by
  have HG := Lib.hid h
  have hm : ((S.most : Int) == 0) = false := ok_ne h.ok
  rcases (by omega : free < 0 ∨ (¬ free < 0 ∧ 64 < free)) with h1 | ⟨h1, h2⟩
  all_goals
    go_enter Try.func13, Try.ntmps13
    go_wp2_with (go_at_call 39; refine (ar_field A S FA _ HG.out).mono ?_; rintro e w' ⟨rfl, rfl⟩)
    go_ret2
    exact ⟨rfl, Below.refl _ _⟩
/-- The cells of a wiring that is being laid. -/
def NW (w : World) (A f k : Nat) (W : World) : Prop := Below w.heap.size w W ∧ ∃ tl : List Value, W.heap[w.heap.size]? = some (.cells (Value.pointer (some ⟨A, 0, none⟩) :: .int .i64 (f : Int) :: tl).toArray 52 (0, 0)) ∧ tl.length = 64 ∧ ∀ j, j < k → tl[j]? = some (.int .u32 4294967295)
theorem NW.set {w W : World} {A f k : Nat} (h : NW w A f k W) (hk : k < 64) : NW w A f (k + 1) (W.setCell ⟨w.heap.size, 2 + k, none⟩ (.int .u32 4294967295)) := by
  obtain ⟨hb, tl, hh, hl, ht⟩ := h
  refine ⟨hb.setCell (p := ⟨w.heap.size, 2 + k, none⟩) (Nat.le_refl _) _, tl.set k (.int .u32 4294967295), ?_, by simpa using hl, fun j hj => ?_⟩
  · simp only [World.setCell, Array.getElem?_modify, hh]
    simp only [if_true, Option.map_some]
    congr 2
    simp [List.setIfInBounds_toArray, show 2 + k = k + 1 + 1 by omega, List.set_cons_succ]
  · rw [List.getElem?_set]
    by_cases e : k = j
    · rw [if_pos e, if_pos (by omega)]
    · rw [if_neg e]; exact ht j (by omega)
theorem NW.at_ {w W : World} {A f k : Nat} (h : NW w A f k W) (hk : k < 64) : (∃ u, W.cell? ⟨w.heap.size, 2 + k, none⟩ = some u) ∧ W.frozen? ⟨w.heap.size, 2 + k, none⟩ = false := by
  obtain ⟨hb, tl, hh, hl, ht⟩ := h
  refine ⟨⟨tl[k]'(by omega), ?_⟩, by simp [World.frozen?, hh]⟩
  simp only [World.cell?, hh]
  rw [List.getElem?_toArray, show 2 + k = k + 1 + 1 by omega, List.getElem?_cons_succ, List.getElem?_cons_succ]
  exact List.getElem?_eq_getElem (by omega)
set_option maxHeartbeats 2000000 in
theorem wi_new_ok (f : Nat) (hf : f ≤ 64) (h : PA w A S FA) :
    Calls Try.prog 13 #[.pointer (some ⟨A, 0, none⟩), .int .i64 (f : Int)] w fun e w' => e = .returned (.tuple #[.pointer (some ⟨w.heap.size, 0, none⟩), .int .i64 0]) ∧ WG w' w.heap.size A (Wir.new S f) FA ∧ Below w.heap.size w w' := by
  have HG := Lib.hid h
  have hm : ((S.most : Int) == 0) = false := ok_ne h.ok
  have h1 : ¬ (f : Int) < 0 := by omega
  have h2 : ¬ (64 : Int) < (f : Int) := by omega
  go_enter Try.func13, Try.ntmps13
  go_upto_region 4 with (go_at_call 39; refine (ar_field A S FA _ HG.out).mono ?_; rintro e w' ⟨rfl, rfl⟩)
  refine absW (fun X => NW w A f 0 X) ⟨by (repeat (first | exact Below.refl _ _ | (with_reducible refine Below.drew ?_) | (with_reducible refine Below.alloc ?_ (by (try simp); (try omega)) _) | (with_reducible refine Below.setCell ?_ (by (try simp); (try omega)) _) | (with_reducible refine Below.trans ?_ (Below.mono (by assumption) (by (try simp); (try omega)))))), List.replicate 64 (.int .u32 0), heap_alloc_new _ _, rfl, fun j hj => absurd hj (by omega)⟩ ?_
  intro X hX
  have HN0 := Lib.hid hX
  clear hX
  go_wp2_with fail
  go_loopw [24] (fun i wr => ∃ k : Nat, i = .int .i64 k ∧ k ≤ 64 ∧ Hid (NW w A f k wr)) (fun i _ => 64 - (intOf i).toNat)
  case atStart => exact ⟨0, rfl, Nat.zero_le _, HN0⟩
  case round =>
    obtain ⟨k, rfl, hk, HR⟩ := hrel
    clear HN0
    by_cases hlt : k < 64
    · obtain ⟨⟨u, k0⟩, k1⟩ := HR.out.at_ hlt
      have h5 : (k : Int) < 64 := by omega
      have h7 : (0 : Int) ≤ (k : Int) := by omega
      go_wp2_with fail
      go_roundw
      case measure => simp [intOf]; omega
      case rel => exact ⟨k + 1, by go_num, by omega, HR.out.set hlt⟩
    · obtain rfl : k = 64 := by omega
      go_wp2_with fail
      go_ret2
      obtain ⟨hb, tl, hh, hl, ht⟩ := HR.out
      refine ⟨rfl, ⟨⟨tl, ?_, hl, fun i hi => ?_⟩, HG.out.below hb, Wir.Ok.new HG.out.ok hf⟩, hb⟩
      · rw [show (Wir.new S f).P.length = f by simp [Wir.new]]; exact hh
      · have hi' : i < f := by simpa [Wir.new] using hi
        rw [ht i (by omega)]
        simp [Wir.new, List.getD_eq_getElem?_getD, hi']
end
end Go.Proofs.Ythbobooiedcofaa
