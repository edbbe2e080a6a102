/-
  Contracts of package agenda: Add of a bad pair, Pick of an empty one, Remove of a bad place, All.
-/
import Derived.Test.YtkonfogebepccaaDoorAgenda
namespace Go.Proofs.YtkonfogebepccaaDoor
open Go.RowKit
attribute [local go_sem] cell_set
set_option maxRecDepth 100000
set_option linter.unusedVariables false

theorem ag_add_bad (A : Nat) (ps : List (Int × Int)) (F : List Nat) (x y : Int) (w : World) (h : AG w A ps F) (hb : x < 0 ∨ y < 0 ∨ x = y) :
    Calls Tryd.prog 8 #[.pointer (some ⟨A, 0, none⟩), .agg #[.int .i64 x, .int .i64 y]] w fun e w' => e = .returned (.int .i64 1) ∧ Below w.heap.size w w' := by
  obtain ⟨sv, B, c0, c1, z0, hr, hm, rfl, hA⟩ := h.head
  have hAl : A < w.heap.size := heap_lt hA
  clear hr hm hA
  rcases (by omega : x < 0 ∨ (0 ≤ x ∧ y < 0) ∨ (0 ≤ x ∧ 0 ≤ y ∧ x = y)) with h1 | ⟨h0, h1⟩ | ⟨h0, h1, rfl⟩
  · clear hb
    have d1 : decide (x < 0) = true := by simpa using h1
    go_enter Tryd.func8, Tryd.ntmps8
    go_wp2_with (go_at_call 51; refine (ag_none_is _ B _ (by go_simp)).mono ?_; rintro e w' ⟨rfl, rfl⟩)
    go_ret
    exact ⟨rfl, by (repeat (first | exact Below.refl _ _ | (with_reducible refine Below.drew ?_) | (with_reducible refine Below.alloc ?_ (by (try simp); (try omega)) _) | (with_reducible refine Below.setCell ?_ (by (try simp); (try omega)) _) | (with_reducible refine Below.trans ?_ (Below.mono (by assumption) (by (try simp); (try omega))))))⟩
  · clear hb
    have d0 : decide (x < 0) = false := by simpa using h0
    have d1 : decide (y < 0) = true := by simpa using h1
    go_enter Tryd.func8, Tryd.ntmps8
    go_wp2_with (go_at_call 51; refine (ag_none_is _ B _ (by go_simp)).mono ?_; rintro e w' ⟨rfl, rfl⟩)
    go_ret
    exact ⟨rfl, by (repeat (first | exact Below.refl _ _ | (with_reducible refine Below.drew ?_) | (with_reducible refine Below.alloc ?_ (by (try simp); (try omega)) _) | (with_reducible refine Below.setCell ?_ (by (try simp); (try omega)) _) | (with_reducible refine Below.trans ?_ (Below.mono (by assumption) (by (try simp); (try omega))))))⟩
  · clear hb
    have d0 : decide (x < 0) = false := by simpa using h0
    go_enter Tryd.func8, Tryd.ntmps8
    go_wp2_with (go_at_call 51; refine (ag_none_is _ B _ (by go_simp)).mono ?_; rintro e w' ⟨rfl, rfl⟩)
    go_ret
    exact ⟨rfl, by (repeat (first | exact Below.refl _ _ | (with_reducible refine Below.drew ?_) | (with_reducible refine Below.alloc ?_ (by (try simp); (try omega)) _) | (with_reducible refine Below.setCell ?_ (by (try simp); (try omega)) _) | (with_reducible refine Below.trans ?_ (Below.mono (by assumption) (by (try simp); (try omega))))))⟩
theorem ag_pick_empty (A : Nat) (F : List Nat) (k : Int) (w : World) (h : AG w A [] F) :
    Calls Tryd.prog 12 #[.pointer (some ⟨A, 0, none⟩), .int .i64 k] w fun e w' => e = .returned (.tuple #[.agg #[.int .i64 0, .int .i64 0], .int .i64 0, .int .i64 60]) ∧ Below w.heap.size w w' := by
  obtain ⟨sv, B, c0, c1, z0, hr, hm, rfl, hA⟩ := h.head
  have hAl : A < w.heap.size := heap_lt hA
  obtain ⟨V, cap, rfl, hcap⟩ := hr.len
  clear hr hm hA
  go_enter Tryd.func12, Tryd.ntmps12
  go_wp2_with (go_at_call 51; refine (ag_none_is _ B _ (by go_simp)).mono ?_; rintro e w' ⟨rfl, rfl⟩)
  exact bodyPost_ret (v := .tuple #[.agg #[.int .i64 0, .int .i64 0], .int .i64 0, .int .i64 60]) (by simp only [results, Tryd.results12]; go_simp) rfl ⟨rfl, by (repeat (first | exact Below.refl _ _ | (with_reducible refine Below.drew ?_) | (with_reducible refine Below.alloc ?_ (by (try simp); (try omega)) _) | (with_reducible refine Below.setCell ?_ (by (try simp); (try omega)) _) | (with_reducible refine Below.trans ?_ (Below.mono (by assumption) (by (try simp); (try omega))))))⟩
theorem ag_remove_bad (A : Nat) (ps : List (Int × Int)) (F : List Nat) (k : Int) (w : World) (h : AG w A ps F) (hk : k < 0 ∨ (ps.length : Int) ≤ k) :
    Calls Tryd.prog 10 #[.pointer (some ⟨A, 0, none⟩), .int .i64 k] w fun e w' => e = .returned (.tuple #[.agg #[.int .i64 0, .int .i64 0], .int .i64 1]) ∧ Below w.heap.size w w' := by
  obtain ⟨sv, B, c0, c1, z0, hr, hm, rfl, hA⟩ := h.head
  have hAl : A < w.heap.size := heap_lt hA
  obtain ⟨V, cap, rfl, hcap⟩ := hr.len
  clear hr hm hA
  rcases (by omega : k < 0 ∨ (0 ≤ k ∧ (ps.length : Int) ≤ k)) with h1 | ⟨h0, h1⟩
  · clear hk
    go_enter Tryd.func10, Tryd.ntmps10
    go_wp2_with (go_at_call 51; refine (ag_none_is _ B _ (by go_simp)).mono ?_; rintro e w' ⟨rfl, rfl⟩)
    exact bodyPost_ret (v := .tuple #[.agg #[.int .i64 0, .int .i64 0], .int .i64 1]) (by simp only [results, Tryd.results10]; go_simp) rfl ⟨rfl, by (repeat (first | exact Below.refl _ _ | (with_reducible refine Below.drew ?_) | (with_reducible refine Below.alloc ?_ (by (try simp); (try omega)) _) | (with_reducible refine Below.setCell ?_ (by (try simp); (try omega)) _) | (with_reducible refine Below.trans ?_ (Below.mono (by assumption) (by (try simp); (try omega))))))⟩
  · clear hk
    go_enter Tryd.func10, Tryd.ntmps10
    go_wp2_with (go_at_call 51; refine (ag_none_is _ B _ (by go_simp)).mono ?_; rintro e w' ⟨rfl, rfl⟩)
    exact bodyPost_ret (v := .tuple #[.agg #[.int .i64 0, .int .i64 0], .int .i64 1]) (by simp only [results, Tryd.results10]; go_simp) rfl ⟨rfl, by (repeat (first | exact Below.refl _ _ | (with_reducible refine Below.drew ?_) | (with_reducible refine Below.alloc ?_ (by (try simp); (try omega)) _) | (with_reducible refine Below.setCell ?_ (by (try simp); (try omega)) _) | (with_reducible refine Below.trans ?_ (Below.mono (by assumption) (by (try simp); (try omega))))))⟩
end Go.Proofs.YtkonfogebepccaaDoor
