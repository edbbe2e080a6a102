/-
  Contract of package agenda: All.
-/
import Derived.Test.YtkonfogebepccaaDoorAgRem
import Derived.Test.YtkonfogebepccaaDoorReads
namespace Go.Proofs.YtkonfogebepccaaDoor
open Go.RowKit
attribute [local go_sem] cell_set
set_option maxRecDepth 100000
set_option linter.unusedVariables false

theorem Row.srcP {w : World} {e : TypeId} {size n c : Nat} {A : Option Addr} {xs : List Value} (h : Row w e size (.slice A n c) n xs) (h1 : ∀ u ∈ xs, u.oneCell' = true) : Src w A n size xs := by
  refine ⟨h.1, h1, ?_⟩
  rcases h.2 with ⟨h0, hn⟩ | ⟨g, cap, cur, hv, hh, _⟩
  · simp only [Value.slice.injEq] at h0
    exact .inl ⟨h0.1, hn⟩
  · simp only [Value.slice.injEq, true_and] at hv
    obtain ⟨rfl, rfl⟩ := hv
    exact .inr ⟨_, rfl, h.cells rfl rfl⟩
set_option maxHeartbeats 1000000 in
theorem ag_all (A : Nat) (ps : List (Int × Int)) (F : List Nat) (w : World) (h : AG w A ps F) (hl : ps.length < 65536) :
    Calls Tryd.prog 15 #[.pointer (some ⟨A, 0, none⟩)] w fun e w' => ∃ V c, e = .returned (.slice V ps.length c) ∧ Fresh w w' 35 2 ps.length (.slice V ps.length c) (pcells ps) := by
  obtain ⟨i0, hi0, hi1, hi2, hi3⟩ := info_parts pair_infoA
  obtain ⟨sv, B, c0, c1, z0, hr, hm, rfl, hA⟩ := h.head
  have hAl : A < w.heap.size := heap_lt hA
  obtain ⟨V, cap, rfl, hcap⟩ := hr.len
  have HS := Lib.hid ((hr.alloc (.cells #[] 35)).srcP (pcells_one ps))
  have HE : Hid (Row (w.alloc (.cells #[] 35)) 35 2 (.slice (some ⟨w.heap.size, 0, none⟩) 0 0) 0 []) := ⟨rfl, .inr ⟨w.heap.size, 0, _, rfl, heap_alloc_new w _, Nat.le_refl _, by simp, by simp, by simp⟩⟩
  have HB63 : 0 + ps.length ≤ maxLen := by simp only [maxLen]; omega
  have HB47 : (0 + ps.length) * 16 ≤ 140737488355328 := by omega
  clear hr hm hA
  go_enter Tryd.func15, Tryd.ntmps15
  go_wp2_with (first
    | (go_at_call 51; refine (ag_none_is _ B _ (by go_simp)).mono ?_; rintro e w' ⟨rfl, rfl⟩)
    | (at_builtin; go_loud (refine inPlain rfl (wpo_row_append _ _ _ rfl i0 _ 16 Tryd.underlying27 hi0 hi1 hi2 hi3 rfl rfl HE.out _ ps.length _ rfl (pcells ps) HS.out HB63 HB47 ?_)); intro sv5 w5 r5 k5 o5; rw [Nat.zero_add, List.nil_append] at r5; obtain ⟨V5, cp5, rfl, hc5⟩ := r5.len))
  go_ret
  change Kp [w.heap.size] _ w5 at k5
  change ownB _ = [w.heap.size] ∨ _ at o5
  refine ⟨V5, cp5, rfl, r5, fun b hb => ?_, ?_⟩
  · rcases o5 with e | e <;> rw [e] at hb
    · simp at hb; omega
    · simp at hb; omega
  · exact ((Below.refl _ w).alloc (Nat.le_refl _) _).trans (k5.below (by simp) (by intro b hb; simp at hb; omega))
end Go.Proofs.YtkonfogebepccaaDoor
