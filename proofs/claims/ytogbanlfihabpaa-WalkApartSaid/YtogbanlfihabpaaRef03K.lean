/-
  A row that 'make' made; of each port's place the place of its partner. (Split off from Ref03L, for seats that lack skeinref03.Links.)
-/
import Derived.Test.YtogbanlfihabpaaRef03A
namespace Go.Proofs.Ytogbanlfihabpaa
open Go.RowKit
attribute [local go_sem] cell_set
set_option maxRecDepth 100000
set_option linter.unusedVariables false

/-- A row that 'make' made. -/
theorem Row.made (w : World) (e : TypeId) (z : Value) (n : Nat) (h63 : n ≤ maxLen) : Row (w.alloc (.cells (madeCells #[z] n) e)) e 1 (.slice (some ⟨w.heap.size, 0, none⟩) n n) n (List.replicate n z) :=
  ⟨by simp, .inr ⟨w.heap.size, n, _, rfl, heap_alloc_new w _, Nat.le_refl _, h63, by simp [size_madeCells], by rw [toList_madeCells_one]; simp⟩⟩
theorem ivals_set (l : List Int) (j : Nat) (x : Int) : (ivals l).set j (.int .i64 x) = ivals (l.set j x) := by simp [ivals, List.map_set]
theorem ends_at {W : List (Pt × Pt)} {k : Nat} (hk : k < W.length) : (W.getD k default).1 ∈ ends W ∧ (W.getD k default).2 ∈ ends W := by
  have hm : W.getD k default ∈ W := by rw [List.getD_eq_getElem?_getD, List.getElem?_eq_getElem hk]; exact List.getElem_mem hk
  unfold ends
  exact ⟨List.mem_flatMap.2 ⟨_, hm, by simp⟩, List.mem_flatMap.2 ⟨_, hm, by simp⟩⟩
theorem ends_ne {W : List (Pt × Pt)} (h : (ends W).Nodup) {k : Nat} (hk : k < W.length) : (W.getD k default).1 ≠ (W.getD k default).2 := by
  induction W generalizing k with
  | nil => simp at hk
  | cons x r ih =>
    have e : ends (x :: r) = x.1 :: x.2 :: ends r := by simp [ends]
    rw [e, List.nodup_cons, List.nodup_cons] at h
    cases k with
    | zero => exact fun e => h.1 (by simp at e; simp [e])
    | succ k => simpa using ih h.2.2 (k := k) (by simpa using hk)
theorem plcR_is {pn : Int → Nat} {cells : List Int} {free : Nat} {p : Pt} (h : isPt pn cells free p = true) : plcR pn cells free p = (plc pn cells free p : Int) := by unfold plcR; rw [if_pos h]

end Go.Proofs.Ytogbanlfihabpaa
