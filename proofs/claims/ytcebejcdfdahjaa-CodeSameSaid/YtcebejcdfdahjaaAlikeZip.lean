/-
  What a new pair of cells lays into skeinlaw12.alike's queue, link by link.
-/
import Derived.Test.YtcebejcdfdahjaaAlikeMem
namespace Go.Proofs.Ytcebejcdfdahjaa
open Go.RowKit
set_option maxRecDepth 100000
set_option linter.unusedVariables false

theorem plc_cell (pn : Int → Nat) (cs : List Int) (f c j : Nat) : plc pn cs f ((c : Int), (j : Int)) = firstN pn cs f c + j := by
  unfold plc
  rw [if_neg (by dsimp only; omega)]
  simp
section
variable (pn : Int → Nat) (csA csB : List Int) (LA LB : Pt → Pt)
/-- What the two cells lead to, side by side. -/
def zipP (c d : Nat) : List (Pt × Pt) := (rowP pn csA LA (c : Int)).zip (rowP pn csB LB (d : Int))
variable {pn csA csB LA LB}
theorem zipP_len {c d : Nat} (h : csA.getD c 0 = csB.getD d 0) : (zipP pn csA csB LA LB c d).length = pn (csA.getD c 0) := by
  simp only [zipP, List.length_zip, rowP_len, Int.toNat_natCast, h, Nat.min_self]
theorem zipP_take {c d j : Nat} (h : csA.getD c 0 = csB.getD d 0) (hj : j < pn (csA.getD c 0)) :
    (zipP pn csA csB LA LB c d).take (j + 1) = (zipP pn csA csB LA LB c d).take j ++ [(LA ((c : Int), (j : Int)), LB ((d : Int), (j : Int)))] := by
  have hl : j < (zipP pn csA csB LA LB c d).length := by rw [zipP_len h]; exact hj
  rw [List.take_succ_eq_append_getElem hl]
  congr 2
  simp only [zipP, List.getElem_zip, rowP, List.getElem_map, List.getElem_range]
theorem zipP_all {c d : Nat} (h : csA.getD c 0 = csB.getD d 0) : (zipP pn csA csB LA LB c d).take (pn (csA.getD c 0)) = zipP pn csA csB LA LB c d := by
  rw [← zipP_len (pn := pn) (LA := LA) (LB := LB) h, List.take_length]
end
theorem PtBx.push {X X' : World} {v : Value} {e : TypeId} {Q : List Pt} {t : Nat} {p : Pt} {o : Obj} (h : PtBx X t p) (hw : Win X e v Q) (hk : Kp (ownB v) (X.alloc o) X') (he : 78 ≠ e) : PtBx X' t p := by
  have hl := heap_lt h
  have h1 : (X.alloc o).heap[t]? = X.heap[t]? := ((Below.refl _ X).alloc (Nat.le_refl _) o).block t hl
  refine ((hk.block t (by simp; omega) fun hm => ?_).trans h1).trans h
  obtain ⟨cur, hc⟩ := hw.type t hm
  exact type_ne h hc he rfl
theorem absL {P : Program} {ops : Array Oper} {l : List Oper} {Q : Exit → Act → World → Prop} {a : Act} {w : World} (φ : World → Prop) (h : φ w) (k : ∀ W, φ W → wpList P ops Q l a W) : wpList P ops Q l a w := k w h
end Go.Proofs.Ytcebejcdfdahjaa
