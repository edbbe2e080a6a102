/-
  What a list of seen numbers holds. (Split off from Each.)
-/
import Derived.Test.YthbobooiedcofaaRef03K
namespace Go.Proofs.Ythbobooiedcofaa
open Go.RowKit
attribute [local go_sem] cell_set
set_option maxRecDepth 100000
set_option linter.unusedVariables false

theorem bool_info : (Try.prog.info? 4).map (fun i => (i.zero, i.size, i.bytes)) = some (some (.bool false), 1, 1) := by kernel_rfl
def bvals (l : List Bool) : List Value := l.map Value.bool
theorem bvals_set (l : List Bool) (j : Nat) (x : Bool) : (bvals l).set j (.bool x) = bvals (l.set j x) := by simp [bvals, List.map_set]
theorem bvals_replicate (n : Nat) : bvals (List.replicate n false) = List.replicate n (.bool false) := by simp [bvals]
instance (l : List Int) (most : Nat) : Decidable (eachN l most) := by unfold eachN; infer_instance
def seenE (l : List Int) (most k : Nat) : List Bool := (List.range most).map fun (j : Nat) => decide ((j : Int) ∈ l.take k)
theorem seenE_len (l : List Int) (most k : Nat) : (seenE l most k).length = most := by simp [seenE]
theorem seenE_0 (l : List Int) (most : Nat) : seenE l most 0 = List.replicate most false := by
  refine List.ext_getElem (by simp [seenE]) fun i h1 h2 => ?_
  simp [seenE]
theorem take_succ_mem {l : List Int} {k : Nat} (hk : k < l.length) (x : Int) : x ∈ l.take (k + 1) ↔ x ∈ l.take k ∨ x = l.getD k 0 := by
  have e : l.take (k + 1) = l.take k ++ [l.getD k 0] := by rw [List.take_add_one, List.getElem?_eq_getElem hk, List.getD_eq_getElem?_getD, List.getElem?_eq_getElem hk]; rfl
  rw [e]; simp
theorem seenE_succ {l : List Int} {most k m : Nat} (hk : k < l.length) (hm : m < most) (e : l.getD k 0 = (m : Int)) : seenE l most (k + 1) = (seenE l most k).set m true := by
  refine List.ext_getElem (by simp [seenE]) fun i h1 h2 => ?_
  simp only [seenE, List.getElem_map, List.getElem_range, List.getElem_set]
  by_cases h : m = i
  · subst h
    rw [if_pos rfl, decide_eq_true_eq, take_succ_mem hk]
    exact .inr e.symm
  · rw [if_neg h]
    congr 1
    rw [take_succ_mem hk, e]
    simp only [eq_iff_iff, or_iff_left_iff_imp]
    intro h2; omega
theorem seenE_at {l : List Int} {most k m : Nat} (hm : m < most) : (bvals (seenE l most k))[m]? = some (.bool (decide ((m : Int) ∈ l.take k))) := by
  simp [bvals, seenE, hm]

end Go.Proofs.Ythbobooiedcofaa
