/-
  Contract of skeinref03.Check.
-/
import Derived.Test.YtogbanlfihabpaaRef03K
/-
  What a list of seen numbers holds. (Split off from Each.)
-/
namespace Go.Proofs.Ytogbanlfihabpaa
open Go.RowKit
attribute [local go_sem] cell_set
set_option maxRecDepth 100000
set_option linter.unusedVariables false

theorem bool_info : (Try.prog.info? 4).map (fun i => (i.zero, i.size, i.bytes)) = some (some (.bool false), 1, 1) := by kernel_rfl
def bvals (l : List Bool) : List Value := l.map Value.bool
theorem bvals_set (l : List Bool) (j : Nat) (x : Bool) : (bvals l).set j (.bool x) = bvals (l.set j x) := by simp [bvals, List.map_set]
theorem bvals_replicate (n : Nat) : bvals (List.replicate n false) = List.replicate n (.bool false) := by simp [bvals]
instance (l : List Int) (most : Nat) : Decidable (eachN l most) := by unfold eachN; infer_instance
end Go.Proofs.Ytogbanlfihabpaa
namespace Go.Proofs.Ytogbanlfihabpaa
open Go.RowKit
attribute [local go_sem] cell_set
set_option maxRecDepth 100000
set_option linter.unusedVariables false

/-- Which ports were met in the first k wires. -/
def seenW (pn : Int → Nat) (cells : List Int) (free : Nat) (W : List (Pt × Pt)) (k : Nat) : List Bool := (allPs pn cells free).map fun p => decide (p ∈ ends (W.take k))
theorem seenW_0 (pn : Int → Nat) (cells : List Int) (free : Nat) (W : List (Pt × Pt)) : seenW pn cells free W 0 = List.replicate (firstN pn cells free cells.length) false := by
  refine List.ext_getElem (by simp [seenW, allPs_len]) fun i h1 h2 => ?_
  simp [seenW, ends]
theorem ends_take_succ {W : List (Pt × Pt)} {k : Nat} (hk : k < W.length) : ends (W.take (k + 1)) = ends (W.take k) ++ [(W.getD k default).1, (W.getD k default).2] := by
  have e : W.take (k + 1) = W.take k ++ [W.getD k default] := by rw [List.take_add_one, List.getElem?_eq_getElem hk, List.getD_eq_getElem?_getD, List.getElem?_eq_getElem hk]; rfl
  rw [e, ends_snoc]
theorem seenW_succ {pn : Int → Nat} {cells : List Int} {free : Nat} {W : List (Pt × Pt)} {k : Nat} (hk : k < W.length) (ha : isPt pn cells free (W.getD k default).1 = true) (hb : isPt pn cells free (W.getD k default).2 = true) :
    seenW pn cells free W (k + 1) = ((seenW pn cells free W k).set (plc pn cells free (W.getD k default).1) true).set (plc pn cells free (W.getD k default).2) true := by
  refine List.ext_getElem (by simp [seenW]) fun i h1 h2 => ?_
  have hi : i < (allPs pn cells free).length := by simpa [seenW] using h1
  have hp : plc pn cells free (allPs pn cells free)[i] = i := plc_at pn (List.getElem?_eq_getElem hi)
  have hpi : isPt pn cells free (allPs pn cells free)[i] = true := allPs_is pn (List.getElem_mem hi)
  simp only [seenW, List.getElem_map, List.getElem_set, ends_take_succ hk, List.mem_append, List.mem_cons, List.not_mem_nil, or_false]
  by_cases h1 : plc pn cells free (W.getD k default).2 = i
  · rw [if_pos h1]
    have : (allPs pn cells free)[i] = (W.getD k default).2 := plc_inj pn hpi hb (hp.trans h1.symm)
    simp [this]
  · rw [if_neg h1]
    have n1 : (allPs pn cells free)[i] ≠ (W.getD k default).2 := fun e => h1 (by rw [← e]; exact hp)
    by_cases h2 : plc pn cells free (W.getD k default).1 = i
    · rw [if_pos h2]
      have : (allPs pn cells free)[i] = (W.getD k default).1 := plc_inj pn hpi ha (hp.trans h2.symm)
      simp [this]
    · rw [if_neg h2]
      have n2 : (allPs pn cells free)[i] ≠ (W.getD k default).1 := fun e => h2 (by rw [← e]; exact hp)
      simp only [n1, n2, or_false]
theorem seenW_at {pn : Int → Nat} {cells : List Int} {free : Nat} {W : List (Pt × Pt)} {k : Nat} {p : Pt} (h : isPt pn cells free p = true) : (bvals (seenW pn cells free W k))[plc pn cells free p]? = some (.bool (decide (p ∈ ends (W.take k)))) := by
  simp [bvals, seenW, allPs_plc pn h]

theorem wBad_at {is : Pt → Bool} {W : List (Pt × Pt)} {k : Nat} (hk : k < W.length) : wBad is W k = wErr is (W.take k) (W.getD k default) := by
  unfold wBad
  rw [List.getElem?_eq_getElem hk, List.getD_eq_getElem?_getD, List.getElem?_eq_getElem hk]; rfl
section
variable {pn : Int → Nat} {most : Nat} {cS : Int × Int} {cells : List Int} {free : Int} {W : List (Pt × Pt)}
theorem nc_sig (h : cS.1 ≠ 0) : netChk pn most cS cells free W = cS := by unfold netChk; rw [if_pos h]
theorem nc_many (h : cS.1 = 0) (h1 : 4096 < cells.length ∨ 64 < free) : netChk pn most cS cells free W = (15, 0) := by unfold netChk; rw [if_neg (by simpa using h), if_pos h1]
theorem nc_neg (h : cS.1 = 0) (h1 : cells.length ≤ 4096) (h2 : free ≤ 64) (h3 : free < 0) : netChk pn most cS cells free W = (1, 0) := by unfold netChk; rw [if_neg (by simpa using h), if_neg (by omega), if_pos h3]
theorem nc_agent (h : cS.1 = 0) (h1 : cells.length ≤ 4096) (h2 : free ≤ 64) (h3 : 0 ≤ free) {k : Nat} (hk : k < cells.length) (hb : cells.getD k 0 < 0 ∨ (most : Int) ≤ cells.getD k 0) (hn : ∀ j, j < k → 0 ≤ cells.getD j 0 ∧ cells.getD j 0 < most) :
    netChk pn most cS cells free W = (20, (k : Int)) := by
  unfold netChk; rw [if_neg (by simpa using h), if_neg (by omega), if_neg (by omega), first_some hk (by simpa using hb) (fun j hj => by have := hn j hj; simp only [decide_eq_false_iff_not]; omega)]
theorem nc_wire (h : cS.1 = 0) (h1 : cells.length ≤ 4096) (h2 : free ≤ 64) (h3 : 0 ≤ free) (hc : ∀ j, j < cells.length → 0 ≤ cells.getD j 0 ∧ cells.getD j 0 < most) {k : Nat} (hk : k < W.length) (hb : wBad (isPt pn cells free.toNat) W k ≠ 0) (hn : ∀ j, j < k → wBad (isPt pn cells free.toNat) W j = 0) :
    netChk pn most cS cells free W = (wBad (isPt pn cells free.toNat) W k, (k : Int)) := by
  unfold netChk; rw [if_neg (by simpa using h), if_neg (by omega), if_neg (by omega), first_none (fun j hj => by have := hc j hj; simp only [decide_eq_false_iff_not]; omega), first_some hk (by simpa using hb) (fun j hj => by simpa using hn j hj)]
theorem nc_open (h : cS.1 = 0) (h1 : cells.length ≤ 4096) (h2 : free ≤ 64) (h3 : 0 ≤ free) (hc : ∀ j, j < cells.length → 0 ≤ cells.getD j 0 ∧ cells.getD j 0 < most) (hw : ∀ j, j < W.length → wBad (isPt pn cells free.toNat) W j = 0)
    {k : Nat} (hk : k < (allPs pn cells free.toNat).length) (hb : (allPs pn cells free.toNat).getD k (0, 0) ∉ ends W) (hn : ∀ j, j < k → (allPs pn cells free.toNat).getD j (0, 0) ∈ ends W) : netChk pn most cS cells free W = (32, (k : Int)) := by
  unfold netChk; rw [if_neg (by simpa using h), if_neg (by omega), if_neg (by omega), first_none (fun j hj => by have := hc j hj; simp only [decide_eq_false_iff_not]; omega), first_none (fun j hj => by simpa using hw j hj), first_some hk (by simpa using hb) (fun j hj => by simpa using hn j hj)]
theorem nc_ok (h : cS.1 = 0) (h1 : cells.length ≤ 4096) (h2 : free ≤ 64) (h3 : 0 ≤ free) (hc : ∀ j, j < cells.length → 0 ≤ cells.getD j 0 ∧ cells.getD j 0 < most) (hw : ∀ j, j < W.length → wBad (isPt pn cells free.toNat) W j = 0)
    (hn : ∀ j, j < (allPs pn cells free.toNat).length → (allPs pn cells free.toNat).getD j (0, 0) ∈ ends W) : netChk pn most cS cells free W = (0, 0) := by
  unfold netChk; rw [if_neg (by simpa using h), if_neg (by omega), if_neg (by omega), first_none (fun j hj => by have := hc j hj; simp only [decide_eq_false_iff_not]; omega), first_none (fun j hj => by simpa using hw j hj), first_none (fun j hj => by simpa using hn j hj)]
end

end Go.Proofs.Ytogbanlfihabpaa
