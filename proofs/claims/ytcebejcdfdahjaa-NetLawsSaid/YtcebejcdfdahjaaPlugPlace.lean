/-
  Plain: the places that the answer's Plugged gives to the ports that are left.
-/
import Derived.Test.YtcebejcdfdahjaaPlugSame
/-
  Plain: the lists that the answer's Plugged fills, by places.
-/
namespace Go.Proofs.Ytcebejcdfdahjaa
open Go.RowKit
set_option linter.unusedVariables false

theorem filter_idx {c : Nat → Bool} {n i : Nat} (hi : i < n) (hc : c i = true) : ((List.range n).filter c).idxOf i = ((List.range i).filter c).length := by
  have e : List.range n = List.range i ++ i :: (List.range (n - (i + 1))).map (fun j => i + 1 + j) := by
    have h1 : n = i + (1 + (n - (i + 1))) := by omega
    conv => lhs; rw [h1, List.range_add, List.range_add]
    simp [Nat.add_assoc]
  rw [e, List.filter_append, List.filter_cons, if_pos hc, List.idxOf_append, if_neg]
  · simp
  · intro hm
    have := List.mem_range.1 (List.mem_filter.1 hm).1
    omega
theorem idxOf_mapOn {α β : Type} [BEq α] [LawfulBEq α] [BEq β] [LawfulBEq β] {f : α → β} {l : List α} {x : α} (hx : x ∈ l) (h : ∀ a ∈ l, f a = f x → a = x) : (l.map f).idxOf (f x) = l.idxOf x := by
  induction l with
  | nil => simp at hx
  | cons a r ih =>
    rw [List.map_cons, List.idxOf_cons, List.idxOf_cons]
    by_cases e : a = x
    · subst e; simp
    · have e2 : f a ≠ f x := fun e2 => e (h a (by simp) e2)
      have e3 : (f a == f x) = false := by simpa using e2
      have e4 : (a == x) = false := by simpa using e
      rw [e3, e4]
      simp only [cond_false]
      rcases List.mem_cons.1 hx with hx | hx
      · exact absurd hx.symm e
      · rw [ih hx fun b hb => h b (by simp [hb])]
section
variable (pn : Int → Nat) (csA csB : List Int) (fA fB : Nat)
/-- The ports of both nets, in order. -/
def sides : List Sd := (allPs pn csA fA).map (fun p => (false, p)) ++ (allPs pn csB fB).map (fun p => (true, p))
/-- The place of a side. -/
def plS (x : Sd) : Nat := if x.1 = true then firstN pn csA fA csA.length + plc pn csB fB x.2 else plc pn csA fA x.2
variable {pn csA csB fA fB} {J : List (Int × Int)} {WA WB : List (Pt × Pt)}
theorem sides_len : (sides pn csA csB fA fB).length = firstN pn csA fA csA.length + firstN pn csB fB csB.length := by
  simp [sides, allPs_len]
theorem plS_lt {x : Sd} (hx : isSd pn csA csB fA fB x) : plS pn csA csB fA fB x < firstN pn csA fA csA.length + firstN pn csB fB csB.length := by
  obtain ⟨b, p⟩ := x
  unfold plS
  cases b
  · have : plc pn csA fA p < _ := plc_lt pn (hx.1 rfl); simp only [Bool.false_eq_true, if_false]; omega
  · have : plc pn csB fB p < _ := plc_lt pn (hx.2 rfl); simp only [if_true]; omega
theorem sides_at {x : Sd} (hx : isSd pn csA csB fA fB x) : (sides pn csA csB fA fB)[plS pn csA csB fA fB x]? = some x := by
  obtain ⟨b, p⟩ := x
  unfold sides plS
  cases b
  · have h1 : plc pn csA fA p < _ := plc_lt pn (hx.1 rfl)
    simp only [Bool.false_eq_true, if_false]
    rw [List.getElem?_append_left (by simp [allPs_len]; exact h1), List.getElem?_map, allPs_plc pn (hx.1 rfl)]
    rfl
  · have h1 : plc pn csB fB p < _ := plc_lt pn (hx.2 rfl)
    simp only [if_true]
    rw [List.getElem?_append_right (by simp [allPs_len]), List.length_map, allPs_len, Nat.add_sub_cancel_left, List.getElem?_map, allPs_plc pn (hx.2 rfl)]
    rfl
theorem plS_inj {x y : Sd} (hx : isSd pn csA csB fA fB x) (hy : isSd pn csA csB fA fB y) (e : plS pn csA csB fA fB x = plS pn csA csB fA fB y) : x = y := by
  have h1 := sides_at hx
  have h2 := sides_at hy
  rw [e, h2] at h1
  exact (Option.some.inj h1).symm
/-- Each place is a side's. -/
theorem side_of {i : Nat} (hi : i < firstN pn csA fA csA.length + firstN pn csB fB csB.length) : ∃ x, isSd pn csA csB fA fB x ∧ plS pn csA csB fA fB x = i := by
  by_cases h : i < firstN pn csA fA csA.length
  · have hl : i < (allPs pn csA fA).length := by rw [allPs_len]; exact h
    have hm := List.getElem_mem hl
    refine ⟨(false, (allPs pn csA fA)[i]), ⟨fun _ => allPs_mem.1 hm, fun h => by simp at h⟩, ?_⟩
    unfold plS
    simp only [Bool.false_eq_true, if_false]
    exact plc_at pn (List.getElem?_eq_getElem hl)
  · have hl : i - firstN pn csA fA csA.length < (allPs pn csB fB).length := by rw [allPs_len]; omega
    have hm := List.getElem_mem hl
    refine ⟨(true, (allPs pn csB fB)[i - firstN pn csA fA csA.length]), ⟨fun h => by simp at h, fun _ => allPs_mem.1 hm⟩, ?_⟩
    unfold plS
    simp only [if_true]
    rw [plc_at pn (List.getElem?_eq_getElem hl)]
    omega
/-- A free side, by its place. -/
theorem free_iff {x : Sd} (hx : isSd pn csA csB fA fB x) : x.2.1 < 0 ↔ plS pn csA csB fA fB x < fA ∨ (firstN pn csA fA csA.length ≤ plS pn csA csB fA fB x ∧ plS pn csA csB fA fB x < firstN pn csA fA csA.length + fB) := by
  have key : ∀ (cs : List Int) (f : Nat) (p : Pt), isPt pn cs f p = true → (p.1 < 0 ↔ plc pn cs f p < f) := fun cs f p hp => by
    unfold isPt at hp
    unfold plc
    by_cases h : p.1 = -1
    · rw [if_pos h, decide_eq_true_eq] at hp
      rw [if_pos h]
      omega
    · rw [if_neg h, decide_eq_true_eq] at hp
      rw [if_neg h]
      have : f ≤ firstN pn cs f p.1.toNat := by unfold firstN; omega
      omega
  obtain ⟨b, p⟩ := x
  have hfa : fA ≤ firstN pn csA fA csA.length := by unfold firstN; omega
  unfold plS
  cases b
  · have h1 : plc pn csA fA p < _ := plc_lt pn (hx.1 rfl)
    have := key csA fA p (hx.1 rfl)
    simp only [Bool.false_eq_true, if_false]
    rw [this]
    omega
  · have h1 : plc pn csB fB p < _ := plc_lt pn (hx.2 rfl)
    have := key csB fB p (hx.2 rfl)
    simp only [if_true]
    rw [this]
    omega
end
end Go.Proofs.Ytcebejcdfdahjaa
namespace Go.Proofs.Ytcebejcdfdahjaa
open Go.RowKit
set_option linter.unusedVariables false

theorem map_part {α : Type} [Inhabited α] (A B C : List α) : (List.range B.length).map (fun i => (A ++ (B ++ C)).getD (A.length + i) default) = B := by
  refine List.ext_getElem (by simp) fun i h1 h2 => ?_
  simp only [List.getElem_map, List.getElem_range]
  rw [List.getD_eq_getElem?_getD, List.getElem?_append_right (by omega), Nat.add_sub_cancel_left, List.getElem?_append_left h2, List.getElem?_eq_getElem h2]
  rfl
theorem filter_all {α : Type} {c : α → Bool} {l : List α} (h : ∀ x ∈ l, c x = true) : l.filter c = l := List.filter_eq_self.2 h
theorem filter_no {α : Type} {c : α → Bool} {l : List α} (h : ∀ x ∈ l, c x = false) : l.filter c = [] := List.filter_eq_nil_iff.2 fun x hx => by rw [h x hx]; simp
theorem range_add2 (m n : Nat) : List.range (m + n) = List.range m ++ (List.range n).map (fun i => m + i) := List.range_add
section
variable (pn : Int → Nat) (csA csB : List Int) (fA fB : Nat) (J : List (Int × Int))
def sideAt (i : Nat) : Sd := (sides pn csA csB fA fB).getD i default
/-- A place that is free and not joined; a place of a cell. -/
def c3 (i : Nat) : Bool := decide (i < fA ∨ (firstN pn csA fA csA.length ≤ i ∧ i < firstN pn csA fA csA.length + fB)) && isL J (sideAt pn csA csB fA fB i)
def c4 (i : Nat) : Bool := decide ((fA ≤ i ∧ i < firstN pn csA fA csA.length) ∨ firstN pn csA fA csA.length + fB ≤ i)
variable {pn csA csB fA fB J}
theorem sideAt_pl {x : Sd} (hx : isSd pn csA csB fA fB x) : sideAt pn csA csB fA fB (plS pn csA csB fA fB x) = x := by
  unfold sideAt
  rw [List.getD_eq_getElem?_getD, sides_at hx]
  rfl
theorem first_ge (pn : Int → Nat) (cs : List Int) (f : Nat) : firstN pn cs f cs.length = f + (cellPs pn 0 cs).length := by
  rw [cellPs_len]; unfold firstN; rw [List.take_length]
theorem left_idx : leftS pn csA csB fA fB J = (((List.range (firstN pn csA fA csA.length + firstN pn csB fB csB.length)).filter (c3 pn csA csB fA fB J)) ++ ((List.range (firstN pn csA fA csA.length + firstN pn csB fB csB.length)).filter (c4 pn csA fA fB))).map (sideAt pn csA csB fA fB) := by
  have hNA := first_ge pn csA fA
  have hNB := first_ge pn csB fB
  obtain ⟨A1, hA1⟩ : ∃ l, (freePs fA).map (fun p => ((false, p) : Sd)) = l := ⟨_, rfl⟩
  obtain ⟨A2, hA2⟩ : ∃ l, (cellPs pn 0 csA).map (fun p => ((false, p) : Sd)) = l := ⟨_, rfl⟩
  obtain ⟨B1, hB1⟩ : ∃ l, (freePs fB).map (fun p => ((true, p) : Sd)) = l := ⟨_, rfl⟩
  obtain ⟨B2, hB2⟩ : ∃ l, (cellPs pn 0 csB).map (fun p => ((true, p) : Sd)) = l := ⟨_, rfl⟩
  have lA1 : A1.length = fA := by rw [← hA1]; simp [freePs]
  have lB1 : B1.length = fB := by rw [← hB1]; simp [freePs]
  have lA2 : (cellPs pn 0 csA).length = A2.length := by rw [← hA2]; simp
  have lB2 : (cellPs pn 0 csB).length = B2.length := by rw [← hB2]; simp
  have hS : sides pn csA csB fA fB = A1 ++ (A2 ++ (B1 ++ B2)) := by
    unfold sides allPs
    rw [List.map_append, List.map_append, hA1, hA2, hB1, hB2, List.append_assoc]
  rw [lA2] at hNA
  rw [lB2] at hNB
  have hr : List.range (firstN pn csA fA csA.length + firstN pn csB fB csB.length) = (List.range A1.length).map (fun i => ([] : List Sd).length + i) ++ ((List.range A2.length).map (fun i => A1.length + i) ++ ((List.range B1.length).map (fun i => (A1 ++ A2).length + i) ++ (List.range B2.length).map (fun i => (A1 ++ A2 ++ B1).length + i))) := by
    rw [hNA, hNB, range_add2, range_add2, range_add2, List.map_append, List.append_assoc, List.map_map, lA1, lB1]
    congr 1
    · simp
    · congr 1
      congr 1
      · refine List.map_congr_left fun i _ => ?_
        simp [lA1]
      · refine List.map_congr_left fun i _ => ?_
        simp [lA1, lB1]; omega
  have hsA : ∀ i, sideAt pn csA csB fA fB i = (A1 ++ (A2 ++ (B1 ++ B2))).getD i default := fun i => by unfold sideAt; rw [hS]
  have m1 : ((List.range A1.length).map (fun i => ([] : List Sd).length + i)).map (sideAt pn csA csB fA fB) = A1 := by
    rw [List.map_map]
    refine (List.map_congr_left fun i _ => ?_).trans (map_part [] A1 (A2 ++ (B1 ++ B2)))
    simp only [Function.comp, hsA]; rfl
  have m2 : ((List.range A2.length).map (fun i => A1.length + i)).map (sideAt pn csA csB fA fB) = A2 := by
    rw [List.map_map]
    refine (List.map_congr_left fun i _ => ?_).trans (map_part A1 A2 (B1 ++ B2))
    simp only [Function.comp, hsA]
  have m3 : ((List.range B1.length).map (fun i => (A1 ++ A2).length + i)).map (sideAt pn csA csB fA fB) = B1 := by
    rw [List.map_map]
    refine (List.map_congr_left fun i _ => ?_).trans (map_part (A1 ++ A2) B1 B2)
    simp only [Function.comp, hsA, List.append_assoc]
  have m4 : ((List.range B2.length).map (fun i => (A1 ++ A2 ++ B1).length + i)).map (sideAt pn csA csB fA fB) = B2 := by
    rw [List.map_map]
    refine (List.map_congr_left fun i _ => ?_).trans (map_part (A1 ++ A2 ++ B1) B2 [])
    simp only [Function.comp, hsA, List.append_assoc, List.append_nil]
  have f3 : (List.range (firstN pn csA fA csA.length + firstN pn csB fB csB.length)).filter (c3 pn csA csB fA fB J) = ((List.range A1.length).map (fun i => ([] : List Sd).length + i)).filter (fun i => isL J (sideAt pn csA csB fA fB i)) ++ ((List.range B1.length).map (fun i => (A1 ++ A2).length + i)).filter (fun i => isL J (sideAt pn csA csB fA fB i)) := by
    rw [hr, List.filter_append, List.filter_append, List.filter_append]
    rw [filter_no (l := (List.range A2.length).map (fun i => A1.length + i)), filter_no (l := (List.range B2.length).map (fun i => (A1 ++ A2 ++ B1).length + i)), List.nil_append, List.append_nil]
    · congr 1
      · refine List.filter_congr fun i hi => ?_
        obtain ⟨k, hk, rfl⟩ := List.mem_map.1 hi
        have := List.mem_range.1 hk
        unfold c3
        rw [decide_eq_true (by left; simp; omega), Bool.true_and]
      · refine List.filter_congr fun i hi => ?_
        obtain ⟨k, hk, rfl⟩ := List.mem_map.1 hi
        have := List.mem_range.1 hk
        unfold c3
        rw [decide_eq_true (by right; simp; omega), Bool.true_and]
    · intro i hi
      obtain ⟨k, hk, rfl⟩ := List.mem_map.1 hi
      have := List.mem_range.1 hk
      unfold c3
      rw [decide_eq_false (by simp; omega), Bool.false_and]
    · intro i hi
      obtain ⟨k, hk, rfl⟩ := List.mem_map.1 hi
      have := List.mem_range.1 hk
      unfold c3
      rw [decide_eq_false (by omega), Bool.false_and]
  have f4 : (List.range (firstN pn csA fA csA.length + firstN pn csB fB csB.length)).filter (c4 pn csA fA fB) = ((List.range A2.length).map (fun i => A1.length + i)) ++ ((List.range B2.length).map (fun i => (A1 ++ A2 ++ B1).length + i)) := by
    rw [hr, List.filter_append, List.filter_append, List.filter_append]
    rw [filter_no (l := (List.range A1.length).map (fun i => ([] : List Sd).length + i)), filter_no (l := (List.range B1.length).map (fun i => (A1 ++ A2).length + i)), filter_all (l := (List.range A2.length).map (fun i => A1.length + i)), filter_all (l := (List.range B2.length).map (fun i => (A1 ++ A2 ++ B1).length + i)), List.nil_append, List.nil_append]
    · intro i hi
      obtain ⟨k, hk, rfl⟩ := List.mem_map.1 hi
      have := List.mem_range.1 hk
      unfold c4
      exact decide_eq_true (by (try simp); omega)
    · intro i hi
      obtain ⟨k, hk, rfl⟩ := List.mem_map.1 hi
      have := List.mem_range.1 hk
      unfold c4
      exact decide_eq_true (by (try simp); omega)
    · intro i hi
      obtain ⟨k, hk, rfl⟩ := List.mem_map.1 hi
      have := List.mem_range.1 hk
      unfold c4
      exact decide_eq_false (by (try simp); omega)
    · intro i hi
      obtain ⟨k, hk, rfl⟩ := List.mem_map.1 hi
      have := List.mem_range.1 hk
      unfold c4
      exact decide_eq_false (by (try simp); omega)
  have hfm : ∀ l : List Nat, (l.filter (fun i => isL J (sideAt pn csA csB fA fB i))).map (sideAt pn csA csB fA fB) = (l.map (sideAt pn csA csB fA fB)).filter (isL J) := fun l => by
    rw [List.filter_map]; rfl
  rw [List.map_append, f3, f4, List.map_append, List.map_append, hfm, hfm, m1, m2, m3, m4]
  unfold leftS leftF frS
  rw [hA1, hA2, hB1, hB2, List.filter_append]
theorem c3_iff {x : Sd} (hx : isSd pn csA csB fA fB x) : c3 pn csA csB fA fB J (plS pn csA csB fA fB x) = true ↔ x.2.1 < 0 ∧ twJ J x = none := by
  unfold c3
  rw [Bool.and_eq_true, decide_eq_true_eq, ← free_iff hx, sideAt_pl hx]
  simp [isL]
theorem c4_iff {x : Sd} (hx : isSd pn csA csB fA fB x) : c4 pn csA fA fB (plS pn csA csB fA fB x) = true ↔ ¬ x.2.1 < 0 := by
  unfold c4
  rw [decide_eq_true_eq, free_iff hx]
  have : fA ≤ firstN pn csA fA csA.length := by unfold firstN; omega
  omega
def cntN (c : Nat → Bool) (k : Nat) : Nat := ((List.range k).filter c).length
theorem cntN_succ (c : Nat → Bool) (k : Nat) : cntN c (k + 1) = cntN c k + if c k = true then 1 else 0 := by
  unfold cntN
  rw [List.range_succ, List.filter_append, List.length_append]
  congr 1
  cases h : c k <;> simp [h]
theorem cntN_le (c : Nat → Bool) (k : Nat) : cntN c k ≤ k := by
  unfold cntN
  exact Nat.le_trans (List.length_filter_le _ _) (by simp)
/-- The number of a port that is left. -/
theorem left_at {x : Sd} (hx : x ∈ leftS pn csA csB fA fB J) : (leftS pn csA csB fA fB J).idxOf x = if x.2.1 < 0 then cntN (c3 pn csA csB fA fB J) (plS pn csA csB fA fB x) else cntN (c3 pn csA csB fA fB J) (firstN pn csA fA csA.length + firstN pn csB fB csB.length) + cntN (c4 pn csA fA fB) (plS pn csA csB fA fB x) := by
  obtain ⟨h1, h2⟩ := leftS_mem.1 hx
  have hlt := plS_lt h1
  have hin : plS pn csA csB fA fB x ∈ ((List.range (firstN pn csA fA csA.length + firstN pn csB fB csB.length)).filter (c3 pn csA csB fA fB J)) ++ ((List.range (firstN pn csA fA csA.length + firstN pn csB fB csB.length)).filter (c4 pn csA fA fB)) := by
    rw [List.mem_append, List.mem_filter, List.mem_filter, c3_iff h1, c4_iff h1, List.mem_range]
    by_cases h : x.2.1 < 0
    · exact .inl ⟨hlt, h, h2 h⟩
    · exact .inr ⟨hlt, h⟩
  have hinj : ∀ a ∈ ((List.range (firstN pn csA fA csA.length + firstN pn csB fB csB.length)).filter (c3 pn csA csB fA fB J)) ++ ((List.range (firstN pn csA fA csA.length + firstN pn csB fB csB.length)).filter (c4 pn csA fA fB)), sideAt pn csA csB fA fB a = sideAt pn csA csB fA fB (plS pn csA csB fA fB x) → a = plS pn csA csB fA fB x := fun a ha e => by
    have hal : a < firstN pn csA fA csA.length + firstN pn csB fB csB.length := by
      rcases List.mem_append.1 ha with ha | ha <;> exact List.mem_range.1 (List.mem_filter.1 ha).1
    obtain ⟨y, hy, rfl⟩ := side_of (csA := csA) (csB := csB) (fA := fA) (fB := fB) hal
    rw [sideAt_pl hy, sideAt_pl h1] at e
    rw [e]
  have e := idxOf_mapOn hin hinj
  rw [sideAt_pl h1, ← left_idx] at e
  rw [e, List.idxOf_append]
  by_cases h : x.2.1 < 0
  · rw [if_pos h, if_pos (List.mem_filter.2 ⟨List.mem_range.2 hlt, (c3_iff h1).2 ⟨h, h2 h⟩⟩), filter_idx hlt ((c3_iff h1).2 ⟨h, h2 h⟩)]
    rfl
  · rw [if_neg h, if_neg (fun hm => h ((c3_iff h1).1 (List.mem_filter.1 hm).2).1), filter_idx hlt ((c4_iff h1).2 h)]
    unfold cntN
    omega
theorem left_len : (leftS pn csA csB fA fB J).length = cntN (c3 pn csA csB fA fB J) (firstN pn csA fA csA.length + firstN pn csB fB csB.length) + cntN (c4 pn csA fA fB) (firstN pn csA fA csA.length + firstN pn csB fB csB.length) := by
  rw [left_idx, List.length_map, List.length_append]
  rfl
theorem leftF_cnt : (leftF fA fB J).length = cntN (c3 pn csA csB fA fB J) (firstN pn csA fA csA.length + firstN pn csB fB csB.length) := by
  have h1 := left_idx (pn := pn) (csA := csA) (csB := csB) (fA := fA) (fB := fB) (J := J)
  have h2 : ((leftS pn csA csB fA fB J).filter fun x => decide (x.2.1 < 0)).length = (leftF fA fB J).length := by
    unfold leftS
    rw [List.filter_append, filter_all (l := leftF fA fB J) (fun x hx => by rw [(leftF_mem hx).1]; decide), filter_no (l := (cellPs pn 0 csA).map (fun p => ((false, p) : Sd)) ++ (cellPs pn 0 csB).map (fun p => ((true, p) : Sd))), List.append_nil]
    intro x hx
    rcases List.mem_append.1 hx with hx | hx
    all_goals
      obtain ⟨p, hp, rfl⟩ := List.mem_map.1 hx
      obtain ⟨c, k, _, _, rfl⟩ := cellPs_mem pn hp
      exact decide_eq_false (by show ¬ ((0 + c : Nat) : Int) < 0; omega)
  have k1 : ∀ x ∈ ((List.range (firstN pn csA fA csA.length + firstN pn csB fB csB.length)).filter (c3 pn csA csB fA fB J)).map (sideAt pn csA csB fA fB), decide (x.2.1 < 0) = true := fun x hx => by
    obtain ⟨i, hi, rfl⟩ := List.mem_map.1 hx
    obtain ⟨i1, i2⟩ := List.mem_filter.1 hi
    obtain ⟨y, hy, rfl⟩ := side_of (csA := csA) (csB := csB) (fA := fA) (fB := fB) (List.mem_range.1 i1)
    rw [sideAt_pl hy]
    exact decide_eq_true ((c3_iff hy).1 i2).1
  have k2 : ∀ x ∈ ((List.range (firstN pn csA fA csA.length + firstN pn csB fB csB.length)).filter (c4 pn csA fA fB)).map (sideAt pn csA csB fA fB), decide (x.2.1 < 0) = false := fun x hx => by
    obtain ⟨i, hi, rfl⟩ := List.mem_map.1 hx
    obtain ⟨i1, i2⟩ := List.mem_filter.1 hi
    obtain ⟨y, hy, rfl⟩ := side_of (csA := csA) (csB := csB) (fA := fA) (fB := fB) (List.mem_range.1 i1)
    rw [sideAt_pl hy]
    exact decide_eq_false ((c4_iff hy).1 i2)
  rw [← h2, h1, List.map_append, List.filter_append, filter_all k1, filter_no k2, List.append_nil, List.length_map]
  rfl
end
end Go.Proofs.Ytcebejcdfdahjaa
