/-
  Plain: a wiring's ports, cell by cell; how many of them are open. (Plain Lean, no program.)
-/
import Derived.Test.YthbobooiedcofaaWirStep
import Derived.Test.YthbobooiedcofaaArenaAll
namespace Go.Proofs.Ythbobooiedcofaa
namespace Wir
def slotsOf (c : Int) (n : Nat) : List Pt := (List.range n).map fun (s : Nat) => (c, (s : Int))
theorem slotsOf_succ (c : Int) (n : Nat) : slotsOf c (n + 1) = slotsOf c n ++ [(c, (n : Int))] := by simp [slotsOf, List.range_succ]
theorem slotsOf_len (c : Int) (n : Nat) : (slotsOf c n).length = n := by simp [slotsOf]
def cellPt1 (c : Nat) : Option (Int × List Int) → List Pt
  | none => []
  | some (_, ws) => slotsOf (c : Int) ws.length
theorem cellPts_cons (c : Nat) (x : Option (Int × List Int)) (r : List (Option (Int × List Int))) : cellPts c (x :: r) = cellPt1 c x ++ cellPts (c + 1) r := by
  cases x with
  | none => rfl
  | some x => rfl
theorem cellPts_append (c : Nat) (l r : List (Option (Int × List Int))) : cellPts c (l ++ r) = cellPts c l ++ cellPts (c + l.length) r := by
  induction l generalizing c with
  | nil => simp [cellPts]
  | cons x l ih =>
    rw [List.cons_append, cellPts_cons, cellPts_cons, ih, List.append_assoc, List.length_cons]
    congr 2
    rw [show c + 1 + l.length = c + (l.length + 1) by omega]
/-- Of the first k cells. -/
def ptsK (S : Wir) (k : Nat) : List Pt := slotsOf (-1) S.P.length ++ cellPts 0 (S.A.cells.take k)
theorem ptsK_all (S : Wir) : ptsK S S.A.cells.length = S.pts := by unfold ptsK pts slotsOf; rw [List.take_length]
theorem ptsK_zero (S : Wir) : ptsK S 0 = slotsOf (-1) S.P.length := by simp [ptsK, cellPts]
theorem ptsK_succ (S : Wir) {k : Nat} {x : Option (Int × List Int)} (h : S.A.cells[k]? = some x) : ptsK S (k + 1) = ptsK S k ++ cellPt1 k x := by
  have hk : k < S.A.cells.length := by
    rcases Nat.lt_or_ge k S.A.cells.length with hl | hl
    · exact hl
    · rw [List.getElem?_eq_none hl] at h; cases h
  unfold ptsK
  rw [List.take_add_one, h, cellPts_append, List.length_take, Nat.min_eq_left (by omega), Nat.zero_add]
  show _ ++ (_ ++ cellPts k [x]) = _
  rw [cellPts_cons]
  simp [cellPts]
/-- By the live cells, in their order. -/
def liveSl (S : Wir) (x : Nat × Int) : List Pt := slotsOf (x.1 : Int) (S.A.agA (x.1 : Int) + 1).toNat
theorem cellPts_upto (S : Wir) (k : Nat) (hk : k ≤ S.A.cells.length) : cellPts 0 (S.A.cells.take k) = (S.A.upto k).flatMap (liveSl S) := by
  induction k with
  | zero => simp [cellPts, Ars.upto]
  | succ k ih =>
    have hlt : k < S.A.cells.length := by omega
    obtain ⟨x, hx⟩ : ∃ x, S.A.cells[k]? = some x := ⟨_, List.getElem?_eq_getElem hlt⟩
    rw [List.take_add_one, hx, cellPts_append, List.length_take, Nat.min_eq_left (by omega), Nat.zero_add, ih (by omega), Ars.upto, hx, List.flatMap_append]
    congr 1
    show cellPts k [x] = _
    rw [cellPts_cons]
    cases x with
    | none => simp [cellPts, cellPt1]
    | some x =>
      obtain ⟨ag, ws⟩ := x
      have hc : S.A.cell (k : Int) = some (ag, ws) := Ars.cell_at (by omega) (by simpa using hx)
      simp only [List.flatMap_cons, List.flatMap_nil, List.append_nil, cellPts, cellPt1, liveSl]
      unfold Ars.agA
      rw [hc]
      simp only
      congr 1
      omega
theorem pts_upto (S : Wir) : S.pts = slotsOf (-1) S.P.length ++ (S.A.upto S.A.cells.length).flatMap (liveSl S) := by
  rw [← ptsK_all, ptsK, cellPts_upto S _ (Nat.le_refl _)]
theorem openN_nil (S : Wir) : S.openN [] = 0 := rfl
theorem openN_append (S : Wir) (l r : List Pt) : S.openN (l ++ r) = S.openN l + S.openN r := by unfold openN; rw [List.filter_append, List.length_append]
theorem openN_snoc (S : Wir) (l : List Pt) (p : Pt) : S.openN (l ++ [p]) = S.openN l + (if S.toE p = 0 then 0 else 1) := by
  rw [openN_append]
  congr 1
  unfold openN
  by_cases h : S.toE p = 0
  · rw [if_pos h]; simp [h]
  · rw [if_neg h]; simp [h]
theorem openN_le (S : Wir) (l : List Pt) : S.openN l ≤ l.length := List.length_filter_le _ _
theorem linkedN_succ (S : Wir) (c : Int) (n : Nat) : S.linkedN c (n + 1) = (S.linkedN c n || decide (S.toE (c, (n : Int)) = 0)) := by
  unfold linkedN; rw [List.range_succ, List.any_append]; simp
theorem linkedN_mono {S : Wir} {c : Int} {n m : Nat} (h : S.linkedN c n = true) (hm : n ≤ m) : S.linkedN c m = true := by
  unfold linkedN at *
  rw [List.any_eq_true] at *
  obtain ⟨x, hx, e⟩ := h
  exact ⟨x, List.mem_range.2 (by have := List.mem_range.1 hx; omega), e⟩
/-- How many ports there are at most. -/
theorem cellPts_le (c : Nat) (l : List (Option (Int × List Int))) (h : ∀ x ∈ l, ∀ ag ws, x = some (ag, ws) → ws.length ≤ 7) : (cellPts c l).length ≤ 7 * l.length := by
  induction l generalizing c with
  | nil => simp [cellPts]
  | cons x r ih =>
    have h1 := ih (c + 1) fun y hy => h y (by simp [hy])
    rw [cellPts_cons, List.length_append, List.length_cons]
    cases x with
    | none => simp only [cellPt1, List.length_nil]; omega
    | some x =>
      obtain ⟨ag, ws⟩ := x
      have := h (some (ag, ws)) (by simp) ag ws rfl
      simp only [cellPt1, slotsOf_len]; omega
end Wir
end Go.Proofs.Ythbobooiedcofaa
