/-
  Plain: a wiring that is a net: its cells, its free ports; what Store gives of it. (Plain Lean, no program.)
-/
import Derived.Test.YthbobooiedcofaaLoadPlain
import Derived.Test.YthbobooiedcofaaNetPlainK
import Derived.Test.YthbobooiedcofaaMaps
set_option linter.unusedVariables false
namespace Go.Proofs.Ythbobooiedcofaa

/-- A wiring whose cells and free ports are a net's. -/
structure LN (pn : Int → Nat) (cells : List Int) (f : Nat) (S : Wir) : Prop where
  p : S.P.length = f
  n : S.A.cells.length = cells.length
  b : S.A.back = []
  c : ∀ i, i < cells.length → ∃ ws, S.A.cells[i]? = some (some (cells.getD i 0, ws)) ∧ ws.length = pn (cells.getD i 0)
section
variable {pn : Int → Nat} {cells : List Int} {f : Nat} {S : Wir}
theorem LN.cell (h : LN pn cells f S) {i : Nat} (hi : i < cells.length) : ∃ ws, S.A.cell (i : Int) = some (cells.getD i 0, ws) ∧ ws.length = pn (cells.getD i 0) := by
  obtain ⟨ws, h1, h2⟩ := h.c i hi
  exact ⟨ws, Ars.cell_at (by omega) h1, h2⟩
theorem LN.agA (h : LN pn cells f S) {i : Nat} (hi : i < cells.length) : S.A.agA (i : Int) + 1 = (pn (cells.getD i 0) : Int) ∧ S.A.agC (i : Int) = cells.getD i 0 := by
  obtain ⟨ws, h1, h2⟩ := h.cell hi
  have e1 : S.A.agA (i : Int) = (ws.length : Int) - 1 := by unfold Ars.agA; rw [h1]
  have e2 : S.A.agC (i : Int) = cells.getD i 0 := by unfold Ars.agC; rw [h1]
  exact ⟨by omega, e2⟩
theorem LN.new {most : Nat} {ar : Int → Int} (hpn : ∀ a ∈ cells, (ar a).toNat + 1 = pn a) : LN pn cells f (Wir.new (tookA most ar cells) f) :=
  ⟨by simp [Wir.new], by simp [Wir.new, tookA], rfl, fun i hi => by
    have hm : cells.getD i 0 ∈ cells := by rw [List.getD_eq_getElem?_getD, List.getElem?_eq_getElem hi]; exact List.getElem_mem hi
    refine ⟨List.replicate ((ar (cells.getD i 0)).toNat + 1) 4294967295, ?_, by rw [List.length_replicate]; exact hpn _ hm⟩
    simp [Wir.new, tookA, Ars.fresh, hi, List.getD_eq_getElem?_getD]⟩
theorem LN.put (h : LN pn cells f S) (p : Pt) (v : Int) : LN pn cells f (S.put p v) := by
  unfold Wir.put
  by_cases e : p.1 = -1
  · rw [if_pos e]
    exact ⟨by simpa using h.p, h.n, h.b, h.c⟩
  · rw [if_neg e]
    unfold Ars.put
    cases hc : S.A.cell p.1 with
    | none => exact h
    | some x =>
      simp only
      split
      · exact h
      · obtain ⟨h0, hx⟩ := Ars.cell_some hc
        refine ⟨h.p, by simpa using h.n, h.b, fun i hi => ?_⟩
        obtain ⟨ws, h1, h2⟩ := h.c i hi
        by_cases e2 : p.1.toNat = i
        · subst e2
          rw [h1] at hx
          simp only [Option.some.injEq] at hx
          subst hx
          refine ⟨ws.set p.2.toNat v, ?_, by simpa using h2⟩
          have : p.1.toNat < S.A.cells.length := by rw [h.n]; exact hi
          simp [this]
        · refine ⟨ws, ?_, h2⟩
          simp only [List.getElem?_set]
          rw [if_neg e2]; exact h1
theorem LN.link (h : LN pn cells f S) (p q : Pt) : LN pn cells f (S.link p q) := by
  unfold Wir.link
  split
  · exact (h.put _ _).put _ _
  · exact h
theorem LN.linkAll {W : List (Pt × Pt)} : ∀ {S : Wir}, LN pn cells f S → LN pn cells f (S.linkAll W) := by
  induction W with
  | nil => intro S h; exact h
  | cons w r ih => intro S h; exact ih (h.link w.1 w.2)
/-- Its live cells. -/
theorem LN.upto (h : LN pn cells f S) : ∀ k, k ≤ cells.length → S.A.upto k = (List.range k).map fun i => (i, cells.getD i 0) := by
  intro k
  induction k with
  | zero => intro _; rfl
  | succ k ih =>
    intro hk
    obtain ⟨ws, h1, h2⟩ := h.c k (by omega)
    rw [List.range_succ, List.map_append, ← ih (by omega), Ars.upto, h1]
    simp
theorem LN.cellPts (h : LN pn cells f S) (k : Nat) (hk : k ≤ cells.length) : Wir.cellPts 0 (S.A.cells.take k) = cellPs pn 0 (cells.take k) := by
  induction k with
  | zero => simp [Wir.cellPts, cellPs]
  | succ k ih =>
    obtain ⟨ws, h1, h2⟩ := h.c k (by omega)
    have hkl : k < cells.length := by omega
    have e1 : S.A.cells.take (k + 1) = S.A.cells.take k ++ [some (cells.getD k 0, ws)] := by rw [List.take_add_one, h1]; rfl
    have e2 : cells.take (k + 1) = cells.take k ++ [cells.getD k 0] := by rw [List.take_add_one, List.getElem?_eq_getElem hkl, List.getD_eq_getElem?_getD, List.getElem?_eq_getElem hkl]; rfl
    rw [e1, e2, Wir.cellPts_append, cellPs_app, ih (by omega)]
    have l1 : (S.A.cells.take k).length = k := by rw [List.length_take, h.n]; omega
    have l2 : (cells.take k).length = k := by rw [List.length_take]; omega
    rw [l1, l2]
    simp [Wir.cellPts, cellPs, h2]
theorem LN.pts (h : LN pn cells f S) : S.pts = allPs pn cells f := by
  unfold Wir.pts allPs freePs
  rw [h.p]
  congr 1
  have := h.cellPts cells.length (Nat.le_refl _)
  rwa [← h.n, List.take_length, h.n, List.take_length] at this
end
/-- Where Store's map sends a cell. -/
def toG (pre : List (Nat × Int)) : Int → Option Value :=
  (List.range pre.length).foldl (fun g i => upd g ((pre.getD i default).1 : Int) (.int .i64 (i : Int))) (upd (fun _ => none) (-1) (.int .i64 (-1)))
theorem foldl_congr' {α β : Type} {f g : β → α → β} : ∀ {l : List α} {b : β}, (∀ x ∈ l, ∀ b, f b x = g b x) → l.foldl f b = l.foldl g b
  | [], _, _ => rfl
  | x :: l, b, h => by
    show l.foldl f (f b x) = l.foldl g (g b x)
    rw [h x (by simp) b]
    exact foldl_congr' fun y hy => h y (by simp [hy])
theorem toG_nil : toG [] = upd (fun _ => none) (-1) (.int .i64 (-1)) := rfl
theorem toG_snoc (pre : List (Nat × Int)) (x : Nat × Int) : toG (pre ++ [x]) = upd (toG pre) (x.1 : Int) (.int .i64 (pre.length : Int)) := by
  unfold toG
  rw [List.length_append, List.length_singleton, List.range_succ, List.foldl_append]
  simp only [List.foldl_cons, List.foldl_nil]
  congr 1
  · refine foldl_congr' fun i hi b => ?_
    have hi' : i < pre.length := by simpa using hi
    rw [List.getD_eq_getElem?_getD, List.getD_eq_getElem?_getD, List.getElem?_append_left hi']
  · rw [List.getD_eq_getElem?_getD, List.getElem?_append_right (by omega)]
    simp
theorem toG_all (cells : List Int) (k : Nat) (x : Int) : toG ((List.range k).map fun i => (i, cells.getD i 0)) x = if x = -1 ∨ (0 ≤ x ∧ x < k) then some (.int .i64 x) else none := by
  induction k with
  | zero =>
    rw [List.range_zero, List.map_nil, toG_nil]
    unfold upd
    by_cases h : x = -1
    · rw [if_pos h, if_pos (.inl h), h]
    · rw [if_neg h, if_neg (by omega)]
  | succ k ih =>
    rw [List.range_succ, List.map_append, List.map_cons, List.map_nil, toG_snoc]
    unfold upd
    simp only [List.length_map, List.length_range]
    by_cases h : x = (k : Int)
    · rw [if_pos h, if_pos (by omega), h]
    · rw [if_neg h, ih]
      by_cases h2 : x = -1 ∨ (0 ≤ x ∧ x < k)
      · rw [if_pos h2, if_pos (by omega)]
      · rw [if_neg h2, if_neg (by omega)]
end Go.Proofs.Ythbobooiedcofaa
