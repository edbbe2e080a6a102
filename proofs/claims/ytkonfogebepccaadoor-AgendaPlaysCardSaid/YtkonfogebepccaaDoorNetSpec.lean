/-
  What a net is, without memory: its ports in order, the checks, what each port is linked to. (Plain Lean, no program.)
-/
namespace Go.Proofs.YtkonfogebepccaaDoor

abbrev Pt := Int × Int
/-- How many ports an agent has, by a table of so many. -/
structure NetD where
  cells : List Int
  free : Int
  wires : List (Pt × Pt)

section
variable (pn : Int → Nat)
def cellPs : Nat → List Int → List Pt
  | _, [] => []
  | c, a :: r => (List.range (pn a)).map (fun (k : Nat) => ((c : Int), (k : Int))) ++ cellPs (c + 1) r
def freePs (f : Nat) : List Pt := (List.range f).map fun (k : Nat) => ((-1 : Int), (k : Int))
/-- The ports, in order. -/
def allPs (cells : List Int) (free : Nat) : List Pt := freePs free ++ cellPs pn 0 cells
def isPt (cells : List Int) (free : Nat) (p : Pt) : Bool := if p.1 = -1 then decide (0 ≤ p.2 ∧ p.2 < free) else decide (0 ≤ p.1 ∧ p.1 < cells.length ∧ 0 ≤ p.2 ∧ p.2 < pn (cells.getD p.1.toNat 0))
end

/-! ### What each port is linked to -/
def ends (W : List (Pt × Pt)) : List Pt := W.flatMap fun w => [w.1, w.2]
/-! ### Which nets may be -/
def first (n : Nat) (f : Nat → Bool) : Option Nat := (List.range n).find? f
/-- A net that may be. -/
structure NetOk (pn : Int → Nat) (cells : List Int) (free : Nat) (W : List (Pt × Pt)) : Prop where
  is : ∀ p ∈ ends W, isPt pn cells free p = true
  nodup : (ends W).Nodup
  all : ∀ p ∈ allPs pn cells free, p ∈ ends W
/-! ### Renumbered -/
def toPt (cs fs : List Int) (p : Pt) : Pt := if p.1 < 0 then (-1, fs.getD p.2.toNat 0) else (cs.getD p.1.toNat 0, p.2)
/-- Each number below so many, once. -/
def eachN (l : List Int) (most : Nat) : Prop := l.length = most ∧ l.Nodup ∧ ∀ x ∈ l, 0 ≤ x ∧ x < most
theorem each_at {l : List Int} {n : Nat} (h : eachN l n) {i : Nat} (hi : i < n) : 0 ≤ l.getD i 0 ∧ l.getD i 0 < n := by
  have hil : i < l.length := by have := h.1; omega
  rw [List.getD_eq_getElem?_getD, List.getElem?_eq_getElem hil]
  exact h.2.2 _ (List.getElem_mem hil)
theorem each_inj {l : List Int} {n : Nat} (h : eachN l n) {i j : Nat} (hi : i < n) (hj : j < n) (e : l.getD i 0 = l.getD j 0) : i = j := by
  have hl := h.1
  rw [List.getD_eq_getElem?_getD, List.getD_eq_getElem?_getD, List.getElem?_eq_getElem (by omega), List.getElem?_eq_getElem (by omega)] at e
  exact (List.getElem_inj h.2.1).1 e
section
variable {pn : Int → Nat} {cells out cs fs : List Int} {free : Nat}
structure Moves (cells out cs fs : List Int) (free : Nat) : Prop where
  c : eachN cs cells.length
  f : eachN fs free
  len : out.length = cells.length
  at_ : ∀ i, i < cells.length → out.getD (cs.getD i 0).toNat 0 = cells.getD i 0
theorem Moves.is (h : Moves cells out cs fs free) {p : Pt} (hp : isPt pn cells free p = true) : isPt pn out free (toPt cs fs p) = true := by
  unfold isPt at hp
  unfold toPt
  by_cases hc : p.1 = -1
  · rw [if_pos hc, decide_eq_true_eq] at hp
    rw [if_pos (by omega), isPt, if_pos rfl, decide_eq_true_eq]
    exact each_at h.f (by omega)
  · rw [if_neg hc, decide_eq_true_eq] at hp
    have := each_at h.c (i := p.1.toNat) (by omega)
    have e := h.at_ p.1.toNat (by omega)
    rw [if_neg (by omega), isPt, if_neg (by show ¬ cs.getD p.1.toNat 0 = -1; omega), decide_eq_true_eq]
    dsimp only
    rw [e, h.len]
    omega
theorem Moves.inj (h : Moves cells out cs fs free) {p q : Pt} (hp : isPt pn cells free p = true) (hq : isPt pn cells free q = true) (e : toPt cs fs p = toPt cs fs q) : p = q := by
  obtain ⟨c, s⟩ := p
  obtain ⟨d, t⟩ := q
  unfold isPt at hp hq
  unfold toPt at e
  by_cases hc : c = -1
  · rw [if_pos hc, decide_eq_true_eq] at hp
    rw [if_pos (by show c < 0; omega)] at e
    by_cases hd : d = -1
    · rw [if_pos hd, decide_eq_true_eq] at hq
      rw [if_pos (by show d < 0; omega)] at e
      simp only [Prod.mk.injEq, true_and] at e
      dsimp only at hp hq
      have := each_inj h.f (by omega) (by omega) e
      ext <;> dsimp only <;> omega
    · rw [if_neg hd, decide_eq_true_eq] at hq
      dsimp only at hp hq
      rw [if_neg (by show ¬ d < 0; omega)] at e
      simp only [Prod.mk.injEq] at e
      have := each_at h.c (i := d.toNat) (by omega)
      omega
  · rw [if_neg hc, decide_eq_true_eq] at hp
    dsimp only at hp
    rw [if_neg (by show ¬ c < 0; omega)] at e
    by_cases hd : d = -1
    · rw [if_pos hd, decide_eq_true_eq] at hq
      rw [if_pos (by show d < 0; omega)] at e
      simp only [Prod.mk.injEq] at e
      have := each_at h.c (i := c.toNat) (by omega)
      omega
    · rw [if_neg hd, decide_eq_true_eq] at hq
      dsimp only at hq
      rw [if_neg (by show ¬ d < 0; omega)] at e
      simp only [Prod.mk.injEq] at e
      have := each_inj h.c (by omega) (by omega) e.1
      ext <;> dsimp only <;> omega
end
end Go.Proofs.YtkonfogebepccaaDoor
