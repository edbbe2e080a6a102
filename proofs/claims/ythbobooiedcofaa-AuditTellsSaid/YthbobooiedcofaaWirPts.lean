/-
  Plain: a wiring's ports, cell by cell; how many of them are open. (Plain Lean, no program.)
-/
import Derived.Test.YthbobooiedcofaaArenaSpec
import Derived.Test.YthbobooiedcofaaNetSpec
import Derived.Test.YthbobooiedcofaaArenaAll
/-
  What a wiring is, without memory: what its ports hold; its steps; links go both ways. (Plain Lean, no program.)
-/
/-
  Ports as words, plain: what Pack and Unpack answer. (Plain Lean, no program.)
-/
namespace Go.Proofs.Ythbobooiedcofaa

def pkE (c s : Int) : Int := if c = -1 ∧ 0 ≤ s ∧ s < 64 then 0 else if 0 ≤ c ∧ c < 4096 ∧ 0 ≤ s ∧ s ≤ 6 then 0 else 30
def pkW (c s : Int) : Int := if c = -1 ∧ 0 ≤ s ∧ s < 64 then 2147483648 + s else if 0 ≤ c ∧ c < 4096 ∧ 0 ≤ s ∧ s ≤ 6 then 8 * c + s else 0
def unC (v : Int) : Int := if 2147483648 ≤ v then -1 else v / 8
def unS (v : Int) : Int := if 2147483648 ≤ v then v - 2147483648 else v % 8
def unOk (v : Int) : Bool := decide (pkE (unC v) (unS v) = 0 ∧ pkW (unC v) (unS v) = v)
def upC (v : Int) : Int := if unOk v then unC v else 0
def upS (v : Int) : Int := if unOk v then unS v else 0
theorem un_none : unOk 4294967295 = false := by decide
theorem pk_un {c s : Int} (h : pkE c s = 0) : unOk (pkW c s) = true ∧ unC (pkW c s) = c ∧ unS (pkW c s) = s ∧ 0 ≤ pkW c s ∧ pkW c s < 4294967295 := by
  have hcs : (c = -1 ∧ 0 ≤ s ∧ s < 64) ∨ (0 ≤ c ∧ c < 4096 ∧ 0 ≤ s ∧ s ≤ 6) := by
    unfold pkE at h
    split at h
    · left; assumption
    · split at h
      · right; assumption
      · omega
  have h1 : unC (pkW c s) = c ∧ unS (pkW c s) = s ∧ 0 ≤ pkW c s ∧ pkW c s < 4294967295 := by
    rcases hcs with ⟨rfl, h2, h3⟩ | ⟨h2, h3, h4, h5⟩
    · have e : pkW (-1) s = 2147483648 + s := by unfold pkW; rw [if_pos ⟨rfl, h2, h3⟩]
      rw [e]; unfold unC unS
      rw [if_pos (by omega), if_pos (by omega)]
      omega
    · have e : pkW c s = 8 * c + s := by unfold pkW; rw [if_neg (by omega), if_pos ⟨h2, h3, h4, h5⟩]
      rw [e]; unfold unC unS
      rw [if_neg (by omega), if_neg (by omega)]
      omega
  refine ⟨?_, h1⟩
  unfold unOk
  rw [h1.1, h1.2.1]
  simp [h]
theorem pk_inj {c s c' s' : Int} (h : pkE c s = 0) (h' : pkE c' s' = 0) (e : pkW c s = pkW c' s') : c = c' ∧ s = s' := by
  have h1 := (pk_un h).2
  have h2 := (pk_un h').2
  rw [e] at h1
  exact ⟨h1.1.symm.trans h2.1, h1.2.1.symm.trans h2.2.1⟩
end Go.Proofs.Ythbobooiedcofaa
namespace Go.Proofs.Ythbobooiedcofaa

namespace Ars
variable {S : Ars}
theorem put_none {c s v : Int} (h : S.slotE c s ≠ 0) : S.put c s v = S := by
  unfold slotE at h
  unfold Ars.put
  cases hc : S.cell c with
  | none => rfl
  | some x =>
    rw [hc] at h
    simp only at h ⊢
    split
    · rfl
    · rename_i hn; rw [if_neg hn] at h; exact absurd rfl h
theorem slot_ok {c s : Int} (h : S.slotE c s = 0) : ∃ ag ws, S.cell c = some (ag, ws) ∧ 0 ≤ s ∧ s < (ws.length : Int) := by
  unfold slotE at h
  cases hc : S.cell c with
  | none => rw [hc] at h; simp at h
  | some x =>
    rw [hc] at h
    simp only at h
    split at h
    · simp at h
    · exact ⟨x.1, x.2, rfl, by omega, by omega⟩
theorem slot_of {c s : Int} {ag : Int} {ws : List Int} (hc : S.cell c = some (ag, ws)) (h0 : 0 ≤ s) (h1 : s < (ws.length : Int)) : S.slotE c s = 0 ∧ S.getV c s = ws.getD s.toNat 0 := by
  unfold slotE getV
  rw [hc]
  simp only
  rw [if_neg (by omega), if_neg (by omega)]
  exact ⟨rfl, rfl⟩
theorem cell_at {c : Int} {x : Int × List Int} (h0 : 0 ≤ c) (h : S.cells[c.toNat]? = some (some x)) : S.cell c = some x := by
  unfold cell; rw [if_pos h0, h]; rfl
theorem put_cell {c s v : Int} {ag : Int} {ws : List Int} (hc : S.cell c = some (ag, ws)) (h0 : 0 ≤ s) (h1 : s < (ws.length : Int)) (c' : Int) :
    (S.put c s v).cell c' = if c' = c then some (ag, ws.set s.toNat v) else S.cell c' := by
  obtain ⟨hc0, hx⟩ := cell_some hc
  have hlt : c.toNat < S.cells.length := by
    rcases Nat.lt_or_ge c.toNat S.cells.length with hl | hl
    · exact hl
    · rw [List.getElem?_eq_none hl] at hx; cases hx
  unfold Ars.put
  rw [hc]
  simp only
  rw [if_neg (by omega)]
  unfold cell
  by_cases e : c' = c
  · subst e
    rw [if_pos hc0, if_pos rfl]
    simp [hlt]
  · rw [if_neg e]
    by_cases hc' : 0 ≤ c'
    · rw [if_pos hc', if_pos hc']
      simp only [List.getElem?_set]
      rw [if_neg (by omega)]
    · rw [if_neg hc', if_neg hc']
theorem put_slotE (c s v c' s' : Int) : (S.put c s v).slotE c' s' = S.slotE c' s' := by
  by_cases h : S.slotE c s = 0
  · obtain ⟨ag, ws, hc, h0, h1⟩ := slot_ok h
    unfold slotE
    rw [put_cell hc h0 h1]
    by_cases e : c' = c
    · subst e; rw [if_pos rfl, hc]; simp
    · rw [if_neg e]
  · rw [put_none h]
theorem put_getV {c s v : Int} (h : S.slotE c s = 0) (c' s' : Int) : (S.put c s v).getV c' s' = if c' = c ∧ s' = s then v else S.getV c' s' := by
  obtain ⟨ag, ws, hc, h0, h1⟩ := slot_ok h
  unfold getV
  rw [put_cell hc h0 h1]
  by_cases e : c' = c
  · subst e
    rw [if_pos rfl, hc]
    simp only [List.length_set, true_and]
    by_cases e2 : s' = s
    · subst e2
      rw [if_neg (by omega), if_pos rfl, List.getD_eq_getElem?_getD, List.getElem?_set]
      rw [if_pos rfl, if_pos (by omega)]; rfl
    · rw [if_neg e2]
      split
      · rfl
      · rw [List.getD_eq_getElem?_getD, List.getElem?_set, if_neg (by omega), ← List.getD_eq_getElem?_getD]
  · rw [if_neg e, if_neg (fun h => e h.1)]
theorem Ok.word (h : S.Ok) {c s : Int} (hs : S.slotE c s = 0) : 0 ≤ c ∧ c < 4096 ∧ 0 ≤ s ∧ s ≤ 6 ∧ 0 ≤ S.getV c s ∧ S.getV c s < 4294967296 := by
  obtain ⟨ag, ws, hc, h0, h1⟩ := slot_ok hs
  obtain ⟨hc0, hx⟩ := cell_some hc
  have hk := h.cell _ _ _ hx
  have hlt : c.toNat < S.cells.length := by
    rcases Nat.lt_or_ge c.toNat S.cells.length with hl | hl
    · exact hl
    · rw [List.getElem?_eq_none hl] at hx; cases hx
  have := h.len
  have := h.most2
  rw [(slot_of hc h0 h1).2, List.getD_eq_getElem?_getD, List.getElem?_eq_getElem (show s.toNat < ws.length by omega)]
  have hw := hk.2.2.2.2 _ (List.getElem_mem (show s.toNat < ws.length by omega))
  simp only [Option.getD_some]
  omega
theorem take_cell (h : S.Ok) {ag ar : Int} (he : S.takeE ag ar = 0) (c' : Int) : (S.take ag ar).cell c' = if c' = S.takeC ag ar then fresh ag ar else S.cell c' := by
  have hb : ¬ bad ag ar := by intro hb; unfold takeE at he; rw [if_pos hb] at he; omega
  have hn : S.nextE = 0 := by unfold takeE at he; rw [if_neg hb] at he; exact he
  have hC : S.takeC ag ar = S.nextC := by unfold takeC; rw [if_neg hb]
  rw [hC]
  rcases take_cases h hb hn with ⟨b, hl, hnc, ht, hcb⟩ | ⟨hb0, hnc, hlt, ht⟩
  · have hlt : b < S.cells.length := h.lt (List.mem_of_getLast? hl)
    rw [ht, hnc]
    unfold cell
    by_cases e : c' = (b : Int)
    · subst e
      rw [if_pos (by omega), if_pos rfl]
      simp [hlt]
    · rw [if_neg e]
      by_cases hc' : 0 ≤ c'
      · rw [if_pos hc', if_pos hc']
        simp only [List.getElem?_set]
        rw [if_neg (by omega)]
      · rw [if_neg hc', if_neg hc']
  · rw [ht, hnc]
    unfold cell
    by_cases e : c' = (S.cells.length : Int)
    · subst e
      rw [if_pos (by omega), if_pos rfl]
      simp
    · rw [if_neg e]
      by_cases hc' : 0 ≤ c'
      · rw [if_pos hc', if_pos hc']
        simp only [List.getElem?_append]
        split
        · rfl
        · rename_i hge
          rw [List.getElem?_eq_none (by simp; omega), List.getElem?_eq_none (by omega)]
      · rw [if_neg hc', if_neg hc']
theorem take_new (h : S.Ok) {ag ar : Int} (he : S.takeE ag ar = 0) : S.cell (S.takeC ag ar) = none ∧ 0 ≤ S.takeC ag ar := by
  have hb : ¬ bad ag ar := by intro hb; unfold takeE at he; rw [if_pos hb] at he; omega
  have hn : S.nextE = 0 := by unfold takeE at he; rw [if_neg hb] at he; exact he
  have hC : S.takeC ag ar = S.nextC := by unfold takeC; rw [if_neg hb]
  rw [hC]
  rcases take_cases h hb hn with ⟨b, hl, hnc, ht, hcb⟩ | ⟨hb0, hnc, hlt, ht⟩
  · rw [hnc]
    unfold cell
    rw [if_pos (by omega)]
    simp [hcb]
  · rw [hnc]
    unfold cell
    rw [if_pos (by omega)]
    simp
theorem give_cell {c : Int} (c' : Int) : (S.give c).cell c' = if c' = c then none else S.cell c' := by
  unfold Ars.give
  cases hc : S.cell c with
  | none =>
    simp only [Option.isSome_none, Bool.false_eq_true, if_false]
    by_cases e : c' = c
    · subst e; rw [if_pos rfl, hc]
    · rw [if_neg e]
  | some x =>
    simp only [Option.isSome_some, if_true]
    obtain ⟨h0, hx⟩ := cell_some hc
    have hlt : c.toNat < S.cells.length := by
      rcases Nat.lt_or_ge c.toNat S.cells.length with hl | hl
      · exact hl
      · rw [List.getElem?_eq_none hl] at hx; cases hx
    unfold cell
    by_cases e : c' = c
    · subst e
      rw [if_pos rfl, if_pos h0]
      simp [hlt]
    · rw [if_neg e]
      by_cases hc' : 0 ≤ c'
      · rw [if_pos hc', if_pos hc']
        simp only [List.getElem?_set]
        rw [if_neg (by omega)]
      · rw [if_neg hc', if_neg hc']
end Ars

/-- A wiring: its arena, what its free ports hold. -/
structure Wir where
  A : Ars
  P : List Int
def nxP (v : Int) : Pt := (unC v, unS v)
def pkP (p : Pt) : Int := pkW p.1 p.2
namespace Wir
def new (A : Ars) (free : Nat) : Wir := { A, P := List.replicate free 4294967295 }
def wE (S : Wir) (p : Pt) : Int := if p.1 = -1 then (if p.2 < 0 ∨ (S.P.length : Int) ≤ p.2 then 30 else 0) else if S.A.slotE p.1 p.2 = 0 then 0 else 30
def wV (S : Wir) (p : Pt) : Int := if p.1 = -1 then (if p.2 < 0 ∨ (S.P.length : Int) ≤ p.2 then 0 else S.P.getD p.2.toNat 0) else S.A.getV p.1 p.2
def toE (S : Wir) (p : Pt) : Int := if S.wE p ≠ 0 then 30 else if unOk (S.wV p) = true ∧ S.wE (nxP (S.wV p)) = 0 then 0 else 32
def toP (S : Wir) (p : Pt) : Pt := if S.toE p = 0 then nxP (S.wV p) else (0, 0)
def put (S : Wir) (p : Pt) (v : Int) : Wir := if p.1 = -1 then { S with P := S.P.set p.2.toNat v } else { S with A := S.A.put p.1 p.2 v }
def join (S : Wir) (p q : Pt) : Wir := (S.put p (pkP q)).put q (pkP p)
def part (S : Wir) (p q : Pt) : Wir := (S.put p 4294967295).put q 4294967295
def linkE (S : Wir) (p q : Pt) : Int := if S.toE p = 30 ∨ S.toE q = 30 then 30 else if p = q ∨ S.toE p = 0 ∨ S.toE q = 0 then 31 else 0
def link (S : Wir) (p q : Pt) : Wir := if S.linkE p q = 0 then S.join p q else S
def cut (S : Wir) (p : Pt) : Wir := if S.toE p = 0 then S.part p (S.toP p) else S
/-- The first slots of a cell, so many: is one of them linked? -/
def linkedN (S : Wir) (c : Int) (n : Nat) : Bool := (List.range n).any fun s => decide (S.toE (c, (s : Int)) = 0)
def dropE (S : Wir) (c : Int) : Int := if (S.A.cell c).isSome then (if S.linkedN c (S.A.agA c + 1).toNat = true then 31 else 0) else 41
def drop (S : Wir) (c : Int) : Wir := if S.dropE c = 0 then { S with A := S.A.give c } else S
/-- Its ports: the free ones, then those of the live cells. -/
def cellPts : Nat → List (Option (Int × List Int)) → List Pt
  | _, [] => []
  | c, none :: r => cellPts (c + 1) r
  | c, some (_, ws) :: r => ((List.range ws.length).map fun (s : Nat) => ((c : Int), (s : Int))) ++ cellPts (c + 1) r
def pts (S : Wir) : List Pt := ((List.range S.P.length).map fun (s : Nat) => ((-1 : Int), (s : Int))) ++ cellPts 0 S.A.cells
def openN (S : Wir) (l : List Pt) : Nat := (l.filter fun p => decide (S.toE p ≠ 0)).length

structure Ok (S : Wir) : Prop where
  a : S.A.Ok
  p : S.P.length ≤ 64
  w : ∀ x ∈ S.P, 0 ≤ x ∧ x < 4294967296
/-- Links go both ways. -/
structure Both (S : Wir) : Prop where
  l : ∀ p, S.wE p = 0 → S.wV p = 4294967295 ∨ ∃ q, S.wE q = 0 ∧ p ≠ q ∧ S.wV p = pkP q ∧ S.wV q = pkP p

variable {S : Wir}
theorem wE_01 (p : Pt) : S.wE p = 0 ∨ S.wE p = 30 := by
  unfold wE
  split
  · split
    · exact .inr rfl
    · exact .inl rfl
  · split
    · exact .inl rfl
    · exact .inr rfl
theorem Ok.pk (h : S.Ok) {p : Pt} (hp : S.wE p = 0) : pkE p.1 p.2 = 0 := by
  unfold wE at hp
  split at hp
  · rename_i h1
    split at hp
    · simp at hp
    · have := h.p
      unfold pkE
      rw [if_pos ⟨h1, by omega, by omega⟩]
  · split at hp
    · rename_i h1 h2
      have := h.a.word h2
      unfold pkE
      rw [if_neg (by omega), if_pos ⟨this.1, this.2.1, this.2.2.1, this.2.2.2.1⟩]
    · simp at hp
theorem Ok.val (h : S.Ok) {p : Pt} (hp : S.wE p = 0) : 0 ≤ S.wV p ∧ S.wV p < 4294967296 := by
  unfold wE at hp
  unfold wV
  split at hp
  · rename_i h1
    rw [if_pos h1]
    split at hp
    · simp at hp
    · rename_i h2
      rw [if_neg h2]
      have hl : p.2.toNat < S.P.length := by omega
      rw [List.getD_eq_getElem?_getD, List.getElem?_eq_getElem hl]
      exact h.w _ (List.getElem_mem hl)
  · rename_i h1
    rw [if_neg h1]
    split at hp
    · rename_i h2
      have := h.a.word h2
      exact ⟨this.2.2.2.2.1, this.2.2.2.2.2⟩
    · simp at hp
theorem Ok.put (h : S.Ok) (p : Pt) {v : Int} (hv : 0 ≤ v ∧ v < 4294967296) (h6 : v < 4294967296) : (S.put p v).Ok := by
  unfold Wir.put
  split
  · refine ⟨h.a, by simpa using h.p, fun x hx => ?_⟩
    rcases List.mem_or_eq_of_mem_set hx with hm | rfl
    · exact h.w x hm
    · exact hv
  · exact ⟨h.a.put _ _ _ hv, h.p, h.w⟩
theorem put_wE (p : Pt) (v : Int) (q : Pt) : (S.put p v).wE q = S.wE q := by
  unfold Wir.put
  by_cases h : p.1 = -1
  · rw [if_pos h]
    unfold wE
    simp only [List.length_set]
  · rw [if_neg h]
    unfold wE
    simp only [Ars.put_slotE]
theorem put_wV {p : Pt} (v : Int) (hp : S.wE p = 0) (q : Pt) : (S.put p v).wV q = if q = p then v else S.wV q := by
  unfold Wir.put
  by_cases h1 : p.1 = -1
  · rw [if_pos h1]
    have hp2 : ¬ (p.2 < 0 ∨ (S.P.length : Int) ≤ p.2) := by
      intro h2
      unfold wE at hp
      rw [if_pos h1, if_pos h2] at hp
      omega
    show (if q.1 = -1 then (if q.2 < 0 ∨ ((S.P.set p.2.toNat v).length : Int) ≤ q.2 then 0 else (S.P.set p.2.toNat v).getD q.2.toNat 0) else S.A.getV q.1 q.2) = if q = p then v else (if q.1 = -1 then (if q.2 < 0 ∨ (S.P.length : Int) ≤ q.2 then 0 else S.P.getD q.2.toNat 0) else S.A.getV q.1 q.2)
    rw [List.length_set]
    by_cases e : q = p
    · subst e
      rw [if_pos h1, if_neg hp2, if_pos rfl, List.getD_eq_getElem?_getD, List.getElem?_set, if_pos rfl, if_pos (by omega)]
      rfl
    · rw [if_neg e]
      by_cases hq : q.1 = -1
      · rw [if_pos hq, if_pos hq]
        by_cases h3 : q.2 < 0 ∨ (S.P.length : Int) ≤ q.2
        · rw [if_pos h3, if_pos h3]
        · rw [if_neg h3, if_neg h3, List.getD_eq_getElem?_getD, List.getElem?_set, if_neg (fun e3 => e (Prod.ext (hq.trans h1.symm) (by omega))), ← List.getD_eq_getElem?_getD]
      · rw [if_neg hq, if_neg hq]
  · rw [if_neg h1]
    have hp2 : S.A.slotE p.1 p.2 = 0 := by
      unfold wE at hp
      rw [if_neg h1] at hp
      split at hp
      · assumption
      · omega
    show (if q.1 = -1 then (if q.2 < 0 ∨ (S.P.length : Int) ≤ q.2 then 0 else S.P.getD q.2.toNat 0) else (S.A.put p.1 p.2 v).getV q.1 q.2) = if q = p then v else (if q.1 = -1 then (if q.2 < 0 ∨ (S.P.length : Int) ≤ q.2 then 0 else S.P.getD q.2.toNat 0) else S.A.getV q.1 q.2)
    by_cases hq : q.1 = -1
    · rw [if_pos hq, if_pos hq, if_neg (show ¬ q = p from fun e => h1 (by rw [← e]; exact hq))]
    · rw [if_neg hq, if_neg hq, Ars.put_getV hp2]
      by_cases e : q = p
      · rw [if_pos e, if_pos ⟨by rw [e], by rw [e]⟩]
      · rw [if_neg e, if_neg (fun h => e (Prod.ext h.1 h.2))]
theorem toE_cases (S : Wir) (p : Pt) : S.toE p = 0 ∨ S.toE p = 30 ∨ S.toE p = 32 := by
  unfold toE
  split
  · exact .inr (.inl rfl)
  · split
    · exact .inl rfl
    · exact .inr (.inr rfl)
theorem toE_30 (p : Pt) : S.toE p = 30 ↔ S.wE p ≠ 0 := by
  unfold toE
  constructor
  · intro h hw
    rw [if_neg (by omega)] at h
    split at h <;> omega
  · intro h; rw [if_pos h]
/-- What a port leads to, by what it holds. -/
theorem to_some (h : S.Ok) {p q : Pt} (hp : S.wE p = 0) (hq : S.wE q = 0) (hv : S.wV p = pkP q) : S.toE p = 0 ∧ S.toP p = q := by
  obtain ⟨h1, h2, h3, _, _⟩ := pk_un (h.pk hq)
  have hn : nxP (S.wV p) = q := by rw [hv]; unfold nxP pkP; rw [h2, h3]
  have he : S.toE p = 0 := by
    unfold toE
    rw [if_neg (by omega), if_pos ⟨by rw [hv]; exact h1, by rw [hn]; exact hq⟩]
  exact ⟨he, by unfold toP; rw [if_pos he, hn]⟩
theorem to_none {p : Pt} (hp : S.wE p = 0) (hv : S.wV p = 4294967295) : S.toE p = 32 := by
  unfold toE
  rw [if_neg (by omega), hv, un_none, if_neg (fun h => Bool.noConfusion h.1)]
theorem pk_ne (h : S.Ok) {q : Pt} (hq : S.wE q = 0) : pkP q ≠ 4294967295 := by
  have := (pk_un (h.pk hq)).2.2.2.2
  unfold pkP; omega
/-- What a linked port leads to. -/
theorem Both.to (h : S.Ok) (hb : S.Both) {p : Pt} (he : S.toE p = 0) : S.wE p = 0 ∧ S.wE (S.toP p) = 0 ∧ p ≠ S.toP p ∧ S.wV p = pkP (S.toP p) ∧ S.wV (S.toP p) = pkP p ∧ S.toE (S.toP p) = 0 ∧ S.toP (S.toP p) = p := by
  have hp : S.wE p = 0 := by
    rcases wE_01 (S := S) p with h | h
    · exact h
    · have := (toE_30 (S := S) p).2 (by omega); omega
  rcases hb.l p hp with hv | ⟨q, hq, hne, h1, h2⟩
  · have := to_none hp hv; omega
  · obtain ⟨_, rfl⟩ := to_some h hp hq h1
    obtain ⟨h3, h4⟩ := to_some h hq hp h2
    exact ⟨hp, hq, hne, h1, h2, h3, h4⟩
theorem Both.free (h : S.Ok) (hb : S.Both) {p : Pt} (he : S.toE p = 32) : S.wE p = 0 ∧ S.wV p = 4294967295 := by
  have hp : S.wE p = 0 := by
    rcases wE_01 (S := S) p with h | h
    · exact h
    · have := (toE_30 (S := S) p).2 (by omega); omega
  rcases hb.l p hp with hv | ⟨q, hq, hne, h1, h2⟩
  · exact ⟨hp, hv⟩
  · have := (to_some h hp hq h1).1; omega
/-! ### Two stores -/
theorem two_wE (p q : Pt) (a b : Int) (x : Pt) : ((S.put p a).put q b).wE x = S.wE x := by rw [put_wE, put_wE]
theorem two_wV {p q : Pt} (a b : Int) (hp : S.wE p = 0) (hq : S.wE q = 0) (x : Pt) : ((S.put p a).put q b).wV x = if x = q then b else if x = p then a else S.wV x := by
  rw [put_wV b (by rw [put_wE]; exact hq), put_wV a hp]
theorem pkP_rng (h : S.Ok) {q : Pt} (hq : S.wE q = 0) : 0 ≤ pkP q ∧ pkP q < 4294967296 := by
  have := (pk_un (h.pk hq)).2.2.2
  unfold pkP; omega
theorem Ok.join (h : S.Ok) {p q : Pt} (hp : S.wE p = 0) (hq : S.wE q = 0) : (S.join p q).Ok :=
  (h.put p (pkP_rng h hq) (pkP_rng h hq).2).put q (pkP_rng h hp) (pkP_rng h hp).2
theorem Ok.part (h : S.Ok) (p q : Pt) : (S.part p q).Ok := (h.put p (by omega) (by omega)).put q (by omega) (by omega)
theorem Both.join (h : S.Ok) (hb : S.Both) {p q : Pt} (hne : p ≠ q) (hp : S.wE p = 0) (hq : S.wE q = 0) (vp : S.wV p = 4294967295) (vq : S.wV q = 4294967295) : (S.join p q).Both := by
  refine ⟨fun x hx => ?_⟩
  unfold Wir.join at hx ⊢
  rw [two_wE] at hx
  simp only [two_wE, two_wV _ _ hp hq]
  by_cases e1 : x = q
  · subst e1
    right
    exact ⟨p, hp, fun e => hne e.symm, by rw [if_pos rfl], by rw [if_neg hne, if_pos rfl]⟩
  · by_cases e2 : x = p
    · subst e2
      right
      exact ⟨q, hq, hne, by rw [if_neg e1, if_pos rfl], by rw [if_pos rfl]⟩
    · rw [if_neg e1, if_neg e2]
      rcases hb.l x hx with hv | ⟨y, hy, hxy, h1, h2⟩
      · exact .inl hv
      · right
        have y1 : y ≠ q := by rintro rfl; rw [vq] at h2; exact pk_ne h hx h2.symm
        have y2 : y ≠ p := by rintro rfl; rw [vp] at h2; exact pk_ne h hx h2.symm
        exact ⟨y, hy, hxy, h1, by rw [if_neg y1, if_neg y2]; exact h2⟩
theorem pkP_inj (h : S.Ok) {p q : Pt} (hp : S.wE p = 0) (hq : S.wE q = 0) (e : pkP p = pkP q) : p = q := by
  obtain ⟨e1, e2⟩ := pk_inj (h.pk hp) (h.pk hq) e
  exact Prod.ext e1 e2
theorem Both.part (h : S.Ok) (hb : S.Both) {p : Pt} (he : S.toE p = 0) : (S.part p (S.toP p)).Both := by
  obtain ⟨hp, hq, hne, v1, v2, _, _⟩ := hb.to h he
  generalize S.toP p = q at hq hne v1 v2 ⊢
  refine ⟨fun x hx => ?_⟩
  unfold Wir.part at hx ⊢
  rw [two_wE] at hx
  simp only [two_wE, two_wV _ _ hp hq]
  by_cases e1 : x = q
  · rw [if_pos e1]; exact .inl rfl
  · by_cases e2 : x = p
    · rw [if_neg e1, if_pos e2]; exact .inl rfl
    · rw [if_neg e1, if_neg e2]
      rcases hb.l x hx with hv | ⟨y, hy, hxy, h1, h2⟩
      · exact .inl hv
      · right
        have y1 : y ≠ q := by rintro rfl; rw [v2] at h2; exact e2 (pkP_inj h hp hx h2).symm
        have y2 : y ≠ p := by rintro rfl; rw [v1] at h2; exact e1 (pkP_inj h hq hx h2).symm
        exact ⟨y, hy, hxy, h1, by rw [if_neg y1, if_neg y2]; exact h2⟩
end Wir
end Go.Proofs.Ythbobooiedcofaa
/-
  A wiring's steps keep its links going both ways. (Plain Lean, no program.)
-/
set_option linter.unusedVariables false
namespace Go.Proofs.Ythbobooiedcofaa
namespace Wir
variable {S : Wir}
theorem cut_eq {p : Pt} (he : S.toE p = 0) : S.cut p = S.part p (S.toP p) := by unfold cut; rw [if_pos he]
theorem Ok.cut (h : S.Ok) (p : Pt) : (S.cut p).Ok := by
  unfold Wir.cut
  split
  · exact h.part _ _
  · exact h
theorem Both.cut (h : S.Ok) (hb : S.Both) (p : Pt) : (S.cut p).Both := by
  by_cases he : S.toE p = 0
  · rw [cut_eq he]; exact hb.part h he
  · unfold Wir.cut; rw [if_neg he]; exact hb
theorem linkE_of {p q : Pt} (hne : p ≠ q) (h1 : S.toE p = 32) (h2 : S.toE q = 32) : S.linkE p q = 0 := by
  unfold linkE
  rw [if_neg (by omega), if_neg (fun h => by rcases h with h | h | h; exact hne h; omega; omega)]
/-! ### Cells taken, cells given back -/
def take (S : Wir) (ag ar : Int) : Wir := { S with A := S.A.take ag ar }
theorem Ok.take (h : S.Ok) (ag ar : Int) : (S.take ag ar).Ok := ⟨h.a.take ag ar, h.p, h.w⟩
theorem take_at (h : S.Ok) {ag ar : Int} (he : S.A.takeE ag ar = 0) {x : Pt} (hx : x.1 ≠ S.A.takeC ag ar) : (S.take ag ar).wE x = S.wE x ∧ (S.take ag ar).wV x = S.wV x := by
  have hc := Ars.take_cell h.a he x.1
  rw [if_neg hx] at hc
  unfold Wir.take wE wV
  simp only [Ars.slotE, Ars.getV, hc]
  exact ⟨rfl, trivial⟩
theorem take_new (h : S.Ok) {ag ar : Int} (he : S.A.takeE ag ar = 0) {x : Pt} (hx : x.1 = S.A.takeC ag ar) : S.wE x ≠ 0 ∧ ((S.take ag ar).wE x = 0 → (S.take ag ar).wV x = 4294967295) := by
  obtain ⟨hn, h0⟩ := Ars.take_new h.a he
  have hne : ¬ x.1 = -1 := by omega
  refine ⟨?_, fun hw => ?_⟩
  · unfold wE
    rw [if_neg hne, hx]
    unfold Ars.slotE
    rw [hn]
    simp
  · have hc := Ars.take_cell h.a he x.1
    rw [if_pos hx] at hc
    unfold Wir.take wE at hw
    unfold Wir.take wV
    rw [if_neg hne] at hw ⊢
    simp only at hw ⊢
    split at hw
    · rename_i h1
      obtain ⟨ag', ws, hc', s0, s1⟩ := Ars.slot_ok h1
      rw [hc] at hc'
      unfold Ars.fresh at hc'
      injection hc' with hc'
      injection hc' with _ hws
      rw [(Ars.slot_of (by rw [hc]; unfold Ars.fresh; rw [hws]) s0 s1).2, ← hws, List.getD_eq_getElem?_getD, List.getElem?_replicate, if_pos (by rw [← hws] at s1; simp at s1; omega)]
      rfl
    · omega
theorem Both.take (h : S.Ok) (hb : S.Both) (ag ar : Int) : (S.take ag ar).Both := by
  by_cases he : S.A.takeE ag ar = 0
  · refine ⟨fun x hx => ?_⟩
    by_cases hc : x.1 = S.A.takeC ag ar
    · exact .inl ((take_new h he hc).2 hx)
    · obtain ⟨e1, e2⟩ := take_at h he hc
      rw [e1] at hx
      rw [e2]
      rcases hb.l x hx with hv | ⟨y, hy, hxy, h1, h2⟩
      · exact .inl hv
      · have hyc : y.1 ≠ S.A.takeC ag ar := fun e => (take_new h he e).1 hy
        obtain ⟨f1, f2⟩ := take_at h he hyc
        exact .inr ⟨y, by rw [f1]; exact hy, hxy, h1, by rw [f2]; exact h2⟩
  · have : S.take ag ar = S := by unfold Wir.take; rw [Ars.take_same he]
    rw [this]; exact hb
theorem dropE_0 {c : Int} (he : S.dropE c = 0) : ∃ ag ws, S.A.cell c = some (ag, ws) ∧ ∀ s : Nat, s < ws.length → S.toE (c, (s : Int)) ≠ 0 := by
  unfold dropE at he
  cases hc : S.A.cell c with
  | none => rw [hc] at he; simp at he
  | some x =>
    obtain ⟨ag, ws⟩ := x
    rw [hc] at he
    simp only [Option.isSome_some, if_true] at he
    split at he
    · omega
    · rename_i hl
      refine ⟨ag, ws, rfl, fun s hs e => hl ?_⟩
      have hA : S.A.agA c = (ws.length : Int) - 1 := by unfold Ars.agA; rw [hc]
      unfold linkedN
      rw [List.any_eq_true]
      exact ⟨s, List.mem_range.2 (by rw [hA]; omega), decide_eq_true e⟩
theorem Ok.drop (h : S.Ok) (c : Int) : (S.drop c).Ok := by
  unfold Wir.drop
  split
  · exact ⟨h.a.give c, h.p, h.w⟩
  · exact h
theorem Both.drop (h : S.Ok) (hb : S.Both) (c : Int) : (S.drop c).Both := by
  unfold Wir.drop
  split
  · rename_i he
    obtain ⟨ag, ws, hc, hall⟩ := dropE_0 he
    obtain ⟨c0, _⟩ := Ars.cell_some hc
    have hat : ∀ x : Pt, x.1 ≠ c → ({ S with A := S.A.give c } : Wir).wE x = S.wE x ∧ ({ S with A := S.A.give c } : Wir).wV x = S.wV x := fun x hx => by
      have hg := Ars.give_cell (S := S.A) (c := c) x.1
      rw [if_neg hx] at hg
      unfold wE wV
      simp only [Ars.slotE, Ars.getV, hg]
      exact ⟨rfl, trivial⟩
    have hin : ∀ x : Pt, x.1 = c → ({ S with A := S.A.give c } : Wir).wE x ≠ 0 := fun x hx => by
      have hg := Ars.give_cell (S := S.A) (c := c) x.1
      rw [if_pos hx] at hg
      unfold wE
      rw [if_neg (by omega)]
      simp only [Ars.slotE, hg]
      simp
    have hfree : ∀ x : Pt, x.1 = c → S.wE x = 0 → S.wV x = 4294967295 := fun x hx hw => by
      have hw2 := hw
      unfold wE at hw2
      rw [if_neg (by omega)] at hw2
      split at hw2
      · rename_i h1
        rw [hx] at h1
        obtain ⟨ag', ws', hc', s0, s1⟩ := Ars.slot_ok h1
        rw [hc] at hc'
        simp only [Option.some.injEq, Prod.mk.injEq] at hc'
        obtain ⟨rfl, rfl⟩ := hc'
        have hn := hall x.2.toNat (by omega)
        have hxx : (c, ((x.2.toNat : Nat) : Int)) = x := Prod.ext hx.symm (by show ((x.2.toNat : Nat) : Int) = x.2; omega)
        rw [hxx] at hn
        rcases toE_cases S x with h3 | h3 | h3
        · exact absurd h3 hn
        · exact absurd hw ((toE_30 x).1 h3)
        · exact (hb.free h h3).2
      · omega
    refine ⟨fun x hx => ?_⟩
    have hxc : x.1 ≠ c := fun e => hin x e hx
    obtain ⟨e1, e2⟩ := hat x hxc
    rw [e1] at hx
    rw [e2]
    rcases hb.l x hx with hv | ⟨y, hy, hxy, h1, h2⟩
    · exact .inl hv
    · have hyc : y.1 ≠ c := fun e => by
        have := hfree y e hy
        rw [this] at h2
        exact pk_ne h hx h2.symm
      obtain ⟨f1, f2⟩ := hat y hyc
      exact .inr ⟨y, by rw [f1]; exact hy, hxy, h1, by rw [f2]; exact h2⟩
  · exact hb
theorem Ok.new {A : Ars} (hA : A.Ok) {free : Nat} (hf : free ≤ 64) : (new A free).Ok :=
  ⟨hA, by simpa [Wir.new] using hf, fun x hx => by
    have := List.eq_of_mem_replicate (show x ∈ List.replicate free 4294967295 from hx)
    omega⟩
theorem Both.new {m free : Nat} (h : 1 ≤ m) : (new (Ars.empty m) free).Both := by
  refine ⟨fun x hx => .inl ?_⟩
  unfold wE at hx
  unfold wV
  split at hx
  · rename_i h1
    rw [if_pos h1]
    split at hx
    · omega
    · rename_i h2
      rw [if_neg h2]
      simp only [Wir.new, List.length_replicate] at h2 ⊢
      rw [List.getD_eq_getElem?_getD, List.getElem?_replicate, if_pos (by omega)]
      rfl
  · split at hx
    · rename_i h1
      obtain ⟨ag, ws, hc, _⟩ := Ars.slot_ok h1
      obtain ⟨_, hx'⟩ := Ars.cell_some hc
      simp [Wir.new, Ars.empty] at hx'
    · omega
/-- To and back. -/
theorem back (h : S.Ok) (hb : S.Both) {p : Pt} (he : S.toE p = 0) : S.toE (S.toP p) = 0 ∧ S.toP (S.toP p) = p := (hb.to h he).2.2.2.2.2
end Wir
end Go.Proofs.Ythbobooiedcofaa
namespace Go.Proofs.Ythbobooiedcofaa
namespace Wir
def slotsOf (c : Int) (n : Nat) : List Pt := (List.range n).map fun (s : Nat) => (c, (s : Int))
theorem slotsOf_succ (c : Int) (n : Nat) : slotsOf c (n + 1) = slotsOf c n ++ [(c, (n : Int))] := by simp [slotsOf, List.range_succ]
theorem slotsOf_len (c : Int) (n : Nat) : (slotsOf c n).length = n := by simp [slotsOf]
def cellPt1 (c : Nat) : Option (Int × List Int) → List Pt
  | none => []
  | some (_, ws) => slotsOf (c : Int) ws.length
theorem cellPts_cons (c : Nat) (x : Option (Int × List Int)) (r : List (Option (Int × List Int))) : cellPts c (x :: r) = cellPt1 c x ++ cellPts (c + 1) r := by
  cases x with
  | none => rfl
  | some x => rfl
theorem cellPts_append (c : Nat) (l r : List (Option (Int × List Int))) : cellPts c (l ++ r) = cellPts c l ++ cellPts (c + l.length) r := by
  induction l generalizing c with
  | nil => simp [cellPts]
  | cons x l ih =>
    rw [List.cons_append, cellPts_cons, cellPts_cons, ih, List.append_assoc, List.length_cons]
    congr 2
    rw [show c + 1 + l.length = c + (l.length + 1) by omega]
/-- Of the first k cells. -/
def ptsK (S : Wir) (k : Nat) : List Pt := slotsOf (-1) S.P.length ++ cellPts 0 (S.A.cells.take k)
theorem ptsK_all (S : Wir) : ptsK S S.A.cells.length = S.pts := by unfold ptsK pts slotsOf; rw [List.take_length]
theorem ptsK_zero (S : Wir) : ptsK S 0 = slotsOf (-1) S.P.length := by simp [ptsK, cellPts]
theorem ptsK_succ (S : Wir) {k : Nat} {x : Option (Int × List Int)} (h : S.A.cells[k]? = some x) : ptsK S (k + 1) = ptsK S k ++ cellPt1 k x := by
  have hk : k < S.A.cells.length := by
    rcases Nat.lt_or_ge k S.A.cells.length with hl | hl
    · exact hl
    · rw [List.getElem?_eq_none hl] at h; cases h
  unfold ptsK
  rw [List.take_add_one, h, cellPts_append, List.length_take, Nat.min_eq_left (by omega), Nat.zero_add]
  show _ ++ (_ ++ cellPts k [x]) = _
  rw [cellPts_cons]
  simp [cellPts]
/-- By the live cells, in their order. -/
def liveSl (S : Wir) (x : Nat × Int) : List Pt := slotsOf (x.1 : Int) (S.A.agA (x.1 : Int) + 1).toNat
theorem cellPts_upto (S : Wir) (k : Nat) (hk : k ≤ S.A.cells.length) : cellPts 0 (S.A.cells.take k) = (S.A.upto k).flatMap (liveSl S) := by
  induction k with
  | zero => simp [cellPts, Ars.upto]
  | succ k ih =>
    have hlt : k < S.A.cells.length := by omega
    obtain ⟨x, hx⟩ : ∃ x, S.A.cells[k]? = some x := ⟨_, List.getElem?_eq_getElem hlt⟩
    rw [List.take_add_one, hx, cellPts_append, List.length_take, Nat.min_eq_left (by omega), Nat.zero_add, ih (by omega), Ars.upto, hx, List.flatMap_append]
    congr 1
    show cellPts k [x] = _
    rw [cellPts_cons]
    cases x with
    | none => simp [cellPts, cellPt1]
    | some x =>
      obtain ⟨ag, ws⟩ := x
      have hc : S.A.cell (k : Int) = some (ag, ws) := Ars.cell_at (by omega) (by simpa using hx)
      simp only [List.flatMap_cons, List.flatMap_nil, List.append_nil, cellPts, cellPt1, liveSl]
      unfold Ars.agA
      rw [hc]
      simp only
      congr 1
      omega
theorem pts_upto (S : Wir) : S.pts = slotsOf (-1) S.P.length ++ (S.A.upto S.A.cells.length).flatMap (liveSl S) := by
  rw [← ptsK_all, ptsK, cellPts_upto S _ (Nat.le_refl _)]
/-- How many ports there are at most. -/
theorem cellPts_le (c : Nat) (l : List (Option (Int × List Int))) (h : ∀ x ∈ l, ∀ ag ws, x = some (ag, ws) → ws.length ≤ 7) : (cellPts c l).length ≤ 7 * l.length := by
  induction l generalizing c with
  | nil => simp [cellPts]
  | cons x r ih =>
    have h1 := ih (c + 1) fun y hy => h y (by simp [hy])
    rw [cellPts_cons, List.length_append, List.length_cons]
    cases x with
    | none => simp only [cellPt1, List.length_nil]; omega
    | some x =>
      obtain ⟨ag, ws⟩ := x
      have := h (some (ag, ws)) (by simp) ag ws rfl
      simp only [cellPt1, slotsOf_len]; omega
end Wir
end Go.Proofs.Ythbobooiedcofaa
