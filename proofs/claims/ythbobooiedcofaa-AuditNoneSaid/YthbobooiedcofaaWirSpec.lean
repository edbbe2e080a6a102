/-
  What a wiring is, without memory: what its ports hold; its steps; links go both ways. (Plain Lean, no program.)
-/
import Derived.Test.YthbobooiedcofaaArenaSpec
import Derived.Test.YthbobooiedcofaaWordSpec
import Derived.Test.YthbobooiedcofaaNetSpec
namespace Go.Proofs.Ythbobooiedcofaa

namespace Ars
variable {S : Ars}
theorem put_none {c s v : Int} (h : S.slotE c s ≠ 0) : S.put c s v = S := by
  unfold slotE at h
  unfold Ars.put
  cases hc : S.cell c with
  | none => rfl
  | some x =>
    rw [hc] at h
    simp only at h ⊢
    split
    · rfl
    · rename_i hn; rw [if_neg hn] at h; exact absurd rfl h
theorem slot_ok {c s : Int} (h : S.slotE c s = 0) : ∃ ag ws, S.cell c = some (ag, ws) ∧ 0 ≤ s ∧ s < (ws.length : Int) := by
  unfold slotE at h
  cases hc : S.cell c with
  | none => rw [hc] at h; simp at h
  | some x =>
    rw [hc] at h
    simp only at h
    split at h
    · simp at h
    · exact ⟨x.1, x.2, rfl, by omega, by omega⟩
theorem slot_of {c s : Int} {ag : Int} {ws : List Int} (hc : S.cell c = some (ag, ws)) (h0 : 0 ≤ s) (h1 : s < (ws.length : Int)) : S.slotE c s = 0 ∧ S.getV c s = ws.getD s.toNat 0 := by
  unfold slotE getV
  rw [hc]
  simp only
  rw [if_neg (by omega), if_neg (by omega)]
  exact ⟨rfl, rfl⟩
theorem cell_at {c : Int} {x : Int × List Int} (h0 : 0 ≤ c) (h : S.cells[c.toNat]? = some (some x)) : S.cell c = some x := by
  unfold cell; rw [if_pos h0, h]; rfl
theorem put_cell {c s v : Int} {ag : Int} {ws : List Int} (hc : S.cell c = some (ag, ws)) (h0 : 0 ≤ s) (h1 : s < (ws.length : Int)) (c' : Int) :
    (S.put c s v).cell c' = if c' = c then some (ag, ws.set s.toNat v) else S.cell c' := by
  obtain ⟨hc0, hx⟩ := cell_some hc
  have hlt : c.toNat < S.cells.length := by
    rcases Nat.lt_or_ge c.toNat S.cells.length with hl | hl
    · exact hl
    · rw [List.getElem?_eq_none hl] at hx; cases hx
  unfold Ars.put
  rw [hc]
  simp only
  rw [if_neg (by omega)]
  unfold cell
  by_cases e : c' = c
  · subst e
    rw [if_pos hc0, if_pos rfl]
    simp [hlt]
  · rw [if_neg e]
    by_cases hc' : 0 ≤ c'
    · rw [if_pos hc', if_pos hc']
      simp only [List.getElem?_set]
      rw [if_neg (by omega)]
    · rw [if_neg hc', if_neg hc']
theorem put_slotE (c s v c' s' : Int) : (S.put c s v).slotE c' s' = S.slotE c' s' := by
  by_cases h : S.slotE c s = 0
  · obtain ⟨ag, ws, hc, h0, h1⟩ := slot_ok h
    unfold slotE
    rw [put_cell hc h0 h1]
    by_cases e : c' = c
    · subst e; rw [if_pos rfl, hc]; simp
    · rw [if_neg e]
  · rw [put_none h]
theorem put_getV {c s v : Int} (h : S.slotE c s = 0) (c' s' : Int) : (S.put c s v).getV c' s' = if c' = c ∧ s' = s then v else S.getV c' s' := by
  obtain ⟨ag, ws, hc, h0, h1⟩ := slot_ok h
  unfold getV
  rw [put_cell hc h0 h1]
  by_cases e : c' = c
  · subst e
    rw [if_pos rfl, hc]
    simp only [List.length_set, true_and]
    by_cases e2 : s' = s
    · subst e2
      rw [if_neg (by omega), if_pos rfl, List.getD_eq_getElem?_getD, List.getElem?_set]
      rw [if_pos rfl, if_pos (by omega)]; rfl
    · rw [if_neg e2]
      split
      · rfl
      · rw [List.getD_eq_getElem?_getD, List.getElem?_set, if_neg (by omega), ← List.getD_eq_getElem?_getD]
  · rw [if_neg e, if_neg (fun h => e h.1)]
theorem Ok.word (h : S.Ok) {c s : Int} (hs : S.slotE c s = 0) : 0 ≤ c ∧ c < 4096 ∧ 0 ≤ s ∧ s ≤ 6 ∧ 0 ≤ S.getV c s ∧ S.getV c s < 4294967296 := by
  obtain ⟨ag, ws, hc, h0, h1⟩ := slot_ok hs
  obtain ⟨hc0, hx⟩ := cell_some hc
  have hk := h.cell _ _ _ hx
  have hlt : c.toNat < S.cells.length := by
    rcases Nat.lt_or_ge c.toNat S.cells.length with hl | hl
    · exact hl
    · rw [List.getElem?_eq_none hl] at hx; cases hx
  have := h.len
  have := h.most2
  rw [(slot_of hc h0 h1).2, List.getD_eq_getElem?_getD, List.getElem?_eq_getElem (show s.toNat < ws.length by omega)]
  have hw := hk.2.2.2.2 _ (List.getElem_mem (show s.toNat < ws.length by omega))
  simp only [Option.getD_some]
  omega
theorem take_cell (h : S.Ok) {ag ar : Int} (he : S.takeE ag ar = 0) (c' : Int) : (S.take ag ar).cell c' = if c' = S.takeC ag ar then fresh ag ar else S.cell c' := by
  have hb : ¬ bad ag ar := by intro hb; unfold takeE at he; rw [if_pos hb] at he; omega
  have hn : S.nextE = 0 := by unfold takeE at he; rw [if_neg hb] at he; exact he
  have hC : S.takeC ag ar = S.nextC := by unfold takeC; rw [if_neg hb]
  rw [hC]
  rcases take_cases h hb hn with ⟨b, hl, hnc, ht, hcb⟩ | ⟨hb0, hnc, hlt, ht⟩
  · have hlt : b < S.cells.length := h.lt (List.mem_of_getLast? hl)
    rw [ht, hnc]
    unfold cell
    by_cases e : c' = (b : Int)
    · subst e
      rw [if_pos (by omega), if_pos rfl]
      simp [hlt]
    · rw [if_neg e]
      by_cases hc' : 0 ≤ c'
      · rw [if_pos hc', if_pos hc']
        simp only [List.getElem?_set]
        rw [if_neg (by omega)]
      · rw [if_neg hc', if_neg hc']
  · rw [ht, hnc]
    unfold cell
    by_cases e : c' = (S.cells.length : Int)
    · subst e
      rw [if_pos (by omega), if_pos rfl]
      simp
    · rw [if_neg e]
      by_cases hc' : 0 ≤ c'
      · rw [if_pos hc', if_pos hc']
        simp only [List.getElem?_append]
        split
        · rfl
        · rename_i hge
          rw [List.getElem?_eq_none (by simp; omega), List.getElem?_eq_none (by omega)]
      · rw [if_neg hc', if_neg hc']
theorem take_new (h : S.Ok) {ag ar : Int} (he : S.takeE ag ar = 0) : S.cell (S.takeC ag ar) = none ∧ 0 ≤ S.takeC ag ar := by
  have hb : ¬ bad ag ar := by intro hb; unfold takeE at he; rw [if_pos hb] at he; omega
  have hn : S.nextE = 0 := by unfold takeE at he; rw [if_neg hb] at he; exact he
  have hC : S.takeC ag ar = S.nextC := by unfold takeC; rw [if_neg hb]
  rw [hC]
  rcases take_cases h hb hn with ⟨b, hl, hnc, ht, hcb⟩ | ⟨hb0, hnc, hlt, ht⟩
  · rw [hnc]
    unfold cell
    rw [if_pos (by omega)]
    simp [hcb]
  · rw [hnc]
    unfold cell
    rw [if_pos (by omega)]
    simp
theorem give_cell {c : Int} (c' : Int) : (S.give c).cell c' = if c' = c then none else S.cell c' := by
  unfold Ars.give
  cases hc : S.cell c with
  | none =>
    simp only [Option.isSome_none, Bool.false_eq_true, if_false]
    by_cases e : c' = c
    · subst e; rw [if_pos rfl, hc]
    · rw [if_neg e]
  | some x =>
    simp only [Option.isSome_some, if_true]
    obtain ⟨h0, hx⟩ := cell_some hc
    have hlt : c.toNat < S.cells.length := by
      rcases Nat.lt_or_ge c.toNat S.cells.length with hl | hl
      · exact hl
      · rw [List.getElem?_eq_none hl] at hx; cases hx
    unfold cell
    by_cases e : c' = c
    · subst e
      rw [if_pos rfl, if_pos h0]
      simp [hlt]
    · rw [if_neg e]
      by_cases hc' : 0 ≤ c'
      · rw [if_pos hc', if_pos hc']
        simp only [List.getElem?_set]
        rw [if_neg (by omega)]
      · rw [if_neg hc', if_neg hc']
end Ars

/-- A wiring: its arena, what its free ports hold. -/
structure Wir where
  A : Ars
  P : List Int
def nxP (v : Int) : Pt := (unC v, unS v)
def pkP (p : Pt) : Int := pkW p.1 p.2
namespace Wir
def new (A : Ars) (free : Nat) : Wir := { A, P := List.replicate free 4294967295 }
def wE (S : Wir) (p : Pt) : Int := if p.1 = -1 then (if p.2 < 0 ∨ (S.P.length : Int) ≤ p.2 then 30 else 0) else if S.A.slotE p.1 p.2 = 0 then 0 else 30
def wV (S : Wir) (p : Pt) : Int := if p.1 = -1 then (if p.2 < 0 ∨ (S.P.length : Int) ≤ p.2 then 0 else S.P.getD p.2.toNat 0) else S.A.getV p.1 p.2
def toE (S : Wir) (p : Pt) : Int := if S.wE p ≠ 0 then 30 else if unOk (S.wV p) = true ∧ S.wE (nxP (S.wV p)) = 0 then 0 else 32
def toP (S : Wir) (p : Pt) : Pt := if S.toE p = 0 then nxP (S.wV p) else (0, 0)
def put (S : Wir) (p : Pt) (v : Int) : Wir := if p.1 = -1 then { S with P := S.P.set p.2.toNat v } else { S with A := S.A.put p.1 p.2 v }
def join (S : Wir) (p q : Pt) : Wir := (S.put p (pkP q)).put q (pkP p)
def part (S : Wir) (p q : Pt) : Wir := (S.put p 4294967295).put q 4294967295
def linkE (S : Wir) (p q : Pt) : Int := if S.toE p = 30 ∨ S.toE q = 30 then 30 else if p = q ∨ S.toE p = 0 ∨ S.toE q = 0 then 31 else 0
def link (S : Wir) (p q : Pt) : Wir := if S.linkE p q = 0 then S.join p q else S
def cut (S : Wir) (p : Pt) : Wir := if S.toE p = 0 then S.part p (S.toP p) else S
def passE (S : Wir) (p q : Pt) : Int := if S.toE p = 30 ∨ S.toE q = 30 then 30 else if p = q then 1 else if S.toE p ≠ 0 ∨ S.toE q ≠ 0 then 32 else 0
def passIs (S : Wir) (p q : Pt) : Bool := decide (S.passE p q = 0 ∧ S.toP p ≠ q)
def passL (S : Wir) (p q : Pt) : Pt × Pt := if S.passIs p q = true then (S.toP p, S.toP q) else ((0, 0), (0, 0))
def pass (S : Wir) (p q : Pt) : Wir := if S.passE p q ≠ 0 then S else if S.toP p = q then S.cut p else ((S.cut p).cut q).join (S.toP p) (S.toP q)
/-- The first slots of a cell, so many: is one of them linked? -/
def linkedN (S : Wir) (c : Int) (n : Nat) : Bool := (List.range n).any fun s => decide (S.toE (c, (s : Int)) = 0)
def dropE (S : Wir) (c : Int) : Int := if (S.A.cell c).isSome then (if S.linkedN c (S.A.agA c + 1).toNat = true then 31 else 0) else 41
def drop (S : Wir) (c : Int) : Wir := if S.dropE c = 0 then { S with A := S.A.give c } else S
/-- Its ports: the free ones, then those of the live cells. -/
def cellPts : Nat → List (Option (Int × List Int)) → List Pt
  | _, [] => []
  | c, none :: r => cellPts (c + 1) r
  | c, some (_, ws) :: r => ((List.range ws.length).map fun (s : Nat) => ((c : Int), (s : Int))) ++ cellPts (c + 1) r
def pts (S : Wir) : List Pt := ((List.range S.P.length).map fun (s : Nat) => ((-1 : Int), (s : Int))) ++ cellPts 0 S.A.cells
def openN (S : Wir) (l : List Pt) : Nat := (l.filter fun p => decide (S.toE p ≠ 0)).length

structure Ok (S : Wir) : Prop where
  a : S.A.Ok
  p : S.P.length ≤ 64
  w : ∀ x ∈ S.P, 0 ≤ x ∧ x < 4294967296
/-- Links go both ways. -/
structure Both (S : Wir) : Prop where
  l : ∀ p, S.wE p = 0 → S.wV p = 4294967295 ∨ ∃ q, S.wE q = 0 ∧ p ≠ q ∧ S.wV p = pkP q ∧ S.wV q = pkP p

variable {S : Wir}
theorem wE_01 (p : Pt) : S.wE p = 0 ∨ S.wE p = 30 := by
  unfold wE
  split
  · split
    · exact .inr rfl
    · exact .inl rfl
  · split
    · exact .inl rfl
    · exact .inr rfl
theorem Ok.pk (h : S.Ok) {p : Pt} (hp : S.wE p = 0) : pkE p.1 p.2 = 0 := by
  unfold wE at hp
  split at hp
  · rename_i h1
    split at hp
    · simp at hp
    · have := h.p
      unfold pkE
      rw [if_pos ⟨h1, by omega, by omega⟩]
  · split at hp
    · rename_i h1 h2
      have := h.a.word h2
      unfold pkE
      rw [if_neg (by omega), if_pos ⟨this.1, this.2.1, this.2.2.1, this.2.2.2.1⟩]
    · simp at hp
theorem Ok.val (h : S.Ok) {p : Pt} (hp : S.wE p = 0) : 0 ≤ S.wV p ∧ S.wV p < 4294967296 := by
  unfold wE at hp
  unfold wV
  split at hp
  · rename_i h1
    rw [if_pos h1]
    split at hp
    · simp at hp
    · rename_i h2
      rw [if_neg h2]
      have hl : p.2.toNat < S.P.length := by omega
      rw [List.getD_eq_getElem?_getD, List.getElem?_eq_getElem hl]
      exact h.w _ (List.getElem_mem hl)
  · rename_i h1
    rw [if_neg h1]
    split at hp
    · rename_i h2
      have := h.a.word h2
      exact ⟨this.2.2.2.2.1, this.2.2.2.2.2⟩
    · simp at hp
theorem Ok.put (h : S.Ok) (p : Pt) {v : Int} (hv : 0 ≤ v ∧ v < 4294967296) (h6 : v < 4294967296) : (S.put p v).Ok := by
  unfold Wir.put
  split
  · refine ⟨h.a, by simpa using h.p, fun x hx => ?_⟩
    rcases List.mem_or_eq_of_mem_set hx with hm | rfl
    · exact h.w x hm
    · exact hv
  · exact ⟨h.a.put _ _ _ hv, h.p, h.w⟩
theorem put_wE (p : Pt) (v : Int) (q : Pt) : (S.put p v).wE q = S.wE q := by
  unfold Wir.put
  by_cases h : p.1 = -1
  · rw [if_pos h]
    unfold wE
    simp only [List.length_set]
  · rw [if_neg h]
    unfold wE
    simp only [Ars.put_slotE]
theorem put_wV {p : Pt} (v : Int) (hp : S.wE p = 0) (q : Pt) : (S.put p v).wV q = if q = p then v else S.wV q := by
  unfold Wir.put
  by_cases h1 : p.1 = -1
  · rw [if_pos h1]
    have hp2 : ¬ (p.2 < 0 ∨ (S.P.length : Int) ≤ p.2) := by
      intro h2
      unfold wE at hp
      rw [if_pos h1, if_pos h2] at hp
      omega
    show (if q.1 = -1 then (if q.2 < 0 ∨ ((S.P.set p.2.toNat v).length : Int) ≤ q.2 then 0 else (S.P.set p.2.toNat v).getD q.2.toNat 0) else S.A.getV q.1 q.2) = if q = p then v else (if q.1 = -1 then (if q.2 < 0 ∨ (S.P.length : Int) ≤ q.2 then 0 else S.P.getD q.2.toNat 0) else S.A.getV q.1 q.2)
    rw [List.length_set]
    by_cases e : q = p
    · subst e
      rw [if_pos h1, if_neg hp2, if_pos rfl, List.getD_eq_getElem?_getD, List.getElem?_set, if_pos rfl, if_pos (by omega)]
      rfl
    · rw [if_neg e]
      by_cases hq : q.1 = -1
      · rw [if_pos hq, if_pos hq]
        by_cases h3 : q.2 < 0 ∨ (S.P.length : Int) ≤ q.2
        · rw [if_pos h3, if_pos h3]
        · rw [if_neg h3, if_neg h3, List.getD_eq_getElem?_getD, List.getElem?_set, if_neg (fun e3 => e (Prod.ext (hq.trans h1.symm) (by omega))), ← List.getD_eq_getElem?_getD]
      · rw [if_neg hq, if_neg hq]
  · rw [if_neg h1]
    have hp2 : S.A.slotE p.1 p.2 = 0 := by
      unfold wE at hp
      rw [if_neg h1] at hp
      split at hp
      · assumption
      · omega
    show (if q.1 = -1 then (if q.2 < 0 ∨ (S.P.length : Int) ≤ q.2 then 0 else S.P.getD q.2.toNat 0) else (S.A.put p.1 p.2 v).getV q.1 q.2) = if q = p then v else (if q.1 = -1 then (if q.2 < 0 ∨ (S.P.length : Int) ≤ q.2 then 0 else S.P.getD q.2.toNat 0) else S.A.getV q.1 q.2)
    by_cases hq : q.1 = -1
    · rw [if_pos hq, if_pos hq, if_neg (show ¬ q = p from fun e => h1 (by rw [← e]; exact hq))]
    · rw [if_neg hq, if_neg hq, Ars.put_getV hp2]
      by_cases e : q = p
      · rw [if_pos e, if_pos ⟨by rw [e], by rw [e]⟩]
      · rw [if_neg e, if_neg (fun h => e (Prod.ext h.1 h.2))]
theorem toE_cases (S : Wir) (p : Pt) : S.toE p = 0 ∨ S.toE p = 30 ∨ S.toE p = 32 := by
  unfold toE
  split
  · exact .inr (.inl rfl)
  · split
    · exact .inl rfl
    · exact .inr (.inr rfl)
theorem toE_30 (p : Pt) : S.toE p = 30 ↔ S.wE p ≠ 0 := by
  unfold toE
  constructor
  · intro h hw
    rw [if_neg (by omega)] at h
    split at h <;> omega
  · intro h; rw [if_pos h]
/-- What a port leads to, by what it holds. -/
theorem to_some (h : S.Ok) {p q : Pt} (hp : S.wE p = 0) (hq : S.wE q = 0) (hv : S.wV p = pkP q) : S.toE p = 0 ∧ S.toP p = q := by
  obtain ⟨h1, h2, h3, _, _⟩ := pk_un (h.pk hq)
  have hn : nxP (S.wV p) = q := by rw [hv]; unfold nxP pkP; rw [h2, h3]
  have he : S.toE p = 0 := by
    unfold toE
    rw [if_neg (by omega), if_pos ⟨by rw [hv]; exact h1, by rw [hn]; exact hq⟩]
  exact ⟨he, by unfold toP; rw [if_pos he, hn]⟩
theorem to_none {p : Pt} (hp : S.wE p = 0) (hv : S.wV p = 4294967295) : S.toE p = 32 := by
  unfold toE
  rw [if_neg (by omega), hv, un_none, if_neg (fun h => Bool.noConfusion h.1)]
theorem pk_ne (h : S.Ok) {q : Pt} (hq : S.wE q = 0) : pkP q ≠ 4294967295 := by
  have := (pk_un (h.pk hq)).2.2.2.2
  unfold pkP; omega
/-- What a linked port leads to. -/
theorem Both.to (h : S.Ok) (hb : S.Both) {p : Pt} (he : S.toE p = 0) : S.wE p = 0 ∧ S.wE (S.toP p) = 0 ∧ p ≠ S.toP p ∧ S.wV p = pkP (S.toP p) ∧ S.wV (S.toP p) = pkP p ∧ S.toE (S.toP p) = 0 ∧ S.toP (S.toP p) = p := by
  have hp : S.wE p = 0 := by
    rcases wE_01 (S := S) p with h | h
    · exact h
    · have := (toE_30 (S := S) p).2 (by omega); omega
  rcases hb.l p hp with hv | ⟨q, hq, hne, h1, h2⟩
  · have := to_none hp hv; omega
  · obtain ⟨_, rfl⟩ := to_some h hp hq h1
    obtain ⟨h3, h4⟩ := to_some h hq hp h2
    exact ⟨hp, hq, hne, h1, h2, h3, h4⟩
theorem Both.free (h : S.Ok) (hb : S.Both) {p : Pt} (he : S.toE p = 32) : S.wE p = 0 ∧ S.wV p = 4294967295 := by
  have hp : S.wE p = 0 := by
    rcases wE_01 (S := S) p with h | h
    · exact h
    · have := (toE_30 (S := S) p).2 (by omega); omega
  rcases hb.l p hp with hv | ⟨q, hq, hne, h1, h2⟩
  · exact ⟨hp, hv⟩
  · have := (to_some h hp hq h1).1; omega
/-! ### Two stores -/
theorem two_wE (p q : Pt) (a b : Int) (x : Pt) : ((S.put p a).put q b).wE x = S.wE x := by rw [put_wE, put_wE]
theorem two_wV {p q : Pt} (a b : Int) (hp : S.wE p = 0) (hq : S.wE q = 0) (x : Pt) : ((S.put p a).put q b).wV x = if x = q then b else if x = p then a else S.wV x := by
  rw [put_wV b (by rw [put_wE]; exact hq), put_wV a hp]
theorem pkP_rng (h : S.Ok) {q : Pt} (hq : S.wE q = 0) : 0 ≤ pkP q ∧ pkP q < 4294967296 := by
  have := (pk_un (h.pk hq)).2.2.2
  unfold pkP; omega
theorem Ok.join (h : S.Ok) {p q : Pt} (hp : S.wE p = 0) (hq : S.wE q = 0) : (S.join p q).Ok :=
  (h.put p (pkP_rng h hq) (pkP_rng h hq).2).put q (pkP_rng h hp) (pkP_rng h hp).2
theorem Ok.part (h : S.Ok) (p q : Pt) : (S.part p q).Ok := (h.put p (by omega) (by omega)).put q (by omega) (by omega)
theorem Both.join (h : S.Ok) (hb : S.Both) {p q : Pt} (hne : p ≠ q) (hp : S.wE p = 0) (hq : S.wE q = 0) (vp : S.wV p = 4294967295) (vq : S.wV q = 4294967295) : (S.join p q).Both := by
  refine ⟨fun x hx => ?_⟩
  unfold Wir.join at hx ⊢
  rw [two_wE] at hx
  simp only [two_wE, two_wV _ _ hp hq]
  by_cases e1 : x = q
  · subst e1
    right
    exact ⟨p, hp, fun e => hne e.symm, by rw [if_pos rfl], by rw [if_neg hne, if_pos rfl]⟩
  · by_cases e2 : x = p
    · subst e2
      right
      exact ⟨q, hq, hne, by rw [if_neg e1, if_pos rfl], by rw [if_pos rfl]⟩
    · rw [if_neg e1, if_neg e2]
      rcases hb.l x hx with hv | ⟨y, hy, hxy, h1, h2⟩
      · exact .inl hv
      · right
        have y1 : y ≠ q := by rintro rfl; rw [vq] at h2; exact pk_ne h hx h2.symm
        have y2 : y ≠ p := by rintro rfl; rw [vp] at h2; exact pk_ne h hx h2.symm
        exact ⟨y, hy, hxy, h1, by rw [if_neg y1, if_neg y2]; exact h2⟩
theorem pkP_inj (h : S.Ok) {p q : Pt} (hp : S.wE p = 0) (hq : S.wE q = 0) (e : pkP p = pkP q) : p = q := by
  obtain ⟨e1, e2⟩ := pk_inj (h.pk hp) (h.pk hq) e
  exact Prod.ext e1 e2
theorem Both.part (h : S.Ok) (hb : S.Both) {p : Pt} (he : S.toE p = 0) : (S.part p (S.toP p)).Both := by
  obtain ⟨hp, hq, hne, v1, v2, _, _⟩ := hb.to h he
  generalize S.toP p = q at hq hne v1 v2 ⊢
  refine ⟨fun x hx => ?_⟩
  unfold Wir.part at hx ⊢
  rw [two_wE] at hx
  simp only [two_wE, two_wV _ _ hp hq]
  by_cases e1 : x = q
  · rw [if_pos e1]; exact .inl rfl
  · by_cases e2 : x = p
    · rw [if_neg e1, if_pos e2]; exact .inl rfl
    · rw [if_neg e1, if_neg e2]
      rcases hb.l x hx with hv | ⟨y, hy, hxy, h1, h2⟩
      · exact .inl hv
      · right
        have y1 : y ≠ q := by rintro rfl; rw [v2] at h2; exact e2 (pkP_inj h hp hx h2).symm
        have y2 : y ≠ p := by rintro rfl; rw [v1] at h2; exact e1 (pkP_inj h hq hx h2).symm
        exact ⟨y, hy, hxy, h1, by rw [if_neg y1, if_neg y2]; exact h2⟩
end Wir
end Go.Proofs.Ythbobooiedcofaa
