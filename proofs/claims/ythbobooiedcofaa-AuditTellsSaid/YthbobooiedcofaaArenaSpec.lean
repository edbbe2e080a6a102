/-
  What an arena is, without memory: cells that are live or not, those that were given back; its steps. (Plain Lean, no program.)
-/
namespace Go.Proofs.Ythbobooiedcofaa

/-- A live cell: its agent and its words; none: it was given back. -/
structure Ars where
  most : Nat
  cells : List (Option (Int × List Int))
  back : List Nat

namespace Ars
def empty (most : Nat) : Ars := { most, cells := [], back := [] }
def cell (S : Ars) (c : Int) : Option (Int × List Int) := if 0 ≤ c then (S.cells[c.toNat]?).getD none else none
def live (S : Ars) : Int := (S.cells.length : Int) - (S.back.length : Int)
/-- Next: the cell, the error. -/
def nextC (S : Ars) : Int := match S.back.getLast? with
  | some b => b
  | none => if S.cells.length = S.most then 0 else S.cells.length
def nextE (S : Ars) : Int := match S.back.getLast? with
  | some _ => 0
  | none => if S.cells.length = S.most then 40 else 0
def fresh (ag ar : Int) : Option (Int × List Int) := some (ag, List.replicate (ar.toNat + 1) 4294967295)
def bad (ag ar : Int) : Prop := ag < 0 ∨ 32 ≤ ag ∨ ar < 0 ∨ 6 < ar
instance (ag ar : Int) : Decidable (bad ag ar) := by unfold bad; exact inferInstance
def takeE (S : Ars) (ag ar : Int) : Int := if bad ag ar then 1 else S.nextE
def takeC (S : Ars) (ag ar : Int) : Int := if bad ag ar then 0 else S.nextC
def take (S : Ars) (ag ar : Int) : Ars := if S.takeE ag ar ≠ 0 then S else
  match S.back.getLast? with
  | some b => { S with cells := S.cells.set b (fresh ag ar), back := S.back.dropLast }
  | none => { S with cells := S.cells ++ [fresh ag ar] }
def giveE (S : Ars) (c : Int) : Int := if (S.cell c).isSome then 0 else 41
def give (S : Ars) (c : Int) : Ars := if (S.cell c).isSome then { S with cells := S.cells.set c.toNat none, back := S.back ++ [c.toNat] } else S
/-- The error of a slot. -/
def slotE (S : Ars) (c s : Int) : Int := match S.cell c with
  | none => 41
  | some (_, ws) => if s < 0 ∨ (ws.length : Int) ≤ s then 30 else 0
def getV (S : Ars) (c s : Int) : Int := match S.cell c with
  | none => 0
  | some (_, ws) => if s < 0 ∨ (ws.length : Int) ≤ s then 0 else ws.getD s.toNat 0
def put (S : Ars) (c s v : Int) : Ars := match S.cell c with
  | none => S
  | some (ag, ws) => if s < 0 ∨ (ws.length : Int) ≤ s then S else { S with cells := S.cells.set c.toNat (some (ag, ws.set s.toNat v)) }
def agC (S : Ars) (c : Int) : Int := match S.cell c with
  | none => 0
  | some (ag, _) => ag
def agA (S : Ars) (c : Int) : Int := match S.cell c with
  | none => 0
  | some (_, ws) => (ws.length : Int) - 1

structure Ok (S : Ars) : Prop where
  most1 : 1 ≤ S.most
  most2 : S.most ≤ 4096
  len : S.cells.length ≤ S.most
  nodup : S.back.Nodup
  back : ∀ i, i ∈ S.back ↔ S.cells[i]? = some none
  cell : ∀ (i : Nat) (ag : Int) (ws : List Int), S.cells[i]? = some (some (ag, ws)) → 0 ≤ ag ∧ ag < 32 ∧ 1 ≤ ws.length ∧ ws.length ≤ 7 ∧ ∀ x ∈ ws, 0 ≤ x ∧ x < 4294967296

theorem nodup_le {l : List Nat} {n : Nat} (h : l.Nodup) (hl : ∀ x ∈ l, x < n) : l.length ≤ n := by
  induction n generalizing l with
  | zero => cases l with
    | nil => simp
    | cons x r => exact absurd (hl x (by simp)) (by omega)
  | succ n ih =>
    by_cases hn : n ∈ l
    · have h1 := ih (l := l.erase n) (h.sublist (List.erase_sublist)) (fun x hx => by
        have hxl := List.mem_of_mem_erase hx
        have : x ≠ n := by
          rintro rfl
          exact (List.Nodup.not_mem_erase h) hx
        have := hl x hxl
        omega)
      rw [List.length_erase_of_mem hn] at h1
      omega
    · have := ih (l := l) h (fun x hx => by
        have h1 := hl x hx
        have : x ≠ n := fun e => hn (e ▸ hx)
        omega)
      omega

variable {S : Ars}
theorem Ok.lt (h : S.Ok) {i : Nat} (hi : i ∈ S.back) : i < S.cells.length := by
  have := (h.back i).1 hi
  rcases Nat.lt_or_ge i S.cells.length with hl | hl
  · exact hl
  · rw [List.getElem?_eq_none hl] at this; cases this
theorem Ok.back_le (h : S.Ok) : S.back.length ≤ S.cells.length := nodup_le h.nodup (fun _ hx => h.lt hx)
theorem Ok.empty {m : Nat} (h1 : 1 ≤ m) (h2 : m ≤ 4096) : (empty m).Ok :=
  ⟨h1, h2, by simp [Ars.empty], by simp [Ars.empty], fun i => by simp [Ars.empty], fun i ag ws h => by simp [Ars.empty] at h⟩
theorem cell_some {c : Int} {x : Int × List Int} (h : S.cell c = some x) : 0 ≤ c ∧ S.cells[c.toNat]? = some (some x) := by
  unfold cell at h
  by_cases hc : 0 ≤ c
  · rw [if_pos hc] at h
    cases hx : S.cells[c.toNat]? with
    | none => rw [hx] at h; cases h
    | some y => rw [hx] at h; simp at h; subst h; exact ⟨hc, rfl⟩
  · rw [if_neg hc] at h; cases h
theorem cell_none {c : Int} (h : S.cell c = none) : c < 0 ∨ (S.cells.length : Int) ≤ c ∨ (0 ≤ c ∧ S.cells[c.toNat]? = some none) := by
  unfold cell at h
  by_cases hc : 0 ≤ c
  · rw [if_pos hc] at h
    cases hx : S.cells[c.toNat]? with
    | none => right; left; have := List.getElem?_eq_none_iff.1 hx; omega
    | some y => rw [hx] at h; simp at h; subst h; exact .inr (.inr ⟨hc, rfl⟩)
  · exact .inl (by omega)

theorem nextE_eq (S : Ars) : S.nextE = 0 ∨ S.nextE = 40 := by
  unfold nextE; split
  · exact .inl rfl
  · split
    · exact .inr rfl
    · exact .inl rfl
/-- A taken cell: where, and what the arena is then. -/
theorem take_cases (h : S.Ok) {ag ar : Int} (hb : ¬ bad ag ar) (he : S.nextE = 0) :
    (∃ b, S.back.getLast? = some b ∧ S.nextC = (b : Int) ∧ S.take ag ar = { S with cells := S.cells.set b (fresh ag ar), back := S.back.dropLast } ∧ S.cells[b]? = some none) ∨
    (S.back = [] ∧ S.nextC = (S.cells.length : Int) ∧ S.cells.length < S.most ∧ S.take ag ar = { S with cells := S.cells ++ [fresh ag ar] }) := by
  have hne : ¬ S.takeE ag ar ≠ 0 := by unfold takeE; rw [if_neg hb]; simp [he]
  cases hl : S.back.getLast? with
  | some b =>
    left
    refine ⟨b, rfl, by unfold nextC; rw [hl], by unfold take; rw [if_neg hne, hl], (h.back b).1 (List.mem_of_getLast? hl)⟩
  | none =>
    right
    have hb0 : S.back = [] := List.getLast?_eq_none_iff.1 hl
    have hlen : S.cells.length ≠ S.most := by
      intro e; unfold nextE at he; rw [hl] at he; simp [e] at he
    refine ⟨hb0, by unfold nextC; rw [hl]; simp [hlen], by have := h.len; omega, by unfold take; rw [if_neg hne, hl]⟩
theorem take_same {ag ar : Int} (h : S.takeE ag ar ≠ 0) : S.take ag ar = S := by unfold take; rw [if_pos h]
theorem fresh_ok {ag ar : Int} (hb : ¬ bad ag ar) {ag' : Int} {ws : List Int} (h : fresh ag ar = some (ag', ws)) : 0 ≤ ag' ∧ ag' < 32 ∧ 1 ≤ ws.length ∧ ws.length ≤ 7 ∧ ∀ x ∈ ws, 0 ≤ x ∧ x < 4294967296 := by
  unfold fresh at h
  unfold bad at hb
  injection h with h
  injection h with h1 h2
  subst h1 h2
  refine ⟨by omega, by omega, by simp, by simp; omega, fun x hx => ?_⟩
  have := List.eq_of_mem_replicate hx
  omega
theorem Ok.take (h : S.Ok) (ag ar : Int) : (S.take ag ar).Ok := by
  by_cases he : S.takeE ag ar = 0
  · have hb : ¬ bad ag ar := by intro hb; unfold takeE at he; rw [if_pos hb] at he; omega
    have hn : S.nextE = 0 := by unfold takeE at he; rw [if_neg hb] at he; exact he
    rcases take_cases h hb hn with ⟨b, hl, _, ht, hc⟩ | ⟨hb0, _, hlt, ht⟩
    · have hlt : b < S.cells.length := h.lt (List.mem_of_getLast? hl)
      have hd : S.back = S.back.dropLast ++ [b] := by
        have hne : S.back ≠ [] := by intro e; rw [e] at hl; cases hl
        have := List.dropLast_concat_getLast hne
        rw [List.getLast?_eq_some_getLast hne] at hl
        injection hl with hl
        rw [hl] at this; exact this.symm
      have hnd := h.nodup
      rw [hd, List.nodup_append] at hnd
      rw [ht]
      refine ⟨h.most1, h.most2, by simpa using h.len, hnd.1, fun i => ?_, fun i ag' ws hi => ?_⟩
      · have hbi := h.back i
        rw [hd] at hbi
        simp only [List.mem_append, List.mem_singleton] at hbi
        by_cases e : b = i
        · subst e
          simp [hlt, fresh]
          exact fun hm => hnd.2.2 b hm b (by simp) rfl
        · simp only [List.getElem?_set, e, if_false]
          rw [← hbi]
          constructor
          · exact fun hm => .inl hm
          · rintro (hm | hm)
            · exact hm
            · exact absurd hm.symm e
      · simp only [List.getElem?_set] at hi
        by_cases e : b = i
        · rw [if_pos e] at hi
          subst e
          simp [hlt] at hi
          exact fresh_ok hb hi
        · rw [if_neg e] at hi
          exact h.cell i ag' ws hi
    · rw [ht]
      refine ⟨h.most1, h.most2, by simp; omega, h.nodup, fun i => ?_, fun i ag' ws hi => ?_⟩
      · rw [h.back i, List.getElem?_append]
        split
        · rfl
        · rename_i hge
          rw [List.getElem?_eq_none (by omega)]
          constructor
          · intro hx; cases hx
          · intro hx
            rw [List.getElem?_singleton] at hx
            split at hx
            · injection hx with hx; unfold fresh at hx; cases hx
            · cases hx
      · rw [List.getElem?_append] at hi
        split at hi
        · exact h.cell i ag' ws hi
        · rw [List.getElem?_singleton] at hi
          split at hi
          · injection hi with hi; exact fresh_ok hb hi
          · cases hi
  · rw [take_same he]; exact h
theorem Ok.give (h : S.Ok) (c : Int) : (S.give c).Ok := by
  unfold Ars.give
  cases hc : S.cell c with
  | none => simpa using h
  | some x =>
    simp only [Option.isSome_some, if_true]
    obtain ⟨h0, hx⟩ := cell_some hc
    have hlt : c.toNat < S.cells.length := by
      rcases Nat.lt_or_ge c.toNat S.cells.length with hl | hl
      · exact hl
      · rw [List.getElem?_eq_none hl] at hx; cases hx
    have hnb : c.toNat ∉ S.back := by intro hm; rw [(h.back _).1 hm] at hx; cases hx
    refine ⟨h.most1, h.most2, by simpa using h.len, ?_, fun i => ?_, fun i ag' ws hi => ?_⟩
    · rw [List.nodup_append]
      exact ⟨h.nodup, by simp, fun a ha b hb => by simp at hb; subst hb; exact fun e => hnb (e ▸ ha)⟩
    · simp only [List.mem_append, List.mem_singleton, List.getElem?_set]
      by_cases e : c.toNat = i
      · subst e; simp [hlt]
      · rw [if_neg e, ← h.back i]
        constructor
        · rintro (hm | hm)
          · exact hm
          · exact absurd hm.symm e
        · exact fun hm => .inl hm
    · simp only [List.getElem?_set] at hi
      by_cases e : c.toNat = i
      · rw [if_pos e] at hi; split at hi <;> cases hi
      · rw [if_neg e] at hi; exact h.cell i ag' ws hi
theorem Ok.put (h : S.Ok) (c s v : Int) (hv : 0 ≤ v ∧ v < 4294967296) : (S.put c s v).Ok := by
  unfold Ars.put
  cases hc : S.cell c with
  | none => exact h
  | some x =>
    obtain ⟨ag, ws⟩ := x
    simp only
    split
    · exact h
    · obtain ⟨h0, hx⟩ := cell_some hc
      have hcl := h.cell _ _ _ hx
      have hlt : c.toNat < S.cells.length := by
        rcases Nat.lt_or_ge c.toNat S.cells.length with hl | hl
        · exact hl
        · rw [List.getElem?_eq_none hl] at hx; cases hx
      refine ⟨h.most1, h.most2, by simpa using h.len, h.nodup, fun i => ?_, fun i ag' ws' hi => ?_⟩
      · rw [h.back i]
        simp only [List.getElem?_set]
        by_cases e : c.toNat = i
        · subst e; rw [if_pos rfl, hx]; simp [hlt]
        · rw [if_neg e]
      · simp only [List.getElem?_set] at hi
        by_cases e : c.toNat = i
        · rw [if_pos e, if_pos hlt] at hi
          simp only [Option.some.injEq, Prod.mk.injEq] at hi
          obtain ⟨rfl, rfl⟩ := hi
          refine ⟨hcl.1, hcl.2.1, by simpa using hcl.2.2.1, by simpa using hcl.2.2.2.1, fun x hx' => ?_⟩
          rcases List.mem_or_eq_of_mem_set hx' with hm | rfl
          · exact hcl.2.2.2.2 x hm
          · exact hv
        · rw [if_neg e] at hi; exact h.cell i ag' ws' hi
end Ars
end Go.Proofs.Ythbobooiedcofaa
