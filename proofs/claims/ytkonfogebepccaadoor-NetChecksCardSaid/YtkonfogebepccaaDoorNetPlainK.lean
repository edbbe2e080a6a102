/-
  Plain: links of tidy nets, of nets renumbered; there and back.
-/
import Derived.Test.YtkonfogebepccaaDoorNetBuild
namespace Go.Proofs.YtkonfogebepccaaDoor
open Go.RowKit
set_option linter.unusedVariables false

theorem ends_cons (a b : Pt) (r : List (Pt × Pt)) : ends ((a, b) :: r) = a :: b :: ends r := by simp [ends]
theorem mem_ends {W : List (Pt × Pt)} {x : Pt} : x ∈ ends W ↔ ∃ y, (x, y) ∈ W ∨ (y, x) ∈ W := by
  induction W with
  | nil => simp [ends]
  | cons w r ih =>
    obtain ⟨a, b⟩ := w
    rw [ends_cons]
    simp only [List.mem_cons, ih, Prod.mk.injEq]
    constructor
    · rintro (rfl | rfl | ⟨y, h | h⟩)
      · exact ⟨b, .inl (.inl ⟨rfl, rfl⟩)⟩
      · exact ⟨a, .inr (.inl ⟨rfl, rfl⟩)⟩
      · exact ⟨y, .inl (.inr h)⟩
      · exact ⟨y, .inr (.inr h)⟩
    · rintro ⟨y, (⟨rfl, rfl⟩ | h) | (⟨rfl, rfl⟩ | h)⟩
      · exact .inl rfl
      · exact .inr (.inr ⟨y, .inl h⟩)
      · exact .inr (.inl rfl)
      · exact .inr (.inr ⟨y, .inr h⟩)
theorem lnk_iff {W : List (Pt × Pt)} (hn : (ends W).Nodup) {p q : Pt} : lnk W p = some q ↔ (p, q) ∈ W ∨ (q, p) ∈ W := by
  induction W with
  | nil => simp [lnk]
  | cons w r ih =>
    obtain ⟨a, b⟩ := w
    rw [ends_cons, List.nodup_cons, List.nodup_cons] at hn
    obtain ⟨h1, h2, h3⟩ := hn
    have hab : a ≠ b := fun e => h1 (by simp [e])
    have ha : a ∉ ends r := fun h => h1 (by simp [h])
    have ih' := ih h3
    simp only [lnk, List.mem_cons, Prod.mk.injEq]
    by_cases e1 : a = p
    · subst e1
      rw [if_pos rfl]
      constructor
      · intro h; simp only [Option.some.injEq] at h; exact .inl (.inl ⟨rfl, h.symm⟩)
      · rintro ((⟨_, rfl⟩ | h) | (⟨rfl, e⟩ | h))
        · rfl
        · exact absurd (mem_ends.2 ⟨q, .inl h⟩) ha
        · exact absurd e hab
        · exact absurd (mem_ends.2 ⟨q, .inr h⟩) ha
    · rw [if_neg e1]
      by_cases e2 : b = p
      · subst e2
        rw [if_pos rfl]
        constructor
        · intro h; simp only [Option.some.injEq] at h; exact .inr (.inl ⟨h.symm, rfl⟩)
        · rintro ((⟨e, _⟩ | h) | (⟨rfl, _⟩ | h))
          · exact absurd e.symm e1
          · exact absurd (mem_ends.2 ⟨q, .inl h⟩) h2
          · rfl
          · exact absurd (mem_ends.2 ⟨q, .inr h⟩) h2
      · rw [if_neg e2, ih']
        constructor
        · rintro (h | h)
          · exact .inl (.inr h)
          · exact .inr (.inr h)
        · rintro ((⟨e, _⟩ | h) | (⟨_, e⟩ | h))
          · exact absurd e.symm e1
          · exact .inl h
          · exact absurd e.symm e2
          · exact .inr h
theorem lnk_sym {W : List (Pt × Pt)} (hn : (ends W).Nodup) {p q : Pt} (h : lnk W p = some q) : lnk W q = some p := (lnk_iff hn).2 ((lnk_iff hn).1 h).symm
theorem pair_ne {W : List (Pt × Pt)} (hn : (ends W).Nodup) {p q : Pt} (h : (p, q) ∈ W) : p ≠ q := by
  induction W with
  | nil => simp at h
  | cons w r ih =>
    obtain ⟨a, b⟩ := w
    rw [ends_cons, List.nodup_cons, List.nodup_cons] at hn
    simp only [List.mem_cons, Prod.mk.injEq] at h
    rcases h with ⟨rfl, rfl⟩ | h
    · exact fun e => hn.1 (by simp [e])
    · exact ih hn.2.2 h
theorem lnk_irr {W : List (Pt × Pt)} (hn : (ends W).Nodup) (p : Pt) : lnk W p ≠ some p := fun h => by
  rcases (lnk_iff hn).1 h with h | h <;> exact pair_ne hn h rfl
theorem bef_asymm {p q : Pt} (h : bef p q = true) : bef q p = false := by
  unfold bef at *; simp only [decide_eq_true_eq, decide_eq_false_iff_not] at *; omega
theorem bef_total {p q : Pt} (h : p ≠ q) : bef p q = true ∨ bef q p = true := by
  unfold bef; simp only [decide_eq_true_eq]
  have : p.1 ≠ q.1 ∨ p.2 ≠ q.2 := by
    by_cases h1 : p.1 = q.1
    · exact .inr fun h2 => h (Prod.ext h1 h2)
    · exact .inl h1
  omega
section
variable {P : List Pt} {lk : Pt → Option Pt}
theorem tidyF_mem {p q : Pt} : (p, q) ∈ tidyF P lk ↔ p ∈ P ∧ lk p = some q ∧ bef p q = true := by
  unfold tidyF
  rw [List.mem_filterMap]
  constructor
  · rintro ⟨x, hx, h⟩
    cases hl : lk x with
    | none => rw [hl] at h; simp at h
    | some y =>
      rw [hl] at h
      simp only at h
      by_cases hb : bef x y = true
      · rw [if_pos hb] at h
        simp only [Option.some.injEq, Prod.mk.injEq] at h
        obtain ⟨rfl, rfl⟩ := h
        exact ⟨hx, hl, hb⟩
      · rw [if_neg hb] at h; cases h
  · rintro ⟨hp, hl, hb⟩
    exact ⟨p, hp, by rw [hl]; simp [hb]⟩
theorem tidyF_nodup (hP : P.Nodup) (hs : ∀ p q, lk p = some q → lk q = some p) : (ends (tidyF P lk)).Nodup := by
  induction P with
  | nil => simp [tidyF, ends]
  | cons p r ih =>
    rw [List.nodup_cons] at hP
    have hir := ih hP.2
    cases hl : lk p with
    | none =>
      have : tidyF (p :: r) lk = tidyF r lk := by unfold tidyF; rw [List.filterMap_cons, hl]
      rw [this]; exact hir
    | some q =>
      by_cases hb : bef p q = true
      · have : tidyF (p :: r) lk = (p, q) :: tidyF r lk := by unfold tidyF; rw [List.filterMap_cons, hl]; simp [hb]
        rw [this, ends_cons, List.nodup_cons, List.nodup_cons]
        have hpq : p ≠ q := fun e => by subst e; have := bef_asymm hb; rw [hb] at this; cases this
        have key : ∀ x, x ∈ ends (tidyF r lk) → (x ∈ r ∧ ∃ y, lk x = some y ∧ bef x y = true) ∨ ∃ y, y ∈ r ∧ lk y = some x ∧ bef y x = true := fun x hx => by
          obtain ⟨y, h | h⟩ := mem_ends.1 hx
          · obtain ⟨a, b, c⟩ := tidyF_mem.1 h; exact .inl ⟨a, y, b, c⟩
          · obtain ⟨a, b, c⟩ := tidyF_mem.1 h; exact .inr ⟨y, a, b, c⟩
        refine ⟨fun hx => ?_, fun hx => ?_, hir⟩
        · simp only [List.mem_cons] at hx
          rcases hx with e | hx
          · exact hpq e
          · rcases key p hx with ⟨h, _⟩ | ⟨y, hy, hl2, hb2⟩
            · exact hP.1 h
            · have e := hs y p hl2
              rw [hl] at e
              simp only [Option.some.injEq] at e
              subst e
              rw [bef_asymm hb] at hb2; cases hb2
        · rcases key q hx with ⟨_, y, hl2, hb2⟩ | ⟨y, hy, hl2, hb2⟩
          · have e := hs p q hl
            rw [hl2] at e
            simp only [Option.some.injEq] at e
            subst e
            rw [bef_asymm hb] at hb2; cases hb2
          · have e1 := hs p q hl
            have e2 := hs y q hl2
            rw [e1] at e2
            simp only [Option.some.injEq] at e2
            subst e2
            exact hP.1 hy
      · have : tidyF (p :: r) lk = tidyF r lk := by unfold tidyF; rw [List.filterMap_cons, hl]; simp [hb]
        rw [this]; exact hir
theorem tidyF_lnk (hP : P.Nodup) (hs : ∀ p q, lk p = some q → lk q = some p) (hin : ∀ p q, p ∈ P → lk p = some q → q ∈ P) (hirr : ∀ p, lk p ≠ some p) {p : Pt} (hp : p ∈ P) : lnk (tidyF P lk) p = lk p := by
  have hn := tidyF_nodup hP hs
  cases hl : lk p with
  | some q =>
    rw [lnk_iff hn, tidyF_mem, tidyF_mem]
    have hpq : p ≠ q := fun e => hirr p (by rw [hl, e])
    rcases bef_total hpq with h | h
    · exact .inl ⟨hp, hl, h⟩
    · exact .inr ⟨hin p q hp hl, hs p q hl, h⟩
  | none =>
    refine lnk_none fun hx => ?_
    obtain ⟨y, h | h⟩ := mem_ends.1 hx
    · rw [(tidyF_mem.1 h).2.1] at hl; cases hl
    · rw [hs y p (tidyF_mem.1 h).2.1] at hl; cases hl
end
theorem tidyF_congr {P : List Pt} {f g : Pt → Option Pt} (h : ∀ p ∈ P, f p = g p) : tidyF P f = tidyF P g := by
  unfold tidyF
  exact filterMap_congr' fun p hp => by rw [h p hp]
section
variable {pn : Int → Nat} {cells out cs fs : List Int} {free : Nat} {W : List (Pt × Pt)}
theorem allPs_mem {p : Pt} : p ∈ allPs pn cells free ↔ isPt pn cells free p = true := ⟨fun h => allPs_is pn h, fun h => List.mem_of_getElem? (allPs_plc pn h)⟩
theorem NetOk.lnkin (h : NetOk pn cells free W) {p q : Pt} (hl : Go.Proofs.YtkonfogebepccaaDoor.lnk W p = some q) : p ∈ allPs pn cells free ∧ q ∈ allPs pn cells free := by
  have e1 := lnk_mem hl
  have e2 := lnk_mem (lnk_sym h.nodup hl)
  exact ⟨allPs_mem.2 (h.is _ e1), allPs_mem.2 (h.is _ e2)⟩
theorem NetOk.tidy_lnk (h : NetOk pn cells free W) {p : Pt} (hp : p ∈ allPs pn cells free) : Go.Proofs.YtkonfogebepccaaDoor.lnk (tidyW (allPs pn cells free) W) p = Go.Proofs.YtkonfogebepccaaDoor.lnk W p :=
  tidyF_lnk (allPs_nodup pn cells free) (fun _ _ h' => lnk_sym h.nodup h') (fun _ _ _ h' => (h.lnkin h').2) (fun p => lnk_irr h.nodup p) hp
theorem NetOk.tidy (h : NetOk pn cells free W) : NetOk pn cells free (tidyW (allPs pn cells free) W) := by
  refine ⟨fun p hp => ?_, tidyF_nodup (allPs_nodup pn cells free) (fun _ _ h' => lnk_sym h.nodup h'), fun p hp => ?_⟩
  · obtain ⟨y, hy | hy⟩ := mem_ends.1 hp
    · exact allPs_mem.1 (tidyF_mem.1 hy).1
    · exact allPs_mem.1 (h.lnkin (tidyF_mem.1 hy).2.1).2
  · obtain ⟨q, hq, _⟩ := h.lnk (allPs_mem.1 hp)
    refine lnk_mem (q := q) ?_
    rw [h.tidy_lnk hp, hq]
theorem lnk_move {p : Pt} (hi : ∀ x ∈ ends W, toPt cs fs x = toPt cs fs p → x = p) : lnk (moveW cs fs W) (toPt cs fs p) = (lnk W p).map (toPt cs fs) := by
  induction W with
  | nil => rfl
  | cons w r ih =>
    obtain ⟨a, b⟩ := w
    have e : moveW cs fs ((a, b) :: r) = (toPt cs fs a, toPt cs fs b) :: moveW cs fs r := rfl
    rw [e]
    simp only [lnk]
    have h1 := hi a (by rw [ends_cons]; simp)
    have h2 := hi b (by rw [ends_cons]; simp)
    have ih' := ih (fun x hx => hi x (by rw [ends_cons]; simp [hx]))
    by_cases e1 : a = p
    · rw [if_pos (by rw [e1]), if_pos e1]; rfl
    · rw [if_neg (fun h => e1 (h1 h)), if_neg e1]
      by_cases e2 : b = p
      · rw [if_pos (by rw [e2]), if_pos e2]; rfl
      · rw [if_neg (fun h => e2 (h2 h)), if_neg e2]
        exact ih'
theorem NetOk.move_lnk (h : NetOk pn cells free W) (hm : Moves cells out cs fs free) {p : Pt} (hp : p ∈ allPs pn cells free) : Go.Proofs.YtkonfogebepccaaDoor.lnk (moveW cs fs W) (toPt cs fs p) = (Go.Proofs.YtkonfogebepccaaDoor.lnk W p).map (toPt cs fs) :=
  lnk_move fun x hx e => hm.inj (h.is x hx) (allPs_mem.1 hp) e
/-- There and back. -/
theorem NetOk.there_back (h : NetOk pn cells free W) {cs' fs' : List Int} (hm : Moves cells out cs fs free) (hm' : Moves out cells cs' fs' free) (hback : ∀ p, isPt pn cells free p = true → toPt cs' fs' (toPt cs fs p) = p) :
    tidyW (allPs pn cells free) (moveW cs' fs' (tidyW (allPs pn out free) (moveW cs fs W))) = tidyW (allPs pn cells free) W := by
  have h1 := h.move hm
  have h2 := h1.tidy
  refine tidyF_congr fun p hp => ?_
  have hp1 := allPs_mem.1 hp
  have hq := allPs_mem.2 (hm.is hp1)
  conv => lhs; rw [← hback p hp1]
  rw [h2.move_lnk hm' hq, h1.tidy_lnk hq, h.move_lnk hm hp]
  obtain ⟨q, hq1, hq2⟩ := h.lnk hp1
  rw [hq1]
  simp [hback q hq2]
end
end Go.Proofs.YtkonfogebepccaaDoor
