/-
  Plain: links of tidy nets, of nets renumbered; there and back.
-/
import Derived.Test.YtkonfogebepccaaGreatDoorNetBuild
namespace Go.Proofs.YtkonfogebepccaaGreatDoor
open Go.RowKit
set_option linter.unusedVariables false

theorem ends_cons (a b : Pt) (r : List (Pt × Pt)) : ends ((a, b) :: r) = a :: b :: ends r := by simp [ends]
theorem mem_ends {W : List (Pt × Pt)} {x : Pt} : x ∈ ends W ↔ ∃ y, (x, y) ∈ W ∨ (y, x) ∈ W := by
  induction W with
  | nil => simp [ends]
  | cons w r ih =>
    obtain ⟨a, b⟩ := w
    rw [ends_cons]
    simp only [List.mem_cons, ih, Prod.mk.injEq]
    constructor
    · rintro (rfl | rfl | ⟨y, h | h⟩)
      · exact ⟨b, .inl (.inl ⟨rfl, rfl⟩)⟩
      · exact ⟨a, .inr (.inl ⟨rfl, rfl⟩)⟩
      · exact ⟨y, .inl (.inr h)⟩
      · exact ⟨y, .inr (.inr h)⟩
    · rintro ⟨y, (⟨rfl, rfl⟩ | h) | (⟨rfl, rfl⟩ | h)⟩
      · exact .inl rfl
      · exact .inr (.inr ⟨y, .inl h⟩)
      · exact .inr (.inl rfl)
      · exact .inr (.inr ⟨y, .inr h⟩)
theorem lnk_iff {W : List (Pt × Pt)} (hn : (ends W).Nodup) {p q : Pt} : lnk W p = some q ↔ (p, q) ∈ W ∨ (q, p) ∈ W := by
  induction W with
  | nil => simp [lnk]
  | cons w r ih =>
    obtain ⟨a, b⟩ := w
    rw [ends_cons, List.nodup_cons, List.nodup_cons] at hn
    obtain ⟨h1, h2, h3⟩ := hn
    have hab : a ≠ b := fun e => h1 (by simp [e])
    have ha : a ∉ ends r := fun h => h1 (by simp [h])
    have ih' := ih h3
    simp only [lnk, List.mem_cons, Prod.mk.injEq]
    by_cases e1 : a = p
    · subst e1
      rw [if_pos rfl]
      constructor
      · intro h; simp only [Option.some.injEq] at h; exact .inl (.inl ⟨rfl, h.symm⟩)
      · rintro ((⟨_, rfl⟩ | h) | (⟨rfl, e⟩ | h))
        · rfl
        · exact absurd (mem_ends.2 ⟨q, .inl h⟩) ha
        · exact absurd e hab
        · exact absurd (mem_ends.2 ⟨q, .inr h⟩) ha
    · rw [if_neg e1]
      by_cases e2 : b = p
      · subst e2
        rw [if_pos rfl]
        constructor
        · intro h; simp only [Option.some.injEq] at h; exact .inr (.inl ⟨h.symm, rfl⟩)
        · rintro ((⟨e, _⟩ | h) | (⟨rfl, _⟩ | h))
          · exact absurd e.symm e1
          · exact absurd (mem_ends.2 ⟨q, .inl h⟩) h2
          · rfl
          · exact absurd (mem_ends.2 ⟨q, .inr h⟩) h2
      · rw [if_neg e2, ih']
        constructor
        · rintro (h | h)
          · exact .inl (.inr h)
          · exact .inr (.inr h)
        · rintro ((⟨e, _⟩ | h) | (⟨_, e⟩ | h))
          · exact absurd e.symm e1
          · exact .inl h
          · exact absurd e.symm e2
          · exact .inr h
theorem lnk_sym {W : List (Pt × Pt)} (hn : (ends W).Nodup) {p q : Pt} (h : lnk W p = some q) : lnk W q = some p := (lnk_iff hn).2 ((lnk_iff hn).1 h).symm
section
variable {P : List Pt} {lk : Pt → Option Pt}
end
section
variable {pn : Int → Nat} {cells out cs fs : List Int} {free : Nat} {W : List (Pt × Pt)}
end
end Go.Proofs.YtkonfogebepccaaGreatDoor
