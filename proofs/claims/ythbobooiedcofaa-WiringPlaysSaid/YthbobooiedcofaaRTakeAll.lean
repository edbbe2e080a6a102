/-
  The document's arena: Take.
-/
import Derived.Test.YthbobooiedcofaaRArenaWalk
namespace Go.Proofs.Ythbobooiedcofaa
open Go.RowKit

theorem rr_take (R : Nat) (S : Ars) (F : List Nat) (ag ar : Int) (w : World) (h : RA w R S F) :
    Calls Try.prog 52 #[.pointer (some ⟨R, 0, none⟩), .int .i64 ag, .int .i64 ar] w fun e w' => e = .returned (.tuple #[.int .i64 (S.takeC ag ar), .int .i64 (S.takeE ag ar)]) ∧ (∃ F', RA w' R (S.take ag ar) F' ∧ ∀ b ∈ F', b ∈ F ∨ w.heap.size ≤ b) ∧ Kp F w w' := by
  by_cases hb : Ars.bad ag ar
  · refine (rr_take_bad R S F ag ar w h hb).mono ?_
    rintro e w' ⟨rfl, rfl⟩
    have he : S.takeE ag ar = 1 := by unfold Ars.takeE; rw [if_pos hb]
    have hc : S.takeC ag ar = 0 := by unfold Ars.takeC; rw [if_pos hb]
    exact ⟨by rw [he, hc], ⟨F, by rw [Ars.take_same (by rw [he]; decide)]; exact h, fun b hb => .inl hb⟩, Kp.refl _ _⟩
  · have he : S.takeE ag ar = S.nextE := by unfold Ars.takeE; rw [if_neg hb]
    have hc : S.takeC ag ar = S.nextC := by unfold Ars.takeC; rw [if_neg hb]
    by_cases hn : S.nextE = 0
    · refine (rr_take_ok R S F ag ar w h hb hn).mono ?_
      rintro e w' ⟨rfl, h1, h2⟩
      exact ⟨by rw [he, hc, hn], h1, h2⟩
    · refine (rr_take_full R S F ag ar w h hb hn).mono ?_
      rintro e w' ⟨rfl, hbl⟩
      have hc0 : S.nextC = 0 := by
        unfold Ars.nextE at hn; unfold Ars.nextC
        split at hn
        · exact absurd rfl hn
        · by_cases hl : S.cells.length = S.most
          · rw [if_pos hl]
          · rw [if_neg hl] at hn; exact absurd rfl hn
      exact ⟨by rw [he, hc, hc0], ⟨F, by rw [Ars.take_same (by rw [he]; exact hn)]; exact h.below hbl, fun b hb => .inl hb⟩, Kp.of_below hbl⟩

end Go.Proofs.Ythbobooiedcofaa
