/-
  An arena and the document's arena side by side, all their blocks new and apart.
-/
import Derived.Test.YtbdfkgchliakfaaArenaAlike
namespace Go.Proofs.Ytbdfkgchliakfaa
open Go.RowKit

theorem rr_take (R : Nat) (S : Ars) (F : List Nat) (ag ar : Int) (w : World) (h : RA w R S F) :
    Calls Try.prog 38 #[.pointer (some ⟨R, 0, none⟩), .int .i64 ag, .int .i64 ar] w fun e w' => e = .returned (.tuple #[.int .i64 (S.takeC ag ar), .int .i64 (S.takeE ag ar)]) ∧ (∃ F', RA w' R (S.take ag ar) F' ∧ ∀ b ∈ F', b ∈ F ∨ w.heap.size ≤ b) ∧ Kp F w w' := by
  by_cases hb : Ars.bad ag ar
  · refine (rr_take_bad R S F ag ar w h hb).mono ?_
    rintro e w' ⟨rfl, rfl⟩
    have he : S.takeE ag ar = 1 := by unfold Ars.takeE; rw [if_pos hb]
    have hc : S.takeC ag ar = 0 := by unfold Ars.takeC; rw [if_pos hb]
    exact ⟨by rw [he, hc], ⟨F, by rw [Ars.take_same (by rw [he]; decide)]; exact h, fun b hb => .inl hb⟩, Kp.refl _ _⟩
  · have he : S.takeE ag ar = S.nextE := by unfold Ars.takeE; rw [if_neg hb]
    have hc : S.takeC ag ar = S.nextC := by unfold Ars.takeC; rw [if_neg hb]
    by_cases hn : S.nextE = 0
    · refine (rr_take_ok R S F ag ar w h hb hn).mono ?_
      rintro e w' ⟨rfl, h1, h2⟩
      exact ⟨by rw [he, hc, hn], h1, h2⟩
    · refine (rr_take_full R S F ag ar w h hb hn).mono ?_
      rintro e w' ⟨rfl, hbl⟩
      have hc0 : S.nextC = 0 := by
        unfold Ars.nextE at hn; unfold Ars.nextC
        split at hn
        · exact absurd rfl hn
        · by_cases hl : S.cells.length = S.most
          · rw [if_pos hl]
          · rw [if_neg hl] at hn; exact absurd rfl hn
      exact ⟨by rw [he, hc, hc0], ⟨F, by rw [Ars.take_same (by rw [he]; exact hn)]; exact h.below hbl, fun b hb => .inl hb⟩, Kp.of_below hbl⟩

def Ars.agE (S : Ars) (c : Int) : Int := if (S.cell c).isSome then 0 else 41
def TwoF (w0 : World) (X : List Nat) (A R : Nat) (S T : Ars) (F G : List Nat) (W : World) : Prop :=
  PA W A S F ∧ RA W R T G ∧ (∀ b ∈ F, w0.heap.size ≤ b ∧ b ∉ X ∧ b ∉ G) ∧ (∀ b ∈ G, w0.heap.size ≤ b ∧ b ∉ X) ∧ (∀ b ∈ X, b < W.heap.size) ∧ Below w0.heap.size w0 W
def Two (w0 : World) (X : List Nat) (A R : Nat) (S T : Ars) (W : World) : Prop := ∃ F G, TwoF w0 X A R S T F G W
section
variable {w0 W W' : World} {X : List Nat} {A R : Nat} {S T S' T' : Ars}
theorem Two.below (h : Two w0 X A R S T W) : Below w0.heap.size w0 W := by obtain ⟨_, _, _, _, _, _, _, h⟩ := h; exact h
theorem Two.kept (h : Two w0 X A R S T W) (hb : Below W.heap.size W W') : Two w0 X A R S T W' := by
  obtain ⟨F, G, h1, h2, h3, h4, h5, h6⟩ := h
  exact ⟨F, G, h1.below hb, h2.below hb, h3, h4, fun b hx => Nat.lt_of_lt_of_le (h5 b hx) hb.size, h6.trans (hb.mono h6.size)⟩
theorem Two.drew (h : Two w0 X A R S T W) : Two w0 X A R S T W.drew := h.kept (Below.refl _ _).drew
theorem Two.alloc (h : Two w0 X A R S T W) (o : Obj) : Two w0 (W.heap.size :: X) A R S T (W.alloc o) := by
  obtain ⟨F, G, h1, h2, h3, h4, h5, h6⟩ := h
  have hb := (Below.refl W.heap.size W).alloc (Nat.le_refl _) o
  refine ⟨F, G, h1.below hb, h2.below hb, fun b hm => ⟨(h3 b hm).1, ?_, (h3 b hm).2.2⟩, fun b hm => ⟨(h4 b hm).1, ?_⟩, fun b hx => ?_, h6.trans (hb.mono h6.size)⟩
  · simp only [List.mem_cons, not_or]
    exact ⟨fun e => by have := h1.lt b hm; omega, (h3 b hm).2.1⟩
  · simp only [List.mem_cons, not_or]
    exact ⟨fun e => by have := h2.lt b hm; omega, (h4 b hm).2⟩
  · simp only [List.mem_cons] at hx
    rcases hx with rfl | hx
    · simp
    · have := h5 b hx; simp; omega
theorem Two.sub (h : Two w0 X A R S T W) {Y : List Nat} (hY : ∀ b ∈ Y, b ∈ X) : Two w0 Y A R S T W := by
  obtain ⟨F, G, h1, h2, h3, h4, h5, h6⟩ := h
  exact ⟨F, G, h1, h2, fun b hm => ⟨(h3 b hm).1, fun hx => (h3 b hm).2.1 (hY b hx), (h3 b hm).2.2⟩, fun b hm => ⟨(h4 b hm).1, fun hx => (h4 b hm).2 (hY b hx)⟩, fun b hx => h5 b (hY b hx), h6⟩
/-- A step of the arena. -/
theorem TwoF.stepA {F G : List Nat} (h : TwoF w0 X A R S T F G W) (k1 : ∃ F', PA W' A S' F' ∧ ∀ b ∈ F', b ∈ F ∨ W.heap.size ≤ b) (kp : Kp F W W') : Two w0 X A R S' T W' ∧ KQ X W W' := by
  obtain ⟨h1, h2, h3, h4, h5, h6⟩ := h
  obtain ⟨F', p, hF⟩ := k1
  refine ⟨⟨F', G, p, h2.kp kp (fun b hb hm => (h3 b hm).2.2 hb), fun b hb => ?_, h4, fun b hx => Nat.lt_of_lt_of_le (h5 b hx) kp.size, h6.trans (kp.below h6.size (fun b hb => (h3 b hb).1))⟩, kp.size, fun b hx => kp.block b (h5 b hx) (fun hm => (h3 b hm).2.1 hx)⟩
  rcases hF b hb with hb | hb
  · exact h3 b hb
  · exact ⟨Nat.le_trans h6.size hb, fun hx => by have := h5 b hx; omega, fun hg => by have := h2.lt b hg; omega⟩
/-- A step of the document's. -/
theorem TwoF.stepR {F G : List Nat} (h : TwoF w0 X A R S T F G W) (k1 : ∃ G', RA W' R T' G' ∧ ∀ b ∈ G', b ∈ G ∨ W.heap.size ≤ b) (kp : Kp G W W') : Two w0 X A R S T' W' ∧ KQ X W W' := by
  obtain ⟨h1, h2, h3, h4, h5, h6⟩ := h
  obtain ⟨G', p, hG⟩ := k1
  refine ⟨⟨F, G', h1.kp kp (fun b hb => (h3 b hb).2.2), p, fun b hb => ⟨(h3 b hb).1, (h3 b hb).2.1, fun hg => ?_⟩, fun b hb => ?_, fun b hx => Nat.lt_of_lt_of_le (h5 b hx) kp.size, h6.trans (kp.below h6.size (fun b hb => (h4 b hb).1))⟩, kp.size, fun b hx => kp.block b (h5 b hx) (fun hm => (h4 b hm).2 hx)⟩
  · rcases hG b hg with hg | hg
    · exact (h3 b hb).2.2 hg
    · have := h1.lt b hb; omega
  · rcases hG b hb with hb | hb
    · exact h4 b hb
    · exact ⟨Nat.le_trans h6.size hb, fun hx => by have := h5 b hx; omega⟩
theorem Two.kq (h : Two w0 X A R S T W) (hb : Below W.heap.size W W') : KQ X W W' := by
  obtain ⟨F, G, h1, h2, h3, h4, h5, h6⟩ := h
  exact ⟨hb.size, fun b hx => hb.block b (h5 b hx)⟩
end
section
variable {w0 W : World} {X : List Nat} {A R : Nat} {S T : Ars}
theorem tw_take_a (h : Two w0 X A R S T W) (ag ar : Int) : Calls Try.prog 33 #[.pointer (some ⟨A, 0, none⟩), .int .i64 ag, .int .i64 ar] W fun e w' => e = .returned (.tuple #[.int .i64 (S.takeC ag ar), .int .i64 (S.takeE ag ar)]) ∧ Two w0 X A R (S.take ag ar) T w' ∧ KQ X W w' := by
  obtain ⟨F, G, h⟩ := h
  exact (ar_take A S F ag ar W h.1).mono fun e w' ⟨he, k1, k2⟩ => ⟨he, h.stepA k1 k2⟩
theorem tw_give_a (h : Two w0 X A R S T W) (c : Int) : Calls Try.prog 35 #[.pointer (some ⟨A, 0, none⟩), .int .i64 c] W fun e w' => e = .returned (.int .i64 (S.giveE c)) ∧ Two w0 X A R (S.give c) T w' ∧ KQ X W w' := by
  obtain ⟨F, G, h⟩ := h
  exact (ar_give A S F c W h.1).mono fun e w' ⟨he, k1, k2⟩ => ⟨he, h.stepA k1 k2⟩
theorem tw_put_a (h : Two w0 X A R S T W) (c s v : Int) (hv : 0 ≤ v ∧ v < 4294967296) : Calls Try.prog 40 #[.pointer (some ⟨A, 0, none⟩), .int .i64 c, .int .i64 s, .int .u32 v] W fun e w' => e = .returned (.int .i64 (S.slotE c s)) ∧ Two w0 X A R (S.put c s v) T w' ∧ KQ X W w' := by
  obtain ⟨F, G, h⟩ := h
  exact (ar_put A S F c s v hv W h.1).mono fun e w' ⟨he, k1, k2, _⟩ => ⟨he, h.stepA ⟨_, k1, fun b hb => .inl hb⟩ k2⟩
theorem tw_get_a (h : Two w0 X A R S T W) (c s : Int) : Calls Try.prog 42 #[.pointer (some ⟨A, 0, none⟩), .int .i64 c, .int .i64 s] W fun e w' => e = .returned (.tuple #[.int .u32 (S.getV c s), .int .i64 (S.slotE c s)]) ∧ Two w0 X A R S T w' ∧ KQ X W w' := by
  obtain ⟨F, G, h⟩ := h
  refine (ar_get A S F c s W h.1).mono ?_
  rintro e w' ⟨he, rfl⟩
  exact ⟨he, ⟨F, G, h⟩, KQ.refl _ _⟩
theorem tw_agent_a (h : Two w0 X A R S T W) (c : Int) : Calls Try.prog 44 #[.pointer (some ⟨A, 0, none⟩), .int .i64 c] W fun e w' => e = .returned (.tuple #[.int .i64 (S.agC c), .int .i64 (S.agA c), .int .i64 (S.agE c)]) ∧ Two w0 X A R S T w' ∧ KQ X W w' := by
  obtain ⟨F, G, h⟩ := h
  exact (ar_agent A S F c W h.1).mono fun e w' ⟨he, hb⟩ => ⟨he, Two.kept ⟨F, G, h⟩ hb, Two.kq ⟨F, G, h⟩ hb⟩
theorem tw_take_r (h : Two w0 X A R S T W) (ag ar : Int) : Calls Try.prog 38 #[.pointer (some ⟨R, 0, none⟩), .int .i64 ag, .int .i64 ar] W fun e w' => e = .returned (.tuple #[.int .i64 (T.takeC ag ar), .int .i64 (T.takeE ag ar)]) ∧ Two w0 X A R S (T.take ag ar) w' ∧ KQ X W w' := by
  obtain ⟨F, G, h⟩ := h
  exact (rr_take R T G ag ar W h.2.1).mono fun e w' ⟨he, k1, k2⟩ => ⟨he, h.stepR k1 k2⟩
theorem tw_give_r (h : Two w0 X A R S T W) (c : Int) : Calls Try.prog 39 #[.pointer (some ⟨R, 0, none⟩), .int .i64 c] W fun e w' => e = .returned (.int .i64 (T.giveE c)) ∧ Two w0 X A R S (T.give c) w' ∧ KQ X W w' := by
  obtain ⟨F, G, h⟩ := h
  exact (rr_give R T G c W h.2.1).mono fun e w' ⟨he, k1, k2⟩ => ⟨he, h.stepR k1 k2⟩
theorem tw_put_r (h : Two w0 X A R S T W) (c s v : Int) (hv : 0 ≤ v ∧ v < 4294967296) : Calls Try.prog 41 #[.pointer (some ⟨R, 0, none⟩), .int .i64 c, .int .i64 s, .int .u32 v] W fun e w' => e = .returned (.int .i64 (T.slotE c s)) ∧ Two w0 X A R S (T.put c s v) w' ∧ KQ X W w' := by
  obtain ⟨F, G, h⟩ := h
  exact (rr_put R T G c s v hv W h.2.1).mono fun e w' ⟨he, k1, k2, _⟩ => ⟨he, h.stepR ⟨_, k1, fun b hb => .inl hb⟩ k2⟩
theorem tw_get_r (h : Two w0 X A R S T W) (c s : Int) : Calls Try.prog 43 #[.pointer (some ⟨R, 0, none⟩), .int .i64 c, .int .i64 s] W fun e w' => e = .returned (.tuple #[.int .u32 (T.getV c s), .int .i64 (T.slotE c s)]) ∧ Two w0 X A R S T w' ∧ KQ X W w' := by
  obtain ⟨F, G, h⟩ := h
  refine (rr_get R T G c s W h.2.1).mono ?_
  rintro e w' ⟨he, rfl⟩
  exact ⟨he, ⟨F, G, h⟩, KQ.refl _ _⟩
theorem tw_agent_r (h : Two w0 X A R S T W) (c : Int) : Calls Try.prog 45 #[.pointer (some ⟨R, 0, none⟩), .int .i64 c] W fun e w' => e = .returned (.tuple #[.int .i64 (T.agC c), .int .i64 (T.agA c), .int .i64 (T.agE c)]) ∧ Two w0 X A R S T w' ∧ KQ X W w' := by
  obtain ⟨F, G, h⟩ := h
  exact (rr_agent R T G c W h.2.1).mono fun e w' ⟨he, hb⟩ => ⟨he, Two.kept ⟨F, G, h⟩ hb, Two.kq ⟨F, G, h⟩ hb⟩
theorem tw_alike (h : Two w0 X A R S S W) : Calls Try.prog 46 #[.pointer (some ⟨A, 0, none⟩), .pointer (some ⟨R, 0, none⟩)] W fun e w' => e = .returned (.bool true) ∧ Two w0 X A R S S w' ∧ KQ X W w' := by
  obtain ⟨F, G, h⟩ := h
  exact (alike_ok A R S F G W h.1 h.2.1).mono fun e w' ⟨he, hb⟩ => ⟨he, Two.kept ⟨F, G, h⟩ hb, Two.kq ⟨F, G, h⟩ hb⟩
theorem tw_used (h : Two w0 X A R S T W) : Calls Try.prog 47 #[.pointer (some ⟨A, 0, none⟩)] W fun e w' => e = .returned (.int .i64 S.cells.length) ∧ W = w' := by
  obtain ⟨F, G, h⟩ := h
  exact ar_used A S F W h.1
theorem tw_peak (h : Two w0 X A R S T W) : Calls Try.prog 48 #[.pointer (some ⟨A, 0, none⟩)] W fun e w' => e = .returned (.int .i64 S.cells.length) ∧ W = w' := by
  obtain ⟨F, G, h⟩ := h
  exact ar_peak A S F W h.1
end
end Go.Proofs.Ytbdfkgchliakfaa
