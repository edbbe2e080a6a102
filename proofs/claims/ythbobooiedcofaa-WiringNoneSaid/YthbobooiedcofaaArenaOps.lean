/-
  Contracts of package arena, whole: Take, Give at every input; an arena whose blocks are all new.
-/
import Derived.Test.YthbobooiedcofaaArenaTake
import Derived.Test.YthbobooiedcofaaArenaSeq
namespace Go.Proofs.Ythbobooiedcofaa
open Go.RowKit
attribute [local go_sem] cell_set
set_option maxRecDepth 100000

theorem ar_take (A : Nat) (S : Ars) (F : List Nat) (ag ar : Int) (w : World) (h : PA w A S F) :
    Calls Try.prog 51 #[.pointer (some ⟨A, 0, none⟩), .int .i64 ag, .int .i64 ar] w fun e w' => e = .returned (.tuple #[.int .i64 (S.takeC ag ar), .int .i64 (S.takeE ag ar)]) ∧ (∃ F', PA w' A (S.take ag ar) F' ∧ ∀ b ∈ F', b ∈ F ∨ w.heap.size ≤ b) ∧ Kp F w w' := by
  by_cases hb : Ars.bad ag ar
  · refine (ar_take_bad A S F ag ar w h hb).mono ?_
    rintro e w' ⟨rfl, rfl⟩
    have he : S.takeE ag ar = 1 := by unfold Ars.takeE; rw [if_pos hb]
    have hc : S.takeC ag ar = 0 := by unfold Ars.takeC; rw [if_pos hb]
    exact ⟨by rw [he, hc], ⟨F, by rw [Ars.take_same (by rw [he]; decide)]; exact h, fun b hb => .inl hb⟩, Kp.refl _ _⟩
  · have he : S.takeE ag ar = S.nextE := by unfold Ars.takeE; rw [if_neg hb]
    have hc : S.takeC ag ar = S.nextC := by unfold Ars.takeC; rw [if_neg hb]
    by_cases hn : S.nextE = 0
    · refine (ar_take_ok A S F ag ar w h hb hn).mono ?_
      rintro e w' ⟨rfl, h1, h2⟩
      exact ⟨by rw [he, hc, hn], h1, h2⟩
    · refine (ar_take_full A S F ag ar w h hb hn).mono ?_
      rintro e w' ⟨rfl, hbl⟩
      have hc0 : S.nextC = 0 := by
        unfold Ars.nextE at hn; unfold Ars.nextC
        split at hn
        · exact absurd rfl hn
        · rename_i hnone
          by_cases hl : S.cells.length = S.most
          · rw [if_pos hl]
          · rw [if_neg hl] at hn; exact absurd rfl hn
      exact ⟨by rw [he, hc, hc0], ⟨F, by rw [Ars.take_same (by rw [he]; exact hn)]; exact h.below hbl, fun b hb => .inl hb⟩, Kp.of_below hbl⟩
theorem ar_give (A : Nat) (S : Ars) (F : List Nat) (c : Int) (w : World) (h : PA w A S F) :
    Calls Try.prog 49 #[.pointer (some ⟨A, 0, none⟩), .int .i64 c] w fun e w' => e = .returned (.int .i64 (S.giveE c)) ∧ (∃ F', PA w' A (S.give c) F' ∧ ∀ b ∈ F', b ∈ F ∨ w.heap.size ≤ b) ∧ Kp F w w' := by
  cases hc : S.cell c with
  | none =>
    refine (ar_give_no A S F c w h hc).mono ?_
    rintro e w' ⟨rfl, rfl⟩
    exact ⟨by simp [Ars.giveE, hc], ⟨F, by simpa [Ars.give, hc] using h, fun b hb => .inl hb⟩, Kp.refl _ _⟩
  | some x =>
    obtain ⟨h0, hl⟩ := Ars.cell_some hc
    obtain ⟨i, rfl⟩ := Int.eq_ofNat_of_zero_le h0
    refine (ar_give_yes A S F i x w h hc).mono ?_
    rintro e w' ⟨rfl, h1, h2⟩
    exact ⟨by simp [Ars.giveE, hc], h1, h2⟩

theorem PA.cellsAt {w : World} {A : Nat} {S : Ars} {F : List Nat} (h : PA w A S F) {k : Nat} {o : Obj} (hk : w.heap[k]? = some o) (hm : k ∈ F) (ho : o.isCells = false) : False := by
  obtain ⟨cv, bv, rows, h0, _, _, rfl⟩ := h.p0
  simp only [List.mem_cons, List.mem_append] at hm
  rcases hm with rfl | hm | hm
  · rw [h0.head] at hk; injection hk with hk; subst hk; cases ho
  · obtain ⟨_, hh⟩ := h0.cells.ty hm; rw [hh] at hk; injection hk with hk; subst hk; cases ho
  · obtain ⟨_, hh⟩ := h0.back.ty hm; rw [hh] at hk; injection hk with hk; subst hk; cases ho
/-- An arena whose blocks are all new since w0 and none of X's; X's are new too, and there. -/
structure ArX (w0 : World) (X : List Nat) (A : Nat) (S : Ars) (w : World) : Prop where
  pa : ∃ F, PA w A S F ∧ ∀ b ∈ F, w0.heap.size ≤ b ∧ b ∉ X
  x : ∀ b ∈ X, w0.heap.size ≤ b ∧ b < w.heap.size
  below : Below w0.heap.size w0 w
section
variable {w0 w w' : World} {X : List Nat} {A : Nat} {S S' : Ars}
theorem ArX.step (h : ArX w0 X A S w) {F : List Nat} (hF : ∀ b ∈ F, w0.heap.size ≤ b ∧ b ∉ X) (h1 : ∃ F', PA w' A S' F' ∧ ∀ b ∈ F', b ∈ F ∨ w.heap.size ≤ b) (h2 : Kp F w w') (hp : PA w A S F) : ArX w0 X A S' w' ∧ KQ X w w' ∧ KeepsOthers w w' := by
  obtain ⟨F', p, hF'⟩ := h1
  refine ⟨⟨⟨F', p, fun b hb => ?_⟩, fun b hb => ⟨(h.x b hb).1, Nat.lt_of_lt_of_le (h.x b hb).2 h2.size⟩, h.below.trans (h2.below h.below.size fun b hb => (hF b hb).1)⟩, ⟨h2.size, fun b hb => h2.block b (h.x b hb).2 (fun hm => (hF b hm).2 hb)⟩, h2.size, fun k o hk ho => (h2.block k (heap_lt hk) (fun hm => hp.cellsAt hk hm ho)).trans hk⟩
  rcases hF' b hb with hb | hb
  · exact hF b hb
  · exact ⟨Nat.le_trans h.below.size hb, fun hx => by have := (h.x b hx).2; omega⟩
theorem ArX.kept (h : ArX w0 X A S w) (hb : Below w.heap.size w w') : ArX w0 X A S w' := by
  obtain ⟨F, p, hF⟩ := h.pa
  exact ⟨⟨F, p.below hb, hF⟩, fun b hx => ⟨(h.x b hx).1, Nat.lt_of_lt_of_le (h.x b hx).2 hb.size⟩, h.below.trans (hb.mono h.below.size)⟩
theorem ArX.drew (h : ArX w0 X A S w) : ArX w0 X A S w.drew := h.kept (Below.refl _ _).drew
theorem ArX.add (h : ArX w0 X A S w) (hb : Below w.heap.size w w') (Y : List Nat) (hY : ∀ b ∈ Y, w.heap.size ≤ b ∧ b < w'.heap.size) : ArX w0 (Y ++ X) A S w' := by
  have h' := h.kept hb
  obtain ⟨F, p, hF⟩ := h.pa
  refine ⟨⟨F, p.below hb, fun b hm => ⟨(hF b hm).1, fun hx => ?_⟩⟩, fun b hx => ?_, h'.below⟩
  · rcases List.mem_append.1 hx with hx | hx
    · have := p.lt b hm; have := (hY b hx).1; omega
    · exact (hF b hm).2 hx
  · rcases List.mem_append.1 hx with hx | hx
    · exact ⟨Nat.le_trans h.below.size (hY b hx).1, (hY b hx).2⟩
    · exact h'.x b hx
theorem ArX.alloc (h : ArX w0 X A S w) (o : Obj) : ArX w0 (w.heap.size :: X) A S (w.alloc o) := h.add ((Below.refl _ _).alloc (Nat.le_refl _) _) [w.heap.size] (by simp)
theorem ArX.allocOff (h : ArX w0 X A S w) (o : Obj) : ArX w0 X A S (w.alloc o) := h.kept ((Below.refl _ _).alloc (Nat.le_refl _) _)
theorem ArX.setCell (h : ArX w0 X A S w) {p : Addr} (hp : p.block ∈ X) (u : Value) : ArX w0 X A S (w.setCell p u) := by
  obtain ⟨F, q, hF⟩ := h.pa
  exact ⟨⟨F, q.keep fun b hb => Below.heap_setCell w _ _ b (fun e => (hF b hb).2 (e ▸ hp)), hF⟩, fun b hb => by have := h.x b hb; simpa using this, h.below.setCell (h.x _ hp).1 _⟩
theorem ArX.sub (h : ArX w0 X A S w) {Y : List Nat} (hY : ∀ b ∈ Y, b ∈ X) : ArX w0 Y A S w := by
  obtain ⟨F, p, hF⟩ := h.pa
  exact ⟨⟨F, p, fun b hb => ⟨(hF b hb).1, fun hm => (hF b hb).2 (hY b hm)⟩⟩, fun b hb => h.x b (hY b hb), h.below⟩
end
theorem ArX.grown {w0 w w' : World} {X : List Nat} {A : Nat} {S : Ars} (h : ArX w0 X A S w) {B : Nat} {row : Option Nat} (hg : w.grownBy w' row) (hB : w0.heap.size ≤ B) (hr : ∀ r, row = some r → B ≤ r ∧ ∃ o : Obj, w.heap[r]? = some o ∧ o.isCells = false) : ArX w0 X A S w' := by
  obtain ⟨F, p, hF⟩ := h.pa
  refine ⟨⟨F, p.keep fun b hb => hg.block b (p.lt b hb) (fun e => ?_), hF⟩, fun b hb => ⟨(h.x b hb).1, Nat.lt_of_lt_of_le (h.x b hb).2 hg.size⟩, h.below.trans ⟨hg.os, hg.tape, hg.output, by have := h.below.size; have := hg.size; omega, fun k hk => hg.block k (Nat.lt_of_lt_of_le hk h.below.size) (fun e => ?_)⟩⟩
  · obtain ⟨_, o, ho, hc⟩ := hr b e.symm
    exact p.cellsAt ho hb hc
  · have := (hr k e.symm).1; omega
theorem arx_take {w0 w : World} {X : List Nat} {A : Nat} {S : Ars} (h : ArX w0 X A S w) (ag ar : Int) :
    Calls Try.prog 51 #[.pointer (some ⟨A, 0, none⟩), .int .i64 ag, .int .i64 ar] w fun e w' => e = .returned (.tuple #[.int .i64 (S.takeC ag ar), .int .i64 (S.takeE ag ar)]) ∧ ArX w0 X A (S.take ag ar) w' ∧ KQ X w w' ∧ KeepsOthers w w' := by
  obtain ⟨F, p, hF⟩ := h.pa
  exact (ar_take A S F ag ar w p).mono fun e w' ⟨he, h1, h2⟩ => ⟨he, h.step hF h1 h2 p⟩
theorem arx_give {w0 w : World} {X : List Nat} {A : Nat} {S : Ars} (h : ArX w0 X A S w) (c : Int) :
    Calls Try.prog 49 #[.pointer (some ⟨A, 0, none⟩), .int .i64 c] w fun e w' => e = .returned (.int .i64 (S.giveE c)) ∧ ArX w0 X A (S.give c) w' ∧ KQ X w w' ∧ KeepsOthers w w' := by
  obtain ⟨F, p, hF⟩ := h.pa
  exact (ar_give A S F c w p).mono fun e w' ⟨he, h1, h2⟩ => ⟨he, h.step hF h1 h2 p⟩
theorem arx_new {w0 w : World} (hb : Below w0.heap.size w0 w) (m : Nat) (h1 : 1 ≤ m) (h2 : m ≤ 4096) (X : List Nat) (hX : ∀ b ∈ X, w0.heap.size ≤ b ∧ b < w.heap.size) :
    Calls Try.prog 10 #[.int .i64 (m : Int)] w fun e w' => e = .returned (.tuple #[.pointer (some ⟨w.heap.size, 0, none⟩), .int .i64 0]) ∧ ArX w0 X w.heap.size (Ars.empty m) w' ∧ Below w.heap.size w w' := by
  refine (ar_new_ok m h1 h2 w).mono ?_
  rintro e w' ⟨rfl, hbl, p⟩
  refine ⟨rfl, ⟨⟨_, p, fun b hm => ?_⟩, fun b hm => ⟨(hX b hm).1, Nat.lt_of_lt_of_le (hX b hm).2 hbl.size⟩, hb.trans (hbl.mono hb.size)⟩, hbl⟩
  simp at hm; subst hm
  exact ⟨hb.size, fun hx => by have := (hX _ hx).2; omega⟩

end Go.Proofs.Ythbobooiedcofaa
