/-
  A wiring in memory; Arena, Free, Word.
-/
import Derived.Test.YthbobooiedcofaaArenaTake
import Derived.Test.YthbobooiedcofaaArenaSeq
import Derived.Test.YthbobooiedcofaaWirPts
import Derived.Test.YthbobooiedcofaaWord
/-
  Contracts of package arena, whole: Take, Give at every input; an arena whose blocks are all new.
-/
namespace Go.Proofs.Ythbobooiedcofaa
open Go.RowKit
attribute [local go_sem] cell_set
set_option maxRecDepth 100000

theorem ar_take (A : Nat) (S : Ars) (F : List Nat) (ag ar : Int) (w : World) (h : PA w A S F) :
    Calls Try.prog 51 #[.pointer (some ⟨A, 0, none⟩), .int .i64 ag, .int .i64 ar] w fun e w' => e = .returned (.tuple #[.int .i64 (S.takeC ag ar), .int .i64 (S.takeE ag ar)]) ∧ (∃ F', PA w' A (S.take ag ar) F' ∧ ∀ b ∈ F', b ∈ F ∨ w.heap.size ≤ b) ∧ Kp F w w' := by
  by_cases hb : Ars.bad ag ar
  · refine (ar_take_bad A S F ag ar w h hb).mono ?_
    rintro e w' ⟨rfl, rfl⟩
    have he : S.takeE ag ar = 1 := by unfold Ars.takeE; rw [if_pos hb]
    have hc : S.takeC ag ar = 0 := by unfold Ars.takeC; rw [if_pos hb]
    exact ⟨by rw [he, hc], ⟨F, by rw [Ars.take_same (by rw [he]; decide)]; exact h, fun b hb => .inl hb⟩, Kp.refl _ _⟩
  · have he : S.takeE ag ar = S.nextE := by unfold Ars.takeE; rw [if_neg hb]
    have hc : S.takeC ag ar = S.nextC := by unfold Ars.takeC; rw [if_neg hb]
    by_cases hn : S.nextE = 0
    · refine (ar_take_ok A S F ag ar w h hb hn).mono ?_
      rintro e w' ⟨rfl, h1, h2⟩
      exact ⟨by rw [he, hc, hn], h1, h2⟩
    · refine (ar_take_full A S F ag ar w h hb hn).mono ?_
      rintro e w' ⟨rfl, hbl⟩
      have hc0 : S.nextC = 0 := by
        unfold Ars.nextE at hn; unfold Ars.nextC
        split at hn
        · exact absurd rfl hn
        · rename_i hnone
          by_cases hl : S.cells.length = S.most
          · rw [if_pos hl]
          · rw [if_neg hl] at hn; exact absurd rfl hn
      exact ⟨by rw [he, hc, hc0], ⟨F, by rw [Ars.take_same (by rw [he]; exact hn)]; exact h.below hbl, fun b hb => .inl hb⟩, Kp.of_below hbl⟩
theorem ar_give (A : Nat) (S : Ars) (F : List Nat) (c : Int) (w : World) (h : PA w A S F) :
    Calls Try.prog 49 #[.pointer (some ⟨A, 0, none⟩), .int .i64 c] w fun e w' => e = .returned (.int .i64 (S.giveE c)) ∧ (∃ F', PA w' A (S.give c) F' ∧ ∀ b ∈ F', b ∈ F ∨ w.heap.size ≤ b) ∧ Kp F w w' := by
  cases hc : S.cell c with
  | none =>
    refine (ar_give_no A S F c w h hc).mono ?_
    rintro e w' ⟨rfl, rfl⟩
    exact ⟨by simp [Ars.giveE, hc], ⟨F, by simpa [Ars.give, hc] using h, fun b hb => .inl hb⟩, Kp.refl _ _⟩
  | some x =>
    obtain ⟨h0, hl⟩ := Ars.cell_some hc
    obtain ⟨i, rfl⟩ := Int.eq_ofNat_of_zero_le h0
    refine (ar_give_yes A S F i x w h hc).mono ?_
    rintro e w' ⟨rfl, h1, h2⟩
    exact ⟨by simp [Ars.giveE, hc], h1, h2⟩

theorem PA.cellsAt {w : World} {A : Nat} {S : Ars} {F : List Nat} (h : PA w A S F) {k : Nat} {o : Obj} (hk : w.heap[k]? = some o) (hm : k ∈ F) (ho : o.isCells = false) : False := by
  obtain ⟨cv, bv, rows, h0, _, _, rfl⟩ := h.p0
  simp only [List.mem_cons, List.mem_append] at hm
  rcases hm with rfl | hm | hm
  · rw [h0.head] at hk; injection hk with hk; subst hk; cases ho
  · obtain ⟨_, hh⟩ := h0.cells.ty hm; rw [hh] at hk; injection hk with hk; subst hk; cases ho
  · obtain ⟨_, hh⟩ := h0.back.ty hm; rw [hh] at hk; injection hk with hk; subst hk; cases ho
/-- An arena whose blocks are all new since w0 and none of X's; X's are new too, and there. -/
structure ArX (w0 : World) (X : List Nat) (A : Nat) (S : Ars) (w : World) : Prop where
  pa : ∃ F, PA w A S F ∧ ∀ b ∈ F, w0.heap.size ≤ b ∧ b ∉ X
  x : ∀ b ∈ X, w0.heap.size ≤ b ∧ b < w.heap.size
  below : Below w0.heap.size w0 w
section
variable {w0 w w' : World} {X : List Nat} {A : Nat} {S S' : Ars}
theorem ArX.step (h : ArX w0 X A S w) {F : List Nat} (hF : ∀ b ∈ F, w0.heap.size ≤ b ∧ b ∉ X) (h1 : ∃ F', PA w' A S' F' ∧ ∀ b ∈ F', b ∈ F ∨ w.heap.size ≤ b) (h2 : Kp F w w') (hp : PA w A S F) : ArX w0 X A S' w' ∧ KQ X w w' ∧ KeepsOthers w w' := by
  obtain ⟨F', p, hF'⟩ := h1
  refine ⟨⟨⟨F', p, fun b hb => ?_⟩, fun b hb => ⟨(h.x b hb).1, Nat.lt_of_lt_of_le (h.x b hb).2 h2.size⟩, h.below.trans (h2.below h.below.size fun b hb => (hF b hb).1)⟩, ⟨h2.size, fun b hb => h2.block b (h.x b hb).2 (fun hm => (hF b hm).2 hb)⟩, h2.size, fun k o hk ho => (h2.block k (heap_lt hk) (fun hm => hp.cellsAt hk hm ho)).trans hk⟩
  rcases hF' b hb with hb | hb
  · exact hF b hb
  · exact ⟨Nat.le_trans h.below.size hb, fun hx => by have := (h.x b hx).2; omega⟩
theorem ArX.kept (h : ArX w0 X A S w) (hb : Below w.heap.size w w') : ArX w0 X A S w' := by
  obtain ⟨F, p, hF⟩ := h.pa
  exact ⟨⟨F, p.below hb, hF⟩, fun b hx => ⟨(h.x b hx).1, Nat.lt_of_lt_of_le (h.x b hx).2 hb.size⟩, h.below.trans (hb.mono h.below.size)⟩
theorem ArX.drew (h : ArX w0 X A S w) : ArX w0 X A S w.drew := h.kept (Below.refl _ _).drew
theorem ArX.add (h : ArX w0 X A S w) (hb : Below w.heap.size w w') (Y : List Nat) (hY : ∀ b ∈ Y, w.heap.size ≤ b ∧ b < w'.heap.size) : ArX w0 (Y ++ X) A S w' := by
  have h' := h.kept hb
  obtain ⟨F, p, hF⟩ := h.pa
  refine ⟨⟨F, p.below hb, fun b hm => ⟨(hF b hm).1, fun hx => ?_⟩⟩, fun b hx => ?_, h'.below⟩
  · rcases List.mem_append.1 hx with hx | hx
    · have := p.lt b hm; have := (hY b hx).1; omega
    · exact (hF b hm).2 hx
  · rcases List.mem_append.1 hx with hx | hx
    · exact ⟨Nat.le_trans h.below.size (hY b hx).1, (hY b hx).2⟩
    · exact h'.x b hx
theorem ArX.alloc (h : ArX w0 X A S w) (o : Obj) : ArX w0 (w.heap.size :: X) A S (w.alloc o) := h.add ((Below.refl _ _).alloc (Nat.le_refl _) _) [w.heap.size] (by simp)
theorem ArX.allocOff (h : ArX w0 X A S w) (o : Obj) : ArX w0 X A S (w.alloc o) := h.kept ((Below.refl _ _).alloc (Nat.le_refl _) _)
theorem ArX.setCell (h : ArX w0 X A S w) {p : Addr} (hp : p.block ∈ X) (u : Value) : ArX w0 X A S (w.setCell p u) := by
  obtain ⟨F, q, hF⟩ := h.pa
  exact ⟨⟨F, q.keep fun b hb => Below.heap_setCell w _ _ b (fun e => (hF b hb).2 (e ▸ hp)), hF⟩, fun b hb => by have := h.x b hb; simpa using this, h.below.setCell (h.x _ hp).1 _⟩
theorem ArX.sub (h : ArX w0 X A S w) {Y : List Nat} (hY : ∀ b ∈ Y, b ∈ X) : ArX w0 Y A S w := by
  obtain ⟨F, p, hF⟩ := h.pa
  exact ⟨⟨F, p, fun b hb => ⟨(hF b hb).1, fun hm => (hF b hb).2 (hY b hm)⟩⟩, fun b hb => h.x b (hY b hb), h.below⟩
end
theorem ArX.grown {w0 w w' : World} {X : List Nat} {A : Nat} {S : Ars} (h : ArX w0 X A S w) {B : Nat} {row : Option Nat} (hg : w.grownBy w' row) (hB : w0.heap.size ≤ B) (hr : ∀ r, row = some r → B ≤ r ∧ ∃ o : Obj, w.heap[r]? = some o ∧ o.isCells = false) : ArX w0 X A S w' := by
  obtain ⟨F, p, hF⟩ := h.pa
  refine ⟨⟨F, p.keep fun b hb => hg.block b (p.lt b hb) (fun e => ?_), hF⟩, fun b hb => ⟨(h.x b hb).1, Nat.lt_of_lt_of_le (h.x b hb).2 hg.size⟩, h.below.trans ⟨hg.os, hg.tape, hg.output, by have := h.below.size; have := hg.size; omega, fun k hk => hg.block k (Nat.lt_of_lt_of_le hk h.below.size) (fun e => ?_)⟩⟩
  · obtain ⟨_, o, ho, hc⟩ := hr b e.symm
    exact p.cellsAt ho hb hc
  · have := (hr k e.symm).1; omega
theorem arx_take {w0 w : World} {X : List Nat} {A : Nat} {S : Ars} (h : ArX w0 X A S w) (ag ar : Int) :
    Calls Try.prog 51 #[.pointer (some ⟨A, 0, none⟩), .int .i64 ag, .int .i64 ar] w fun e w' => e = .returned (.tuple #[.int .i64 (S.takeC ag ar), .int .i64 (S.takeE ag ar)]) ∧ ArX w0 X A (S.take ag ar) w' ∧ KQ X w w' ∧ KeepsOthers w w' := by
  obtain ⟨F, p, hF⟩ := h.pa
  exact (ar_take A S F ag ar w p).mono fun e w' ⟨he, h1, h2⟩ => ⟨he, h.step hF h1 h2 p⟩
theorem arx_give {w0 w : World} {X : List Nat} {A : Nat} {S : Ars} (h : ArX w0 X A S w) (c : Int) :
    Calls Try.prog 49 #[.pointer (some ⟨A, 0, none⟩), .int .i64 c] w fun e w' => e = .returned (.int .i64 (S.giveE c)) ∧ ArX w0 X A (S.give c) w' ∧ KQ X w w' ∧ KeepsOthers w w' := by
  obtain ⟨F, p, hF⟩ := h.pa
  exact (ar_give A S F c w p).mono fun e w' ⟨he, h1, h2⟩ => ⟨he, h.step hF h1 h2 p⟩
theorem arx_new {w0 w : World} (hb : Below w0.heap.size w0 w) (m : Nat) (h1 : 1 ≤ m) (h2 : m ≤ 4096) (X : List Nat) (hX : ∀ b ∈ X, w0.heap.size ≤ b ∧ b < w.heap.size) :
    Calls Try.prog 10 #[.int .i64 (m : Int)] w fun e w' => e = .returned (.tuple #[.pointer (some ⟨w.heap.size, 0, none⟩), .int .i64 0]) ∧ ArX w0 X w.heap.size (Ars.empty m) w' ∧ Below w.heap.size w w' := by
  refine (ar_new_ok m h1 h2 w).mono ?_
  rintro e w' ⟨rfl, hbl, p⟩
  refine ⟨rfl, ⟨⟨_, p, fun b hm => ?_⟩, fun b hm => ⟨(hX b hm).1, Nat.lt_of_lt_of_le (hX b hm).2 hbl.size⟩, hb.trans (hbl.mono hb.size)⟩, hbl⟩
  simp at hm; subst hm
  exact ⟨hb.size, fun hx => by have := (hX _ hx).2; omega⟩

end Go.Proofs.Ythbobooiedcofaa
namespace Go.Proofs.Ythbobooiedcofaa
open Go.RowKit
attribute [local go_sem] cell_set
set_option maxRecDepth 100000
set_option linter.unusedVariables false

/-- A wiring in memory: block B, its arena's block A, the arena's blocks FA. -/
structure WG (w : World) (B A : Nat) (S : Wir) (FA : List Nat) : Prop where
  hd : ∃ tl : List Value, w.heap[B]? = some (.cells (Value.pointer (some ⟨A, 0, none⟩) :: .int .i64 (S.P.length : Int) :: tl).toArray 52 (0, 0)) ∧ tl.length = 64 ∧ ∀ i, i < S.P.length → tl[i]? = some (.int .u32 (S.P.getD i 0))
  pa : PA w A S.A FA
  ok : S.Ok
theorem PA.tys {w : World} {A : Nat} {S : Ars} {F : List Nat} (h : PA w A S F) : ∀ b ∈ F, ∃ c t, w.heap[b]? = some (.cells c t (0, 0)) ∧ (t = 118 ∨ t = 150 ∨ t = 3) := by
  obtain ⟨cv, bv, rows, hA, hc, _, _, hb, rfl, _⟩ := h
  intro b hm
  simp only [List.mem_cons, List.mem_append] at hm
  rcases hm with rfl | hm | hm
  · exact ⟨_, _, hA, .inl rfl⟩
  · obtain ⟨cur, hh⟩ := hc.ty hm; exact ⟨_, _, hh, .inr (.inl rfl)⟩
  · obtain ⟨cur, hh⟩ := hb.ty hm; exact ⟨_, _, hh, .inr (.inr rfl)⟩
section
variable {w w' : World} {B A : Nat} {S : Wir} {FA : List Nat}
theorem WG.lt (h : WG w B A S FA) : B < w.heap.size := by obtain ⟨_, hh, _⟩ := h.hd; exact heap_lt hh
theorem WG.na (h : WG w B A S FA) : B ∉ FA := fun hm => by
  obtain ⟨_, hh, _⟩ := h.hd
  obtain ⟨c, t, h2, h3⟩ := h.pa.tys B hm
  refine ty_ne hh h2 ?_ rfl
  rcases h3 with rfl | rfl | rfl <;> decide
theorem WG.cells (h : WG w B A S FA) : w.cell? ⟨B, 0, none⟩ = some (.pointer (some ⟨A, 0, none⟩)) ∧ w.cell? ⟨B, 1, none⟩ = some (.int .i64 (S.P.length : Int)) := by
  obtain ⟨tl, hh, _⟩ := h.hd
  exact ⟨by simp [World.cell?, hh], by simp [World.cell?, hh]⟩
theorem WG.frozen (h : WG w B A S FA) (j : Nat) : w.frozen? ⟨B, j, none⟩ = false := by
  obtain ⟨tl, hh, _⟩ := h.hd
  simp [World.frozen?, hh]
theorem WG.word (h : WG w B A S FA) {i : Nat} (hi : i < S.P.length) : w.cell? ⟨B, 2 + i, none⟩ = some (.int .u32 (S.P.getD i 0)) := by
  obtain ⟨tl, hh, hl, ht⟩ := h.hd
  have := ht i hi
  simp only [World.cell?, hh]
  rw [List.getElem?_toArray, show 2 + i = i + 1 + 1 by omega, List.getElem?_cons_succ, List.getElem?_cons_succ]
  exact this
theorem WG.keep (h : WG w B A S FA) (hk : ∀ b ∈ B :: FA, w'.heap[b]? = w.heap[b]?) : WG w' B A S FA := by
  obtain ⟨tl, hh, hl, ht⟩ := h.hd
  exact ⟨⟨tl, (hk B (by simp)).trans hh, hl, ht⟩, h.pa.keep fun b hb => hk b (by simp [hb]), h.ok⟩
theorem WG.blt (h : WG w B A S FA) : ∀ b ∈ B :: FA, b < w.heap.size := fun b hb => by
  rcases List.mem_cons.1 hb with rfl | hb
  · exact h.lt
  · exact h.pa.lt b hb
theorem WG.below (h : WG w B A S FA) (hb : Below w.heap.size w w') : WG w' B A S FA := h.keep fun b hm => hb.block b (h.blt b hm)
theorem WG.kp {G : List Nat} (h : WG w B A S FA) (hk : Kp G w w') (hG : ∀ b ∈ B :: FA, b ∉ G) : WG w' B A S FA := h.keep fun b hb => hk.block b (h.blt b hb) (hG b hb)
/-- A free port is written. -/
theorem WG.putP (h : WG w B A S FA) {i : Nat} (hi : i < S.P.length) {v : Int} (hv : 0 ≤ v ∧ v < 4294967296) : WG (w.setCell ⟨B, 2 + i, none⟩ (.int .u32 v)) B A { S with P := S.P.set i v } FA := by
  obtain ⟨tl, hh, hl, ht⟩ := h.hd
  have hi64 : i < tl.length := by have := h.ok.p; omega
  refine ⟨⟨tl.set i (.int .u32 v), ?_, by simpa using hl, fun j hj => ?_⟩, h.pa.keep fun b hb => Below.heap_setCell w _ _ b (fun e => h.na (by have e' : b = B := e; exact e' ▸ hb)), ⟨h.ok.a, by simpa using h.ok.p, fun x hx => ?_⟩⟩
  · simp only [World.setCell, Array.getElem?_modify, hh, List.length_set]
    simp only [if_true, Option.map_some]
    congr 2
    simp [List.setIfInBounds_toArray, show 2 + i = i + 1 + 1 by omega, List.set_cons_succ]
  · simp only [List.length_set] at hj
    simp only [List.getElem?_set, List.getD_eq_getElem?_getD]
    by_cases e : i = j
    · subst e
      rw [if_pos rfl, if_pos hi64, if_pos rfl, if_pos hi]; rfl
    · rw [if_neg e, if_neg e, ht j hj, List.getD_eq_getElem?_getD]
  · rcases List.mem_or_eq_of_mem_set hx with hm | rfl
    · exact h.ok.w x hm
    · exact hv
/-- The arena has turned. -/
theorem WG.ofA (h : WG w B A S FA) {A' : Ars} {FA' : List Nat} (hp : PA w' A A' FA') (hk : Kp FA w w') : WG w' B A { S with A := A' } FA' := by
  obtain ⟨tl, hh, hl, ht⟩ := h.hd
  exact ⟨⟨tl, (hk.block B (heap_lt hh) h.na).trans hh, hl, ht⟩, hp, ⟨hp.ok, h.ok.p, h.ok.w⟩⟩
end
theorem Ars.getV_no {S : Ars} {c s : Int} (h : S.slotE c s ≠ 0) : S.getV c s = 0 := by
  unfold Ars.slotE at h
  unfold Ars.getV
  cases hc : S.cell c with
  | none => rfl
  | some x =>
    rw [hc] at h
    simp only at h ⊢
    split at h
    · rename_i h2; rw [if_pos h2]
    · exact absurd rfl h
/-! ### Contracts -/
theorem wi_nil (w : World) : Calls Try.prog 62 #[.pointer none] w fun e w' => e = .returned (.bool true) ∧ w = w' := by
  go_enter Try.func62, Try.ntmps62
  go_wp2
  go_ret
  exact ⟨rfl, rfl⟩
theorem wi_is (B A : Nat) (w : World) (hc : w.cell? ⟨B, 0, none⟩ = some (.pointer (some ⟨A, 0, none⟩))) : Calls Try.prog 62 #[.pointer (some ⟨B, 0, none⟩)] w fun e w' => e = .returned (.bool false) ∧ w = w' := by
  go_enter Try.func62, Try.ntmps62
  go_wp2
  go_ret
  exact ⟨rfl, rfl⟩
section
variable (B A : Nat) (S : Wir) (FA : List Nat) (w : World)
theorem wi_arena (h : WG w B A S FA) : Calls Try.prog 15 #[.pointer (some ⟨B, 0, none⟩)] w fun e w' => e = .returned (.pointer (some ⟨A, 0, none⟩)) ∧ w = w' := by
  obtain ⟨c0, c1⟩ := h.cells
  have HC := Lib.hid c0
  go_enter Try.func15, Try.ntmps15
  go_wp2_with (go_at_call 62; refine (wi_is B A _ HC.out).mono ?_; rintro e w' ⟨rfl, rfl⟩)
  go_ret
  exact ⟨rfl, rfl⟩
theorem wi_free (h : WG w B A S FA) : Calls Try.prog 25 #[.pointer (some ⟨B, 0, none⟩)] w fun e w' => e = .returned (.int .i64 (S.P.length : Int)) ∧ w = w' := by
  obtain ⟨c0, c1⟩ := h.cells
  have HC := Lib.hid c0
  go_enter Try.func25, Try.ntmps25
  go_wp2_with (go_at_call 62; refine (wi_is B A _ HC.out).mono ?_; rintro e w' ⟨rfl, rfl⟩)
  go_ret
  exact ⟨rfl, rfl⟩
set_option maxHeartbeats 1000000 in
theorem wi_word (c s : Int) (h : WG w B A S FA) : Calls Try.prog 24 #[.pointer (some ⟨B, 0, none⟩), .agg #[.int .i64 c, .int .i64 s]] w fun e w' => e = .returned (.tuple #[.int .u32 (S.wV (c, s)), .int .i64 (S.wE (c, s))]) ∧ Below w.heap.size w w' := by
  by_cases hc : c = -1
  · subst hc
    by_cases h1 : s < 0
    · have e1 : S.wE (-1, s) = 30 := by unfold Wir.wE; rw [if_pos rfl, if_pos (.inl h1)]
      have e2 : S.wV (-1, s) = 0 := by unfold Wir.wV; rw [if_pos rfl, if_pos (.inl h1)]
      rw [e1, e2]
      have hX : Below w.heap.size w (w.alloc (.cells #[.int .i64 (-1), .int .i64 s] 39)) := (Below.refl _ _).alloc (Nat.le_refl _) _
      have HX := Lib.hid hX
      have HG := Lib.hid (h.below hX)
      have HC := Lib.hid (h.below hX).cells.1
      have hlt := h.lt
      obtain ⟨c0, c1⟩ := h.cells
      have hP := h.ok.p
      clear hX
      go_enter Try.func24, Try.ntmps24
      go_wp2_with (go_at_call 62; refine (wi_is B A _ HC.out).mono ?_; rintro e w' ⟨rfl, rfl⟩)
      go_quiet (fail)
      go_wp2_with fail
      go_ret2
      exact ⟨rfl, by (repeat (with_reducible refine below_drewN ?_ _)); (repeat (first | exact Below.refl _ _ | (with_reducible refine Below.drew ?_) | (with_reducible refine Below.alloc ?_ (by (try simp); (try omega)) _) | (with_reducible refine Below.setCell ?_ (by (try simp); (try omega)) _) | (with_reducible refine Below.trans ?_ (Below.mono (by assumption) (by (try simp); (try omega))))))⟩
    · by_cases h2 : (S.P.length : Int) ≤ s
      · have e1 : S.wE (-1, s) = 30 := by unfold Wir.wE; rw [if_pos rfl, if_pos (.inr h2)]
        have e2 : S.wV (-1, s) = 0 := by unfold Wir.wV; rw [if_pos rfl, if_pos (.inr h2)]
        rw [e1, e2]
        have hX : Below w.heap.size w (w.alloc (.cells #[.int .i64 (-1), .int .i64 s] 39)) := (Below.refl _ _).alloc (Nat.le_refl _) _
        have HX := Lib.hid hX
        have HG := Lib.hid (h.below hX)
        have HC := Lib.hid (h.below hX).cells.1
        have hlt := h.lt
        obtain ⟨c0, c1⟩ := h.cells
        have hP := h.ok.p
        clear hX
        go_enter Try.func24, Try.ntmps24
        go_wp2_with (go_at_call 62; refine (wi_is B A _ HC.out).mono ?_; rintro e w' ⟨rfl, rfl⟩)
        go_quiet (fail)
        go_wp2_with fail
        go_ret2
        exact ⟨rfl, by (repeat (with_reducible refine below_drewN ?_ _)); (repeat (first | exact Below.refl _ _ | (with_reducible refine Below.drew ?_) | (with_reducible refine Below.alloc ?_ (by (try simp); (try omega)) _) | (with_reducible refine Below.setCell ?_ (by (try simp); (try omega)) _) | (with_reducible refine Below.trans ?_ (Below.mono (by assumption) (by (try simp); (try omega))))))⟩
      · obtain ⟨i, rfl⟩ := Int.eq_ofNat_of_zero_le (by omega : 0 ≤ s)
        have hi : i < S.P.length := by omega
        have e1 : S.wE (-1, (i : Int)) = 0 := by unfold Wir.wE; rw [if_pos rfl, if_neg (by omega)]
        have e2 : S.wV (-1, (i : Int)) = S.P.getD i 0 := by unfold Wir.wV; rw [if_pos rfl, if_neg (by omega)]; rfl
        rw [e1, e2]
        have k0 := h.word hi
        generalize S.P.getD i 0 = x at k0 ⊢
        have h3 : ¬ ((i : Int) < 0) := by omega
        have h4 : ¬ ((S.P.length : Int) ≤ (i : Int)) := h2
        have h5 : (i : Int) < 64 := by have := h.ok.p; omega
        have h6 : i < 64 := by omega
        have h7 : (0 : Int) ≤ (i : Int) := by omega
        have hX : Below w.heap.size w (w.alloc (.cells #[.int .i64 (-1), .int .i64 (i : Int)] 39)) := (Below.refl _ _).alloc (Nat.le_refl _) _
        have HX := Lib.hid hX
        have HG := Lib.hid (h.below hX)
        have HC := Lib.hid (h.below hX).cells.1
        have hlt := h.lt
        obtain ⟨c0, c1⟩ := h.cells
        have hP := h.ok.p
        clear hX
        go_enter Try.func24, Try.ntmps24
        go_wp2_with (go_at_call 62; refine (wi_is B A _ HC.out).mono ?_; rintro e w' ⟨rfl, rfl⟩)
        go_quiet (fail)
        go_wp2_with fail
        go_quiet (fail)
        go_wp2_with fail
        go_ret2
        exact ⟨rfl, by (repeat (with_reducible refine below_drewN ?_ _)); (repeat (first | exact Below.refl _ _ | (with_reducible refine Below.drew ?_) | (with_reducible refine Below.alloc ?_ (by (try simp); (try omega)) _) | (with_reducible refine Below.setCell ?_ (by (try simp); (try omega)) _) | (with_reducible refine Below.trans ?_ (Below.mono (by assumption) (by (try simp); (try omega))))))⟩
  · have hcb : (c == -1) = false := by rw [beq_eq_false_iff_ne]; exact hc
    have e2 : S.wV (c, s) = S.A.getV c s := by unfold Wir.wV; rw [if_neg hc]
    rw [e2]
    by_cases he : S.A.slotE c s = 0
    · have e1 : S.wE (c, s) = 0 := by unfold Wir.wE; rw [if_neg hc, if_pos he]
      rw [e1]
      have HE := Lib.hid he
      clear he e1 e2
      have hX : Below w.heap.size w (w.alloc (.cells #[.int .i64 c, .int .i64 s] 39)) := (Below.refl _ _).alloc (Nat.le_refl _) _
      have HX := Lib.hid hX
      have HG := Lib.hid (h.below hX)
      have HC := Lib.hid (h.below hX).cells.1
      have hlt := h.lt
      obtain ⟨c0, c1⟩ := h.cells
      have hP := h.ok.p
      clear hX
      go_enter Try.func24, Try.ntmps24
      go_wp2_with (go_at_call 62; refine (wi_is B A _ HC.out).mono ?_; rintro e w' ⟨rfl, rfl⟩)
      go_region_held3 (fun W => (W.cell? ⟨w.heap.size, 0, none⟩ = some (.int .i64 c) ∧ W.cell? ⟨w.heap.size, 1, none⟩ = some (.int .i64 s)) ∧ W.cell? ⟨B, 0, none⟩ = some (.pointer (some ⟨A, 0, none⟩)))
        (exact ⟨⟨by go_simp, by go_simp⟩, HC.out⟩)
        (first
          | ((with_reducible refine (ar_get A S.A FA c s _ (by first | exact HG.out.pa | exact HG.out.pa.below (Below.refl _ _).drew)).mono ?_); rintro e w' ⟨rfl, rfl⟩; dsimp only; rw [HE.out]))
      all_goals
        go_wp2_with fail
        go_ret2
        exact ⟨rfl, by (repeat (with_reducible refine below_drewN ?_ _)); (repeat (first | exact Below.refl _ _ | (with_reducible refine Below.drew ?_) | (with_reducible refine Below.alloc ?_ (by (try simp); (try omega)) _) | (with_reducible refine Below.setCell ?_ (by (try simp); (try omega)) _) | (with_reducible refine Below.trans ?_ (Below.mono (by assumption) (by (try simp); (try omega))))))⟩
    · have e1 : S.wE (c, s) = 30 := by unfold Wir.wE; rw [if_neg hc, if_neg he]
      have hv : S.A.getV c s = 0 := Ars.getV_no he
      rw [e1, hv]
      have hek : (S.A.slotE c s != 0) = true := bne_iff_ne.2 he
      clear he e1 e2 hv
      have hX : Below w.heap.size w (w.alloc (.cells #[.int .i64 c, .int .i64 s] 39)) := (Below.refl _ _).alloc (Nat.le_refl _) _
      have HX := Lib.hid hX
      have HG := Lib.hid (h.below hX)
      have HC := Lib.hid (h.below hX).cells.1
      have hlt := h.lt
      obtain ⟨c0, c1⟩ := h.cells
      have hP := h.ok.p
      clear hX
      go_enter Try.func24, Try.ntmps24
      go_wp2_with (go_at_call 62; refine (wi_is B A _ HC.out).mono ?_; rintro e w' ⟨rfl, rfl⟩)
      go_region_held3 (fun W => (W.cell? ⟨w.heap.size, 0, none⟩ = some (.int .i64 c) ∧ W.cell? ⟨w.heap.size, 1, none⟩ = some (.int .i64 s)) ∧ W.cell? ⟨B, 0, none⟩ = some (.pointer (some ⟨A, 0, none⟩)))
        (exact ⟨⟨by go_simp, by go_simp⟩, HC.out⟩)
        (first
          | ((with_reducible refine (ar_get A S.A FA c s _ (by first | exact HG.out.pa | exact HG.out.pa.below (Below.refl _ _).drew)).mono ?_); rintro e w' ⟨rfl, rfl⟩; dsimp only))
      all_goals
        go_wp2_with fail
        go_ret2
        exact ⟨rfl, by (repeat (with_reducible refine below_drewN ?_ _)); (repeat (first | exact Below.refl _ _ | (with_reducible refine Below.drew ?_) | (with_reducible refine Below.alloc ?_ (by (try simp); (try omega)) _) | (with_reducible refine Below.setCell ?_ (by (try simp); (try omega)) _) | (with_reducible refine Below.trans ?_ (Below.mono (by assumption) (by (try simp); (try omega))))))⟩
end
end Go.Proofs.Ythbobooiedcofaa
