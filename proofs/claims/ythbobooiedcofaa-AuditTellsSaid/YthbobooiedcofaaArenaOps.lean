/-
  Contracts of package arena, whole: Take, Give at every input; an arena whose blocks are all new.
-/
import Derived.Test.YthbobooiedcofaaArenaAll
import Derived.Test.YthbobooiedcofaaRange
import Derived.Shelf.Abstract
import Derived.OwnWalkIn
import Derived.TacticsInMore
import Derived.LoopNIn
import Derived.LoopIn
import Derived.Test.YthbobooiedcofaaArenaTake
/-
  Contracts of package arena, continued: what All hands back, as an iterator.
-/
namespace Go.Proofs.Ythbobooiedcofaa
open Go.RowKit Go.Shelf
attribute [local go_sem] Oper.semAt_some
set_option maxRecDepth 100000

theorem take_snoc {α : Type} (l : List α) {k : Nat} (hk : k < l.length) : l.take (k + 1) = l.take k ++ [l[k]] := by
  rw [List.take_add_one, List.getElem?_eq_getElem hk]; rfl

set_option maxHeartbeats 2000000 in
theorem all1_in (n l B P : Nat) (v : Value) (xs : List (Nat × Int)) (hlen : xs.length ≤ 5000) (J Jx : List (Nat × Int) → World → Prop) (W : World) (hJ : AbidesFrom W.heap.size J)
    (hY : ∀ pre x W1, J pre W1 → pre.length < xs.length → YieldAt Fence.wide (n - 1) Try.prog l #[.int .i64 (x.1 : Int), .int .i64 x.2] W1 fun e W' =>
      (e = .returned (.bool true) ∧ J (pre ++ [x]) W' ∧ KQ (P :: ownB v) W1 W') ∨ (e = .returned (.bool false) ∧ Jx (pre ++ [x]) W'))
    (hb : Box2 W B P v xs) (h0 : J [] W) :
    CallsIn Fence.wide n Try.prog 117 #[.func (.yield l) #[] #[], .pointer (some ⟨P, 0, none⟩)] W fun e W' => (∃ v, e = .returned v) ∧
      ((∃ ys, ys = xs ∧ J ys W') ∨ (∃ pre, (∃ k, k ≤ xs.length ∧ pre = xs.take k) ∧ Jx pre W')) := by
  obtain ⟨V, cp, hv, _⟩ := hb.row.len
  have HV := Lib.hid hv
  have bc : W.cell? ⟨P, 0, none⟩ = some (.slice V xs.length cp) := by simp [World.cell?, hb.cell, hv]
  refine callsIn_of_wp Try.func117 rfl trivial ?_ rfl
  simp only [Try.ntmps117, List.size_toArray, List.length_cons, List.length_nil, Nat.reduceAdd, Nat.reduceSub, Array.replicate_succ, Array.replicate_zero, List.push_toArray, List.append_toArray, List.nil_append, List.cons_append]
  gi_wp2
  gi_loopw [7] (fun i wr => ∃ k : Nat, k ≤ xs.length ∧ i = .int .i64 k ∧ Hid (J (xs.take k) wr ∧ Box2 wr B P v xs ∧ W.heap.size ≤ wr.heap.size)) (fun i _ => xs.length - (intOf i).toNat)
  case atStart => exact ⟨0, Nat.zero_le _, rfl, Lib.hid ⟨h0, hb, Nat.le_refl _⟩⟩
  case round =>
    obtain ⟨k, hk, rfl, X⟩ := hrel
    by_cases hlt : k < xs.length
    · obtain ⟨hJk, hbk, hsz⟩ := X.out
      obtain ⟨g, cap, cur, hv2, _⟩ := hbk.row.some_ (by omega)
      have hv3 := HV.out
      rw [hv2] at hv3
      simp only [Value.slice.injEq, true_and] at hv3
      obtain ⟨rfl, rfl⟩ := hv3
      have hrow := hbk.row
      rw [hv2] at hrow
      have e0 : wr.cell? ⟨g, k * 2, none⟩ = some (.int .i64 (xs[k].1 : Int)) := (hrow.cellAt _ (by omega)).trans (ncells_at xs hlt).1
      have e1 : wr.cell? ⟨g, k * 2 + 1, none⟩ = some (.int .i64 (xs[k]).2) := (hrow.cellAt _ (by omega)).trans (ncells_at xs hlt).2
      have HJ2 : Hid (J (xs.take k) (wr.alloc (.cells #[.int .i64 (xs[k].1 : Int), .int .i64 (xs[k]).2] 174))) := hJ _ _ _ none hJk (World.grownBy_alloc _ _ _) (fun r e => by cases e)
      have HB2 := Lib.hid (hbk.alloc (.cells #[.int .i64 (xs[k].1 : Int), .int .i64 (xs[k]).2] 174))
      obtain ⟨fn, tmps, assign, body, hy, hR⟩ := hY _ xs[k] _ HJ2.out (by rw [List.length_take]; omega)
      have HR := Lib.hid hR
      clear hR hrow hv2 hJk hbk hY hb h0 bc
      gi_wp2
      refine ⟨fun h => (by cases h), HR.out.mono ?_⟩
      rintro e W3 (⟨rfl, hJ3, hk3⟩ | ⟨rfl, hJx3⟩)
      · have X3 : Hid (J (xs.take (k + 1)) W3 ∧ Box2 W3 B P v xs ∧ W.heap.size ≤ W3.heap.size) := Lib.hid ⟨by rw [take_snoc xs hlt]; exact hJ3, HB2.out.keep hk3.same, by have := hk3.size; simp at this; omega⟩
        clear hJ3 hk3
        gi_wp2
        go_roundw
        case rel => exact ⟨k + 1, by omega, by simp, X3⟩
        case measure => simp [intOf]; omega
      · have XX : Hid (Jx (xs.take (k + 1)) W3) := by show Jx _ _; rw [take_snoc xs hlt]; exact hJx3
        clear hJx3
        gi_wp2
        refine bodyPost_ret (results_none rfl _ _ _) rfl ?_
        exact ⟨⟨_, rfl⟩, .inr ⟨_, ⟨k + 1, by omega, rfl⟩, XX.out⟩⟩
    · obtain rfl : k = xs.length := by omega
      clear hb h0
      gi_wp2
      go_end0
      exact ⟨⟨_, rfl⟩, .inl ⟨_, rfl, by have := X.out.1; rwa [List.take_length] at this⟩⟩
theorem seq_stops (n B P : Nat) (v : Value) (xs : List (Nat × Int)) (hlen : xs.length ≤ 5000) (w : World) (hb : Box2 w B P v xs) :
    SeqStopsK Fence.wide n Try.prog 117 #[.pointer (some ⟨P, 0, none⟩)] (fun x : Nat × Int => #[Value.int .i64 (x.1 : Int), Value.int .i64 x.2]) (KQ (P :: ownB v)) (fun ys => ys = xs) (fun pre => ∃ k, k ≤ xs.length ∧ pre = xs.take k) xs.length w :=
  fun l J Jx W hW hJ _ hY h0 => by
    refine (all1_in n l B P v xs hlen J Jx W hJ hY (hb.keep fun b hm => hW.block b ?_) h0)
    simp only [List.mem_cons] at hm
    rcases hm with rfl | hm
    · exact hb.lt
    · exact hb.row.lt b hm
end Go.Proofs.Ythbobooiedcofaa
namespace Go.Proofs.Ythbobooiedcofaa
open Go.RowKit
attribute [local go_sem] cell_set
set_option maxRecDepth 100000

theorem ar_take (A : Nat) (S : Ars) (F : List Nat) (ag ar : Int) (w : World) (h : PA w A S F) :
    Calls Try.prog 51 #[.pointer (some ⟨A, 0, none⟩), .int .i64 ag, .int .i64 ar] w fun e w' => e = .returned (.tuple #[.int .i64 (S.takeC ag ar), .int .i64 (S.takeE ag ar)]) ∧ (∃ F', PA w' A (S.take ag ar) F' ∧ ∀ b ∈ F', b ∈ F ∨ w.heap.size ≤ b) ∧ Kp F w w' := by
  by_cases hb : Ars.bad ag ar
  · refine (ar_take_bad A S F ag ar w h hb).mono ?_
    rintro e w' ⟨rfl, rfl⟩
    have he : S.takeE ag ar = 1 := by unfold Ars.takeE; rw [if_pos hb]
    have hc : S.takeC ag ar = 0 := by unfold Ars.takeC; rw [if_pos hb]
    exact ⟨by rw [he, hc], ⟨F, by rw [Ars.take_same (by rw [he]; decide)]; exact h, fun b hb => .inl hb⟩, Kp.refl _ _⟩
  · have he : S.takeE ag ar = S.nextE := by unfold Ars.takeE; rw [if_neg hb]
    have hc : S.takeC ag ar = S.nextC := by unfold Ars.takeC; rw [if_neg hb]
    by_cases hn : S.nextE = 0
    · refine (ar_take_ok A S F ag ar w h hb hn).mono ?_
      rintro e w' ⟨rfl, h1, h2⟩
      exact ⟨by rw [he, hc, hn], h1, h2⟩
    · refine (ar_take_full A S F ag ar w h hb hn).mono ?_
      rintro e w' ⟨rfl, hbl⟩
      have hc0 : S.nextC = 0 := by
        unfold Ars.nextE at hn; unfold Ars.nextC
        split at hn
        · exact absurd rfl hn
        · rename_i hnone
          by_cases hl : S.cells.length = S.most
          · rw [if_pos hl]
          · rw [if_neg hl] at hn; exact absurd rfl hn
      exact ⟨by rw [he, hc, hc0], ⟨F, by rw [Ars.take_same (by rw [he]; exact hn)]; exact h.below hbl, fun b hb => .inl hb⟩, Kp.of_below hbl⟩
theorem ar_give (A : Nat) (S : Ars) (F : List Nat) (c : Int) (w : World) (h : PA w A S F) :
    Calls Try.prog 49 #[.pointer (some ⟨A, 0, none⟩), .int .i64 c] w fun e w' => e = .returned (.int .i64 (S.giveE c)) ∧ (∃ F', PA w' A (S.give c) F' ∧ ∀ b ∈ F', b ∈ F ∨ w.heap.size ≤ b) ∧ Kp F w w' := by
  cases hc : S.cell c with
  | none =>
    refine (ar_give_no A S F c w h hc).mono ?_
    rintro e w' ⟨rfl, rfl⟩
    exact ⟨by simp [Ars.giveE, hc], ⟨F, by simpa [Ars.give, hc] using h, fun b hb => .inl hb⟩, Kp.refl _ _⟩
  | some x =>
    obtain ⟨h0, hl⟩ := Ars.cell_some hc
    obtain ⟨i, rfl⟩ := Int.eq_ofNat_of_zero_le h0
    refine (ar_give_yes A S F i x w h hc).mono ?_
    rintro e w' ⟨rfl, h1, h2⟩
    exact ⟨by simp [Ars.giveE, hc], h1, h2⟩

theorem PA.cellsAt {w : World} {A : Nat} {S : Ars} {F : List Nat} (h : PA w A S F) {k : Nat} {o : Obj} (hk : w.heap[k]? = some o) (hm : k ∈ F) (ho : o.isCells = false) : False := by
  obtain ⟨cv, bv, rows, h0, _, _, rfl⟩ := h.p0
  simp only [List.mem_cons, List.mem_append] at hm
  rcases hm with rfl | hm | hm
  · rw [h0.head] at hk; injection hk with hk; subst hk; cases ho
  · obtain ⟨_, hh⟩ := h0.cells.ty hm; rw [hh] at hk; injection hk with hk; subst hk; cases ho
  · obtain ⟨_, hh⟩ := h0.back.ty hm; rw [hh] at hk; injection hk with hk; subst hk; cases ho
/-- An arena whose blocks are all new since w0 and none of X's; X's are new too, and there. -/
structure ArX (w0 : World) (X : List Nat) (A : Nat) (S : Ars) (w : World) : Prop where
  pa : ∃ F, PA w A S F ∧ ∀ b ∈ F, w0.heap.size ≤ b ∧ b ∉ X
  x : ∀ b ∈ X, w0.heap.size ≤ b ∧ b < w.heap.size
  below : Below w0.heap.size w0 w
section
variable {w0 w w' : World} {X : List Nat} {A : Nat} {S S' : Ars}
theorem ArX.step (h : ArX w0 X A S w) {F : List Nat} (hF : ∀ b ∈ F, w0.heap.size ≤ b ∧ b ∉ X) (h1 : ∃ F', PA w' A S' F' ∧ ∀ b ∈ F', b ∈ F ∨ w.heap.size ≤ b) (h2 : Kp F w w') (hp : PA w A S F) : ArX w0 X A S' w' ∧ KQ X w w' ∧ KeepsOthers w w' := by
  obtain ⟨F', p, hF'⟩ := h1
  refine ⟨⟨⟨F', p, fun b hb => ?_⟩, fun b hb => ⟨(h.x b hb).1, Nat.lt_of_lt_of_le (h.x b hb).2 h2.size⟩, h.below.trans (h2.below h.below.size fun b hb => (hF b hb).1)⟩, ⟨h2.size, fun b hb => h2.block b (h.x b hb).2 (fun hm => (hF b hm).2 hb)⟩, h2.size, fun k o hk ho => (h2.block k (heap_lt hk) (fun hm => hp.cellsAt hk hm ho)).trans hk⟩
  rcases hF' b hb with hb | hb
  · exact hF b hb
  · exact ⟨Nat.le_trans h.below.size hb, fun hx => by have := (h.x b hx).2; omega⟩
theorem ArX.kept (h : ArX w0 X A S w) (hb : Below w.heap.size w w') : ArX w0 X A S w' := by
  obtain ⟨F, p, hF⟩ := h.pa
  exact ⟨⟨F, p.below hb, hF⟩, fun b hx => ⟨(h.x b hx).1, Nat.lt_of_lt_of_le (h.x b hx).2 hb.size⟩, h.below.trans (hb.mono h.below.size)⟩
theorem ArX.drew (h : ArX w0 X A S w) : ArX w0 X A S w.drew := h.kept (Below.refl _ _).drew
theorem ArX.add (h : ArX w0 X A S w) (hb : Below w.heap.size w w') (Y : List Nat) (hY : ∀ b ∈ Y, w.heap.size ≤ b ∧ b < w'.heap.size) : ArX w0 (Y ++ X) A S w' := by
  have h' := h.kept hb
  obtain ⟨F, p, hF⟩ := h.pa
  refine ⟨⟨F, p.below hb, fun b hm => ⟨(hF b hm).1, fun hx => ?_⟩⟩, fun b hx => ?_, h'.below⟩
  · rcases List.mem_append.1 hx with hx | hx
    · have := p.lt b hm; have := (hY b hx).1; omega
    · exact (hF b hm).2 hx
  · rcases List.mem_append.1 hx with hx | hx
    · exact ⟨Nat.le_trans h.below.size (hY b hx).1, (hY b hx).2⟩
    · exact h'.x b hx
theorem ArX.alloc (h : ArX w0 X A S w) (o : Obj) : ArX w0 (w.heap.size :: X) A S (w.alloc o) := h.add ((Below.refl _ _).alloc (Nat.le_refl _) _) [w.heap.size] (by simp)
theorem ArX.setCell (h : ArX w0 X A S w) {p : Addr} (hp : p.block ∈ X) (u : Value) : ArX w0 X A S (w.setCell p u) := by
  obtain ⟨F, q, hF⟩ := h.pa
  exact ⟨⟨F, q.keep fun b hb => Below.heap_setCell w _ _ b (fun e => (hF b hb).2 (e ▸ hp)), hF⟩, fun b hb => by have := h.x b hb; simpa using this, h.below.setCell (h.x _ hp).1 _⟩
theorem ArX.sub (h : ArX w0 X A S w) {Y : List Nat} (hY : ∀ b ∈ Y, b ∈ X) : ArX w0 Y A S w := by
  obtain ⟨F, p, hF⟩ := h.pa
  exact ⟨⟨F, p, fun b hb => ⟨(hF b hb).1, fun hm => (hF b hb).2 (hY b hm)⟩⟩, fun b hb => h.x b (hY b hb), h.below⟩
end
theorem ArX.grown {w0 w w' : World} {X : List Nat} {A : Nat} {S : Ars} (h : ArX w0 X A S w) {B : Nat} {row : Option Nat} (hg : w.grownBy w' row) (hB : w0.heap.size ≤ B) (hr : ∀ r, row = some r → B ≤ r ∧ ∃ o : Obj, w.heap[r]? = some o ∧ o.isCells = false) : ArX w0 X A S w' := by
  obtain ⟨F, p, hF⟩ := h.pa
  refine ⟨⟨F, p.keep fun b hb => hg.block b (p.lt b hb) (fun e => ?_), hF⟩, fun b hb => ⟨(h.x b hb).1, Nat.lt_of_lt_of_le (h.x b hb).2 hg.size⟩, h.below.trans ⟨hg.os, hg.tape, hg.output, by have := h.below.size; have := hg.size; omega, fun k hk => hg.block k (Nat.lt_of_lt_of_le hk h.below.size) (fun e => ?_)⟩⟩
  · obtain ⟨_, o, ho, hc⟩ := hr b e.symm
    exact p.cellsAt ho hb hc
  · have := (hr k e.symm).1; omega
end Go.Proofs.Ythbobooiedcofaa
