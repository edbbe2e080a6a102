/-
  The document's wiring in memory; Word, put.
-/
import Derived.Test.YthbobooiedcofaaRArenaTake
import Derived.Test.YthbobooiedcofaaWirPts
import Derived.Test.YthbobooiedcofaaWirMem
import Derived.Test.YthbobooiedcofaaWirPut
/-
  The document's arena: Take.
-/
/-
  The document's arena, continued: Take, where there is room.
-/
namespace Go.Proofs.Ythbobooiedcofaa
open Go.RowKit
attribute [local go_sem] cell_set
set_option maxRecDepth 100000

theorem RTMid.drew {w W : World} {R : Nat} {S S' : Ars} {F : List Nat} (h : RTMid w W R S F S') : RTMid w W.drew R S F S' := by
  obtain ⟨cv, bv, cs, h0, hl, hr, hap, hF, hk⟩ := h
  exact ⟨cv, bv, cs, h0.drew, hl, fun i c r hc hr' => (hr i c r hc hr').kw (fun _ _ h => h), hap, hF, hk.drew⟩
theorem RTMid.head {w W : World} {R : Nat} {S S' : Ars} {F : List Nat} (h : RTMid w W R S F S') : W.cell? ⟨R, 3, none⟩ = some (.int .i64 S'.live) ∧ W.cell? ⟨R, 4, none⟩ = some (.int .i64 S.cells.length) ∧ W.frozen? ⟨R, 4, none⟩ = false := by
  obtain ⟨cv, bv, cs, h0, hl, hr, hap, hF, hk⟩ := h
  have := h0.head
  exact ⟨by simp [World.cell?, this], by simp [World.cell?, this], by simp [World.frozen?, this]⟩
theorem row_same {w : World} {e : TypeId} {size n : Nat} {v : Value} {xs ys : List Value} (h : Row w e size v n xs) (k : Row w e size v n ys) : xs = ys := by
  rcases h.2 with ⟨rfl, rfl⟩ | ⟨g, cap, cur, rfl, hg, _, _, _, ht⟩
  · have e1 : xs = [] := List.eq_nil_of_length_eq_zero (by simpa using h.1)
    have e2 : ys = [] := List.eq_nil_of_length_eq_zero (by simpa using k.1)
    rw [e1, e2]
  · rcases k.2 with ⟨e, _⟩ | ⟨g', cap', cur', e, hg', _, _, _, ht'⟩
    · simp at e
    · simp only [Value.slice.injEq, Option.some.injEq, Addr.mk.injEq, and_true, true_and] at e
      obtain ⟨rfl, rfl⟩ := e
      rw [hg] at hg'
      injection hg' with hg'
      injection hg' with hg'
      subst hg'
      rw [← ht, ← ht']
theorem u32_info : (Try.prog.info? 49).map (fun i => (i.zero, i.size, i.bytes)) = some (some (.int .u32 0), 1, 4) := by kernel_rfl
theorem rcell_info : (Try.prog.info? 147).map (fun i => (i.zero, i.size, i.bytes)) = some (some (.agg #[.bool false, .int .i64 0, .slice none 0 0]), 3, 40) := by kernel_rfl

set_option maxHeartbeats 4000000 in
theorem rr_take_ok (R : Nat) (S : Ars) (F : List Nat) (ag ar : Int) (w : World) (h : RA w R S F) (hb : ¬ Ars.bad ag ar) (he : S.nextE = 0) :
    Calls Try.prog 52 #[.pointer (some ⟨R, 0, none⟩), .int .i64 ag, .int .i64 ar] w fun e w' => e = .returned (.tuple #[.int .i64 S.nextC, .int .i64 0]) ∧ (∃ F', RA w' R (S.take ag ar) F' ∧ ∀ b ∈ F', b ∈ F ∨ w.heap.size ≤ b) ∧ Kp F w w' := by
  have H := Lib.hid h
  obtain ⟨h1, h2, h3, h4⟩ : 0 ≤ ag ∧ ag < 32 ∧ 0 ≤ ar ∧ ar ≤ 6 := by unfold Ars.bad at hb; omega
  have HE := Lib.hid he
  have HT := Lib.hid (Ars.take_cases h.ok hb he)
  have hm2 := h.ok.most2
  have hcl := h.ok.len
  have hbl := h.ok.back_le
  have hRl : R < w.heap.size := by obtain ⟨_, _, _, _, _, _, _, _, _, _, hRl⟩ := h.head; exact hRl
  obtain ⟨i4, hi4, hi41, hi42, hi43⟩ := info_parts u32_info
  clear h hb he
  go_enter Try.func52, Try.ntmps52
  go_wp2_with (go_at_call 100; refine (rr_next _ S F _ H.out).mono ?_; rintro e w1 ⟨rfl, hb1⟩; rw [HE.out]; have hz1 := hb1.size)
  go_loopw [11] (fun i wr => ∃ k : Nat, i = .int .i64 k ∧ (k : Int) ≤ ar + 1 ∧ Hid (∃ v, WB w1 wr ag k v)) (fun i _ => (ar + 1 - intOf i).toNat)
  case atStart => exact ⟨0, rfl, by omega, Lib.hid ⟨_, (Below.refl _ _).alloc (Nat.le_refl _) _, heap_alloc_new w1 _, Row.nil _ _ _, by simp [ownB]⟩⟩
  case round =>
    obtain ⟨k, rfl, hk, X0⟩ := hrel
    obtain ⟨v, X⟩ := X0.out
    obtain ⟨V, cp, rfl, hcp⟩ := X.row.len
    have XH := Lib.hid X
    have x2 := X.cell (j := 2) rfl
    have x2f := X.frozen 2
    have hXl := heap_lt X.blk
    by_cases hlt : (k : Int) ≤ ar
    · have HR : Hid (Row (wr.alloc (.cells #[.int .u32 4294967295] 49)) 49 1 (.slice V k cp) k (wvals (List.replicate k 4294967295))) := X.row.alloc _
      have HSrc : Hid (Src (wr.alloc (.cells #[.int .u32 4294967295] 49)) (some ⟨wr.heap.size, 0, none⟩) 1 1 [.int .u32 4294967295]) :=
        Src.block (cs := #[.int .u32 4294967295]) (t := 49) (fr := (0, 0)) (heap_alloc_new wr _) rfl (by simp [Value.oneCell'])
      have HB63 : k + 1 ≤ maxLen := by simp only [maxLen]; omega
      have HB47 : (k + 1) * 4 ≤ 140737488355328 := by omega
      have HX : Hid (w1.heap.size ∉ ownB (.slice V k cp)) := fun hb => by have := X.own _ hb; omega
      clear X
      go_wp2_with (at_builtin; go_loud (refine inPlain rfl (wpo_row_append _ _ _ rfl i4 _ 4 Try.underlying97 hi4 hi41 hi42 hi43 rfl rfl HR.out _ 1 1 rfl [.int .u32 4294967295] HSrc.out HB63 HB47 ?_)); intro sv5 w5 r5 k5 o5; obtain ⟨V5, cp5, rfl, hc5⟩ := r5.len
                   go_loud (have q2 : w5.cell? ⟨w1.heap.size, 2, none⟩ = some (.slice V k cp) := (k5.cell (p := ⟨w1.heap.size, 2, none⟩) (by simp; omega) HX.out).trans (by go_simp))
                   go_loud (have q3 : w5.frozen? ⟨w1.heap.size, 2, none⟩ = false := (k5.frozen (p := ⟨w1.heap.size, 2, none⟩) (by simp; omega) HX.out).trans (by go_simp)))
      go_roundw
      case rel => exact ⟨k + 1, by go_num, by omega, Lib.hid ⟨_, XH.out.append k5 (o5.imp id fun e => ⟨_, e, by simp⟩) r5⟩⟩
      case measure => simp [intOf]; omega
    · have hk1 : (k : Int) = ar + 1 := by omega
      have hbr := hb1.trans (X.below.mono hb1.size)
      have HP : Hid (RA wr R S F) := H.out.below hbr
      have HB := Lib.hid hbr
      have HL : Hid (∀ b ∈ F, b < w1.heap.size) := fun b hb => Nat.lt_of_lt_of_le (H.out.lt b hb) hb1.size
      have x0 := X.cell (j := 0) rfl
      have x1 := X.cell (j := 1) rfl
      have hRr : R < wr.heap.size := by have := hbr.size; omega
      have hRX : R ≠ w1.heap.size := by omega
      obtain ⟨VC, VB, cc, cb, c0, c1, c2, c3, c4, cf, _⟩ := HP.out.head
      have f1 := cf 1
      have f2 := cf 2
      have f3 := cf 3
      have f4 := cf 4
      have hlv : Hid (0 ≤ S.live ∧ S.live ≤ 4096) := by constructor <;> (unfold Ars.live; omega)
      have hlv1 := hlv.out.1
      have hlv2 := hlv.out.2
      clear X hbr cf c0
      rcases HT.out with ⟨b, hl, hn, ht, hcb⟩ | ⟨hb0, hn, hlt2, ht⟩
      · obtain ⟨g2, cb2, d2, hg2, _, hp, hncb⟩ := HP.out.last hl
        rw [d2] at c2
        simp only [Option.some.injEq, Value.slice.injEq, true_and] at c2
        obtain ⟨rfl, rfl⟩ := c2
        obtain ⟨g, cc', r, k1, hgl, ha, hr, hf, hlt2⟩ := HP.out.at_ hcb
        rw [k1] at c1
        simp only [Option.some.injEq, Value.slice.injEq, true_and] at c1
        obtain ⟨rfl, rfl⟩ := c1
        obtain ⟨m, hm⟩ : ∃ m, S.back.length = m + 1 := ⟨S.back.length - 1, by omega⟩
        cases r with
        | some y => exact ha.elim
        | none =>
          rw [hn]
          have z0 : wr.cell? ⟨g, b * 3, none⟩ = some (.bool false) := hr 0 (by omega)
          have z1 : wr.cell? ⟨g, b * 3 + 1, none⟩ = some (.int .i64 0) := hr 1 (by omega)
          have z2 : wr.cell? ⟨g, b * 3 + 2, none⟩ = some (.slice none 0 0) := hr 2 (by omega)
          have hRg : R ≠ g := by
            obtain ⟨cvP, bvP, csP, p0, _⟩ := HP.out
            have hcv := RA.slice p0 k1
            subst hcv
            exact fun e => p0.a1 (by simp [ownB, e])
          have hXg : w1.heap.size ≠ g := by
            have : g ∈ F := by
              obtain ⟨cvP, bvP, csP, p0, _, _, _, rfl, _⟩ := HP.out
              have hcv := RA.slice p0 k1
              subst hcv
              simp [ownB]
            have := HL.out g this; omega
          clear hr ha
          go_wp2_with fail
          have hmb : m ≤ 4096 := by omega
          have hmc : m ≤ cb2 := by omega
          have hmw : IntKind.i64.wrap (m : Int) = (m : Int) := by rw [IntKind.wrap_i64]; omega
          (refine region_tail 12 (by kernel_rfl) (by kernel_rfl) ?_; simp only [List.take_succ_cons, List.take_zero, List.drop_succ_cons, List.drop_zero]; repeat still_step; try refine wpStill_nil ?_)
          go_wp2_with fail
          (refine region_tail 7 (by kernel_rfl) (by kernel_rfl) ?_; simp only [List.take_succ_cons, List.take_zero, List.drop_succ_cons, List.drop_zero]; repeat still_step; try refine wpStill_nil ?_)
          go_wp2_with fail
          obtain ⟨L, hL⟩ : ∃ L, (S.take ag ar).live = L := ⟨_, rfl⟩
          have hLv : L ≤ S.cells.length := by rw [← hL, ht]; simp [Ars.live]; omega
          have HTT := Lib.hid ht
          have HO := Lib.hid (HP.out.ok.take ag ar)
          refine absW (fun W => RTMid w W R S F (S.take ag ar)) ((rmid_a HP.out HL.out (Kp.of_below HB.out) hz1 XH.out hk1 h3 hcb hm ht k1 d2 hncb rfl).drew.drew) ?_
          intro W MID
          obtain ⟨w3c, w4c, w4f⟩ := MID.head
          rw [hL] at w3c
          have M := Lib.hid MID
          clear ht hL MID
          (refine region_tail 10 (by kernel_rfl) (by kernel_rfl) ?_; simp only [List.take_succ_cons, List.take_zero, List.drop_succ_cons, List.drop_zero]; repeat still_step; try refine wpStill_nil ?_)
          go_wp2
          go_ret2
          exact ⟨rfl, rtake_close M.out HO.out (by rw [HTT.out]; simp)⟩
      · have hB0 : S.back.length = 0 := by rw [hb0]; rfl
        obtain ⟨i0, hi0, hi1, hi2, hi3⟩ := info_parts rcell_info
        have hrow : ∃ xs, Row wr 147 3 (.slice VC S.cells.length cc) S.cells.length xs ∧ R ∉ ownB (.slice VC S.cells.length cc) := by
          obtain ⟨cvP, bvP, csP, p0, pl, _⟩ := HP.out
          have e1 : cvP = .slice VC S.cells.length cc := by have := p0.head; simpa [World.cell?, this] using c1
          subst e1
          have := p0.cells
          rw [pl] at this
          exact ⟨_, this, p0.a1⟩
        obtain ⟨xs, hrow, hnR⟩ := hrow
        have HR := Lib.hid hrow
        have HN1 := Lib.hid hnR
        have HB63 : S.cells.length + 1 ≤ maxLen := by simp only [maxLen]; omega
        have HB47 : (S.cells.length + 1) * 40 ≤ 140737488355328 := by omega
        rw [hB0] at c2
        clear hrow hnR
        rw [hn]
        go_wp2_with fail
        go_region_law
          ((refine inDraw (by rfl) (wpo_row_append _ _ _ (by rfl) i0 _ 40 Try.underlying119 hi0 hi1 hi2 hi3 (by rfl) (by rfl) (HR.out.alloc (.cells #[.bool true, .int .i64 ag, .slice V k cp] 147)).drew _ 1 1 (by rfl) [.bool true, .int .i64 ag, .slice V k cp] (Src.block (cs := #[.bool true, .int .i64 ag, .slice V k cp]) (t := 147) (fr := (0, 0)) (heap_alloc_new wr _) (by rfl) (by simp [Value.oneCell'])).drew HB63 HB47 ?_); intro sv5 w5 r5 k5 o5; obtain ⟨V5, cp5, rfl, hc5⟩ := r5.len; have q1 : w5.cell? ⟨R, 1, none⟩ = some (.slice VC S.cells.length cc) := (k5.cell (p := ⟨R, 1, none⟩) (by simp; omega) HN1.out).trans (by go_simp); have q1f : w5.frozen? ⟨R, 1, none⟩ = false := (k5.frozen (p := ⟨R, 1, none⟩) (by simp; omega) HN1.out).trans (by go_simp); have q3 : w5.cell? ⟨R, 3, none⟩ = some (.int .i64 S.live) := (k5.cell (p := ⟨R, 3, none⟩) (by simp; omega) HN1.out).trans (by go_simp); have q3f : w5.frozen? ⟨R, 3, none⟩ = false := (k5.frozen (p := ⟨R, 3, none⟩) (by simp; omega) HN1.out).trans (by go_simp)))
        all_goals
          go_wp2_with fail
          obtain ⟨L, hL⟩ : ∃ L, (S.take ag ar).live = L := ⟨_, rfl⟩
          have hLE : Hid (L = (S.cells.length : Int) + 1) := by show _ = _; rw [← hL, ht]; simp [Ars.live]; omega
          have hLv : (S.cells.length : Int) < L := by rw [hLE.out]; omega
          have HTT := Lib.hid ht
          have HO := Lib.hid (HP.out.ok.take ag ar)
          refine absW (fun W => RTMid w W R S F (S.take ag ar)) (rmid_b HP.out HL.out (Kp.of_below HB.out) hz1 XH.out hk1 h3 c1 ht k5 (o5.imp id fun e => ⟨_, e, by simp⟩) (fun xs' hr' => by rw [row_same hr' HR.out]; exact r5) rfl) ?_
          intro W MID
          obtain ⟨w3c, w4c, w4f⟩ := MID.head
          rw [hL] at w3c
          have M := Lib.hid MID
          clear ht hL MID
          (refine region_tail 10 (by kernel_rfl) (by kernel_rfl) ?_; simp only [List.take_succ_cons, List.take_zero, List.drop_succ_cons, List.drop_zero]; repeat still_step; try refine wpStill_nil ?_)
          go_wp2
          go_ret2
          exact ⟨retI2 hn.symm rfl, rtake_close M.out HO.out (by rw [HTT.out, hLE.out]; simp)⟩
end Go.Proofs.Ythbobooiedcofaa
namespace Go.Proofs.Ythbobooiedcofaa
open Go.RowKit

theorem rr_take (R : Nat) (S : Ars) (F : List Nat) (ag ar : Int) (w : World) (h : RA w R S F) :
    Calls Try.prog 52 #[.pointer (some ⟨R, 0, none⟩), .int .i64 ag, .int .i64 ar] w fun e w' => e = .returned (.tuple #[.int .i64 (S.takeC ag ar), .int .i64 (S.takeE ag ar)]) ∧ (∃ F', RA w' R (S.take ag ar) F' ∧ ∀ b ∈ F', b ∈ F ∨ w.heap.size ≤ b) ∧ Kp F w w' := by
  by_cases hb : Ars.bad ag ar
  · refine (rr_take_bad R S F ag ar w h hb).mono ?_
    rintro e w' ⟨rfl, rfl⟩
    have he : S.takeE ag ar = 1 := by unfold Ars.takeE; rw [if_pos hb]
    have hc : S.takeC ag ar = 0 := by unfold Ars.takeC; rw [if_pos hb]
    exact ⟨by rw [he, hc], ⟨F, by rw [Ars.take_same (by rw [he]; decide)]; exact h, fun b hb => .inl hb⟩, Kp.refl _ _⟩
  · have he : S.takeE ag ar = S.nextE := by unfold Ars.takeE; rw [if_neg hb]
    have hc : S.takeC ag ar = S.nextC := by unfold Ars.takeC; rw [if_neg hb]
    by_cases hn : S.nextE = 0
    · refine (rr_take_ok R S F ag ar w h hb hn).mono ?_
      rintro e w' ⟨rfl, h1, h2⟩
      exact ⟨by rw [he, hc, hn], h1, h2⟩
    · refine (rr_take_full R S F ag ar w h hb hn).mono ?_
      rintro e w' ⟨rfl, hbl⟩
      have hc0 : S.nextC = 0 := by
        unfold Ars.nextE at hn; unfold Ars.nextC
        split at hn
        · exact absurd rfl hn
        · by_cases hl : S.cells.length = S.most
          · rw [if_pos hl]
          · rw [if_neg hl] at hn; exact absurd rfl hn
      exact ⟨by rw [he, hc, hc0], ⟨F, by rw [Ars.take_same (by rw [he]; exact hn)]; exact h.below hbl, fun b hb => .inl hb⟩, Kp.of_below hbl⟩

end Go.Proofs.Ythbobooiedcofaa
namespace Go.Proofs.Ythbobooiedcofaa
open Go.RowKit
attribute [local go_sem] cell_set
set_option maxRecDepth 100000
set_option linter.unusedVariables false

/-- The document's wiring in memory: block B, its arena's block A, all further blocks F. -/
structure RG (w : World) (B A : Nat) (S : Wir) (F : List Nat) : Prop where
  hd : ∃ (FA : List Nat) (pv : Value), w.heap[B]? = some (.cells #[.pointer (some ⟨A, 0, none⟩), pv] 99 (0, 0)) ∧ Row w 49 1 pv S.P.length (wvals S.P) ∧ RA w A S.A FA ∧ (∀ b ∈ ownB pv, b ∉ FA) ∧ F = ownB pv ++ FA
  ok : S.Ok
theorem RA.tys {w : World} {A : Nat} {S : Ars} {F : List Nat} (h : RA w A S F) : ∀ b ∈ F, ∃ c t, w.heap[b]? = some (.cells c t (0, 0)) ∧ (t = 121 ∨ t = 147 ∨ t = 3 ∨ t = 49) := by
  obtain ⟨cv, bv, cs, h0, hl, hw, ha, rfl, ok, hwd⟩ := h.words
  intro b hm
  simp only [List.mem_cons, List.mem_append, List.mem_flatMap] at hm
  rcases hm with rfl | hm | hm | ⟨r, hr, hm⟩
  · exact ⟨_, _, h0.head, .inl rfl⟩
  · obtain ⟨cur, hh⟩ := h0.cells.ty hm; exact ⟨_, _, hh, .inr (.inl rfl)⟩
  · obtain ⟨cur, hh⟩ := h0.back.ty hm; exact ⟨_, _, hh, .inr (.inr (.inl rfl))⟩
  · obtain ⟨cur, hh⟩ := hwd r hr b hm; exact ⟨_, _, hh, .inr (.inr (.inr rfl))⟩
section
variable {w w' : World} {B A : Nat} {S : Wir} {FA : List Nat}
theorem RG.lt (h : RG w B A S FA) : B < w.heap.size := by obtain ⟨_, _, hh, _⟩ := h.hd; exact heap_lt hh
theorem RG.na (h : RG w B A S FA) : B ∉ FA := fun hm => by
  obtain ⟨FR, pv, hh, hr, ha, _, rfl⟩ := h.hd
  rcases List.mem_append.1 hm with hm | hm
  · obtain ⟨cur, h2⟩ := hr.ty hm
    exact ty_ne hh h2 (by decide) rfl
  · obtain ⟨c, t, h2, h3⟩ := ha.tys B hm
    refine ty_ne hh h2 ?_ rfl
    rcases h3 with rfl | rfl | rfl | rfl <;> decide
theorem RG.cells (h : RG w B A S FA) : w.cell? ⟨B, 0, none⟩ = some (.pointer (some ⟨A, 0, none⟩)) ∧ ∃ V c, w.cell? ⟨B, 1, none⟩ = some (.slice V S.P.length c) := by
  obtain ⟨FR, pv, hh, hr, _⟩ := h.hd
  obtain ⟨V, c, rfl, _⟩ := hr.len
  exact ⟨by simp [World.cell?, hh], V, c, by simp [World.cell?, hh]⟩
theorem RG.word (h : RG w B A S FA) {i : Nat} (hi : i < S.P.length) : ∃ g c, w.cell? ⟨B, 1, none⟩ = some (.slice (some ⟨g, 0, none⟩) S.P.length c) ∧ w.cell? ⟨g, i, none⟩ = some (.int .u32 (S.P.getD i 0)) ∧ w.frozen? ⟨g, i, none⟩ = false ∧ g ∈ FA ∧ g < w.heap.size := by
  obtain ⟨FR, pv, hh, hr, ha, hap, rfl⟩ := h.hd
  obtain ⟨g, c, cur, rfl, hg, _⟩ := hr.some_ (by omega)
  refine ⟨g, c, by simp [World.cell?, hh], (hr.cellAt i (by omega)).trans (by simp [wvals, hi]), hr.frozenAt i, by simp [ownB], heap_lt hg⟩
theorem RG.keep (h : RG w B A S FA) (hk : ∀ b ∈ B :: FA, w'.heap[b]? = w.heap[b]?) : RG w' B A S FA := by
  obtain ⟨FR, pv, hh, hr, ha, hap, rfl⟩ := h.hd
  exact ⟨⟨FR, pv, (hk B (by simp)).trans hh, hr.keep fun b hb => hk b (by simp [hb]), ha.keep fun b hb => hk b (by simp [hb]), hap, rfl⟩, h.ok⟩
theorem RG.blt (h : RG w B A S FA) : ∀ b ∈ B :: FA, b < w.heap.size := fun b hb => by
  rcases List.mem_cons.1 hb with rfl | hb
  · exact h.lt
  · obtain ⟨FR, pv, hh, hr, ha, hap, rfl⟩ := h.hd
    rcases List.mem_append.1 hb with hb | hb
    · exact hr.lt b hb
    · exact ha.lt b hb
theorem RG.below (h : RG w B A S FA) (hb : Below w.heap.size w w') : RG w' B A S FA := h.keep fun b hm => hb.block b (h.blt b hm)
theorem RG.kp {G : List Nat} (h : RG w B A S FA) (hk : Kp G w w') (hG : ∀ b ∈ B :: FA, b ∉ G) : RG w' B A S FA := h.keep fun b hb => hk.block b (h.blt b hb) (hG b hb)
theorem wvals_set (l : List Int) (j : Nat) (x : Int) : (wvals l).set j (.int .u32 x) = wvals (l.set j x) := by simp [wvals, List.map_set]
/-- A free port is written. -/
theorem RG.putP (h : RG w B A S FA) {g i c : Nat} (hc : w.cell? ⟨B, 1, none⟩ = some (.slice (some ⟨g, 0, none⟩) S.P.length c)) (hi : i < S.P.length) {v : Int} (hv : 0 ≤ v ∧ v < 4294967296) : RG (w.setCell ⟨g, i, none⟩ (.int .u32 v)) B A { S with P := S.P.set i v } FA := by
  have hna := h.na
  obtain ⟨FR, pv, hh, hr, ha, hap, rfl⟩ := h.hd
  have hpv : pv = .slice (some ⟨g, 0, none⟩) S.P.length c := by simpa [World.cell?, hh] using hc
  subst hpv
  have hgB : B ≠ g := fun e => hna (by rw [e]; simp [ownB])
  have hR := hr.set i (.int .u32 v)
  rw [wvals_set] at hR
  refine ⟨⟨FR, _, (Below.heap_setCell _ _ _ B hgB).trans hh, by simpa using hR, ha.keep fun b hb => Below.heap_setCell _ _ _ b (fun e => hap g (by simp [ownB]) (by have e' : b = g := e; exact e' ▸ hb)), hap, by simp⟩, ⟨h.ok.a, by simpa using h.ok.p, fun x hx => ?_⟩⟩
  rcases List.mem_or_eq_of_mem_set hx with hm | rfl
  · exact h.ok.w x hm
  · exact hv
/-- The arena; what holds where it has turned. -/
theorem RG.split (h : RG w B A S FA) : ∃ P FR, FA = P ++ FR ∧ RA w A S.A FR ∧ ∀ (w' : World) (A' : Ars) (FR' : List Nat), RA w' A A' FR' → Kp FR w w' → (∀ b ∈ FR', b ∈ FR ∨ w.heap.size ≤ b) → RG w' B A { S with A := A' } (P ++ FR') := by
  have hna := h.na
  obtain ⟨FR, pv, hh, hr, ha, hap, rfl⟩ := h.hd
  refine ⟨ownB pv, FR, rfl, ha, fun w' A' FR' h' hk hn => ⟨⟨FR', pv, (hk.block B (heap_lt hh) (fun hm => hna (List.mem_append_right _ hm))).trans hh, hr.keep fun b hb => hk.block b (hr.lt b hb) (hap b hb), h', fun b hb hm => ?_, rfl⟩, ⟨h'.ok, h.ok.p, h.ok.w⟩⟩⟩
  rcases hn b hm with hm | hm
  · exact hap b hb hm
  · have := hr.lt b hb; omega
end
section
variable (B A : Nat) (S : Wir) (FA : List Nat) (w : World)
set_option maxHeartbeats 1000000 in
theorem rw_word (c s : Int) (h : RG w B A S FA) : Calls Try.prog 67 #[.pointer (some ⟨B, 0, none⟩), .agg #[.int .i64 c, .int .i64 s]] w fun e w' => e = .returned (.tuple #[.int .u32 (S.wV (c, s)), .int .i64 (S.wE (c, s))]) ∧ Below w.heap.size w w' := by
  by_cases hc : c = -1
  · subst hc
    by_cases h1 : s < 0
    · have e1 : S.wE (-1, s) = 30 := by unfold Wir.wE; rw [if_pos rfl, if_pos (.inl h1)]
      have e2 : S.wV (-1, s) = 0 := by unfold Wir.wV; rw [if_pos rfl, if_pos (.inl h1)]
      rw [e1, e2]
      have hX : Below w.heap.size w (w.alloc (.cells #[.int .i64 (-1), .int .i64 s] 39)) := (Below.refl _ _).alloc (Nat.le_refl _) _
      have HX := Lib.hid hX
      have HG := Lib.hid (h.below hX)
      have hlt := h.lt
      obtain ⟨c0, V, cV, c1⟩ := h.cells
      have hP := h.ok.p
      clear hX
      go_enter Try.func67, Try.ntmps67
      go_wp2_with fail
      go_quiet (fail)
      go_wp2_with fail
      go_ret2
      exact ⟨rfl, by (repeat (with_reducible refine below_drewN ?_ _)); (repeat (first | exact Below.refl _ _ | (with_reducible refine Below.drew ?_) | (with_reducible refine Below.alloc ?_ (by (try simp); (try omega)) _) | (with_reducible refine Below.setCell ?_ (by (try simp); (try omega)) _) | (with_reducible refine Below.trans ?_ (Below.mono (by assumption) (by (try simp); (try omega))))))⟩
    · by_cases h2 : (S.P.length : Int) ≤ s
      · have e1 : S.wE (-1, s) = 30 := by unfold Wir.wE; rw [if_pos rfl, if_pos (.inr h2)]
        have e2 : S.wV (-1, s) = 0 := by unfold Wir.wV; rw [if_pos rfl, if_pos (.inr h2)]
        rw [e1, e2]
        have hX : Below w.heap.size w (w.alloc (.cells #[.int .i64 (-1), .int .i64 s] 39)) := (Below.refl _ _).alloc (Nat.le_refl _) _
        have HX := Lib.hid hX
        have HG := Lib.hid (h.below hX)
        have hlt := h.lt
        obtain ⟨c0, V, cV, c1⟩ := h.cells
        have hP := h.ok.p
        clear hX
        go_enter Try.func67, Try.ntmps67
        go_wp2_with fail
        go_quiet (fail)
        go_wp2_with fail
        go_ret2
        exact ⟨rfl, by (repeat (with_reducible refine below_drewN ?_ _)); (repeat (first | exact Below.refl _ _ | (with_reducible refine Below.drew ?_) | (with_reducible refine Below.alloc ?_ (by (try simp); (try omega)) _) | (with_reducible refine Below.setCell ?_ (by (try simp); (try omega)) _) | (with_reducible refine Below.trans ?_ (Below.mono (by assumption) (by (try simp); (try omega))))))⟩
      · obtain ⟨i, rfl⟩ := Int.eq_ofNat_of_zero_le (by omega : 0 ≤ s)
        have hi : i < S.P.length := by omega
        have e1 : S.wE (-1, (i : Int)) = 0 := by unfold Wir.wE; rw [if_pos rfl, if_neg (by omega)]
        have e2 : S.wV (-1, (i : Int)) = S.P.getD i 0 := by unfold Wir.wV; rw [if_pos rfl, if_neg (by omega)]; rfl
        rw [e1, e2]
        obtain ⟨g, cg, k1, k0, _, _, hg⟩ := h.word hi
        generalize S.P.getD i 0 = x at k0 ⊢
        have h3 : ¬ ((i : Int) < 0) := by omega
        have h4 : ¬ ((S.P.length : Int) ≤ (i : Int)) := h2
        have h6 : (i : Int) < (S.P.length : Int) := by omega
        have h7 : (0 : Int) ≤ (i : Int) := by omega
        have hX : Below w.heap.size w (w.alloc (.cells #[.int .i64 (-1), .int .i64 (i : Int)] 39)) := (Below.refl _ _).alloc (Nat.le_refl _) _
        have HX := Lib.hid hX
        have HG := Lib.hid (h.below hX)
        have hlt := h.lt
        obtain ⟨c0, V, cV, c1⟩ := h.cells
        have hP := h.ok.p
        clear hX
        go_enter Try.func67, Try.ntmps67
        clear c1
        go_wp2_with fail
        go_quiet (fail)
        go_wp2_with fail
        go_quiet (fail)
        go_wp2_with fail
        go_ret2
        exact ⟨rfl, by (repeat (with_reducible refine below_drewN ?_ _)); (repeat (first | exact Below.refl _ _ | (with_reducible refine Below.drew ?_) | (with_reducible refine Below.alloc ?_ (by (try simp); (try omega)) _) | (with_reducible refine Below.setCell ?_ (by (try simp); (try omega)) _) | (with_reducible refine Below.trans ?_ (Below.mono (by assumption) (by (try simp); (try omega))))))⟩
  · have hcb : (c == -1) = false := by rw [beq_eq_false_iff_ne]; exact hc
    have e2 : S.wV (c, s) = S.A.getV c s := by unfold Wir.wV; rw [if_neg hc]
    rw [e2]
    obtain ⟨P, FR, _, hra, _⟩ := (h.below (w' := w.alloc (.cells #[.int .i64 c, .int .i64 s] 39)) ((Below.refl _ _).alloc (Nat.le_refl _) _)).split
    have HRA := Lib.hid hra
    clear hra
    by_cases he : S.A.slotE c s = 0
    · have e1 : S.wE (c, s) = 0 := by unfold Wir.wE; rw [if_neg hc, if_pos he]
      rw [e1]
      have HE := Lib.hid he
      clear he e1 e2
      have hX : Below w.heap.size w (w.alloc (.cells #[.int .i64 c, .int .i64 s] 39)) := (Below.refl _ _).alloc (Nat.le_refl _) _
      have HX := Lib.hid hX
      have HG := Lib.hid (h.below hX)
      have hlt := h.lt
      obtain ⟨c0, V, cV, c1⟩ := h.cells
      have hP := h.ok.p
      clear hX
      go_enter Try.func67, Try.ntmps67
      go_wp2_with fail
      go_region_held3 (fun W => (W.cell? ⟨w.heap.size, 0, none⟩ = some (.int .i64 c) ∧ W.cell? ⟨w.heap.size, 1, none⟩ = some (.int .i64 s)) ∧ W.cell? ⟨B, 0, none⟩ = some (.pointer (some ⟨A, 0, none⟩)))
        (exact ⟨⟨by go_simp, by go_simp⟩, HG.out.cells.1⟩)
        (first
          | ((with_reducible refine (rr_get A S.A FR c s _ (by first | exact HRA.out | exact HRA.out.below (Below.refl _ _).drew)).mono ?_); rintro e w' ⟨rfl, rfl⟩; dsimp only; rw [HE.out]))
      all_goals
        go_wp2_with fail
        go_ret2
        exact ⟨rfl, by (repeat (with_reducible refine below_drewN ?_ _)); (repeat (first | exact Below.refl _ _ | (with_reducible refine Below.drew ?_) | (with_reducible refine Below.alloc ?_ (by (try simp); (try omega)) _) | (with_reducible refine Below.setCell ?_ (by (try simp); (try omega)) _) | (with_reducible refine Below.trans ?_ (Below.mono (by assumption) (by (try simp); (try omega))))))⟩
    · have e1 : S.wE (c, s) = 30 := by unfold Wir.wE; rw [if_neg hc, if_neg he]
      have hv : S.A.getV c s = 0 := Ars.getV_no he
      rw [e1, hv]
      have hek : (S.A.slotE c s != 0) = true := bne_iff_ne.2 he
      clear he e1 e2 hv
      have hX : Below w.heap.size w (w.alloc (.cells #[.int .i64 c, .int .i64 s] 39)) := (Below.refl _ _).alloc (Nat.le_refl _) _
      have HX := Lib.hid hX
      have HG := Lib.hid (h.below hX)
      have hlt := h.lt
      obtain ⟨c0, V, cV, c1⟩ := h.cells
      have hP := h.ok.p
      clear hX
      go_enter Try.func67, Try.ntmps67
      go_wp2_with fail
      go_region_held3 (fun W => (W.cell? ⟨w.heap.size, 0, none⟩ = some (.int .i64 c) ∧ W.cell? ⟨w.heap.size, 1, none⟩ = some (.int .i64 s)) ∧ W.cell? ⟨B, 0, none⟩ = some (.pointer (some ⟨A, 0, none⟩)))
        (exact ⟨⟨by go_simp, by go_simp⟩, HG.out.cells.1⟩)
        (first
          | ((with_reducible refine (rr_get A S.A FR c s _ (by first | exact HRA.out | exact HRA.out.below (Below.refl _ _).drew)).mono ?_); rintro e w' ⟨rfl, rfl⟩; dsimp only))
      all_goals
        go_wp2_with fail
        go_ret2
        exact ⟨rfl, by (repeat (with_reducible refine below_drewN ?_ _)); (repeat (first | exact Below.refl _ _ | (with_reducible refine Below.drew ?_) | (with_reducible refine Below.alloc ?_ (by (try simp); (try omega)) _) | (with_reducible refine Below.setCell ?_ (by (try simp); (try omega)) _) | (with_reducible refine Below.trans ?_ (Below.mono (by assumption) (by (try simp); (try omega))))))⟩
end
end Go.Proofs.Ythbobooiedcofaa
