/-
  The document's arena, continued: Take, where there is room.
-/
import Derived.Test.YthbobooiedcofaaRArenaTake
namespace Go.Proofs.Ythbobooiedcofaa
open Go.RowKit
attribute [local go_sem] cell_set
set_option maxRecDepth 100000

theorem RTMid.drew {w W : World} {R : Nat} {S S' : Ars} {F : List Nat} (h : RTMid w W R S F S') : RTMid w W.drew R S F S' := by
  obtain ⟨cv, bv, cs, h0, hl, hr, hap, hF, hk⟩ := h
  exact ⟨cv, bv, cs, h0.drew, hl, fun i c r hc hr' => (hr i c r hc hr').kw (fun _ _ h => h), hap, hF, hk.drew⟩
theorem RTMid.head {w W : World} {R : Nat} {S S' : Ars} {F : List Nat} (h : RTMid w W R S F S') : W.cell? ⟨R, 3, none⟩ = some (.int .i64 S'.live) ∧ W.cell? ⟨R, 4, none⟩ = some (.int .i64 S.cells.length) ∧ W.frozen? ⟨R, 4, none⟩ = false := by
  obtain ⟨cv, bv, cs, h0, hl, hr, hap, hF, hk⟩ := h
  have := h0.head
  exact ⟨by simp [World.cell?, this], by simp [World.cell?, this], by simp [World.frozen?, this]⟩
theorem row_same {w : World} {e : TypeId} {size n : Nat} {v : Value} {xs ys : List Value} (h : Row w e size v n xs) (k : Row w e size v n ys) : xs = ys := by
  rcases h.2 with ⟨rfl, rfl⟩ | ⟨g, cap, cur, rfl, hg, _, _, _, ht⟩
  · have e1 : xs = [] := List.eq_nil_of_length_eq_zero (by simpa using h.1)
    have e2 : ys = [] := List.eq_nil_of_length_eq_zero (by simpa using k.1)
    rw [e1, e2]
  · rcases k.2 with ⟨e, _⟩ | ⟨g', cap', cur', e, hg', _, _, _, ht'⟩
    · simp at e
    · simp only [Value.slice.injEq, Option.some.injEq, Addr.mk.injEq, and_true, true_and] at e
      obtain ⟨rfl, rfl⟩ := e
      rw [hg] at hg'
      injection hg' with hg'
      injection hg' with hg'
      subst hg'
      rw [← ht, ← ht']
theorem u32_info : (Try.prog.info? 49).map (fun i => (i.zero, i.size, i.bytes)) = some (some (.int .u32 0), 1, 4) := by kernel_rfl
theorem rcell_info : (Try.prog.info? 147).map (fun i => (i.zero, i.size, i.bytes)) = some (some (.agg #[.bool false, .int .i64 0, .slice none 0 0]), 3, 40) := by kernel_rfl

set_option maxHeartbeats 4000000 in
theorem rr_take_ok (R : Nat) (S : Ars) (F : List Nat) (ag ar : Int) (w : World) (h : RA w R S F) (hb : ¬ Ars.bad ag ar) (he : S.nextE = 0) :
    Calls Try.prog 52 #[.pointer (some ⟨R, 0, none⟩), .int .i64 ag, .int .i64 ar] w fun e w' => e = .returned (.tuple #[.int .i64 S.nextC, .int .i64 0]) ∧ (∃ F', RA w' R (S.take ag ar) F' ∧ ∀ b ∈ F', b ∈ F ∨ w.heap.size ≤ b) ∧ Kp F w w' := by
  have H := Lib.hid h
  obtain ⟨h1, h2, h3, h4⟩ : 0 ≤ ag ∧ ag < 32 ∧ 0 ≤ ar ∧ ar ≤ 6 := by unfold Ars.bad at hb; omega
  have HE := Lib.hid he
  have HT := Lib.hid (Ars.take_cases h.ok hb he)
  have hm2 := h.ok.most2
  have hcl := h.ok.len
  have hbl := h.ok.back_le
  have hRl : R < w.heap.size := by obtain ⟨_, _, _, _, _, _, _, _, _, _, hRl⟩ := h.head; exact hRl
  obtain ⟨i4, hi4, hi41, hi42, hi43⟩ := info_parts u32_info
  clear h hb he
  go_enter Try.func52, Try.ntmps52
  go_wp2_with (go_at_call 100; refine (rr_next _ S F _ H.out).mono ?_; rintro e w1 ⟨rfl, hb1⟩; rw [HE.out]; have hz1 := hb1.size)
  go_loopw [11] (fun i wr => ∃ k : Nat, i = .int .i64 k ∧ (k : Int) ≤ ar + 1 ∧ Hid (∃ v, WB w1 wr ag k v)) (fun i _ => (ar + 1 - intOf i).toNat)
  case atStart => exact ⟨0, rfl, by omega, Lib.hid ⟨_, (Below.refl _ _).alloc (Nat.le_refl _) _, heap_alloc_new w1 _, Row.nil _ _ _, by simp [ownB]⟩⟩
  case round =>
    obtain ⟨k, rfl, hk, X0⟩ := hrel
    obtain ⟨v, X⟩ := X0.out
    obtain ⟨V, cp, rfl, hcp⟩ := X.row.len
    have XH := Lib.hid X
    have x2 := X.cell (j := 2) rfl
    have x2f := X.frozen 2
    have hXl := heap_lt X.blk
    by_cases hlt : (k : Int) ≤ ar
    · have HR : Hid (Row (wr.alloc (.cells #[.int .u32 4294967295] 49)) 49 1 (.slice V k cp) k (wvals (List.replicate k 4294967295))) := X.row.alloc _
      have HSrc : Hid (Src (wr.alloc (.cells #[.int .u32 4294967295] 49)) (some ⟨wr.heap.size, 0, none⟩) 1 1 [.int .u32 4294967295]) :=
        Src.block (cs := #[.int .u32 4294967295]) (t := 49) (fr := (0, 0)) (heap_alloc_new wr _) rfl (by simp [Value.oneCell'])
      have HB63 : k + 1 ≤ maxLen := by simp only [maxLen]; omega
      have HB47 : (k + 1) * 4 ≤ 140737488355328 := by omega
      have HX : Hid (w1.heap.size ∉ ownB (.slice V k cp)) := fun hb => by have := X.own _ hb; omega
      clear X
      go_wp2_with (at_builtin; go_loud (refine inPlain rfl (wpo_row_append _ _ _ rfl i4 _ 4 Try.underlying97 hi4 hi41 hi42 hi43 rfl rfl HR.out _ 1 1 rfl [.int .u32 4294967295] HSrc.out HB63 HB47 ?_)); intro sv5 w5 r5 k5 o5; obtain ⟨V5, cp5, rfl, hc5⟩ := r5.len
                   go_loud (have q2 : w5.cell? ⟨w1.heap.size, 2, none⟩ = some (.slice V k cp) := (k5.cell (p := ⟨w1.heap.size, 2, none⟩) (by simp; omega) HX.out).trans (by go_simp))
                   go_loud (have q3 : w5.frozen? ⟨w1.heap.size, 2, none⟩ = false := (k5.frozen (p := ⟨w1.heap.size, 2, none⟩) (by simp; omega) HX.out).trans (by go_simp)))
      go_roundw
      case rel => exact ⟨k + 1, by go_num, by omega, Lib.hid ⟨_, XH.out.append k5 (o5.imp id fun e => ⟨_, e, by simp⟩) r5⟩⟩
      case measure => simp [intOf]; omega
    · have hk1 : (k : Int) = ar + 1 := by omega
      have hbr := hb1.trans (X.below.mono hb1.size)
      have HP : Hid (RA wr R S F) := H.out.below hbr
      have HB := Lib.hid hbr
      have HL : Hid (∀ b ∈ F, b < w1.heap.size) := fun b hb => Nat.lt_of_lt_of_le (H.out.lt b hb) hb1.size
      have x0 := X.cell (j := 0) rfl
      have x1 := X.cell (j := 1) rfl
      have hRr : R < wr.heap.size := by have := hbr.size; omega
      have hRX : R ≠ w1.heap.size := by omega
      obtain ⟨VC, VB, cc, cb, c0, c1, c2, c3, c4, cf, _⟩ := HP.out.head
      have f1 := cf 1
      have f2 := cf 2
      have f3 := cf 3
      have f4 := cf 4
      have hlv : Hid (0 ≤ S.live ∧ S.live ≤ 4096) := by constructor <;> (unfold Ars.live; omega)
      have hlv1 := hlv.out.1
      have hlv2 := hlv.out.2
      clear X hbr cf c0
      rcases HT.out with ⟨b, hl, hn, ht, hcb⟩ | ⟨hb0, hn, hlt2, ht⟩
      · obtain ⟨g2, cb2, d2, hg2, _, hp, hncb⟩ := HP.out.last hl
        rw [d2] at c2
        simp only [Option.some.injEq, Value.slice.injEq, true_and] at c2
        obtain ⟨rfl, rfl⟩ := c2
        obtain ⟨g, cc', r, k1, hgl, ha, hr, hf, hlt2⟩ := HP.out.at_ hcb
        rw [k1] at c1
        simp only [Option.some.injEq, Value.slice.injEq, true_and] at c1
        obtain ⟨rfl, rfl⟩ := c1
        obtain ⟨m, hm⟩ : ∃ m, S.back.length = m + 1 := ⟨S.back.length - 1, by omega⟩
        cases r with
        | some y => exact ha.elim
        | none =>
          rw [hn]
          have z0 : wr.cell? ⟨g, b * 3, none⟩ = some (.bool false) := hr 0 (by omega)
          have z1 : wr.cell? ⟨g, b * 3 + 1, none⟩ = some (.int .i64 0) := hr 1 (by omega)
          have z2 : wr.cell? ⟨g, b * 3 + 2, none⟩ = some (.slice none 0 0) := hr 2 (by omega)
          have hRg : R ≠ g := by
            obtain ⟨cvP, bvP, csP, p0, _⟩ := HP.out
            have hcv := RA.slice p0 k1
            subst hcv
            exact fun e => p0.a1 (by simp [ownB, e])
          have hXg : w1.heap.size ≠ g := by
            have : g ∈ F := by
              obtain ⟨cvP, bvP, csP, p0, _, _, _, rfl, _⟩ := HP.out
              have hcv := RA.slice p0 k1
              subst hcv
              simp [ownB]
            have := HL.out g this; omega
          clear hr ha
          go_wp2_with fail
          have hmb : m ≤ 4096 := by omega
          have hmc : m ≤ cb2 := by omega
          have hmw : IntKind.i64.wrap (m : Int) = (m : Int) := by rw [IntKind.wrap_i64]; omega
          (refine region_tail 12 (by kernel_rfl) (by kernel_rfl) ?_; simp only [List.take_succ_cons, List.take_zero, List.drop_succ_cons, List.drop_zero]; repeat still_step; try refine wpStill_nil ?_)
          go_wp2_with fail
          (refine region_tail 7 (by kernel_rfl) (by kernel_rfl) ?_; simp only [List.take_succ_cons, List.take_zero, List.drop_succ_cons, List.drop_zero]; repeat still_step; try refine wpStill_nil ?_)
          go_wp2_with fail
          obtain ⟨L, hL⟩ : ∃ L, (S.take ag ar).live = L := ⟨_, rfl⟩
          have hLv : L ≤ S.cells.length := by rw [← hL, ht]; simp [Ars.live]; omega
          have HTT := Lib.hid ht
          have HO := Lib.hid (HP.out.ok.take ag ar)
          refine absW (fun W => RTMid w W R S F (S.take ag ar)) ((rmid_a HP.out HL.out (Kp.of_below HB.out) hz1 XH.out hk1 h3 hcb hm ht k1 d2 hncb rfl).drew.drew) ?_
          intro W MID
          obtain ⟨w3c, w4c, w4f⟩ := MID.head
          rw [hL] at w3c
          have M := Lib.hid MID
          clear ht hL MID
          (refine region_tail 10 (by kernel_rfl) (by kernel_rfl) ?_; simp only [List.take_succ_cons, List.take_zero, List.drop_succ_cons, List.drop_zero]; repeat still_step; try refine wpStill_nil ?_)
          go_wp2
          go_ret2
          exact ⟨rfl, rtake_close M.out HO.out (by rw [HTT.out]; simp)⟩
      · have hB0 : S.back.length = 0 := by rw [hb0]; rfl
        obtain ⟨i0, hi0, hi1, hi2, hi3⟩ := info_parts rcell_info
        have hrow : ∃ xs, Row wr 147 3 (.slice VC S.cells.length cc) S.cells.length xs ∧ R ∉ ownB (.slice VC S.cells.length cc) := by
          obtain ⟨cvP, bvP, csP, p0, pl, _⟩ := HP.out
          have e1 : cvP = .slice VC S.cells.length cc := by have := p0.head; simpa [World.cell?, this] using c1
          subst e1
          have := p0.cells
          rw [pl] at this
          exact ⟨_, this, p0.a1⟩
        obtain ⟨xs, hrow, hnR⟩ := hrow
        have HR := Lib.hid hrow
        have HN1 := Lib.hid hnR
        have HB63 : S.cells.length + 1 ≤ maxLen := by simp only [maxLen]; omega
        have HB47 : (S.cells.length + 1) * 40 ≤ 140737488355328 := by omega
        rw [hB0] at c2
        clear hrow hnR
        rw [hn]
        go_wp2_with fail
        go_region_law
          ((refine inDraw (by rfl) (wpo_row_append _ _ _ (by rfl) i0 _ 40 Try.underlying119 hi0 hi1 hi2 hi3 (by rfl) (by rfl) (HR.out.alloc (.cells #[.bool true, .int .i64 ag, .slice V k cp] 147)).drew _ 1 1 (by rfl) [.bool true, .int .i64 ag, .slice V k cp] (Src.block (cs := #[.bool true, .int .i64 ag, .slice V k cp]) (t := 147) (fr := (0, 0)) (heap_alloc_new wr _) (by rfl) (by simp [Value.oneCell'])).drew HB63 HB47 ?_); intro sv5 w5 r5 k5 o5; obtain ⟨V5, cp5, rfl, hc5⟩ := r5.len; have q1 : w5.cell? ⟨R, 1, none⟩ = some (.slice VC S.cells.length cc) := (k5.cell (p := ⟨R, 1, none⟩) (by simp; omega) HN1.out).trans (by go_simp); have q1f : w5.frozen? ⟨R, 1, none⟩ = false := (k5.frozen (p := ⟨R, 1, none⟩) (by simp; omega) HN1.out).trans (by go_simp); have q3 : w5.cell? ⟨R, 3, none⟩ = some (.int .i64 S.live) := (k5.cell (p := ⟨R, 3, none⟩) (by simp; omega) HN1.out).trans (by go_simp); have q3f : w5.frozen? ⟨R, 3, none⟩ = false := (k5.frozen (p := ⟨R, 3, none⟩) (by simp; omega) HN1.out).trans (by go_simp)))
        all_goals
          go_wp2_with fail
          obtain ⟨L, hL⟩ : ∃ L, (S.take ag ar).live = L := ⟨_, rfl⟩
          have hLE : Hid (L = (S.cells.length : Int) + 1) := by show _ = _; rw [← hL, ht]; simp [Ars.live]; omega
          have hLv : (S.cells.length : Int) < L := by rw [hLE.out]; omega
          have HTT := Lib.hid ht
          have HO := Lib.hid (HP.out.ok.take ag ar)
          refine absW (fun W => RTMid w W R S F (S.take ag ar)) (rmid_b HP.out HL.out (Kp.of_below HB.out) hz1 XH.out hk1 h3 c1 ht k5 (o5.imp id fun e => ⟨_, e, by simp⟩) (fun xs' hr' => by rw [row_same hr' HR.out]; exact r5) rfl) ?_
          intro W MID
          obtain ⟨w3c, w4c, w4f⟩ := MID.head
          rw [hL] at w3c
          have M := Lib.hid MID
          clear ht hL MID
          (refine region_tail 10 (by kernel_rfl) (by kernel_rfl) ?_; simp only [List.take_succ_cons, List.take_zero, List.drop_succ_cons, List.drop_zero]; repeat still_step; try refine wpStill_nil ?_)
          go_wp2
          go_ret2
          exact ⟨retI2 hn.symm rfl, rtake_close M.out HO.out (by rw [HTT.out, hLE.out]; simp)⟩
end Go.Proofs.Ythbobooiedcofaa
