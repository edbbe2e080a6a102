/-
  Contracts of package arena, continued: Take.
-/
import Derived.Test.YthbobooiedcofaaArenaGive
namespace Go.Proofs.Ythbobooiedcofaa
open Go.RowKit
attribute [local go_sem] cell_set
set_option maxRecDepth 100000

theorem ar_take_bad (A : Nat) (S : Ars) (F : List Nat) (ag ar : Int) (w : World) (h : PA w A S F) (hb : Ars.bad ag ar) :
    Calls Try.prog 51 #[.pointer (some ⟨A, 0, none⟩), .int .i64 ag, .int .i64 ar] w fun e w' => e = .returned (.tuple #[.int .i64 0, .int .i64 1]) ∧ w = w' := by
  obtain ⟨VC, VB, cc, cb, c0, c1, c2, c3, hAl⟩ := h.head
  have hne := ok_ne h.ok
  clear h
  rcases (by unfold Ars.bad at hb; omega : ag < 0 ∨ (0 ≤ ag ∧ 32 ≤ ag) ∨ (0 ≤ ag ∧ ag < 32 ∧ ar < 0) ∨ (0 ≤ ag ∧ ag < 32 ∧ 0 ≤ ar ∧ 6 < ar)) with h1 | ⟨h1, h2⟩ | ⟨h1, h2, h3⟩ | ⟨h1, h2, h3, h4⟩
  all_goals
    go_enter Try.func51, Try.ntmps51
    go_wp2_with (go_at_call 91; refine (ar_none_is _ S.most _ hne (by go_simp)).mono ?_; rintro e w' ⟨rfl, rfl⟩)
    go_ret2
    exact ⟨rfl, rfl⟩
theorem ar_take_full (A : Nat) (S : Ars) (F : List Nat) (ag ar : Int) (w : World) (h : PA w A S F) (hb : ¬ Ars.bad ag ar) (he : S.nextE ≠ 0) :
    Calls Try.prog 51 #[.pointer (some ⟨A, 0, none⟩), .int .i64 ag, .int .i64 ar] w fun e w' => e = .returned (.tuple #[.int .i64 0, .int .i64 S.nextE]) ∧ Below w.heap.size w w' := by
  obtain ⟨VC, VB, cc, cb, c0, c1, c2, c3, hAl⟩ := h.head
  have hne := ok_ne h.ok
  have H := Lib.hid h
  have hE : S.nextE = 40 := S.nextE_eq.resolve_left he
  obtain ⟨h1, h2, h3, h4⟩ : 0 ≤ ag ∧ ag < 32 ∧ 0 ≤ ar ∧ ar ≤ 6 := by unfold Ars.bad at hb; omega
  have HE := Lib.hid hE
  clear h hb he hE
  go_enter Try.func51, Try.ntmps51
  go_wp2_with (first
    | (go_at_call 91; refine (ar_none_is _ S.most _ hne (by go_simp)).mono ?_; rintro e w' ⟨rfl, rfl⟩)
    | (go_at_call 99; refine (ar_next _ S F _ H.out).mono ?_; rintro e w1 ⟨rfl, hb1⟩; rw [HE.out]))
  go_ret2
  exact ⟨retI2 rfl HE.out.symm, hb1⟩

def xcell (ag ar : Int) (k : Nat) : Array Value := (Value.int .i64 ag :: Value.int .i64 ar :: (List.replicate k (Value.int .u32 4294967295) ++ List.replicate (7 - k) (Value.int .u32 0))).toArray
theorem xcell_set (ag ar : Int) {k : Nat} (hk : k < 7) : (xcell ag ar k).setIfInBounds (2 + k) (.int .u32 4294967295) = xcell ag ar (k + 1) := by
  rcases (by omega : k = 0 ∨ k = 1 ∨ k = 2 ∨ k = 3 ∨ k = 4 ∨ k = 5 ∨ k = 6) with rfl | rfl | rfl | rfl | rfl | rfl | rfl <;> rfl
theorem xcell_at (ag ar : Int) {k : Nat} (hk : k < 7) : (xcell ag ar k)[2 + k]? = some (.int .u32 0) := by
  rcases (by omega : k = 0 ∨ k = 1 ∨ k = 2 ∨ k = 3 ∨ k = 4 ∨ k = 5 ∨ k = 6) with rfl | rfl | rfl | rfl | rfl | rfl | rfl <;> rfl
/-- The new cell in the making. -/
structure XAt (w1 wr : World) (ag ar : Int) (k : Nat) : Prop where
  below : Below w1.heap.size w1 wr
  lt : w1.heap.size < wr.heap.size
  blk : wr.heap[w1.heap.size]? = some (.cells (xcell ag ar k) 150 (0, 0))
theorem XAt.set {w1 wr : World} {ag ar : Int} {k : Nat} (h : XAt w1 wr ag ar k) (hk : k < 7) : XAt w1 (wr.setCell ⟨w1.heap.size, 2 + k, none⟩ (.int .u32 4294967295)) ag ar (k + 1) := by
  refine ⟨h.below.setCell (Nat.le_refl _) _, by simpa using h.lt, ?_⟩
  rw [← xcell_set ag ar hk]
  simp [World.setCell, Array.getElem?_modify, h.blk]
theorem XAt.cell {w1 wr : World} {ag ar : Int} {k j : Nat} {v : Value} (h : XAt w1 wr ag ar k) (hv : (xcell ag ar k)[j]? = some v) : wr.cell? ⟨w1.heap.size, j, none⟩ = some v := by
  simp only [World.cell?, h.blk]; exact hv
theorem XAt.frozen {w1 wr : World} {ag ar : Int} {k : Nat} (h : XAt w1 wr ag ar k) (j : Nat) : wr.frozen? ⟨w1.heap.size, j, none⟩ = false := by
  simp [World.frozen?, h.blk]

theorem acell_info : (Try.prog.info? 150).map (fun i => (i.zero, i.size, i.bytes)) = some (some (.agg #[.int .i64 0, .int .i64 0, .int .u32 0, .int .u32 0, .int .u32 0, .int .u32 0, .int .u32 0, .int .u32 0, .int .u32 0]), 9, 48) := by kernel_rfl
theorem nine_of {r : List Value} (h : r.length = 9) : ∃ r0 r1 r2 r3 r4 r5 r6 r7 r8, r = [r0, r1, r2, r3, r4, r5, r6, r7, r8] := by
  match r, h with
  | [a, b, c, d, e, f, g, i, j], _ => exact ⟨a, b, c, d, e, f, g, i, j, rfl⟩

/-- Behind the store of the new cell. -/
def TakeMid (w W : World) (A : Nat) (S : Ars) (F : List Nat) (S' : Ars) : Prop :=
  ∃ cv bv rows, PA0 W A S'.most (S.cells.length : Int) cv bv rows S'.back ∧ rows.length = S'.cells.length ∧ (∀ (i : Nat) c r, S'.cells[i]? = some c → rows[i]? = some r → acell c r) ∧
    (∀ b ∈ A :: (ownB cv ++ ownB bv), b ∈ F ∨ w.heap.size ≤ b) ∧ Kp F w W
theorem ar_live_raw (A n k cc cb : Nat) (VC VB : Option Addr) (w : World) (c1 : w.cell? ⟨A, 1, none⟩ = some (.slice VC n cc)) (c2 : w.cell? ⟨A, 2, none⟩ = some (.slice VB k cb)) (hk : k ≤ n) (hn : n ≤ 5000) :
    Calls Try.prog 92 #[.pointer (some ⟨A, 0, none⟩)] w fun e w' => e = .returned (.int .i64 ((n : Int) - k)) ∧ Below w.heap.size w w' := by
  go_enter Try.func92, Try.ntmps92
  go_wp2
  go_quiet (fail)
  go_wp2
  go_ret
  exact ⟨rfl, below_drewN (Below.refl _ _) _⟩
theorem take_close {w W : World} {A : Nat} {S S' : Ars} {F : List Nat} (h : TakeMid w W A S F S') (hok : S'.Ok) {w7 : World} (hb : Below W.heap.size W w7) {q : Int} (hq : q = (S'.cells.length : Int)) :
    (∃ F', PA (w7.setCell ⟨A, 3, none⟩ (.int .i64 q)) A S' F' ∧ ∀ b ∈ F', b ∈ F ∨ w.heap.size ≤ b) ∧ Kp F w (w7.setCell ⟨A, 3, none⟩ (.int .i64 q)) := by
  obtain ⟨cv, bv, rows, h0, hl, hr, hF, hk⟩ := h
  have h1 := (h0.keep (fun b hb' => hb.block b (h0.lt b hb'))).setPeak q
  refine ⟨⟨_, h1.pa rfl hq rfl hl hr hok, hF⟩, ?_⟩
  exact (hk.thenBelow hb).setCell (hF A (by simp)) _
theorem fresh_acell (ag ar : Int) (h3 : 0 ≤ ar) (h4 : ar ≤ 6) : acell (Ars.fresh ag ar) (xcell ag ar 7).toList := by
  obtain ⟨n, rfl⟩ := Int.eq_ofNat_of_zero_le h3
  refine ⟨rfl, rfl, ?_, fun j hj => ?_, ⟨ag, _, _, _, _, _, _, _, _, rfl⟩⟩
  · simp [xcell]
  · simp at hj
    simp only [xcell, Nat.sub_self, List.replicate_zero, List.append_nil, Int.toNat_natCast]
    rw [show 2 + j = j + 1 + 1 by omega]
    simp only [List.getElem?_cons_succ, List.getElem?_replicate]
    rw [if_pos (by omega), List.getD_eq_getElem?_getD, List.getElem?_replicate, if_pos hj]; rfl
theorem take_mid_a {w wr : World} {A : Nat} {S : Ars} {F : List Nat} (h : PA wr A S F) (hkw : Kp F w wr) {ag ar : Int} (h3 : 0 ≤ ar) (h4 : ar ≤ 6) {b g cc g2 cb m : Nat} (hcb : S.cells[b]? = some none) (hm : S.back.length = m + 1)
    (ht : S.take ag ar = { S with cells := S.cells.set b (Ars.fresh ag ar), back := S.back.dropLast })
    (k1 : wr.cell? ⟨A, 1, none⟩ = some (.slice (some ⟨g, 0, none⟩) S.cells.length cc)) (d2 : wr.cell? ⟨A, 2, none⟩ = some (.slice (some ⟨g2, 0, none⟩) S.back.length cb)) (hncb : S.back.length ≤ cb) :
    TakeMid w ((((((((((wr.setCell ⟨A, 2, none⟩ (.slice (some ⟨g2, 0, none⟩) m m)).setCell ⟨g, b * 9, none⟩ (.int .i64 ag)).setCell ⟨g, b * 9 + 1, none⟩ (.int .i64 ar)).setCell ⟨g, b * 9 + 2, none⟩ (.int .u32 4294967295)).setCell ⟨g, b * 9 + 3, none⟩ (.int .u32 4294967295)).setCell ⟨g, b * 9 + 4, none⟩ (.int .u32 4294967295)).setCell ⟨g, b * 9 + 5, none⟩ (.int .u32 4294967295)).setCell ⟨g, b * 9 + 6, none⟩ (.int .u32 4294967295)).setCell ⟨g, b * 9 + 7, none⟩ (.int .u32 4294967295)).setCell ⟨g, b * 9 + 8, none⟩ (.int .u32 4294967295)).drew A S F (S.take ag ar) := by
  obtain ⟨cv, bv, rows, h0, hl, hr, rfl⟩ := h.p0
  have e1 : cv = .slice (some ⟨g, 0, none⟩) S.cells.length cc := by have := h0.head; simpa [World.cell?, this] using k1
  have e2 : bv = .slice (some ⟨g2, 0, none⟩) S.back.length cb := by have := h0.head; simpa [World.cell?, this] using d2
  subst e1 e2
  have hblt : b < S.cells.length := by
    rcases Nat.lt_or_ge b S.cells.length with hl | hl
    · exact hl
    · rw [List.getElem?_eq_none hl] at hcb; cases hcb
  have hir : rows[b]? = some (rows[b]'(by omega)) := List.getElem?_eq_getElem (by omega)
  have s1 := h0.setBack (Kp.refl [] wr) ⟨by simp, by simp⟩ (bv' := .slice (some ⟨g2, 0, none⟩) m m) (back' := S.back.dropLast) (by
    have := h0.back.cut (k := m) (c := m) (by omega) (Nat.le_refl _) (by omega)
    have hd : S.back.dropLast.length = m := by simp [hm]
    rw [hd, List.dropLast_eq_take, List.map_take, hm]
    simpa using this)
  obtain ⟨r, hrr⟩ : ∃ r, rows[b]'(by omega) = r := ⟨_, rfl⟩
  rw [hrr] at hir
  have hb0 : b < rows.length := by omega
  have t0 := s1.turn hir (by omega : 0 < 9) (.int .i64 ag)
  have t1 := t0.turn (i := b) (List.getElem?_set_self hb0) (by omega : 1 < 9) (.int .i64 ar)
  have t2 := t1.turn (i := b) (List.getElem?_set_self (by simpa using hb0)) (by omega : 2 < 9) (.int .u32 4294967295)
  have t3 := t2.turn (i := b) (List.getElem?_set_self (by simpa using hb0)) (by omega : 3 < 9) (.int .u32 4294967295)
  have t4 := t3.turn (i := b) (List.getElem?_set_self (by simpa using hb0)) (by omega : 4 < 9) (.int .u32 4294967295)
  have t5 := t4.turn (i := b) (List.getElem?_set_self (by simpa using hb0)) (by omega : 5 < 9) (.int .u32 4294967295)
  have t6 := t5.turn (i := b) (List.getElem?_set_self (by simpa using hb0)) (by omega : 6 < 9) (.int .u32 4294967295)
  have t7 := t6.turn (i := b) (List.getElem?_set_self (by simpa using hb0)) (by omega : 7 < 9) (.int .u32 4294967295)
  have t8 := t7.turn (i := b) (List.getElem?_set_self (by simpa using hb0)) (by omega : 8 < 9) (.int .u32 4294967295)
  have hr9 : r.length = 9 := h0.nine r (List.mem_of_getElem? hir)
  obtain ⟨r0, r1, r2, r3, r4, r5, r6, r7, r8, rfl⟩ := nine_of hr9
  simp only [List.set_set, List.set_cons_zero, List.set_cons_succ] at t8
  have kall : Kp (A :: (ownB (.slice (some ⟨g, 0, none⟩) S.cells.length cc) ++ ownB (.slice (some ⟨g2, 0, none⟩) S.back.length cb))) w ((((((((((wr.setCell ⟨A, 2, none⟩ (.slice (some ⟨g2, 0, none⟩) m m)).setCell ⟨g, b * 9, none⟩ (.int .i64 ag)).setCell ⟨g, b * 9 + 1, none⟩ (.int .i64 ar)).setCell ⟨g, b * 9 + 2, none⟩ (.int .u32 4294967295)).setCell ⟨g, b * 9 + 3, none⟩ (.int .u32 4294967295)).setCell ⟨g, b * 9 + 4, none⟩ (.int .u32 4294967295)).setCell ⟨g, b * 9 + 5, none⟩ (.int .u32 4294967295)).setCell ⟨g, b * 9 + 6, none⟩ (.int .u32 4294967295)).setCell ⟨g, b * 9 + 7, none⟩ (.int .u32 4294967295)).setCell ⟨g, b * 9 + 8, none⟩ (.int .u32 4294967295)) := by
    iterate 10 refine Kp.setCell ?_ (.inl (by simp [ownB])) _
    exact hkw
  refine ⟨.slice (some ⟨g, 0, none⟩) S.cells.length cc, .slice (some ⟨g2, 0, none⟩) m m, rows.set b (xcell ag ar 7).toList, ?_, ?_, ?_, ?_, kall.drew⟩
  · rw [ht]; exact t8.drew
  · rw [ht]; simpa using hl
  · rw [ht]; exact rows_set hr hl (fresh_acell ag ar h3 h4)
  · intro x hx; exact .inl (by simpa [ownB] using hx)

theorem take_mid_b {w wr w5 : World} {A : Nat} {S : Ars} {F : List Nat} (hkw : Kp F w wr) {ag ar : Int} (h3 : 0 ≤ ar) (h4 : ar ≤ 6) {VC VB : Option Addr} {cc cb : Nat} {rows : List (List Value)} {o : Obj} {v5 : Value}
    (h0 : PA0 wr A S.most (S.cells.length : Int) (.slice VC S.cells.length cc) (.slice VB S.back.length cb) rows S.back) (hl : rows.length = S.cells.length) (hr : ∀ (i : Nat) c r, S.cells[i]? = some c → rows[i]? = some r → acell c r)
    (hF : F = A :: (ownB (.slice VC S.cells.length cc) ++ ownB (.slice VB S.back.length cb))) (ht : S.take ag ar = { S with cells := S.cells ++ [Ars.fresh ag ar] })
    (k5 : Kp (ownB (.slice VC S.cells.length cc)) ((wr.alloc o).drew) w5) (o5 : ownB v5 = ownB (.slice VC S.cells.length cc) ∨ ownB v5 = [((wr.alloc o).drew).heap.size])
    (r5 : Row w5 150 9 v5 (S.cells.length + 1) (rows.flatten ++ (xcell ag ar 7).toList)) :
    TakeMid w (w5.setCell ⟨A, 1, none⟩ v5) A S F (S.take ag ar) := by
  have t1 := (h0.alloc o).drew
  have t2 := t1.setCells k5 ⟨h0.a1, fun b hb hb' => h0.a3 b hb' hb⟩ (cv' := v5) (rows' := rows ++ [(xcell ag ar 7).toList]) (fun r hr => by
    rcases List.mem_append.1 hr with hr | hr
    · exact h0.nine r hr
    · simp at hr; subst hr; rfl) (by simpa [hl] using r5)
  have hkall : Kp F w ((wr.alloc o).drew) := (hkw.alloc o).drew
  refine ⟨v5, _, _, by rw [ht]; exact t2, by rw [ht]; simpa using hl, by rw [ht]; exact rows_snoc hr hl (fresh_acell ag ar h3 h4), fun b hb => ?_, ?_⟩
  · simp only [List.mem_cons, List.mem_append] at hb
    rcases hb with hb | hb | hb
    · exact .inl (by rw [hF]; simp [hb])
    · rcases o5 with e | e
      · rw [e] at hb; exact .inl (by rw [hF]; simp [hb])
      · rw [e] at hb; simp at hb; right; have := hkw.size; omega
    · exact .inl (by rw [hF]; simp [hb])
  · exact (hkall.trans k5 (fun b hb => .inl (by rw [hF]; simp [hb]))).setCell (.inl (by rw [hF]; simp)) _

set_option maxHeartbeats 4000000 in
theorem ar_take_ok (A : Nat) (S : Ars) (F : List Nat) (ag ar : Int) (w : World) (h : PA w A S F) (hb : ¬ Ars.bad ag ar) (he : S.nextE = 0) :
    Calls Try.prog 51 #[.pointer (some ⟨A, 0, none⟩), .int .i64 ag, .int .i64 ar] w fun e w' => e = .returned (.tuple #[.int .i64 S.nextC, .int .i64 0]) ∧ (∃ F', PA w' A (S.take ag ar) F' ∧ ∀ b ∈ F', b ∈ F ∨ w.heap.size ≤ b) ∧ Kp F w w' := by
  obtain ⟨VC, VB, cc, cb, c0, c1, c2, c3, hAl⟩ := h.head
  have hne := ok_ne h.ok
  have H := Lib.hid h
  obtain ⟨h1, h2, h3, h4⟩ : 0 ≤ ag ∧ ag < 32 ∧ 0 ≤ ar ∧ ar ≤ 6 := by unfold Ars.bad at hb; omega
  have HE := Lib.hid he
  have HT := Lib.hid (Ars.take_cases h.ok hb he)
  have hm2 := h.ok.most2
  have hcl := h.ok.len
  have hbl := h.ok.back_le
  clear h hb he
  go_enter Try.func51, Try.ntmps51
  go_wp2_with (first
    | (go_at_call 91; refine (ar_none_is _ S.most _ hne (by go_simp)).mono ?_; rintro e w' ⟨rfl, rfl⟩)
    | (go_at_call 99; refine (ar_next _ S F _ H.out).mono ?_; rintro e w1 ⟨rfl, hb1⟩; rw [HE.out]
       obtain ⟨hc1, hf1⟩ := bcell hb1; have hz1 := hb1.size; (try simp at hz1); have hz1a : A < w1.heap.size := (by omega)))
  go_loopw [42] (fun i wr => ∃ k : Nat, i = .int .i64 k ∧ k ≤ 7 ∧ Hid (XAt w1 wr ag ar k)) (fun i _ => 7 - (intOf i).toNat)
  case atStart => exact ⟨0, rfl, by omega, Lib.hid ⟨(Below.refl _ _).alloc (Nat.le_refl _) _, by simp, heap_alloc_new w1 _⟩⟩
  case round =>
    obtain ⟨k, rfl, hk, X⟩ := hrel
    by_cases hlt : k < 7
    · have x0 := X.out.cell (xcell_at ag ar hlt)
      have x1 := X.out.frozen (2 + k)
      have X' := Lib.hid (X.out.set hlt)
      go_wp2
      go_roundw
      case rel => exact ⟨k + 1, by go_num, by omega, X'⟩
      case measure => simp [intOf]; omega
    · obtain rfl : k = 7 := by omega
      have HP : Hid (PA wr A S F) := (H.out.below hb1).below X.out.below
      have hbr := hb1.trans (X.out.below.mono hb1.size)
      have x0 := X.out.cell (j := 0) (v := .int .i64 ag) rfl
      have x1 := X.out.cell (j := 1) (v := .int .i64 ar) rfl
      have x2 := X.out.cell (j := 2) (v := .int .u32 4294967295) rfl
      have x3 := X.out.cell (j := 3) (v := .int .u32 4294967295) rfl
      have x4 := X.out.cell (j := 4) (v := .int .u32 4294967295) rfl
      have x5 := X.out.cell (j := 5) (v := .int .u32 4294967295) rfl
      have x6 := X.out.cell (j := 6) (v := .int .u32 4294967295) rfl
      have x7 := X.out.cell (j := 7) (v := .int .u32 4294967295) rfl
      have x8 := X.out.cell (j := 8) (v := .int .u32 4294967295) rfl
      have hXl := X.out.lt
      have HB := Lib.hid hbr
      have hArl : A < wr.heap.size := by omega
      clear c0 c1 c2 c3 hc1 hf1 hbr hb1
      rcases HT.out with ⟨b, hl, hn, ht, hcb⟩ | ⟨hb0, hn, hlt, ht⟩
      · obtain ⟨g2, cb2, d2, hg2, _, hp⟩ := HP.out.last hl
        obtain ⟨VB', cb', d2', d2f, _, hAV, hrow⟩ := HP.out.backRow
        obtain ⟨rfl, rfl⟩ : VB' = some ⟨g2, 0, none⟩ ∧ cb' = cb2 := by
          rw [d2] at d2'; simp at d2'; exact ⟨d2'.1.symm, d2'.2.symm⟩
        have hncb : S.back.length ≤ cb' := by obtain ⟨_, _, he, h⟩ := hrow.len; injection he with _ _ he; omega
        obtain ⟨g, cc', r, k1, hgl, ha, hr, hf, hlt2⟩ := HP.out.at_ hcb
        obtain ⟨m, hm⟩ : ∃ m, S.back.length = m + 1 := ⟨S.back.length - 1, by omega⟩
        rw [hn]
        obtain ⟨r0, r1, r2, r3, r4, r5, r6, r7, r8, rfl⟩ := nine_of ha.len
        have z0 : wr.cell? ⟨g, b * 9, none⟩ = some r0 := hr 0 (by omega)
        have z1 : wr.cell? ⟨g, b * 9 + 1, none⟩ = some r1 := hr 1 (by omega)
        have z2 : wr.cell? ⟨g, b * 9 + 2, none⟩ = some r2 := hr 2 (by omega)
        have z3 : wr.cell? ⟨g, b * 9 + 3, none⟩ = some r3 := hr 3 (by omega)
        have z4 : wr.cell? ⟨g, b * 9 + 4, none⟩ = some r4 := hr 4 (by omega)
        have z5 : wr.cell? ⟨g, b * 9 + 5, none⟩ = some r5 := hr 5 (by omega)
        have z6 : wr.cell? ⟨g, b * 9 + 6, none⟩ = some r6 := hr 6 (by omega)
        have z7 : wr.cell? ⟨g, b * 9 + 7, none⟩ = some r7 := hr 7 (by omega)
        have z8 : wr.cell? ⟨g, b * 9 + 8, none⟩ = some r8 := hr 8 (by omega)
        have hAX : A ≠ w1.heap.size := by omega
        obtain ⟨hgB, hAg⟩ := HP.out.apart k1 d2
        clear hr ha
        go_wp2_with fail
        (refine region_tail 7 (by kernel_rfl) (by kernel_rfl) ?_; simp only [List.take_succ_cons, List.take_zero, List.drop_succ_cons, List.drop_zero]; repeat still_step; try refine wpStill_nil ?_)
        go_wp2_with fail
        refine absW (fun W => TakeMid w W A S F (S.take ag ar)) (take_mid_a HP.out (Kp.of_below HB.out) h3 h4 hcb hm ht k1 d2 hncb) ?_
        intro W MID
        have HO := Lib.hid (HP.out.ok.take ag ar)
        obtain ⟨HM1, HM2, HM3⟩ : Hid ((S.take ag ar).most = S.most) ∧ Hid (max (S.cells.length : Int) (((S.take ag ar).cells.length : Int) - ((S.take ag ar).back.length : Int)) = ((S.take ag ar).cells.length : Int)) ∧ (S.take ag ar).cells.length = S.cells.length := by
          rw [ht]; exact ⟨rfl, Lib.hid (by simp; omega), by simp⟩
        obtain ⟨cv, bv, rows, h0, hl0, hr0, hF0, hk0⟩ := MID
        have MID2 : Hid (TakeMid w W A S F (S.take ag ar)) := ⟨cv, bv, rows, h0, hl0, hr0, hF0, hk0⟩
        obtain ⟨VC7, cc7, rfl, _⟩ := h0.cells.len
        obtain ⟨VB7, cb7, rfl, _⟩ := h0.back.len
        have w1c : W.cell? ⟨A, 1, none⟩ = some (.slice VC7 rows.length cc7) := by simp [World.cell?, h0.head]
        have w2c : W.cell? ⟨A, 2, none⟩ = some (.slice VB7 (S.take ag ar).back.length cb7) := by simp [World.cell?, h0.head]
        have w3c : W.cell? ⟨A, 3, none⟩ = some (.int .i64 S.cells.length) := by simp [World.cell?, h0.head]
        have w3f : W.frozen? ⟨A, 3, none⟩ = false := by simp [World.frozen?, h0.head]
        have wAl : A < W.heap.size := heap_lt h0.head
        have LIV := ar_live_raw A rows.length (S.take ag ar).back.length cc7 cb7 VC7 VB7 W.drew w1c w2c (by rw [hl0]; exact HO.out.back_le) (by rw [hl0]; have := HO.out.len; have := HO.out.most2; omega)
        clear z0 z1 z2 z3 z4 z5 z6 z7 z8 x0 x1 x2 x3 x4 x5 x6 x7 x8
        have s3c := Lib.hid w3c
        go_region_with (go_at_call 92; refine LIV.mono ?_; rintro e w7 ⟨rfl, hb7⟩; have w7c := (hb7.cell (p := ⟨A, 3, none⟩) wAl).trans s3c.out; have w7f := (hb7.frozen (p := ⟨A, 3, none⟩) wAl).trans w3f)
        all_goals
          go_wp2_with fail
          go_ret2
          have M := MID2.out
          have O := HO.out
          rw [ht] at M O
          refine ⟨rfl, take_close M O (((Below.refl _ W).drew).trans hb7) ?_⟩
          first | (simp; done) | (simp; omega)
      · obtain ⟨cvP, bvP, rowsP, p0, pl, pr, pF⟩ := HP.out.p0
        obtain ⟨VC, cc, rfl, _⟩ := p0.cells.len
        obtain ⟨VB, cb, rfl, _⟩ := p0.back.len
        have HP0 : Hid (PA0 wr A S.most (S.cells.length : Int) (.slice VC S.cells.length cc) (.slice VB S.back.length cb) rowsP S.back) := by rw [← pl]; rw [pl] at p0 ⊢; exact p0
        have c1 : wr.cell? ⟨A, 1, none⟩ = some (.slice VC S.cells.length cc) := by rw [← pl]; simp [World.cell?, p0.head]
        have c1f : wr.frozen? ⟨A, 1, none⟩ = false := by simp [World.frozen?, p0.head]
        have hB0 : S.back.length = 0 := by rw [hb0]; rfl
        have c2 : wr.cell? ⟨A, 2, none⟩ = some (.slice VB S.back.length cb) := by simp [World.cell?, p0.head]
        rw [hB0] at c2
        have HR : Hid (Row wr 150 9 (.slice VC S.cells.length cc) S.cells.length rowsP.flatten) := by have := p0.cells; rw [pl] at this; exact this
        have HPL := Lib.hid pl
        have HPR := Lib.hid pr
        rw [pl] at pF
        have HPF := Lib.hid pF
        obtain ⟨i0, hi0, hi1, hi2, hi3⟩ := info_parts acell_info
        have HB63 : S.cells.length + 1 ≤ maxLen := by simp only [maxLen]; omega
        have HB47 : (S.cells.length + 1) * 48 ≤ 140737488355328 := by omega
        have HN1 : Hid (A ∉ ownB (.slice VC S.cells.length cc)) := by have := p0.a1; rw [pl] at this; exact this
        clear p0 pl pr pF
        rw [hn]
        go_wp2_with fail
        go_region_law
          ((refine inDraw (by rfl) (wpo_row_append _ _ _ (by rfl) i0 _ 48 Try.underlying116 hi0 hi1 hi2 hi3 (by rfl) (by rfl) (HR.out.alloc (.cells #[.int .i64 ag, .int .i64 ar, .int .u32 4294967295, .int .u32 4294967295, .int .u32 4294967295, .int .u32 4294967295, .int .u32 4294967295, .int .u32 4294967295, .int .u32 4294967295] 150)).drew _ 1 1 (by rfl) [.int .i64 ag, .int .i64 ar, .int .u32 4294967295, .int .u32 4294967295, .int .u32 4294967295, .int .u32 4294967295, .int .u32 4294967295, .int .u32 4294967295, .int .u32 4294967295] (Src.block (cs := #[.int .i64 ag, .int .i64 ar, .int .u32 4294967295, .int .u32 4294967295, .int .u32 4294967295, .int .u32 4294967295, .int .u32 4294967295, .int .u32 4294967295, .int .u32 4294967295]) (t := 150) (fr := (0, 0)) (heap_alloc_new wr _) (by rfl) (by simp [Value.oneCell'])).drew HB63 HB47 ?_); intro sv5 w5 r5 k5 o5; obtain ⟨V5, cp5, rfl, hc5⟩ := r5.len; have q1 : w5.cell? ⟨A, 1, none⟩ = some (.slice VC S.cells.length cc) := (k5.cell (p := ⟨A, 1, none⟩) (by simp; omega) HN1.out).trans (by go_simp); have q1f : w5.frozen? ⟨A, 1, none⟩ = false := (k5.frozen (p := ⟨A, 1, none⟩) (by simp; omega) HN1.out).trans (by go_simp)))
        all_goals
          go_wp2_with fail
          refine absW (fun W => TakeMid w W A S F (S.take ag ar)) (take_mid_b (Kp.of_below HB.out) h3 h4 HP0.out HPL.out HPR.out HPF.out ht k5 o5 r5) ?_
          intro W MID
          have HO := Lib.hid (HP.out.ok.take ag ar)
          obtain ⟨HM1, HM2, HM3⟩ : Hid ((S.take ag ar).most = S.most) ∧ Hid (max (S.cells.length : Int) (((S.take ag ar).cells.length : Int) - ((S.take ag ar).back.length : Int)) = ((S.take ag ar).cells.length : Int)) ∧ (S.take ag ar).cells.length = S.cells.length + 1 := by
            rw [ht]; exact ⟨rfl, Lib.hid (by simp [hB0]; omega), by simp⟩
          obtain ⟨cv, bv, rows, h0, hl0, hr0, hF0, hk0⟩ := MID
          have MID2 : Hid (TakeMid w W A S F (S.take ag ar)) := ⟨cv, bv, rows, h0, hl0, hr0, hF0, hk0⟩
          obtain ⟨VC7, cc7, rfl, _⟩ := h0.cells.len
          obtain ⟨VB7, cb7, rfl, _⟩ := h0.back.len
          have w1c : W.cell? ⟨A, 1, none⟩ = some (.slice VC7 rows.length cc7) := by simp [World.cell?, h0.head]
          have w2c : W.cell? ⟨A, 2, none⟩ = some (.slice VB7 (S.take ag ar).back.length cb7) := by simp [World.cell?, h0.head]
          have w3c : W.cell? ⟨A, 3, none⟩ = some (.int .i64 S.cells.length) := by simp [World.cell?, h0.head]
          have w3f : W.frozen? ⟨A, 3, none⟩ = false := by simp [World.frozen?, h0.head]
          have wAl : A < W.heap.size := heap_lt h0.head
          have LIV := ar_live_raw A rows.length (S.take ag ar).back.length cc7 cb7 VC7 VB7 W.drew w1c w2c (by rw [hl0]; exact HO.out.back_le) (by rw [hl0]; have := HO.out.len; have := HO.out.most2; omega)
          clear x0 x1 x2 x3 x4 x5 x6 x7 x8
          have s3c := Lib.hid w3c
          go_region_with (go_at_call 92; refine LIV.mono ?_; rintro e w7 ⟨rfl, hb7⟩; have w7c := (hb7.cell (p := ⟨A, 3, none⟩) wAl).trans s3c.out; have w7f := (hb7.frozen (p := ⟨A, 3, none⟩) wAl).trans w3f)
          all_goals
            go_wp2_with fail
            go_ret2
            have M := MID2.out
            have O := HO.out
            rw [ht, hb0] at M O
            refine ⟨rfl, take_close M O (((Below.refl _ W).drew).trans hb7) ?_⟩
            first | (simp; done) | (simp; omega)
end Go.Proofs.Ythbobooiedcofaa
