/-
  Contracts of package arena: an arena in memory reads as 'Ars'.
-/
import Derived.Test.YthbobooiedcofaaChecked
import Derived.Test.YthbobooiedcofaaOwn
import Derived.Test.YthbobooiedcofaaArenaSpec
import Derived.StillTailTactics
import Derived.Deep.QuietTactic
import Derived.BigQuiet
import Derived.Deep.RegionHeld3
import Derived.Deep.RegionLaw
import Derived.WalkSmall
namespace Go.Proofs.Ythbobooiedcofaa
open Go.RowKit
attribute [local go_sem] cell_set
set_option maxRecDepth 100000

/-- Of nine cells what each is at least: an int, or a word. -/
def shaped (v : List Value) : Prop := ∃ a b c0 c1 c2 c3 c4 c5 c6 : Int, v = [.int .i64 a, .int .i64 b, .int .u32 c0, .int .u32 c1, .int .u32 c2, .int .u32 c3, .int .u32 c4, .int .u32 c5, .int .u32 c6]
/-- The nine cells of a cell. -/
def acell : Option (Int × List Int) → List Value → Prop
  | some (ag, ws), v => v.length = 9 ∧ v[0]? = some (.int .i64 ag) ∧ v[1]? = some (.int .i64 ((ws.length : Int) - 1)) ∧ (∀ j, j < ws.length → v[2 + j]? = some (.int .u32 (ws.getD j 0))) ∧ shaped v
  | none, v => v.length = 9 ∧ v[0]? = some (.int .i64 (-1)) ∧ shaped v
theorem acell.shaped {c : Option (Int × List Int)} {v : List Value} (h : acell c v) : shaped v := by
  cases c with
  | none => exact h.2.2
  | some x => exact h.2.2.2.2
theorem shaped.word {v : List Value} (h : shaped v) {s : Nat} (hs : s < 7) (x : Int) : shaped (v.set (2 + s) (.int .u32 x)) := by
  obtain ⟨a, b, c0, c1, c2, c3, c4, c5, c6, rfl⟩ := h
  rcases (by omega : s = 0 ∨ s = 1 ∨ s = 2 ∨ s = 3 ∨ s = 4 ∨ s = 5 ∨ s = 6) with rfl | rfl | rfl | rfl | rfl | rfl | rfl
  · exact ⟨a, b, x, c1, c2, c3, c4, c5, c6, rfl⟩
  · exact ⟨a, b, c0, x, c2, c3, c4, c5, c6, rfl⟩
  · exact ⟨a, b, c0, c1, x, c3, c4, c5, c6, rfl⟩
  · exact ⟨a, b, c0, c1, c2, x, c4, c5, c6, rfl⟩
  · exact ⟨a, b, c0, c1, c2, c3, x, c5, c6, rfl⟩
  · exact ⟨a, b, c0, c1, c2, c3, c4, x, c6, rfl⟩
  · exact ⟨a, b, c0, c1, c2, c3, c4, c5, x, rfl⟩
theorem shaped.head {v : List Value} (h : shaped v) (x : Int) : shaped (v.set 0 (.int .i64 x)) := by
  obtain ⟨a, b, c0, c1, c2, c3, c4, c5, c6, rfl⟩ := h
  exact ⟨x, b, c0, c1, c2, c3, c4, c5, c6, rfl⟩
theorem acell.len {c : Option (Int × List Int)} {v : List Value} (h : acell c v) : v.length = 9 := by
  cases c with
  | none => exact h.1
  | some x => exact h.1
def PA (w : World) (A : Nat) (S : Ars) (F : List Nat) : Prop :=
  ∃ (cv bv : Value) (rows : List (List Value)), w.heap[A]? = some (.cells #[.int .i64 S.most, cv, bv, .int .i64 S.cells.length] 118 (0, 0)) ∧
    Row w 150 9 cv S.cells.length rows.flatten ∧ rows.length = S.cells.length ∧ (∀ (i : Nat) c r, S.cells[i]? = some c → rows[i]? = some r → acell c r) ∧
    Row w 3 1 bv S.back.length (S.back.map fun (b : Nat) => Value.int .i64 (b : Int)) ∧ F = A :: (ownB cv ++ ownB bv) ∧ S.Ok
theorem flat_at {rows : List (List Value)} (h : ∀ r ∈ rows, r.length = 9) {i j : Nat} (hj : j < 9) : rows.flatten[i * 9 + j]? = (rows[i]?).bind (·[j]?) := by
  induction rows generalizing i with
  | nil => simp
  | cons r rs ih =>
    have hr := h r (by simp)
    cases i with
    | zero => simp [List.getElem?_append, hr, hj]
    | succ i =>
      rw [List.flatten_cons, List.getElem?_append_right (by rw [hr]; omega), hr, show (i + 1) * 9 + j - 9 = i * 9 + j by omega, ih (fun r' h' => h r' (by simp [h']))]
      simp
section
variable {w w' : World} {A : Nat} {S : Ars} {F : List Nat}
theorem PA.lt (h : PA w A S F) : ∀ b ∈ F, b < w.heap.size := by
  obtain ⟨cv, bv, rows, hA, hc, _, _, hb, rfl, _⟩ := h
  intro b hm
  simp only [List.mem_cons, List.mem_append] at hm
  rcases hm with rfl | hm | hm
  · exact heap_lt hA
  · exact hc.lt b hm
  · exact hb.lt b hm
theorem PA.keep (h : PA w A S F) (hk : ∀ b ∈ F, w'.heap[b]? = w.heap[b]?) : PA w' A S F := by
  obtain ⟨cv, bv, rows, hA, hc, hl, hr, hb, rfl, ok⟩ := h
  exact ⟨cv, bv, rows, (hk A (by simp)).trans hA, hc.keep (fun b hm => hk b (by simp [hm])), hl, hr, hb.keep (fun b hm => hk b (by simp [hm])), rfl, ok⟩
theorem PA.kp {G : List Nat} (h : PA w A S F) (hk : Kp G w w') (hG : ∀ b ∈ F, b ∉ G) : PA w' A S F := h.keep fun b hb => hk.block b (h.lt b hb) (hG b hb)
theorem PA.below (h : PA w A S F) (hb : Below w.heap.size w w') : PA w' A S F := h.keep fun b hm => hb.block b (h.lt b hm)
theorem PA.ok (h : PA w A S F) : S.Ok := by obtain ⟨_, _, _, _, _, _, _, _, _, ok⟩ := h; exact ok
/-- The cells that a walk reads. -/
theorem PA.head (h : PA w A S F) : ∃ (VC VB : Option Addr) (cc cb : Nat), w.cell? ⟨A, 0, none⟩ = some (.int .i64 S.most) ∧ w.cell? ⟨A, 1, none⟩ = some (.slice VC S.cells.length cc) ∧ w.cell? ⟨A, 2, none⟩ = some (.slice VB S.back.length cb) ∧
    w.cell? ⟨A, 3, none⟩ = some (.int .i64 S.cells.length) ∧ A < w.heap.size := by
  obtain ⟨cv, bv, rows, hA, hc, _, _, hb, rfl, _⟩ := h
  obtain ⟨VC, cc, rfl, _⟩ := hc.len
  obtain ⟨VB, cb, rfl, _⟩ := hb.len
  exact ⟨VC, VB, cc, cb, by simp [World.cell?, hA], by simp [World.cell?, hA], by simp [World.cell?, hA], by simp [World.cell?, hA], heap_lt hA⟩
/-- .. and those of cell number i. -/
theorem PA.at_ (h : PA w A S F) {i : Nat} {c : Option (Int × List Int)} (hi : S.cells[i]? = some c) : ∃ (g cc : Nat) (r : List Value), w.cell? ⟨A, 1, none⟩ = some (.slice (some ⟨g, 0, none⟩) S.cells.length cc) ∧ g < w.heap.size ∧ acell c r ∧
    (∀ j, j < 9 → w.cell? ⟨g, i * 9 + j, none⟩ = r[j]?) ∧ (∀ j, w.frozen? ⟨g, j, none⟩ = false) ∧ i < S.cells.length := by
  obtain ⟨cv, bv, rows, hA, hc, hl, hr, hb, rfl, ok⟩ := h
  have hlt : i < S.cells.length := by
    rcases Nat.lt_or_ge i S.cells.length with hl | hl
    · exact hl
    · rw [List.getElem?_eq_none hl] at hi; cases hi
  have hir : rows[i]? = some (rows[i]'(by omega)) := List.getElem?_eq_getElem (by omega)
  have hall : ∀ r ∈ rows, r.length = 9 := by
    intro r hm
    obtain ⟨k, hk, rfl⟩ := List.mem_iff_getElem.1 hm
    exact (hr k _ _ (List.getElem?_eq_getElem (show k < S.cells.length by omega)) (List.getElem?_eq_getElem hk)).len
  obtain ⟨g, cap, cur, rfl, hg, _⟩ := hc.some_ (by omega)
  refine ⟨g, cap, rows[i], by simp [World.cell?, hA], heap_lt hg, hr i c _ hi hir, fun j hj => ?_, fun j => hc.frozenAt j, hlt⟩
  rw [hc.cellAt _ (by omega), flat_at hall hj, hir]; rfl
end

theorem ar_none_is (A : Nat) (m : Nat) (w : World) (hm : ((m : Int) == 0) = false) (hc : w.cell? ⟨A, 0, none⟩ = some (.int .i64 (m : Int))) : Calls Try.prog 91 #[.pointer (some ⟨A, 0, none⟩)] w fun e w' => e = .returned (.bool false) ∧ w = w' := by
  go_enter Try.func91, Try.ntmps91
  go_wp2
  go_ret
  exact ⟨rfl, rfl⟩
theorem ar_is (A : Nat) (S : Ars) (F : List Nat) (c : Int) (w : World) (h : PA w A S F) :
    Calls Try.prog 93 #[.pointer (some ⟨A, 0, none⟩), .int .i64 c] w fun e w' => e = .returned (.bool (S.cell c).isSome) ∧ w = w' := by
  obtain ⟨VC, VB, cc, cb, c0, c1, c2, c3, hAl⟩ := h.head
  cases hc : S.cell c with
  | none =>
    rcases Ars.cell_none hc with hl | hl | ⟨h0, hl⟩
    · go_enter Try.func93, Try.ntmps93
      go_wp2
      go_ret
      exact ⟨rfl, rfl⟩
    · go_enter Try.func93, Try.ntmps93
      go_wp2
      go_ret
      exact ⟨rfl, rfl⟩
    · obtain ⟨i, rfl⟩ := Int.eq_ofNat_of_zero_le h0
      simp only [Int.toNat_natCast] at hl
      obtain ⟨g, cc', r, k1, hgl, ha, hr, hf, hlt⟩ := h.at_ hl
      have r0 : w.cell? ⟨g, i * 9, none⟩ = some (.int .i64 (-1)) := (hr 0 (by omega)).trans ha.2.1
      clear c1 hr hf ha hc hl h0
      go_enter Try.func93, Try.ntmps93
      go_wp2
      go_ret
      exact ⟨rfl, rfl⟩
  | some x =>
    obtain ⟨ag, ws⟩ := x
    obtain ⟨h0, hl⟩ := Ars.cell_some hc
    obtain ⟨i, rfl⟩ := Int.eq_ofNat_of_zero_le h0
    simp only [Int.toNat_natCast] at hl
    have hag := (h.ok.cell _ _ _ hl).1
    obtain ⟨g, cc', r, k1, hgl, ha, hr, hf, hlt⟩ := h.at_ hl
    have r0 : w.cell? ⟨g, i * 9, none⟩ = some (.int .i64 ag) := (hr 0 (by omega)).trans ha.2.1
    clear c1 hr hf ha hc hl h0
    go_enter Try.func93, Try.ntmps93
    go_wp2
    go_ret
    exact ⟨rfl, rfl⟩

theorem ok_ne {S0 : Ars} (h : S0.Ok) : ((S0.most : Int) == 0) = false := by
  have := h.most1
  rw [beq_eq_false_iff_ne]; omega
/-- The last of those that were given back. -/
theorem PA.last {w : World} {A : Nat} {S : Ars} {F : List Nat} (h : PA w A S F) {b : Nat} (hb : S.back.getLast? = some b) : ∃ (g cb : Nat), w.cell? ⟨A, 2, none⟩ = some (.slice (some ⟨g, 0, none⟩) S.back.length cb) ∧ g < w.heap.size ∧ w.cell? ⟨g, S.back.length - 1, none⟩ = some (.int .i64 (b : Int)) ∧ 0 < S.back.length := by
  obtain ⟨cv, bv, rows, hA, hc, hl, hr, hbr, rfl, ok⟩ := h
  have hp : 0 < S.back.length := by
    cases hl : S.back with
    | nil => rw [hl] at hb; cases hb
    | cons x r => simp
  obtain ⟨g, cap, cur, rfl, hg, _⟩ := hbr.some_ hp
  refine ⟨g, cap, by simp [World.cell?, hA], heap_lt hg, ?_, hp⟩
  rw [hbr.cellAt _ (by omega), List.getElem?_map]
  rw [List.getLast?_eq_getElem?] at hb
  rw [hb]; rfl

theorem ar_new_ok (m : Nat) (h1 : 1 ≤ m) (h2 : m ≤ 4096) (w : World) : Calls Try.prog 10 #[.int .i64 (m : Int)] w fun e w' => e = .returned (.tuple #[.pointer (some ⟨w.heap.size, 0, none⟩), .int .i64 0]) ∧ Below w.heap.size w w' ∧ PA w' w.heap.size (Ars.empty m) [w.heap.size] := by
  go_enter Try.func10, Try.ntmps10
  go_wp2
  go_ret2
  exact ⟨rfl, by (repeat (first | exact Below.refl _ _ | (with_reducible refine Below.drew ?_) | (with_reducible refine Below.alloc ?_ (by (try simp); (try omega)) _) | (with_reducible refine Below.setCell ?_ (by (try simp); (try omega)) _) | (with_reducible refine Below.trans ?_ (Below.mono (by assumption) (by (try simp); (try omega)))))), .slice none 0 0, .slice none 0 0, [], heap_alloc_new w _, Row.nil _ _ _, rfl, fun i c r hi => by simp [Ars.empty] at hi, Row.nil _ _ _, rfl, Ars.Ok.empty h1 h2⟩
theorem ar_new_bad (m : Int) (h : m < 1 ∨ 4096 < m) (w : World) : Calls Try.prog 10 #[.int .i64 m] w fun e w' => e = .returned (.tuple #[.pointer none, .int .i64 1]) ∧ w = w' := by
  rcases h with h | h
  all_goals
    go_enter Try.func10, Try.ntmps10
    go_wp2
    go_ret2
    exact ⟨rfl, rfl⟩
theorem ar_next (A : Nat) (S : Ars) (F : List Nat) (w : World) (h : PA w A S F) :
    Calls Try.prog 99 #[.pointer (some ⟨A, 0, none⟩)] w fun e w' => e = .returned (.tuple #[.int .i64 S.nextC, .int .i64 S.nextE]) ∧ Below w.heap.size w w' := by
  obtain ⟨VC, VB, cc, cb, c0, c1, c2, c3, hAl⟩ := h.head
  have hne := ok_ne h.ok
  have hbl := h.ok.back_le
  have hm := h.ok.most2
  have hcl := h.ok.len
  cases hb : S.back.getLast? with
  | some b =>
    have H : Hid (S.nextC = b ∧ S.nextE = 0) := ⟨by unfold Ars.nextC; rw [hb], by unfold Ars.nextE; rw [hb]⟩
    obtain ⟨g, cb', k2, hg, kb, hp⟩ := h.last hb
    clear c2 hb h
    go_enter Try.func99, Try.ntmps99
    go_wp2_with (go_at_call 91; refine (ar_none_is _ S.most _ hne (by go_simp)).mono ?_; rintro e w' ⟨rfl, rfl⟩)
    go_ret2
    exact ⟨retI2 H.out.1.symm H.out.2.symm, Below.refl _ _⟩
  | none =>
    have hb0 : S.back = [] := List.getLast?_eq_none_iff.1 hb
    have hbl0 : S.back.length = 0 := by rw [hb0]; rfl
    have HB : Hid (S.nextC = (if S.cells.length = S.most then 0 else (S.cells.length : Int)) ∧ S.nextE = if S.cells.length = S.most then 40 else 0) := ⟨by unfold Ars.nextC; rw [hb], by unfold Ars.nextE; rw [hb]⟩
    rw [hbl0] at c2
    clear hb hb0 hbl h hbl0
    by_cases hfull : S.cells.length = S.most
    · have hf2 : ((S.cells.length : Int) == (S.most : Int)) = true := by rw [beq_iff_eq]; omega
      have HF := Lib.hid hfull; clear hfull
      go_enter Try.func99, Try.ntmps99
      go_wp2_with (go_at_call 91; refine (ar_none_is _ S.most _ hne (by go_simp)).mono ?_; rintro e w' ⟨rfl, rfl⟩)
      go_quiet (fail)
      go_wp2
      go_ret2
      exact ⟨retI2 (by rw [HB.out.1, if_pos HF.out]) (by rw [HB.out.2, if_pos HF.out]), below_drewN (Below.refl _ _) _⟩
    · have hf2 : ((S.cells.length : Int) == (S.most : Int)) = false := by rw [beq_eq_false_iff_ne]; omega
      go_enter Try.func99, Try.ntmps99
      go_wp2_with (go_at_call 91; refine (ar_none_is _ S.most _ hne (by go_simp)).mono ?_; rintro e w' ⟨rfl, rfl⟩)
      go_quiet (fail)
      go_wp2
      go_ret2
      exact ⟨retI2 (by rw [HB.out.1, if_neg hfull]) (by rw [HB.out.2, if_neg hfull]), below_drewN (Below.refl _ _) _⟩

theorem ar_field (A : Nat) (S : Ars) (F : List Nat) (w : World) (h : PA w A S F) :
    Calls Try.prog 39 #[.pointer (some ⟨A, 0, none⟩)] w fun e w' => e = .returned (.int .i64 S.most) ∧ w = w' := by
  obtain ⟨VC, VB, cc, cb, c0, c1, c2, c3, hAl⟩ := h.head
  have hne := ok_ne h.ok
  go_enter Try.func39, Try.ntmps39
  go_wp2_with (go_at_call 91; refine (ar_none_is _ S.most _ hne (by go_simp)).mono ?_; rintro e w' ⟨rfl, rfl⟩)
  go_ret
  exact ⟨rfl, rfl⟩
theorem ar_live_ (A : Nat) (S : Ars) (F : List Nat) (w : World) (h : PA w A S F) :
    Calls Try.prog 92 #[.pointer (some ⟨A, 0, none⟩)] w fun e w' => e = .returned (.int .i64 S.live) ∧ Below w.heap.size w w' := by
  obtain ⟨VC, VB, cc, cb, c0, c1, c2, c3, hAl⟩ := h.head
  have hbl := h.ok.back_le
  have hm := h.ok.most2
  have hcl := h.ok.len
  go_enter Try.func92, Try.ntmps92
  go_wp2
  go_quiet (fail)
  go_wp2
  go_ret
  exact ⟨rfl, below_drewN (Below.refl _ _) _⟩
theorem ar_live (A : Nat) (S : Ars) (F : List Nat) (w : World) (h : PA w A S F) :
    Calls Try.prog 40 #[.pointer (some ⟨A, 0, none⟩)] w fun e w' => e = .returned (.int .i64 S.live) ∧ Below w.heap.size w w' := by
  obtain ⟨VC, VB, cc, cb, c0, c1, c2, c3, hAl⟩ := h.head
  have hne := ok_ne h.ok
  have H := Lib.hid h
  clear h
  go_enter Try.func40, Try.ntmps40
  go_wp2_with (first
    | (go_at_call 91; refine (ar_none_is _ S.most _ hne (by go_simp)).mono ?_; rintro e w' ⟨rfl, rfl⟩)
    | (go_at_call 92; refine (ar_live_ _ S F _ H.out).mono ?_; rintro e w1 ⟨rfl, hb1⟩))
  go_ret
  exact ⟨rfl, hb1⟩
/-- Agent. -/
theorem ar_agent (A : Nat) (S : Ars) (F : List Nat) (c : Int) (w : World) (h : PA w A S F) :
    Calls Try.prog 43 #[.pointer (some ⟨A, 0, none⟩), .int .i64 c] w fun e w' => e = .returned (.tuple #[.int .i64 (S.agC c), .int .i64 (S.agA c), .int .i64 (if (S.cell c).isSome then 0 else 41)]) ∧ Below w.heap.size w w' := by
  obtain ⟨VC, VB, cc, cb, c0, c1, c2, c3, hAl⟩ := h.head
  have hne := ok_ne h.ok
  have H := Lib.hid h
  cases hc : S.cell c with
  | none =>
    have HC : Hid (S.agC c = 0 ∧ S.agA c = 0) := ⟨by unfold Ars.agC; rw [hc], by unfold Ars.agA; rw [hc]⟩
    have HS : Hid ((S.cell c).isSome = false) := by show _ = _; rw [hc]; rfl
    clear h hc
    go_enter Try.func43, Try.ntmps43
    go_wp2_with (first
      | (go_at_call 91; refine (ar_none_is _ S.most _ hne (by go_simp)).mono ?_; rintro e w' ⟨rfl, rfl⟩)
      | (go_at_call 93; refine (ar_is _ S F _ _ H.out).mono ?_; rintro e w1 ⟨rfl, rfl⟩; rw [HS.out]))
    go_ret3
    exact ⟨by rw [HC.out.1, HC.out.2]; rfl, Below.refl _ _⟩
  | some x =>
    obtain ⟨ag, ws⟩ := x
    obtain ⟨h0, hl⟩ := Ars.cell_some hc
    obtain ⟨i, rfl⟩ := Int.eq_ofNat_of_zero_le h0
    simp only [Int.toNat_natCast] at hl
    obtain ⟨g, cc', r, k1, hgl, ha, hr, hf, hlt⟩ := h.at_ hl
    have r0 : w.cell? ⟨g, i * 9, none⟩ = some (.int .i64 ag) := (hr 0 (by omega)).trans ha.2.1
    have r1 : w.cell? ⟨g, i * 9 + 1, none⟩ = some (.int .i64 ((ws.length : Int) - 1)) := (hr 1 (by omega)).trans ha.2.2.1
    have HC : Hid (S.agC i = ag ∧ S.agA i = (ws.length : Int) - 1) := ⟨by unfold Ars.agC; rw [hc], by unfold Ars.agA; rw [hc]⟩
    have HS : Hid ((S.cell i).isSome = true) := by show _ = _; rw [hc]; rfl
    clear c1 hr hf ha hc hl h0 h
    go_enter Try.func43, Try.ntmps43
    go_wp2_with (first
      | (go_at_call 91; refine (ar_none_is _ S.most _ hne (by go_simp)).mono ?_; rintro e w' ⟨rfl, rfl⟩)
      | (go_at_call 93; refine (ar_is _ S F _ _ H.out).mono ?_; rintro e w1 ⟨rfl, rfl⟩; rw [HS.out]))
    go_quiet (fail)
    go_wp2
    go_ret3
    exact ⟨by rw [HC.out.1, HC.out.2]; rfl, below_drewN (Below.refl _ _) _⟩

/-! ### Writing -/
theorem flat_len {rows : List (List Value)} (h : ∀ r ∈ rows, r.length = 9) : rows.flatten.length = rows.length * 9 := by
  induction rows with
  | nil => rfl
  | cons r rs ih =>
    rw [List.flatten_cons, List.length_append, h r (by simp), ih (fun r' h' => h r' (by simp [h'])), List.length_cons]; omega
theorem flat_set {rows : List (List Value)} (h : ∀ r ∈ rows, r.length = 9) {i : Nat} {r : List Value} (hi : rows[i]? = some r) {j : Nat} (hj : j < 9) (u : Value) :
    rows.flatten.set (i * 9 + j) u = (rows.set i (r.set j u)).flatten := by
  have hil : i < rows.length := by
    rcases Nat.lt_or_ge i rows.length with hl | hl
    · exact hl
    · rw [List.getElem?_eq_none hl] at hi; cases hi
  have hr : r.length = 9 := h r (List.mem_of_getElem? hi)
  have h' : ∀ x ∈ rows.set i (r.set j u), x.length = 9 := by
    intro x hx
    rcases List.mem_or_eq_of_mem_set hx with hx | rfl
    · exact h x hx
    · simpa using hr
  apply List.ext_getElem?
  intro k
  have hk : k = (k / 9) * 9 + k % 9 := by omega
  have hm : k % 9 < 9 := Nat.mod_lt _ (by decide)
  rw [hk, flat_at h' hm, List.getElem?_set, flat_at h hm]
  by_cases hki : i = k / 9
  · subst hki
    rw [hi]
    simp only [List.getElem?_set, hil, if_true, Option.bind_some]
    by_cases hkj : j = k % 9
    · rw [if_pos (by omega), if_pos hkj, if_pos (by rw [flat_len h]; omega), if_pos (by omega)]
    · rw [if_neg (by omega), if_neg hkj]
  · rw [if_neg (by omega), List.getElem?_set, if_neg hki]

/-- One cell of the arena's cell number i is turned; what it says then is S'. -/
theorem PA.turn {w : World} {A : Nat} {S S' : Ars} {F : List Nat} (h : PA w A S F) {i j g cc : Nat} {c c' : Option (Int × List Int)} {u : Value} (hi : S.cells[i]? = some c) (hj : j < 9)
    (hg : w.cell? ⟨A, 1, none⟩ = some (.slice (some ⟨g, 0, none⟩) S.cells.length cc)) (hS : S' = { S with cells := S.cells.set i c' }) (ok : S'.Ok) (hc : ∀ r, acell c r → acell c' (r.set j u)) :
    PA (w.setCell ⟨g, i * 9 + j, none⟩ u) A S' F := by
  subst hS
  obtain ⟨cv, bv, rows, hA, hcv, hl, hr, hb, rfl, _⟩ := h
  have hgc : cv = .slice (some ⟨g, 0, none⟩) S.cells.length cc := by simpa [World.cell?, hA] using hg
  subst hgc
  have hil : i < S.cells.length := by
    rcases Nat.lt_or_ge i S.cells.length with hl | hl
    · exact hl
    · rw [List.getElem?_eq_none hl] at hi; cases hi
  have hir : rows[i]? = some (rows[i]'(by omega)) := List.getElem?_eq_getElem (by omega)
  have hall : ∀ r ∈ rows, r.length = 9 := by
    intro r hm
    obtain ⟨k, hk, rfl⟩ := List.mem_iff_getElem.1 hm
    exact (hr k _ _ (List.getElem?_eq_getElem (show k < S.cells.length by omega)) (List.getElem?_eq_getElem hk)).len
  obtain ⟨g', cap, cur, hv, hgb, _⟩ := hcv.some_ (by omega)
  simp only [Value.slice.injEq, Option.some.injEq, Addr.mk.injEq, and_true, true_and] at hv
  obtain ⟨rfl, rfl⟩ := hv
  have hAg : A ≠ g := by rintro rfl; rw [hA] at hgb; injection hgb with hgb; injection hgb with _ ht; exact absurd ht (by decide)
  have hBg : g ∉ ownB bv := by
    intro hm
    rcases hb.2 with ⟨rfl, _⟩ | ⟨g2, c2, cur2, rfl, hh, _⟩
    · simp [ownB] at hm
    · simp [ownB] at hm; subst hm; rw [hgb] at hh; injection hh with hh; injection hh with _ ht; exact absurd ht (by decide)
  refine ⟨_, bv, rows.set i ((rows[i]'(by omega)).set j u), (Below.heap_setCell w _ u A (by simpa using hAg)).trans (by simpa using hA), ?_, by simpa using hl, fun k x r hk hrk => ?_, ?_, rfl, ok⟩
  · have := hcv.set (i * 9 + j) u
    rw [flat_set hall hir hj] at this
    simpa using this
  · simp only [List.getElem?_set] at hk hrk
    by_cases e : i = k
    · rw [if_pos e, if_pos (by omega)] at hk hrk
      injection hk with hk; injection hrk with hrk
      subst hk hrk
      exact hc _ (hr i c _ hi hir)
    · rw [if_neg e] at hk hrk
      exact hr k x r hk hrk
  · exact hb.keep fun b hm => Below.heap_setCell w _ u b (fun e => by
      have e' : b = g := e
      subst e'; exact hBg hm)

theorem acell.word {ag : Int} {ws : List Int} {r : List Value} (h : acell (some (ag, ws)) r) {s : Nat} (hs : s < ws.length) (h7 : ws.length ≤ 7) (v : Int) : acell (some (ag, ws.set s v)) (r.set (2 + s) (.int .u32 v)) := by
  obtain ⟨h0, h1, h2, h3, h4⟩ := h
  refine ⟨by simpa using h0, by rw [List.getElem?_set, if_neg (by omega)]; exact h1, by rw [List.getElem?_set, if_neg (by omega)]; simpa using h2, fun j hj => ?_, h4.word (by omega) v⟩
  simp at hj
  rw [List.getElem?_set]
  by_cases e : s = j
  · subst e
    rw [if_pos rfl, if_pos (by omega)]
    simp [hj]
  · rw [if_neg (by omega), h3 j hj]
    simp [e]
theorem acell.dead {c : Option (Int × List Int)} {r : List Value} (h : acell c r) : acell none (r.set 0 (.int .i64 (-1))) := by
  have := h.len
  exact ⟨by simpa using this, by simp [this], h.shaped.head _⟩
end Go.Proofs.Ythbobooiedcofaa
