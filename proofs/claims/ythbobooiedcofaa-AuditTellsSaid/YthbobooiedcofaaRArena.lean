/-
  The document's arena (skeinref07) in memory reads as 'Ars': its predicate, and what it tells.
-/
import Derived.Test.YthbobooiedcofaaArenaOps
namespace Go.Proofs.Ythbobooiedcofaa
open Go.RowKit
attribute [local go_sem] cell_set
set_option maxRecDepth 100000

theorem flatN_at {m : Nat} {rows : List (List Value)} (h : ∀ r ∈ rows, r.length = m) {i j : Nat} (hj : j < m) : rows.flatten[i * m + j]? = (rows[i]?).bind (·[j]?) := by
  induction rows generalizing i with
  | nil => simp
  | cons r rs ih =>
    have hr := h r (by simp)
    cases i with
    | zero => simp [List.getElem?_append, hr, hj]
    | succ i =>
      rw [List.flatten_cons, List.getElem?_append_right (by rw [hr, Nat.succ_mul]; omega), hr, show (i + 1) * m + j - m = i * m + j by rw [Nat.succ_mul]; omega, ih (fun r' h' => h r' (by simp [h']))]
      simp
theorem flatN_len {m : Nat} {rows : List (List Value)} (h : ∀ r ∈ rows, r.length = m) : rows.flatten.length = rows.length * m := by
  induction rows with
  | nil => simp
  | cons r rs ih =>
    rw [List.flatten_cons, List.length_append, h r (by simp), ih (fun r' h' => h r' (by simp [h'])), List.length_cons, Nat.succ_mul]; omega

/-- A cell of the document's arena as it lies: its agent and the slice of its words. -/
def rcell : Option (Int × Value) → List Value
  | none => [.bool false, .int .i64 0, .slice none 0 0]
  | some (ag, v) => [.bool true, .int .i64 ag, v]
def wB : Option (Int × Value) → List Nat
  | none => []
  | some (_, v) => ownB v
def wvals (ws : List Int) : List Value := ws.map fun x => Value.int .u32 x
def wOk (w : World) : Option (Int × List Int) → Option (Int × Value) → Prop
  | none, none => True
  | some (ag, ws), some (ag', v) => ag' = ag ∧ Row w 49 1 v ws.length (wvals ws)
  | _, _ => False
theorem rcell_len (r : Option (Int × Value)) : (rcell r).length = 3 := by cases r <;> rfl
theorem rcells_len (cs : List (Option (Int × Value))) : ∀ r ∈ cs.map rcell, r.length = 3 := by
  intro r h; obtain ⟨x, _, rfl⟩ := List.mem_map.1 h; exact rcell_len x

structure RA0 (w : World) (R most : Nat) (live peak : Int) (cv bv : Value) (cs : List (Option (Int × Value))) (back : List Nat) : Prop where
  head : w.heap[R]? = some (.cells #[.int .i64 most, cv, bv, .int .i64 live, .int .i64 peak] 121 (0, 0))
  cells : Row w 147 3 cv cs.length (cs.map rcell).flatten
  back : Row w 3 1 bv back.length (back.map fun (b : Nat) => Value.int .i64 (b : Int))
def wApart (cs : List (Option (Int × Value))) : Prop := ∀ (i j : Nat) r s, cs[i]? = some r → cs[j]? = some s → i ≠ j → ∀ b ∈ wB r, b ∉ wB s
def RA (w : World) (R : Nat) (S : Ars) (F : List Nat) : Prop :=
  ∃ (cv bv : Value) (cs : List (Option (Int × Value))), RA0 w R S.most S.live S.cells.length cv bv cs S.back ∧ cs.length = S.cells.length ∧ (∀ (i : Nat) c r, S.cells[i]? = some c → cs[i]? = some r → wOk w c r) ∧
    wApart cs ∧ F = R :: (ownB cv ++ (ownB bv ++ cs.flatMap wB)) ∧ S.Ok
section
variable {w w' : World} {R : Nat} {S : Ars} {F : List Nat}
theorem RA.words (h : RA w R S F) : ∃ (cv bv : Value) (cs : List (Option (Int × Value))), RA0 w R S.most S.live S.cells.length cv bv cs S.back ∧ cs.length = S.cells.length ∧ (∀ (i : Nat) c r, S.cells[i]? = some c → cs[i]? = some r → wOk w c r) ∧
    wApart cs ∧ F = R :: (ownB cv ++ (ownB bv ++ cs.flatMap wB)) ∧ S.Ok ∧ (∀ r ∈ cs, ∀ b ∈ wB r, ∃ cur, w.heap[b]? = some (.cells cur 49 (0, 0))) := by
  obtain ⟨cv, bv, cs, h0, hl, hw, ha, hF, ok⟩ := h
  refine ⟨cv, bv, cs, h0, hl, hw, ha, hF, ok, fun r hr b hb => ?_⟩
  obtain ⟨i, hi, rfl⟩ := List.mem_iff_getElem.1 hr
  have := hw i _ _ (List.getElem?_eq_getElem (show i < S.cells.length by omega)) (List.getElem?_eq_getElem hi)
  cases hc : S.cells[i] with
  | none =>
    rw [hc] at this
    cases hr : cs[i] with
    | none => rw [hr] at hb; simp [wB] at hb
    | some x => rw [hr] at this; exact this.elim
  | some x =>
    rw [hc] at this
    cases hr : cs[i] with
    | none => rw [hr] at hb; simp [wB] at hb
    | some y => rw [hr] at this hb; exact this.2.ty hb
theorem RA.lt (h : RA w R S F) : ∀ b ∈ F, b < w.heap.size := by
  obtain ⟨cv, bv, cs, h0, hl, hw, ha, rfl, ok, hwd⟩ := h.words
  intro b hb
  simp only [List.mem_cons, List.mem_append, List.mem_flatMap] at hb
  rcases hb with rfl | hb | hb | ⟨r, hr, hb⟩
  · exact heap_lt h0.head
  · exact h0.cells.lt b hb
  · exact h0.back.lt b hb
  · obtain ⟨_, hh⟩ := hwd r hr b hb; exact heap_lt hh
theorem wOk.keep {c : Option (Int × List Int)} {r : Option (Int × Value)} (h : wOk w c r) (hk : ∀ b ∈ wB r, w'.heap[b]? = w.heap[b]?) : wOk w' c r := by
  match c, r, h with
  | none, none, _ => trivial
  | some (_, _), some (_, _), h => exact ⟨h.1, h.2.keep hk⟩
theorem RA.keep (h : RA w R S F) (hk : ∀ b ∈ F, w'.heap[b]? = w.heap[b]?) : RA w' R S F := by
  obtain ⟨cv, bv, cs, h0, hl, hw, ha, rfl, ok⟩ := h
  refine ⟨cv, bv, cs, ⟨(hk R (by simp)).trans h0.head, h0.cells.keep (fun b hb => hk b (by simp [hb])), h0.back.keep (fun b hb => hk b (by simp [hb]))⟩, hl, fun i c r hc hr => (hw i c r hc hr).keep fun b hb => hk b ?_, ha, rfl, ok⟩
  simp only [List.mem_cons, List.mem_append, List.mem_flatMap]
  exact .inr (.inr (.inr ⟨r, List.mem_of_getElem? hr, hb⟩))
theorem RA.kp {G : List Nat} (h : RA w R S F) (hk : Kp G w w') (hG : ∀ b ∈ F, b ∉ G) : RA w' R S F := h.keep fun b hb => hk.block b (h.lt b hb) (hG b hb)
theorem RA.below (h : RA w R S F) (hb : Below w.heap.size w w') : RA w' R S F := h.keep fun b hm => hb.block b (h.lt b hm)
theorem RA.ok (h : RA w R S F) : S.Ok := by obtain ⟨_, _, _, _, _, _, _, _, ok⟩ := h; exact ok
theorem RA.head (h : RA w R S F) : ∃ (VC VB : Option Addr) (cc cb : Nat), w.cell? ⟨R, 0, none⟩ = some (.int .i64 S.most) ∧ w.cell? ⟨R, 1, none⟩ = some (.slice VC S.cells.length cc) ∧ w.cell? ⟨R, 2, none⟩ = some (.slice VB S.back.length cb) ∧
    w.cell? ⟨R, 3, none⟩ = some (.int .i64 S.live) ∧ w.cell? ⟨R, 4, none⟩ = some (.int .i64 S.cells.length) ∧ (∀ j, w.frozen? ⟨R, j, none⟩ = false) ∧ R < w.heap.size := by
  obtain ⟨cv, bv, cs, h0, hl, _⟩ := h
  obtain ⟨VC, cc, rfl, _⟩ := h0.cells.len
  obtain ⟨VB, cb, rfl, _⟩ := h0.back.len
  have := h0.head
  exact ⟨VC, VB, cc, cb, by simp [World.cell?, this], by simp [World.cell?, this, hl], by simp [World.cell?, this], by simp [World.cell?, this], by simp [World.cell?, this], fun j => by simp [World.frozen?, this], heap_lt this⟩
/-- Cell number i. -/
theorem RA.at_ (h : RA w R S F) {i : Nat} {c : Option (Int × List Int)} (hi : S.cells[i]? = some c) : ∃ (g cc : Nat) (r : Option (Int × Value)), w.cell? ⟨R, 1, none⟩ = some (.slice (some ⟨g, 0, none⟩) S.cells.length cc) ∧ g < w.heap.size ∧ wOk w c r ∧
    (∀ j, j < 3 → w.cell? ⟨g, i * 3 + j, none⟩ = (rcell r)[j]?) ∧ (∀ j, w.frozen? ⟨g, j, none⟩ = false) ∧ i < S.cells.length := by
  obtain ⟨cv, bv, cs, h0, hl, hw, ha, rfl, ok⟩ := h
  have hlt : i < S.cells.length := by
    rcases Nat.lt_or_ge i S.cells.length with hl | hl
    · exact hl
    · rw [List.getElem?_eq_none hl] at hi; cases hi
  have hir : cs[i]? = some (cs[i]'(by omega)) := List.getElem?_eq_getElem (by omega)
  obtain ⟨g, cap, cur, rfl, hg, _⟩ := h0.cells.some_ (by omega)
  have := h0.head
  refine ⟨g, cap, cs[i], by simp [World.cell?, this, hl], heap_lt hg, hw i c _ hi hir, fun j hj => ?_, fun j => h0.cells.frozenAt j, hlt⟩
  rw [h0.cells.cellAt _ (by omega), flatN_at (rcells_len cs) hj, List.getElem?_map, hir]; rfl
end

theorem rr_new_ok (m : Nat) (h1 : 1 ≤ m) (h2 : m ≤ 4096) (w : World) : Calls Try.prog 11 #[.int .i64 (m : Int)] w fun e w' => e = .returned (.tuple #[.pointer (some ⟨w.heap.size, 0, none⟩), .int .i64 0]) ∧ Below w.heap.size w w' ∧ RA w' w.heap.size (Ars.empty m) [w.heap.size] := by
  go_enter Try.func11, Try.ntmps11
  go_wp2
  go_ret2
  exact ⟨rfl, by (repeat (first | exact Below.refl _ _ | (with_reducible refine Below.drew ?_) | (with_reducible refine Below.alloc ?_ (by (try simp); (try omega)) _) | (with_reducible refine Below.setCell ?_ (by (try simp); (try omega)) _) | (with_reducible refine Below.trans ?_ (Below.mono (by assumption) (by (try simp); (try omega)))))), .slice none 0 0, .slice none 0 0, [], ⟨heap_alloc_new w _, Row.nil _ _ _, Row.nil _ _ _⟩, rfl, fun i c r hi => by simp [Ars.empty] at hi, fun i j r s hi => by simp at hi, rfl, Ars.Ok.empty h1 h2⟩
theorem rr_new_bad (m : Int) (h : m < 1 ∨ 4096 < m) (w : World) : Calls Try.prog 11 #[.int .i64 m] w fun e w' => e = .returned (.tuple #[.pointer none, .int .i64 1]) ∧ w = w' := by
  rcases h with h | h
  all_goals
    go_enter Try.func11, Try.ntmps11
    go_wp2
    go_ret2
    exact ⟨rfl, rfl⟩
theorem RA.last {w : World} {R : Nat} {S : Ars} {F : List Nat} (h : RA w R S F) {b : Nat} (hb : S.back.getLast? = some b) : ∃ (g cb : Nat), w.cell? ⟨R, 2, none⟩ = some (.slice (some ⟨g, 0, none⟩) S.back.length cb) ∧ g < w.heap.size ∧ w.cell? ⟨g, S.back.length - 1, none⟩ = some (.int .i64 (b : Int)) ∧ 0 < S.back.length ∧ S.back.length ≤ cb := by
  obtain ⟨cv, bv, cs, h0, hl, _⟩ := h
  have hp : 0 < S.back.length := by
    cases hl : S.back with
    | nil => rw [hl] at hb; cases hb
    | cons x r => simp
  have hbr := h0.back
  obtain ⟨g, cap, cur, rfl, hg, hnc, _⟩ := hbr.some_ hp
  have := h0.head
  refine ⟨g, cap, by simp [World.cell?, this], heap_lt hg, ?_, hp, hnc⟩
  rw [hbr.cellAt _ (by omega), List.getElem?_map]
  rw [List.getLast?_eq_getElem?] at hb
  rw [hb]; rfl
theorem rr_next (R : Nat) (S : Ars) (F : List Nat) (w : World) (h : RA w R S F) :
    Calls Try.prog 100 #[.pointer (some ⟨R, 0, none⟩)] w fun e w' => e = .returned (.tuple #[.int .i64 S.nextC, .int .i64 S.nextE]) ∧ Below w.heap.size w w' := by
  obtain ⟨VC, VB, cc, cb, c0, c1, c2, c3, c4, cf, hRl⟩ := h.head
  have hbl := h.ok.back_le
  have hm := h.ok.most2
  have hcl := h.ok.len
  cases hb : S.back.getLast? with
  | some b =>
    have H : Hid (S.nextC = b ∧ S.nextE = 0) := ⟨by unfold Ars.nextC; rw [hb], by unfold Ars.nextE; rw [hb]⟩
    obtain ⟨g, cb', k2, hg, kb, hp, _⟩ := h.last hb
    clear c2 hb h cf
    go_enter Try.func100, Try.ntmps100
    go_wp2
    go_quiet (fail)
    go_wp2
    go_ret2
    exact ⟨retI2 H.out.1.symm H.out.2.symm, below_drewN (Below.refl _ _) _⟩
  | none =>
    have hb0 : S.back = [] := List.getLast?_eq_none_iff.1 hb
    have hbl0 : S.back.length = 0 := by rw [hb0]; rfl
    have HB : Hid (S.nextC = (if S.cells.length = S.most then 0 else (S.cells.length : Int)) ∧ S.nextE = if S.cells.length = S.most then 40 else 0) := ⟨by unfold Ars.nextC; rw [hb], by unfold Ars.nextE; rw [hb]⟩
    rw [hbl0] at c2
    clear hb hb0 hbl h hbl0 cf
    by_cases hfull : S.cells.length = S.most
    · have hf2 : (S.most : Int) ≤ S.cells.length := by omega
      have HF := Lib.hid hfull; clear hfull
      go_enter Try.func100, Try.ntmps100
      go_wp2
      go_quiet (fail)
      go_wp2
      go_ret2
      exact ⟨retI2 (by rw [HB.out.1, if_pos HF.out]) (by rw [HB.out.2, if_pos HF.out]), below_drewN (Below.refl _ _) _⟩
    · have hf2 : (S.cells.length : Int) < S.most := by omega
      go_enter Try.func100, Try.ntmps100
      go_wp2
      go_quiet (fail)
      go_wp2
      go_ret2
      exact ⟨retI2 (by rw [HB.out.1, if_neg hfull]) (by rw [HB.out.2, if_neg hfull]), below_drewN (Below.refl _ _) _⟩
theorem rr_is (R : Nat) (S : Ars) (F : List Nat) (c : Int) (w : World) (h : RA w R S F) :
    Calls Try.prog 98 #[.pointer (some ⟨R, 0, none⟩), .int .i64 c] w fun e w' => e = .returned (.bool (S.cell c).isSome) ∧ w = w' := by
  obtain ⟨VC, VB, cc, cb, c0, c1, c2, c3, c4, cf, hRl⟩ := h.head
  cases hc : S.cell c with
  | none =>
    rcases Ars.cell_none hc with hl | hl | ⟨h0, hl⟩
    · go_enter Try.func98, Try.ntmps98
      go_wp2
      go_ret
      exact ⟨rfl, rfl⟩
    · go_enter Try.func98, Try.ntmps98
      go_wp2
      go_ret
      exact ⟨rfl, rfl⟩
    · obtain ⟨i, rfl⟩ := Int.eq_ofNat_of_zero_le h0
      simp only [Int.toNat_natCast] at hl
      obtain ⟨g, cc', r, k1, hgl, ha, hr, hf, hlt⟩ := h.at_ hl
      cases r with
      | some x => exact ha.elim
      | none =>
        have r0 : w.cell? ⟨g, i * 3, none⟩ = some (.bool false) := hr 0 (by omega)
        clear c1 hr hf ha hc hl h0 cf
        go_enter Try.func98, Try.ntmps98
        go_wp2
        go_ret
        exact ⟨rfl, rfl⟩
  | some x =>
    obtain ⟨ag, ws⟩ := x
    obtain ⟨h0, hl⟩ := Ars.cell_some hc
    obtain ⟨i, rfl⟩ := Int.eq_ofNat_of_zero_le h0
    simp only [Int.toNat_natCast] at hl
    obtain ⟨g, cc', r, k1, hgl, ha, hr, hf, hlt⟩ := h.at_ hl
    cases r with
    | none => exact ha.elim
    | some y =>
      have r0 : w.cell? ⟨g, i * 3, none⟩ = some (.bool true) := hr 0 (by omega)
      clear c1 hr hf ha hc hl h0 cf
      go_enter Try.func98, Try.ntmps98
      go_wp2
      go_ret
      exact ⟨rfl, rfl⟩
/-- A live cell's cells. -/
theorem RA.live {w : World} {R : Nat} {S : Ars} {F : List Nat} (h : RA w R S F) {i : Nat} {ag : Int} {ws : List Int} (hc : S.cell i = some (ag, ws)) : ∃ (g cc d cw : Nat) , w.cell? ⟨R, 1, none⟩ = some (.slice (some ⟨g, 0, none⟩) S.cells.length cc) ∧ i < S.cells.length ∧ w.cell? ⟨g, i * 3 + 1, none⟩ = some (.int .i64 ag) ∧
    w.cell? ⟨g, i * 3 + 2, none⟩ = some (.slice (some ⟨d, 0, none⟩) ws.length cw) ∧ Row w 49 1 (.slice (some ⟨d, 0, none⟩) ws.length cw) ws.length (wvals ws) ∧ d ∈ F ∧ g ∈ F ∧ 1 ≤ ws.length ∧ ws.length ≤ 7 := by
  obtain ⟨_, hl⟩ := Ars.cell_some hc
  simp only [Int.toNat_natCast] at hl
  obtain ⟨g, cc', r, k1, hgl, ha, hr, hf, hlt⟩ := h.at_ hl
  have hok := h.ok.cell _ _ _ hl
  obtain ⟨cv, bv, cs, h0, hll, hw, hap, rfl, ok⟩ := h
  have hcv : cv = .slice (some ⟨g, 0, none⟩) S.cells.length cc' := by have := h0.head; simpa [World.cell?, this] using k1
  have hir : cs[i]? = some (cs[i]'(by omega)) := List.getElem?_eq_getElem (by omega)
  have hrr : rcell cs[i] = rcell r := by
    have hcr := h0.cells
    rw [hcv, hll] at hcr
    apply List.ext_getElem?
    intro j
    by_cases hj : j < 3
    · rw [← hr j hj, hcr.cellAt (i * 3 + j) (by omega), flatN_at (rcells_len cs) hj, List.getElem?_map, hir]; rfl
    · rw [List.getElem?_eq_none (by rw [rcell_len]; omega), List.getElem?_eq_none (by rw [rcell_len]; omega)]
  cases r with
  | none => exact ha.elim
  | some y =>
    obtain ⟨ag', v⟩ := y
    obtain ⟨rfl, hrow⟩ := ha
    obtain ⟨d, cw, cur, rfl, _⟩ := hrow.some_ (by omega)
    refine ⟨g, cc', d, cw, k1, hlt, hr 1 (by omega), hr 2 (by omega), hrow, ?_, by simp [hcv, ownB], hok.2.2.1, hok.2.2.2.1⟩
    cases hci : cs[i] with
    | none => rw [hci] at hrr; simp [rcell] at hrr
    | some z =>
      obtain ⟨az, vz⟩ := z
      rw [hci] at hrr hir
      simp only [rcell, List.cons.injEq, and_true, true_and] at hrr
      simp only [List.mem_cons, List.mem_append, List.mem_flatMap]
      exact .inr (.inr (.inr ⟨_, List.mem_of_getElem? hir, by rw [show wB (some (az, vz)) = ownB vz from rfl, hrr.2]; simp [ownB]⟩))
theorem rr_slot (R : Nat) (S : Ars) (F : List Nat) (c s : Int) (w : World) (h : RA w R S F) :
    Calls Try.prog 97 #[.pointer (some ⟨R, 0, none⟩), .int .i64 c, .int .i64 s] w fun e w' => e = .returned (.int .i64 (S.slotE c s)) ∧ w = w' := by
  have H := Lib.hid h
  rcases slotE_cases S c s with ⟨h1, hc⟩ | ⟨h1, ag, ws, hc, hs⟩ | ⟨h1, ag, ws, hc, hs0, hs⟩
  · have HE := Lib.hid h1
    have HS : Hid ((S.cell c).isSome = false) := by show _ = _; rw [hc]; rfl
    clear h hc h1
    go_enter Try.func97, Try.ntmps97
    go_wp2_with (go_at_call 98; refine (rr_is _ S F _ _ H.out).mono ?_; rintro e w1 ⟨rfl, rfl⟩; rw [HS.out])
    go_ret
    exact ⟨by rw [HE.out]; rfl, rfl⟩
  all_goals
    obtain ⟨h0, hl⟩ := Ars.cell_some hc
    obtain ⟨i, rfl⟩ := Int.eq_ofNat_of_zero_le h0
    obtain ⟨g, cc, d, cw, k1, hlt, z1, z2, hrow, hdF, hgF, hn1, hn7⟩ := h.live hc
    have HE := Lib.hid h1
    have HS : Hid ((S.cell i).isSome = true) := by show _ = _; rw [hc]; rfl
    clear h hc h1 hl h0 hrow hdF hgF
  · rcases hs with hs | hs
    all_goals
      go_enter Try.func97, Try.ntmps97
      go_wp2_with (go_at_call 98; refine (rr_is _ S F _ _ H.out).mono ?_; rintro e w1 ⟨rfl, rfl⟩; rw [HS.out])
      go_ret
      exact ⟨by rw [HE.out]; rfl, rfl⟩
  · go_enter Try.func97, Try.ntmps97
    go_wp2_with (go_at_call 98; refine (rr_is _ S F _ _ H.out).mono ?_; rintro e w1 ⟨rfl, rfl⟩; rw [HS.out])
    go_ret
    exact ⟨by rw [HE.out]; rfl, rfl⟩
theorem rr_get (R : Nat) (S : Ars) (F : List Nat) (c s : Int) (w : World) (h : RA w R S F) :
    Calls Try.prog 116 #[.pointer (some ⟨R, 0, none⟩), .int .i64 c, .int .i64 s] w fun e w' => e = .returned (.tuple #[.int .u32 (S.getV c s), .int .i64 (S.slotE c s)]) ∧ w = w' := by
  have H := Lib.hid h
  by_cases he : S.slotE c s = 0
  · rcases slotE_cases S c s with ⟨h1, _⟩ | ⟨h1, _⟩ | ⟨h1, ag, ws, hc, hs0, hs⟩
    · omega
    · omega
    · obtain ⟨h0, hl⟩ := Ars.cell_some hc
      obtain ⟨i, rfl⟩ := Int.eq_ofNat_of_zero_le h0
      obtain ⟨k, rfl⟩ := Int.eq_ofNat_of_zero_le hs0
      have hk : k < ws.length := by omega
      obtain ⟨g, cc, d, cw, k1, hlt, z1, z2, hrow, hdF, hgF, hn1, hn7⟩ := h.live hc
      have z3 : w.cell? ⟨d, k, none⟩ = some (.int .u32 (ws.getD k 0)) := (hrow.cellAt k (by omega)).trans (by simp [wvals, hk])
      have HV : Hid (S.getV i k = ws.getD k 0) := by
        show _ = _; unfold Ars.getV; rw [hc]; simp only; rw [if_neg (by omega)]; simp
      have HE := Lib.hid h1
      clear h hc h1 he hl h0 hrow hdF hgF
      go_enter Try.func116, Try.ntmps116
      go_wp2_with (go_at_call 97; refine (rr_slot _ S F _ _ _ H.out).mono ?_; rintro e w' ⟨rfl, rfl⟩; rw [HE.out])
      go_ret2
      exact ⟨retI2 (by rw [HV.out]; simp [hk]) (by rw [HE.out]), rfl⟩
  · have HV : Hid (S.getV c s = 0) := by
      show _ = _
      rcases slotE_cases S c s with ⟨h1, hc⟩ | ⟨h1, ag, ws, hc, hs⟩ | ⟨h1, _⟩
      · unfold Ars.getV; rw [hc]
      · unfold Ars.getV; rw [hc]; simp only; rw [if_pos hs]
      · exact absurd h1 he
    have hne : (S.slotE c s != 0) = true := by simpa using he
    clear h he
    go_enter Try.func116, Try.ntmps116
    go_wp2_with (go_at_call 97; refine (rr_slot _ S F _ _ _ H.out).mono ?_; rintro e w' ⟨rfl, rfl⟩)
    go_ret2
    exact ⟨by rw [HV.out]; rfl, rfl⟩
end Go.Proofs.Ythbobooiedcofaa
