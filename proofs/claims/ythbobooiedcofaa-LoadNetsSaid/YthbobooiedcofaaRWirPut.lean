/-
  The document's wiring: put.
-/
import Derived.Test.YthbobooiedcofaaWirMem
import Derived.Test.YthbobooiedcofaaWirPts
import Derived.Test.YthbobooiedcofaaWord
import Derived.Test.YthbobooiedcofaaWirPut
/-
  The document's arena, continued: Put, Give.
-/
/-
  The document's arena (skeinref07) in memory reads as 'Ars': its predicate, and what it tells.
-/
namespace Go.Proofs.Ythbobooiedcofaa
open Go.RowKit
attribute [local go_sem] cell_set
set_option maxRecDepth 100000

theorem flatN_at {m : Nat} {rows : List (List Value)} (h : ∀ r ∈ rows, r.length = m) {i j : Nat} (hj : j < m) : rows.flatten[i * m + j]? = (rows[i]?).bind (·[j]?) := by
  induction rows generalizing i with
  | nil => simp
  | cons r rs ih =>
    have hr := h r (by simp)
    cases i with
    | zero => simp [List.getElem?_append, hr, hj]
    | succ i =>
      rw [List.flatten_cons, List.getElem?_append_right (by rw [hr, Nat.succ_mul]; omega), hr, show (i + 1) * m + j - m = i * m + j by rw [Nat.succ_mul]; omega, ih (fun r' h' => h r' (by simp [h']))]
      simp
theorem flatN_len {m : Nat} {rows : List (List Value)} (h : ∀ r ∈ rows, r.length = m) : rows.flatten.length = rows.length * m := by
  induction rows with
  | nil => simp
  | cons r rs ih =>
    rw [List.flatten_cons, List.length_append, h r (by simp), ih (fun r' h' => h r' (by simp [h'])), List.length_cons, Nat.succ_mul]; omega

/-- A cell of the document's arena as it lies: its agent and the slice of its words. -/
def rcell : Option (Int × Value) → List Value
  | none => [.bool false, .int .i64 0, .slice none 0 0]
  | some (ag, v) => [.bool true, .int .i64 ag, v]
def wB : Option (Int × Value) → List Nat
  | none => []
  | some (_, v) => ownB v
def wvals (ws : List Int) : List Value := ws.map fun x => Value.int .u32 x
def wOk (w : World) : Option (Int × List Int) → Option (Int × Value) → Prop
  | none, none => True
  | some (ag, ws), some (ag', v) => ag' = ag ∧ Row w 49 1 v ws.length (wvals ws)
  | _, _ => False
theorem rcell_len (r : Option (Int × Value)) : (rcell r).length = 3 := by cases r <;> rfl
theorem rcells_len (cs : List (Option (Int × Value))) : ∀ r ∈ cs.map rcell, r.length = 3 := by
  intro r h; obtain ⟨x, _, rfl⟩ := List.mem_map.1 h; exact rcell_len x

structure RA0 (w : World) (R most : Nat) (live peak : Int) (cv bv : Value) (cs : List (Option (Int × Value))) (back : List Nat) : Prop where
  head : w.heap[R]? = some (.cells #[.int .i64 most, cv, bv, .int .i64 live, .int .i64 peak] 121 (0, 0))
  cells : Row w 147 3 cv cs.length (cs.map rcell).flatten
  back : Row w 3 1 bv back.length (back.map fun (b : Nat) => Value.int .i64 (b : Int))
def wApart (cs : List (Option (Int × Value))) : Prop := ∀ (i j : Nat) r s, cs[i]? = some r → cs[j]? = some s → i ≠ j → ∀ b ∈ wB r, b ∉ wB s
def RA (w : World) (R : Nat) (S : Ars) (F : List Nat) : Prop :=
  ∃ (cv bv : Value) (cs : List (Option (Int × Value))), RA0 w R S.most S.live S.cells.length cv bv cs S.back ∧ cs.length = S.cells.length ∧ (∀ (i : Nat) c r, S.cells[i]? = some c → cs[i]? = some r → wOk w c r) ∧
    wApart cs ∧ F = R :: (ownB cv ++ (ownB bv ++ cs.flatMap wB)) ∧ S.Ok
section
variable {w w' : World} {R : Nat} {S : Ars} {F : List Nat}
theorem RA.words (h : RA w R S F) : ∃ (cv bv : Value) (cs : List (Option (Int × Value))), RA0 w R S.most S.live S.cells.length cv bv cs S.back ∧ cs.length = S.cells.length ∧ (∀ (i : Nat) c r, S.cells[i]? = some c → cs[i]? = some r → wOk w c r) ∧
    wApart cs ∧ F = R :: (ownB cv ++ (ownB bv ++ cs.flatMap wB)) ∧ S.Ok ∧ (∀ r ∈ cs, ∀ b ∈ wB r, ∃ cur, w.heap[b]? = some (.cells cur 49 (0, 0))) := by
  obtain ⟨cv, bv, cs, h0, hl, hw, ha, hF, ok⟩ := h
  refine ⟨cv, bv, cs, h0, hl, hw, ha, hF, ok, fun r hr b hb => ?_⟩
  obtain ⟨i, hi, rfl⟩ := List.mem_iff_getElem.1 hr
  have := hw i _ _ (List.getElem?_eq_getElem (show i < S.cells.length by omega)) (List.getElem?_eq_getElem hi)
  cases hc : S.cells[i] with
  | none =>
    rw [hc] at this
    cases hr : cs[i] with
    | none => rw [hr] at hb; simp [wB] at hb
    | some x => rw [hr] at this; exact this.elim
  | some x =>
    rw [hc] at this
    cases hr : cs[i] with
    | none => rw [hr] at hb; simp [wB] at hb
    | some y => rw [hr] at this hb; exact this.2.ty hb
theorem RA.lt (h : RA w R S F) : ∀ b ∈ F, b < w.heap.size := by
  obtain ⟨cv, bv, cs, h0, hl, hw, ha, rfl, ok, hwd⟩ := h.words
  intro b hb
  simp only [List.mem_cons, List.mem_append, List.mem_flatMap] at hb
  rcases hb with rfl | hb | hb | ⟨r, hr, hb⟩
  · exact heap_lt h0.head
  · exact h0.cells.lt b hb
  · exact h0.back.lt b hb
  · obtain ⟨_, hh⟩ := hwd r hr b hb; exact heap_lt hh
theorem wOk.keep {c : Option (Int × List Int)} {r : Option (Int × Value)} (h : wOk w c r) (hk : ∀ b ∈ wB r, w'.heap[b]? = w.heap[b]?) : wOk w' c r := by
  match c, r, h with
  | none, none, _ => trivial
  | some (_, _), some (_, _), h => exact ⟨h.1, h.2.keep hk⟩
theorem RA.keep (h : RA w R S F) (hk : ∀ b ∈ F, w'.heap[b]? = w.heap[b]?) : RA w' R S F := by
  obtain ⟨cv, bv, cs, h0, hl, hw, ha, rfl, ok⟩ := h
  refine ⟨cv, bv, cs, ⟨(hk R (by simp)).trans h0.head, h0.cells.keep (fun b hb => hk b (by simp [hb])), h0.back.keep (fun b hb => hk b (by simp [hb]))⟩, hl, fun i c r hc hr => (hw i c r hc hr).keep fun b hb => hk b ?_, ha, rfl, ok⟩
  simp only [List.mem_cons, List.mem_append, List.mem_flatMap]
  exact .inr (.inr (.inr ⟨r, List.mem_of_getElem? hr, hb⟩))
theorem RA.kp {G : List Nat} (h : RA w R S F) (hk : Kp G w w') (hG : ∀ b ∈ F, b ∉ G) : RA w' R S F := h.keep fun b hb => hk.block b (h.lt b hb) (hG b hb)
theorem RA.below (h : RA w R S F) (hb : Below w.heap.size w w') : RA w' R S F := h.keep fun b hm => hb.block b (h.lt b hm)
theorem RA.ok (h : RA w R S F) : S.Ok := by obtain ⟨_, _, _, _, _, _, _, _, ok⟩ := h; exact ok
theorem RA.head (h : RA w R S F) : ∃ (VC VB : Option Addr) (cc cb : Nat), w.cell? ⟨R, 0, none⟩ = some (.int .i64 S.most) ∧ w.cell? ⟨R, 1, none⟩ = some (.slice VC S.cells.length cc) ∧ w.cell? ⟨R, 2, none⟩ = some (.slice VB S.back.length cb) ∧
    w.cell? ⟨R, 3, none⟩ = some (.int .i64 S.live) ∧ w.cell? ⟨R, 4, none⟩ = some (.int .i64 S.cells.length) ∧ (∀ j, w.frozen? ⟨R, j, none⟩ = false) ∧ R < w.heap.size := by
  obtain ⟨cv, bv, cs, h0, hl, _⟩ := h
  obtain ⟨VC, cc, rfl, _⟩ := h0.cells.len
  obtain ⟨VB, cb, rfl, _⟩ := h0.back.len
  have := h0.head
  exact ⟨VC, VB, cc, cb, by simp [World.cell?, this], by simp [World.cell?, this, hl], by simp [World.cell?, this], by simp [World.cell?, this], by simp [World.cell?, this], fun j => by simp [World.frozen?, this], heap_lt this⟩
/-- Cell number i. -/
theorem RA.at_ (h : RA w R S F) {i : Nat} {c : Option (Int × List Int)} (hi : S.cells[i]? = some c) : ∃ (g cc : Nat) (r : Option (Int × Value)), w.cell? ⟨R, 1, none⟩ = some (.slice (some ⟨g, 0, none⟩) S.cells.length cc) ∧ g < w.heap.size ∧ wOk w c r ∧
    (∀ j, j < 3 → w.cell? ⟨g, i * 3 + j, none⟩ = (rcell r)[j]?) ∧ (∀ j, w.frozen? ⟨g, j, none⟩ = false) ∧ i < S.cells.length := by
  obtain ⟨cv, bv, cs, h0, hl, hw, ha, rfl, ok⟩ := h
  have hlt : i < S.cells.length := by
    rcases Nat.lt_or_ge i S.cells.length with hl | hl
    · exact hl
    · rw [List.getElem?_eq_none hl] at hi; cases hi
  have hir : cs[i]? = some (cs[i]'(by omega)) := List.getElem?_eq_getElem (by omega)
  obtain ⟨g, cap, cur, rfl, hg, _⟩ := h0.cells.some_ (by omega)
  have := h0.head
  refine ⟨g, cap, cs[i], by simp [World.cell?, this, hl], heap_lt hg, hw i c _ hi hir, fun j hj => ?_, fun j => h0.cells.frozenAt j, hlt⟩
  rw [h0.cells.cellAt _ (by omega), flatN_at (rcells_len cs) hj, List.getElem?_map, hir]; rfl
end

theorem rr_new_ok (m : Nat) (h1 : 1 ≤ m) (h2 : m ≤ 4096) (w : World) : Calls Try.prog 11 #[.int .i64 (m : Int)] w fun e w' => e = .returned (.tuple #[.pointer (some ⟨w.heap.size, 0, none⟩), .int .i64 0]) ∧ Below w.heap.size w w' ∧ RA w' w.heap.size (Ars.empty m) [w.heap.size] := by
  go_enter Try.func11, Try.ntmps11
  go_wp2
  go_ret2
  exact ⟨rfl, by (repeat (first | exact Below.refl _ _ | (with_reducible refine Below.drew ?_) | (with_reducible refine Below.alloc ?_ (by (try simp); (try omega)) _) | (with_reducible refine Below.setCell ?_ (by (try simp); (try omega)) _) | (with_reducible refine Below.trans ?_ (Below.mono (by assumption) (by (try simp); (try omega)))))), .slice none 0 0, .slice none 0 0, [], ⟨heap_alloc_new w _, Row.nil _ _ _, Row.nil _ _ _⟩, rfl, fun i c r hi => by simp [Ars.empty] at hi, fun i j r s hi => by simp at hi, rfl, Ars.Ok.empty h1 h2⟩
theorem rr_new_bad (m : Int) (h : m < 1 ∨ 4096 < m) (w : World) : Calls Try.prog 11 #[.int .i64 m] w fun e w' => e = .returned (.tuple #[.pointer none, .int .i64 1]) ∧ w = w' := by
  rcases h with h | h
  all_goals
    go_enter Try.func11, Try.ntmps11
    go_wp2
    go_ret2
    exact ⟨rfl, rfl⟩
theorem RA.last {w : World} {R : Nat} {S : Ars} {F : List Nat} (h : RA w R S F) {b : Nat} (hb : S.back.getLast? = some b) : ∃ (g cb : Nat), w.cell? ⟨R, 2, none⟩ = some (.slice (some ⟨g, 0, none⟩) S.back.length cb) ∧ g < w.heap.size ∧ w.cell? ⟨g, S.back.length - 1, none⟩ = some (.int .i64 (b : Int)) ∧ 0 < S.back.length ∧ S.back.length ≤ cb := by
  obtain ⟨cv, bv, cs, h0, hl, _⟩ := h
  have hp : 0 < S.back.length := by
    cases hl : S.back with
    | nil => rw [hl] at hb; cases hb
    | cons x r => simp
  have hbr := h0.back
  obtain ⟨g, cap, cur, rfl, hg, hnc, _⟩ := hbr.some_ hp
  have := h0.head
  refine ⟨g, cap, by simp [World.cell?, this], heap_lt hg, ?_, hp, hnc⟩
  rw [hbr.cellAt _ (by omega), List.getElem?_map]
  rw [List.getLast?_eq_getElem?] at hb
  rw [hb]; rfl
theorem rr_next (R : Nat) (S : Ars) (F : List Nat) (w : World) (h : RA w R S F) :
    Calls Try.prog 100 #[.pointer (some ⟨R, 0, none⟩)] w fun e w' => e = .returned (.tuple #[.int .i64 S.nextC, .int .i64 S.nextE]) ∧ Below w.heap.size w w' := by
  obtain ⟨VC, VB, cc, cb, c0, c1, c2, c3, c4, cf, hRl⟩ := h.head
  have hbl := h.ok.back_le
  have hm := h.ok.most2
  have hcl := h.ok.len
  cases hb : S.back.getLast? with
  | some b =>
    have H : Hid (S.nextC = b ∧ S.nextE = 0) := ⟨by unfold Ars.nextC; rw [hb], by unfold Ars.nextE; rw [hb]⟩
    obtain ⟨g, cb', k2, hg, kb, hp, _⟩ := h.last hb
    clear c2 hb h cf
    go_enter Try.func100, Try.ntmps100
    go_wp2
    go_quiet (fail)
    go_wp2
    go_ret2
    exact ⟨retI2 H.out.1.symm H.out.2.symm, below_drewN (Below.refl _ _) _⟩
  | none =>
    have hb0 : S.back = [] := List.getLast?_eq_none_iff.1 hb
    have hbl0 : S.back.length = 0 := by rw [hb0]; rfl
    have HB : Hid (S.nextC = (if S.cells.length = S.most then 0 else (S.cells.length : Int)) ∧ S.nextE = if S.cells.length = S.most then 40 else 0) := ⟨by unfold Ars.nextC; rw [hb], by unfold Ars.nextE; rw [hb]⟩
    rw [hbl0] at c2
    clear hb hb0 hbl h hbl0 cf
    by_cases hfull : S.cells.length = S.most
    · have hf2 : (S.most : Int) ≤ S.cells.length := by omega
      have HF := Lib.hid hfull; clear hfull
      go_enter Try.func100, Try.ntmps100
      go_wp2
      go_quiet (fail)
      go_wp2
      go_ret2
      exact ⟨retI2 (by rw [HB.out.1, if_pos HF.out]) (by rw [HB.out.2, if_pos HF.out]), below_drewN (Below.refl _ _) _⟩
    · have hf2 : (S.cells.length : Int) < S.most := by omega
      go_enter Try.func100, Try.ntmps100
      go_wp2
      go_quiet (fail)
      go_wp2
      go_ret2
      exact ⟨retI2 (by rw [HB.out.1, if_neg hfull]) (by rw [HB.out.2, if_neg hfull]), below_drewN (Below.refl _ _) _⟩
theorem rr_is (R : Nat) (S : Ars) (F : List Nat) (c : Int) (w : World) (h : RA w R S F) :
    Calls Try.prog 98 #[.pointer (some ⟨R, 0, none⟩), .int .i64 c] w fun e w' => e = .returned (.bool (S.cell c).isSome) ∧ w = w' := by
  obtain ⟨VC, VB, cc, cb, c0, c1, c2, c3, c4, cf, hRl⟩ := h.head
  cases hc : S.cell c with
  | none =>
    rcases Ars.cell_none hc with hl | hl | ⟨h0, hl⟩
    · go_enter Try.func98, Try.ntmps98
      go_wp2
      go_ret
      exact ⟨rfl, rfl⟩
    · go_enter Try.func98, Try.ntmps98
      go_wp2
      go_ret
      exact ⟨rfl, rfl⟩
    · obtain ⟨i, rfl⟩ := Int.eq_ofNat_of_zero_le h0
      simp only [Int.toNat_natCast] at hl
      obtain ⟨g, cc', r, k1, hgl, ha, hr, hf, hlt⟩ := h.at_ hl
      cases r with
      | some x => exact ha.elim
      | none =>
        have r0 : w.cell? ⟨g, i * 3, none⟩ = some (.bool false) := hr 0 (by omega)
        clear c1 hr hf ha hc hl h0 cf
        go_enter Try.func98, Try.ntmps98
        go_wp2
        go_ret
        exact ⟨rfl, rfl⟩
  | some x =>
    obtain ⟨ag, ws⟩ := x
    obtain ⟨h0, hl⟩ := Ars.cell_some hc
    obtain ⟨i, rfl⟩ := Int.eq_ofNat_of_zero_le h0
    simp only [Int.toNat_natCast] at hl
    obtain ⟨g, cc', r, k1, hgl, ha, hr, hf, hlt⟩ := h.at_ hl
    cases r with
    | none => exact ha.elim
    | some y =>
      have r0 : w.cell? ⟨g, i * 3, none⟩ = some (.bool true) := hr 0 (by omega)
      clear c1 hr hf ha hc hl h0 cf
      go_enter Try.func98, Try.ntmps98
      go_wp2
      go_ret
      exact ⟨rfl, rfl⟩
/-- A live cell's cells. -/
theorem RA.live {w : World} {R : Nat} {S : Ars} {F : List Nat} (h : RA w R S F) {i : Nat} {ag : Int} {ws : List Int} (hc : S.cell i = some (ag, ws)) : ∃ (g cc d cw : Nat) , w.cell? ⟨R, 1, none⟩ = some (.slice (some ⟨g, 0, none⟩) S.cells.length cc) ∧ i < S.cells.length ∧ w.cell? ⟨g, i * 3 + 1, none⟩ = some (.int .i64 ag) ∧
    w.cell? ⟨g, i * 3 + 2, none⟩ = some (.slice (some ⟨d, 0, none⟩) ws.length cw) ∧ Row w 49 1 (.slice (some ⟨d, 0, none⟩) ws.length cw) ws.length (wvals ws) ∧ d ∈ F ∧ g ∈ F ∧ 1 ≤ ws.length ∧ ws.length ≤ 7 := by
  obtain ⟨_, hl⟩ := Ars.cell_some hc
  simp only [Int.toNat_natCast] at hl
  obtain ⟨g, cc', r, k1, hgl, ha, hr, hf, hlt⟩ := h.at_ hl
  have hok := h.ok.cell _ _ _ hl
  obtain ⟨cv, bv, cs, h0, hll, hw, hap, rfl, ok⟩ := h
  have hcv : cv = .slice (some ⟨g, 0, none⟩) S.cells.length cc' := by have := h0.head; simpa [World.cell?, this] using k1
  have hir : cs[i]? = some (cs[i]'(by omega)) := List.getElem?_eq_getElem (by omega)
  have hrr : rcell cs[i] = rcell r := by
    have hcr := h0.cells
    rw [hcv, hll] at hcr
    apply List.ext_getElem?
    intro j
    by_cases hj : j < 3
    · rw [← hr j hj, hcr.cellAt (i * 3 + j) (by omega), flatN_at (rcells_len cs) hj, List.getElem?_map, hir]; rfl
    · rw [List.getElem?_eq_none (by rw [rcell_len]; omega), List.getElem?_eq_none (by rw [rcell_len]; omega)]
  cases r with
  | none => exact ha.elim
  | some y =>
    obtain ⟨ag', v⟩ := y
    obtain ⟨rfl, hrow⟩ := ha
    obtain ⟨d, cw, cur, rfl, _⟩ := hrow.some_ (by omega)
    refine ⟨g, cc', d, cw, k1, hlt, hr 1 (by omega), hr 2 (by omega), hrow, ?_, by simp [hcv, ownB], hok.2.2.1, hok.2.2.2.1⟩
    cases hci : cs[i] with
    | none => rw [hci] at hrr; simp [rcell] at hrr
    | some z =>
      obtain ⟨az, vz⟩ := z
      rw [hci] at hrr hir
      simp only [rcell, List.cons.injEq, and_true, true_and] at hrr
      simp only [List.mem_cons, List.mem_append, List.mem_flatMap]
      exact .inr (.inr (.inr ⟨_, List.mem_of_getElem? hir, by rw [show wB (some (az, vz)) = ownB vz from rfl, hrr.2]; simp [ownB]⟩))
theorem rr_slot (R : Nat) (S : Ars) (F : List Nat) (c s : Int) (w : World) (h : RA w R S F) :
    Calls Try.prog 97 #[.pointer (some ⟨R, 0, none⟩), .int .i64 c, .int .i64 s] w fun e w' => e = .returned (.int .i64 (S.slotE c s)) ∧ w = w' := by
  have H := Lib.hid h
  rcases slotE_cases S c s with ⟨h1, hc⟩ | ⟨h1, ag, ws, hc, hs⟩ | ⟨h1, ag, ws, hc, hs0, hs⟩
  · have HE := Lib.hid h1
    have HS : Hid ((S.cell c).isSome = false) := by show _ = _; rw [hc]; rfl
    clear h hc h1
    go_enter Try.func97, Try.ntmps97
    go_wp2_with (go_at_call 98; refine (rr_is _ S F _ _ H.out).mono ?_; rintro e w1 ⟨rfl, rfl⟩; rw [HS.out])
    go_ret
    exact ⟨by rw [HE.out]; rfl, rfl⟩
  all_goals
    obtain ⟨h0, hl⟩ := Ars.cell_some hc
    obtain ⟨i, rfl⟩ := Int.eq_ofNat_of_zero_le h0
    obtain ⟨g, cc, d, cw, k1, hlt, z1, z2, hrow, hdF, hgF, hn1, hn7⟩ := h.live hc
    have HE := Lib.hid h1
    have HS : Hid ((S.cell i).isSome = true) := by show _ = _; rw [hc]; rfl
    clear h hc h1 hl h0 hrow hdF hgF
  · rcases hs with hs | hs
    all_goals
      go_enter Try.func97, Try.ntmps97
      go_wp2_with (go_at_call 98; refine (rr_is _ S F _ _ H.out).mono ?_; rintro e w1 ⟨rfl, rfl⟩; rw [HS.out])
      go_ret
      exact ⟨by rw [HE.out]; rfl, rfl⟩
  · go_enter Try.func97, Try.ntmps97
    go_wp2_with (go_at_call 98; refine (rr_is _ S F _ _ H.out).mono ?_; rintro e w1 ⟨rfl, rfl⟩; rw [HS.out])
    go_ret
    exact ⟨by rw [HE.out]; rfl, rfl⟩
theorem rr_get (R : Nat) (S : Ars) (F : List Nat) (c s : Int) (w : World) (h : RA w R S F) :
    Calls Try.prog 116 #[.pointer (some ⟨R, 0, none⟩), .int .i64 c, .int .i64 s] w fun e w' => e = .returned (.tuple #[.int .u32 (S.getV c s), .int .i64 (S.slotE c s)]) ∧ w = w' := by
  have H := Lib.hid h
  by_cases he : S.slotE c s = 0
  · rcases slotE_cases S c s with ⟨h1, _⟩ | ⟨h1, _⟩ | ⟨h1, ag, ws, hc, hs0, hs⟩
    · omega
    · omega
    · obtain ⟨h0, hl⟩ := Ars.cell_some hc
      obtain ⟨i, rfl⟩ := Int.eq_ofNat_of_zero_le h0
      obtain ⟨k, rfl⟩ := Int.eq_ofNat_of_zero_le hs0
      have hk : k < ws.length := by omega
      obtain ⟨g, cc, d, cw, k1, hlt, z1, z2, hrow, hdF, hgF, hn1, hn7⟩ := h.live hc
      have z3 : w.cell? ⟨d, k, none⟩ = some (.int .u32 (ws.getD k 0)) := (hrow.cellAt k (by omega)).trans (by simp [wvals, hk])
      have HV : Hid (S.getV i k = ws.getD k 0) := by
        show _ = _; unfold Ars.getV; rw [hc]; simp only; rw [if_neg (by omega)]; simp
      have HE := Lib.hid h1
      clear h hc h1 he hl h0 hrow hdF hgF
      go_enter Try.func116, Try.ntmps116
      go_wp2_with (go_at_call 97; refine (rr_slot _ S F _ _ _ H.out).mono ?_; rintro e w' ⟨rfl, rfl⟩; rw [HE.out])
      go_ret2
      exact ⟨retI2 (by rw [HV.out]; simp [hk]) (by rw [HE.out]), rfl⟩
  · have HV : Hid (S.getV c s = 0) := by
      show _ = _
      rcases slotE_cases S c s with ⟨h1, hc⟩ | ⟨h1, ag, ws, hc, hs⟩ | ⟨h1, _⟩
      · unfold Ars.getV; rw [hc]
      · unfold Ars.getV; rw [hc]; simp only; rw [if_pos hs]
      · exact absurd h1 he
    have hne : (S.slotE c s != 0) = true := by simpa using he
    clear h he
    go_enter Try.func116, Try.ntmps116
    go_wp2_with (go_at_call 97; refine (rr_slot _ S F _ _ _ H.out).mono ?_; rintro e w' ⟨rfl, rfl⟩)
    go_ret2
    exact ⟨by rw [HV.out]; rfl, rfl⟩
theorem rr_agent (R : Nat) (S : Ars) (F : List Nat) (c : Int) (w : World) (h : RA w R S F) :
    Calls Try.prog 115 #[.pointer (some ⟨R, 0, none⟩), .int .i64 c] w fun e w' => e = .returned (.tuple #[.int .i64 (S.agC c), .int .i64 (S.agA c), .int .i64 (if (S.cell c).isSome then 0 else 41)]) ∧ Below w.heap.size w w' := by
  have H := Lib.hid h
  obtain ⟨VC, VB, cc, cb, c0, c1, c2, c3, c4, cf, hRl⟩ := h.head
  cases hc : S.cell c with
  | none =>
    have HC : Hid (S.agC c = 0 ∧ S.agA c = 0) := ⟨by unfold Ars.agC; rw [hc], by unfold Ars.agA; rw [hc]⟩
    have HS : Hid ((S.cell c).isSome = false) := by show _ = _; rw [hc]; rfl
    clear hc h cf
    go_enter Try.func115, Try.ntmps115
    go_wp2_with (go_at_call 98; refine (rr_is _ S F _ _ H.out).mono ?_; rintro e w1 ⟨rfl, rfl⟩; rw [HS.out])
    go_ret3
    exact ⟨by rw [HC.out.1, HC.out.2]; rfl, Below.refl _ _⟩
  | some x =>
    obtain ⟨ag, ws⟩ := x
    obtain ⟨h0, hl⟩ := Ars.cell_some hc
    obtain ⟨i, rfl⟩ := Int.eq_ofNat_of_zero_le h0
    obtain ⟨g, cc', d, cw, k1, hlt, z1, z2, hrow, hdF, hgF, hn1, hn7⟩ := h.live hc
    have HC : Hid (S.agC i = ag ∧ S.agA i = (ws.length : Int) - 1) := ⟨by unfold Ars.agC; rw [hc], by unfold Ars.agA; rw [hc]⟩
    have HS : Hid ((S.cell i).isSome = true) := by show _ = _; rw [hc]; rfl
    clear c1 hc hl h0 h cf hrow hdF hgF
    go_enter Try.func115, Try.ntmps115
    go_wp2_with (go_at_call 98; refine (rr_is _ S F _ _ H.out).mono ?_; rintro e w1 ⟨rfl, rfl⟩; rw [HS.out])
    go_quiet (fail)
    go_wp2
    go_ret3
    exact ⟨by rw [HC.out.1, HC.out.2]; rfl, below_drewN (Below.refl _ _) _⟩
end Go.Proofs.Ythbobooiedcofaa
/-
  The document's arena, continued: Put, Give.
-/
namespace Go.Proofs.Ythbobooiedcofaa
open Go.RowKit
attribute [local go_sem] cell_set
set_option maxRecDepth 100000

theorem flatN_set {m : Nat} {rows : List (List Value)} (h : ∀ r ∈ rows, r.length = m) {i : Nat} {r : List Value} (hi : rows[i]? = some r) {j : Nat} (hj : j < m) (u : Value) :
    rows.flatten.set (i * m + j) u = (rows.set i (r.set j u)).flatten := by
  have hil : i < rows.length := by
    rcases Nat.lt_or_ge i rows.length with hl | hl
    · exact hl
    · rw [List.getElem?_eq_none hl] at hi; cases hi
  have hr : r.length = m := h r (List.mem_of_getElem? hi)
  have h' : ∀ x ∈ rows.set i (r.set j u), x.length = m := by
    intro x hx
    rcases List.mem_or_eq_of_mem_set hx with hx | rfl
    · exact h x hx
    · simpa using hr
  apply List.ext_getElem?
  intro k
  have hm0 : 0 < m := by omega
  have hk : k = (k / m) * m + k % m := by have := Nat.div_add_mod k m; rw [Nat.mul_comm] at this; omega
  have hm : k % m < m := Nat.mod_lt _ hm0
  generalize k / m = q at hk
  generalize k % m = t at hk hm
  subst hk
  rw [flatN_at h' hm, List.getElem?_set, flatN_at h hm]
  by_cases hki : i = q
  · subst hki
    rw [hi]
    simp only [List.getElem?_set, hil, if_true, Option.bind_some]
    have hlt : i * m + j < rows.flatten.length := by rw [flatN_len h]; calc i * m + j < i * m + m := by omega
      _ = (i + 1) * m := by rw [Nat.succ_mul]
      _ ≤ rows.length * m := Nat.mul_le_mul_right _ (by omega)
    by_cases hkj : j = t
    · rw [if_pos (by omega), if_pos hkj, if_pos hlt, if_pos (by omega)]
    · rw [if_neg (by omega), if_neg hkj]
  · have hne : i * m + j ≠ q * m + t := by
      intro e
      rcases Nat.lt_or_gt_of_ne hki with hlt | hlt
      · have := Nat.mul_le_mul_right m (show i + 1 ≤ q by omega); rw [Nat.succ_mul] at this; omega
      · have := Nat.mul_le_mul_right m (show q + 1 ≤ i by omega); rw [Nat.succ_mul] at this; omega
    rw [if_neg hne, List.getElem?_set, if_neg hki]
theorem cells_set3 {cs : List (Option (Int × Value))} {i : Nat} (hi : i < cs.length) {r : Option (Int × Value)} {u0 u1 u2 : Value} (hr : rcell r = [u0, u1, u2]) :
    (((cs.map rcell).flatten.set (i * 3) u0).set (i * 3 + 1) u1).set (i * 3 + 2) u2 = ((cs.set i r).map rcell).flatten := by
  have hir : (cs.map rcell)[i]? = some (rcell cs[i]) := by rw [List.getElem?_map, List.getElem?_eq_getElem hi]; rfl
  have e0 := flatN_set (rcells_len cs) hir (j := 0) (by omega) u0
  rw [Nat.add_zero] at e0
  have l1 : ∀ x ∈ (cs.map rcell).set i ((rcell cs[i]).set 0 u0), x.length = 3 := fun x hx => by
    rcases List.mem_or_eq_of_mem_set hx with hx | rfl
    · exact rcells_len cs x hx
    · simp [rcell_len]
  have e1 := flatN_set l1 (List.getElem?_set_self (by simpa using hi)) (j := 1) (by omega) u1
  rw [List.set_set] at e1
  have l2 : ∀ x ∈ (cs.map rcell).set i (((rcell cs[i]).set 0 u0).set 1 u1), x.length = 3 := fun x hx => by
    rcases List.mem_or_eq_of_mem_set hx with hx | rfl
    · exact rcells_len cs x hx
    · simp [rcell_len]
  have e2 := flatN_set l2 (List.getElem?_set_self (by simpa using hi)) (j := 2) (by omega) u2
  rw [List.set_set] at e2
  rw [e0, e1, e2, List.map_set, hr]
  congr 2
  have h3 := rcell_len cs[i]
  generalize rcell cs[i] = q at h3
  match q, h3 with
  | [_, _, _], _ => rfl
section
variable {w w' w1 : World} {R most : Nat} {live peak : Int} {cv bv : Value} {cs : List (Option (Int × Value))} {back : List Nat}
theorem RA0.a1 (h : RA0 w R most live peak cv bv cs back) : R ∉ ownB cv := fun hb => by obtain ⟨_, hh⟩ := h.cells.ty hb; exact ty_ne h.head hh (by decide) rfl
theorem RA0.a2 (h : RA0 w R most live peak cv bv cs back) : R ∉ ownB bv := fun hb => by obtain ⟨_, hh⟩ := h.back.ty hb; exact ty_ne h.head hh (by decide) rfl
theorem RA0.a3 (h : RA0 w R most live peak cv bv cs back) : ∀ b ∈ ownB cv, b ∉ ownB bv := fun b hb hb' => by
  obtain ⟨_, h1⟩ := h.cells.ty hb; obtain ⟨_, h2⟩ := h.back.ty hb'; exact ty_ne h1 h2 (by decide) rfl
theorem RA0.keep (h : RA0 w R most live peak cv bv cs back) (hk : ∀ b ∈ R :: (ownB cv ++ ownB bv), w'.heap[b]? = w.heap[b]?) : RA0 w' R most live peak cv bv cs back :=
  ⟨(hk R (by simp)).trans h.head, h.cells.keep (fun b hm => hk b (by simp [hm])), h.back.keep (fun b hm => hk b (by simp [hm]))⟩
theorem RA0.lt (h : RA0 w R most live peak cv bv cs back) : ∀ b ∈ R :: (ownB cv ++ ownB bv), b < w.heap.size := by
  intro b hm
  simp only [List.mem_cons, List.mem_append] at hm
  rcases hm with rfl | hm | hm
  · exact heap_lt h.head
  · exact h.cells.lt b hm
  · exact h.back.lt b hm
theorem RA0.alloc (h : RA0 w R most live peak cv bv cs back) (o : Obj) : RA0 (w.alloc o) R most live peak cv bv cs back := h.keep fun b hb => Below.heap_alloc w o b (h.lt b hb)
theorem RA0.drew (h : RA0 w R most live peak cv bv cs back) : RA0 w.drew R most live peak cv bv cs back := h.keep fun _ _ => rfl
/-- A block that holds something of another kind. -/
theorem RA0.other (h : RA0 w R most live peak cv bv cs back) {d : Nat} {cur : Array Value} {t : TypeId} (hd : w.heap[d]? = some (.cells cur t (0, 0))) (h1 : t ≠ 121) (h2 : t ≠ 147) (h3 : t ≠ 3) : ∀ b ∈ R :: (ownB cv ++ ownB bv), b ≠ d := by
  intro b hm
  simp only [List.mem_cons, List.mem_append] at hm
  rcases hm with rfl | hm | hm
  · exact ty_ne h.head hd (fun e => h1 e.symm)
  · obtain ⟨_, hh⟩ := h.cells.ty hm; exact ty_ne hh hd (fun e => h2 e.symm)
  · obtain ⟨_, hh⟩ := h.back.ty hm; exact ty_ne hh hd (fun e => h3 e.symm)
theorem RA0.set3 {g n cc : Nat} (h : RA0 w R most live peak (.slice (some ⟨g, 0, none⟩) n cc) bv cs back) {i : Nat} (hi : i < cs.length) {r : Option (Int × Value)} {u0 u1 u2 : Value} (hr : rcell r = [u0, u1, u2]) :
    RA0 (((w.setCell ⟨g, i * 3, none⟩ u0).setCell ⟨g, i * 3 + 1, none⟩ u1).setCell ⟨g, i * 3 + 2, none⟩ u2) R most live peak (.slice (some ⟨g, 0, none⟩) n cc) bv (cs.set i r) back := by
  have hAg : R ≠ g := fun e => h.a1 (by simp [ownB, e])
  have hBg : g ∉ ownB bv := h.a3 g (by simp [ownB])
  have hk : ∀ b, b ≠ g → (((w.setCell ⟨g, i * 3, none⟩ u0).setCell ⟨g, i * 3 + 1, none⟩ u1).setCell ⟨g, i * 3 + 2, none⟩ u2).heap[b]? = w.heap[b]? := fun b hb =>
    ((Below.heap_setCell _ _ _ b hb).trans (Below.heap_setCell _ _ _ b hb)).trans (Below.heap_setCell _ _ _ b hb)
  obtain ⟨c1, c2, c4⟩ := h
  have hn : n = cs.length := by obtain ⟨_, _, e, _⟩ := c2.len; injection e
  subst hn
  refine ⟨(hk R hAg).trans c1, ?_, c4.keep fun b hm => hk b (fun e => by subst e; exact hBg hm)⟩
  have := ((c2.set (i * 3) u0).set (i * 3 + 1) u1).set (i * 3 + 2) u2
  rw [cells_set3 hi hr] at this
  simpa using this
theorem RA0.setBack (h : RA0 w R most live peak cv bv cs back) {G : List Nat} (hk : Kp G w w1) (hG : R ∉ G ∧ ∀ b ∈ ownB cv, b ∉ G) {bv' : Value} {back' : List Nat}
    (hr : Row w1 3 1 bv' back'.length (back'.map fun (b : Nat) => Value.int .i64 (b : Int))) : RA0 (w1.setCell ⟨R, 2, none⟩ bv') R most live peak cv bv' cs back' := by
  have hA1 := (hk.block R (heap_lt h.head) hG.1).trans h.head
  refine ⟨by simp [World.setCell, Array.getElem?_modify, hA1], ?_, ?_⟩
  · exact (h.cells.kp hk hG.2).keep fun b hb => Below.heap_setCell w1 _ _ b (fun e => by have e' : b = R := e; subst e'; exact h.a1 hb)
  · refine hr.keep fun b hb => Below.heap_setCell w1 _ _ b (fun e => ?_)
    have e' : b = R := e
    subst e'
    obtain ⟨_, hh⟩ := hr.ty hb
    exact ty_ne hA1 hh (by decide) rfl
theorem RA0.setCells (h : RA0 w R most live peak cv bv cs back) {G : List Nat} (hk : Kp G w w1) (hG : R ∉ G ∧ ∀ b ∈ ownB bv, b ∉ G) {cv' : Value} {cs' : List (Option (Int × Value))}
    (hr : Row w1 147 3 cv' cs'.length (cs'.map rcell).flatten) : RA0 (w1.setCell ⟨R, 1, none⟩ cv') R most live peak cv' bv cs' back := by
  have hA1 := (hk.block R (heap_lt h.head) hG.1).trans h.head
  refine ⟨by simp [World.setCell, Array.getElem?_modify, hA1], ?_, ?_⟩
  · refine hr.keep fun b hb => Below.heap_setCell w1 _ _ b (fun e => ?_)
    have e' : b = R := e
    subst e'
    obtain ⟨_, hh⟩ := hr.ty hb
    exact ty_ne hA1 hh (by decide) rfl
  · exact (h.back.kp hk hG.2).keep fun b hb => Below.heap_setCell w1 _ _ b (fun e => by have e' : b = R := e; subst e'; exact h.a2 hb)
theorem RA0.setLive (h : RA0 w R most live peak cv bv cs back) (q : Int) : RA0 (w.setCell ⟨R, 3, none⟩ (.int .i64 q)) R most q peak cv bv cs back := by
  refine ⟨by simp [World.setCell, Array.getElem?_modify, h.head], ?_, ?_⟩
  · exact h.cells.keep fun b hb => Below.heap_setCell w _ _ b (fun e => by have e' : b = R := e; subst e'; exact h.a1 hb)
  · exact h.back.keep fun b hb => Below.heap_setCell w _ _ b (fun e => by have e' : b = R := e; subst e'; exact h.a2 hb)
theorem RA0.setPeak (h : RA0 w R most live peak cv bv cs back) (q : Int) : RA0 (w.setCell ⟨R, 4, none⟩ (.int .i64 q)) R most live q cv bv cs back := by
  refine ⟨by simp [World.setCell, Array.getElem?_modify, h.head], ?_, ?_⟩
  · exact h.cells.keep fun b hb => Below.heap_setCell w _ _ b (fun e => by have e' : b = R := e; subst e'; exact h.a1 hb)
  · exact h.back.keep fun b hb => Below.heap_setCell w _ _ b (fun e => by have e' : b = R := e; subst e'; exact h.a2 hb)
end
end Go.Proofs.Ythbobooiedcofaa
namespace Go.Proofs.Ythbobooiedcofaa
open Go.RowKit
attribute [local go_sem] cell_set
set_option maxRecDepth 100000

/-- Blocks of words lie as they lay. -/
def KW (w w' : World) : Prop := ∀ (b : Nat) (cur : Array Value), w.heap[b]? = some (.cells cur 49 (0, 0)) → w'.heap[b]? = some (.cells cur 49 (0, 0))
section
variable {w w1 w2 : World}
theorem KW.refl (w : World) : KW w w := fun _ _ h => h
theorem KW.setCell (h : KW w w1) {p : Addr} {c : Array Value} {t : TypeId} (hp : w1.heap[p.block]? = some (.cells c t (0, 0))) (ht : t ≠ 49) (u : Value) : KW w (w1.setCell p u) := fun b cur hb =>
  (Below.heap_setCell w1 p u b (ty_ne (h b cur hb) hp (fun e => ht e.symm))).trans (h b cur hb)
theorem KW.alloc (h : KW w w1) (o : Obj) : KW w (w1.alloc o) := fun b cur hb => (Below.heap_alloc w1 o b (heap_lt (h b cur hb))).trans (h b cur hb)
theorem KW.drew (h : KW w w1) : KW w w1.drew := h
theorem KW.kp (h : KW w w1) {G : List Nat} (hk : Kp G w1 w2) (hG : ∀ b ∈ G, ∃ c t, w1.heap[b]? = some (.cells c t (0, 0)) ∧ t ≠ 49) : KW w w2 := fun b cur hb =>
  (hk.block b (heap_lt (h b cur hb)) (fun hm => by obtain ⟨c, t, h1, h2⟩ := hG b hm; exact ty_ne (h b cur hb) h1 (fun e => h2 e.symm) rfl)).trans (h b cur hb)
theorem KW.below (h : KW w w1) (hk : Below w1.heap.size w1 w2) : KW w w2 := fun b cur hb => (hk.block b (heap_lt (h b cur hb))).trans (h b cur hb)
theorem wOk.kw {c : Option (Int × List Int)} {r : Option (Int × Value)} (h : wOk w c r) (hk : KW w w1) : wOk w1 c r := by
  match c, r, h with
  | none, none, _ => trivial
  | some (_, _), some (_, v), h => exact ⟨h.1, h.2.keep fun b hb => by obtain ⟨cur, hh⟩ := h.2.ty hb; rw [hh]; exact hk b cur hh⟩
theorem setCell_ty {g : Nat} {cur : Array Value} {t : TypeId} (hg : w.heap[g]? = some (.cells cur t (0, 0))) (p : Addr) (u : Value) : ∃ cur', (w.setCell p u).heap[g]? = some (.cells cur' t (0, 0)) := by
  by_cases e : g = p.block
  · subst e; exact ⟨_, by simp [World.setCell, Array.getElem?_modify, hg]; rfl⟩
  · exact ⟨cur, (Below.heap_setCell w p u g e).trans hg⟩
end
theorem RA.slice {w : World} {R : Nat} {S : Ars} {g cc : Nat} {cv bv : Value} {cs : List (Option (Int × Value))} (h0 : RA0 w R S.most S.live S.cells.length cv bv cs S.back) (k1 : w.cell? ⟨R, 1, none⟩ = some (.slice (some ⟨g, 0, none⟩) S.cells.length cc)) : cv = .slice (some ⟨g, 0, none⟩) S.cells.length cc := by
  have := h0.head; simpa [World.cell?, this] using k1
theorem RA.putw {w : World} {R : Nat} {S : Ars} {F : List Nat} (h : RA w R S F) {i k g cc d cw : Nat} {ag : Int} {ws : List Int} (hc : S.cell i = some (ag, ws)) (hk : k < ws.length)
    (k1 : w.cell? ⟨R, 1, none⟩ = some (.slice (some ⟨g, 0, none⟩) S.cells.length cc)) (z2 : w.cell? ⟨g, i * 3 + 2, none⟩ = some (.slice (some ⟨d, 0, none⟩) ws.length cw)) {v : Int} (hv : 0 ≤ v ∧ v < 4294967296) :
    RA (w.setCell ⟨d, k, none⟩ (.int .u32 v)) R (S.put i k v) F := by
  obtain ⟨cv, bv, cs, h0, hl, hw, hap, rfl, ok, hwd⟩ := h.words
  have hcv := RA.slice h0 k1
  subst hcv
  obtain ⟨_, hli⟩ := Ars.cell_some hc
  simp only [Int.toNat_natCast] at hli
  have hilt : i < S.cells.length := by
    rcases Nat.lt_or_ge i S.cells.length with hl | hl
    · exact hl
    · rw [List.getElem?_eq_none hl] at hli; cases hli
  have hir : cs[i]? = some (cs[i]'(by omega)) := List.getElem?_eq_getElem (by omega)
  have hwi := hw i _ _ hli hir
  have hS : S.put i k v = { S with cells := S.cells.set i (some (ag, ws.set k v)) } := by
    unfold Ars.put; rw [hc]; simp only; rw [if_neg (by omega)]; simp
  cases hci : cs[i] with
  | none => rw [hci] at hwi; exact hwi.elim
  | some y =>
    obtain ⟨ag', vi⟩ := y
    rw [hci] at hwi hir
    obtain ⟨rfl, hrow⟩ := hwi
    have hcr := h0.cells
    rw [hl] at hcr
    have hvi : vi = .slice (some ⟨d, 0, none⟩) ws.length cw := by
      have := hcr.cellAt (i * 3 + 2) (by omega)
      rw [z2, flatN_at (rcells_len cs) (by omega), List.getElem?_map, hir] at this
      simpa [rcell] using this.symm
    subst hvi
    obtain ⟨curd, hd⟩ := hrow.ty (b := d) (by simp [ownB])
    have hne := h0.other hd (by decide) (by decide) (by decide)
    refine ⟨_, bv, cs, ?_, by rw [hS]; simpa using hl, fun j c r hcj hrj => ?_, hap, rfl, ok.put _ _ _ hv⟩
    · have := h0.keep (w' := w.setCell ⟨d, k, none⟩ (.int .u32 v)) fun b hb => Below.heap_setCell w _ _ b (hne b hb)
      rw [hS]; simpa [Ars.live] using this
    · rw [hS] at hcj
      simp only [List.getElem?_set] at hcj
      by_cases e : i = j
      · subst e
        rw [if_pos rfl, if_pos hilt] at hcj
        injection hcj with hcj; subst hcj
        rw [hir] at hrj; injection hrj with hrj; subst hrj
        refine ⟨rfl, ?_⟩
        have := hrow.set k (.int .u32 v)
        simp only [List.length_set]
        rw [show wvals (ws.set k v) = (wvals ws).set k (.int .u32 v) by simp [wvals, List.map_set]]
        exact this
      · rw [if_neg e] at hcj
        refine (hw j c r hcj hrj).keep fun b hb => Below.heap_setCell w _ _ b (fun e' => ?_)
        have e'' : b = d := e'
        subst e''
        exact hap j i _ _ hrj hir (fun e2 => e e2.symm) b hb (by simp [wB, ownB])
theorem rr_put (R : Nat) (S : Ars) (F : List Nat) (c s v : Int) (hv : 0 ≤ v ∧ v < 4294967296) (w : World) (h : RA w R S F) :
    Calls Try.prog 48 #[.pointer (some ⟨R, 0, none⟩), .int .i64 c, .int .i64 s, .int .u32 v] w fun e w' => e = .returned (.int .i64 (S.slotE c s)) ∧ RA w' R (S.put c s v) F ∧ Kp F w w' ∧ w'.heap.size = w.heap.size := by
  have H := Lib.hid h
  by_cases he : S.slotE c s = 0
  · rcases slotE_cases S c s with ⟨h1, _⟩ | ⟨h1, _⟩ | ⟨h1, ag, ws, hc, hs0, hs⟩
    · omega
    · omega
    · obtain ⟨h0, hl⟩ := Ars.cell_some hc
      obtain ⟨i, rfl⟩ := Int.eq_ofNat_of_zero_le h0
      obtain ⟨k, rfl⟩ := Int.eq_ofNat_of_zero_le hs0
      have hk : k < ws.length := by omega
      obtain ⟨g, cc, d, cw, k1, hlt, z1, z2, hrow, hdF, hgF, hn1, hn7⟩ := h.live hc
      have z3 : w.cell? ⟨d, k, none⟩ = some (.int .u32 (ws.getD k 0)) := (hrow.cellAt k (by omega)).trans (by simp [wvals, hk])
      have z3f := hrow.frozenAt k
      have HP := Lib.hid (And.intro (h.putw hc hk k1 z2 hv) hdF)
      have HE := Lib.hid h1
      clear h hc h1 he hl h0 hrow hdF hgF hv
      go_enter Try.func48, Try.ntmps48
      go_wp2_with (go_at_call 97; refine (rr_slot _ S F _ _ _ H.out).mono ?_; rintro e w' ⟨rfl, rfl⟩; rw [HE.out])
      go_ret
      exact ⟨by rw [HE.out]; rfl, HP.out.1, (Kp.refl _ _).setCell (.inl HP.out.2) _, by simp⟩
  · have HS : Hid (S.put c s v = S) := by
      show _ = _
      rcases slotE_cases S c s with ⟨h1, hc⟩ | ⟨h1, ag, ws, hc, hs⟩ | ⟨h1, _⟩
      · unfold Ars.put; rw [hc]
      · unfold Ars.put; rw [hc]; simp only; rw [if_pos hs]
      · exact absurd h1 he
    have hne : (S.slotE c s == 0) = false := by simpa using he
    clear h he hv
    go_enter Try.func48, Try.ntmps48
    go_wp2_with (go_at_call 97; refine (rr_slot _ S F _ _ _ H.out).mono ?_; rintro e w' ⟨rfl, rfl⟩)
    go_ret
    exact ⟨rfl, by rw [HS.out]; exact H.out, Kp.refl _ _, rfl⟩

theorem wApart.set {cs : List (Option (Int × Value))} (h : wApart cs) (i : Nat) (r' : Option (Int × Value)) (hr : ∀ (j : Nat) s, cs[j]? = some s → ∀ b ∈ wB s, b ∉ wB r') : wApart (cs.set i r') := by
  intro a b r s ha hb hne x hx hx'
  rw [List.getElem?_set] at ha hb
  by_cases e1 : i = a
  · by_cases e2 : i = b
    · omega
    · rw [if_neg e2] at hb
      rw [if_pos e1] at ha
      split at ha
      · injection ha with ha; subst ha; exact hr b s hb x hx' hx
      · cases ha
  · rw [if_neg e1] at ha
    by_cases e2 : i = b
    · rw [if_pos e2] at hb
      split at hb
      · injection hb with hb; subst hb; exact hr a r ha x hx hx'
      · cases hb
    · rw [if_neg e2] at hb
      exact h a b r s ha hb hne x hx hx'
theorem wOks_set {w : World} {cells : List (Option (Int × List Int))} {cs : List (Option (Int × Value))} (hr : ∀ (i : Nat) c r, cells[i]? = some c → cs[i]? = some r → wOk w c r) (hl : cs.length = cells.length) {i : Nat} {c' : Option (Int × List Int)} {r' : Option (Int × Value)} (h : wOk w c' r') :
    ∀ (k : Nat) c r, (cells.set i c')[k]? = some c → (cs.set i r')[k]? = some r → wOk w c r := by
  intro k c r hc hr'
  rw [List.getElem?_set] at hc hr'
  by_cases e : i = k
  · rw [if_pos e] at hc hr'
    split at hc
    · rename_i hlt
      rw [if_pos (by omega)] at hr'
      injection hc with hc; injection hr' with hr'
      subst hc hr'; exact h
    · cases hc
  · rw [if_neg e] at hc hr'
    exact hr k c r hc hr'
theorem rr_give_close {w w5 : World} {R : Nat} {S : Ars} {F : List Nat} {i g cc : Nat} {x : Int × List Int} {bv v5 : Value} {o : Obj} (h : RA w R S F) (hc : S.cell i = some x)
    (k1 : w.cell? ⟨R, 1, none⟩ = some (.slice (some ⟨g, 0, none⟩) S.cells.length cc)) (k2 : w.cell? ⟨R, 2, none⟩ = some bv)
    (k5 : Kp (ownB bv) ((((w.setCell ⟨g, i * 3, none⟩ (.bool false)).setCell ⟨g, i * 3 + 1, none⟩ (.int .i64 0)).setCell ⟨g, i * 3 + 2, none⟩ (.slice none 0 0)).alloc o) w5) (o5 : ownB v5 = ownB bv ∨ ∃ z, ownB v5 = [z] ∧ w.heap.size ≤ z)
    (r5 : Row w5 3 1 v5 (S.back.length + 1) ((S.back.map fun (b : Nat) => Value.int .i64 (b : Int)) ++ [.int .i64 (i : Int)])) :
    (∃ F', RA ((w5.setCell ⟨R, 2, none⟩ v5).setCell ⟨R, 3, none⟩ (.int .i64 (S.live - 1))) R (S.give i) F' ∧ ∀ b ∈ F', b ∈ F ∨ w.heap.size ≤ b) ∧ Kp F w ((w5.setCell ⟨R, 2, none⟩ v5).setCell ⟨R, 3, none⟩ (.int .i64 (S.live - 1))) := by
  obtain ⟨cv, bv', cs, h0, hl, hw, hap, rfl, ok, hwd⟩ := h.words
  have hcv := RA.slice h0 k1
  have e2 : bv' = bv := by have := h0.head; simpa [World.cell?, this] using k2
  subst hcv e2
  obtain ⟨_, hli⟩ := Ars.cell_some hc
  simp only [Int.toNat_natCast] at hli
  have hilt : i < S.cells.length := by
    rcases Nat.lt_or_ge i S.cells.length with hl | hl
    · exact hl
    · rw [List.getElem?_eq_none hl] at hli; cases hli
  have hS : S.give i = { S with cells := S.cells.set i none, back := S.back ++ [i] } := by
    unfold Ars.give; rw [hc]; simp
  have t1 := (h0.set3 (i := i) (by omega) (r := none) (u0 := .bool false) (u1 := .int .i64 0) (u2 := .slice none 0 0) rfl).alloc o
  have t2 := t1.setBack k5 ⟨h0.a2, h0.a3⟩ (bv' := v5) (back' := S.back ++ [i]) (by simpa using r5)
  have t3 := t2.setLive (S.live - 1)
  have hF : ∀ b ∈ R :: (ownB (.slice (some ⟨g, 0, none⟩) S.cells.length cc) ++ (ownB v5 ++ (cs.set i none).flatMap wB)), b ∈ R :: (ownB (.slice (some ⟨g, 0, none⟩) S.cells.length cc) ++ (ownB bv' ++ cs.flatMap wB)) ∨ w.heap.size ≤ b := by
    intro b hb
    simp only [List.mem_cons, List.mem_append, List.mem_flatMap] at hb ⊢
    rcases hb with hb | hb | hb | ⟨r, hr, hb⟩
    · exact .inl (.inl hb)
    · exact .inl (.inr (.inl hb))
    · rcases o5 with e | ⟨z, e, hz⟩
      · rw [e] at hb; exact .inl (.inr (.inr (.inl hb)))
      · rw [e] at hb; simp at hb; exact .inr (by omega)
    · rcases List.mem_or_eq_of_mem_set hr with hr | rfl
      · exact .inl (.inr (.inr (.inr ⟨r, hr, hb⟩)))
      · simp [wB] at hb
  obtain ⟨cg, hg⟩ := h0.cells.ty (b := g) (by simp [ownB])
  obtain ⟨cg1, hg1⟩ := setCell_ty hg ⟨g, i * 3, none⟩ (.bool false)
  obtain ⟨cg2, hg2⟩ := setCell_ty hg1 ⟨g, i * 3 + 1, none⟩ (.int .i64 0)
  have kw1 : KW w ((((w.setCell ⟨g, i * 3, none⟩ (.bool false)).setCell ⟨g, i * 3 + 1, none⟩ (.int .i64 0)).setCell ⟨g, i * 3 + 2, none⟩ (.slice none 0 0)).alloc o) :=
    ((((KW.refl w).setCell hg (by decide) _).setCell hg1 (by decide) _).setCell hg2 (by decide) _).alloc o
  have hRT : w5.heap[R]? = _ := (k5.block R (heap_lt t1.head) h0.a2).trans t1.head
  obtain ⟨cR2, hR2⟩ := setCell_ty hRT ⟨R, 2, none⟩ v5
  have kw : KW w ((w5.setCell ⟨R, 2, none⟩ v5).setCell ⟨R, 3, none⟩ (.int .i64 (S.live - 1))) :=
    ((kw1.kp k5 (fun b hb => by obtain ⟨cur, hh⟩ := t1.back.ty hb; exact ⟨cur, _, hh, by decide⟩)).setCell hRT (by decide) _).setCell hR2 (by decide) _
  have hlive : S.live - 1 = (S.give i).live := by rw [hS]; simp [Ars.live]; omega
  refine ⟨⟨_, ⟨_, v5, cs.set i none, ?_, by rw [hS]; simpa using hl, ?_, hap.set i none (fun j s hj b hb => by simp [wB]), rfl, h.ok.give i⟩, hF⟩, ?_⟩
  · rw [← hlive, hS]; simpa using t3
  · rw [hS]; exact wOks_set (fun j c r hj hr => (hw j c r hj hr).kw kw) hl trivial
  · have k9 : Kp (R :: (ownB (.slice (some ⟨g, 0, none⟩) S.cells.length cc) ++ (ownB bv' ++ cs.flatMap wB))) w w5 :=
      ((((((Kp.refl _ w).setCell (p := ⟨g, i * 3, none⟩) (.inl (by simp [ownB])) _).setCell (p := ⟨g, i * 3 + 1, none⟩) (.inl (by simp [ownB])) _).setCell (p := ⟨g, i * 3 + 2, none⟩) (.inl (by simp [ownB])) _).alloc o).trans k5 (fun b hb => .inl (by simp [hb])))
    exact (k9.setCell (.inl (by simp)) _).setCell (.inl (by simp)) _
theorem rr_give (R : Nat) (S : Ars) (F : List Nat) (c : Int) (w : World) (h : RA w R S F) :
    Calls Try.prog 50 #[.pointer (some ⟨R, 0, none⟩), .int .i64 c] w fun e w' => e = .returned (.int .i64 (S.giveE c)) ∧ (∃ F', RA w' R (S.give c) F' ∧ ∀ b ∈ F', b ∈ F ∨ w.heap.size ≤ b) ∧ Kp F w w' := by
  have H := Lib.hid h
  cases hc : S.cell c with
  | none =>
    have HS : Hid ((S.cell c).isSome = false) := by show _ = _; rw [hc]; rfl
    have HC := Lib.hid hc
    clear hc h
    go_enter Try.func50, Try.ntmps50
    go_wp2_with (go_at_call 98; refine (rr_is _ S F _ _ H.out).mono ?_; rintro e w1 ⟨rfl, rfl⟩; rw [HS.out])
    go_ret
    exact ⟨by simp [Ars.giveE, HC.out], ⟨F, by simpa [Ars.give, HC.out] using H.out, fun b hb => .inl hb⟩, Kp.refl _ _⟩
  | some x =>
    obtain ⟨VC, VB', cc', cb', c0, c1, c2', c3, c4, cf, hRl⟩ := h.head
    obtain ⟨h0, hl⟩ := Ars.cell_some hc
    obtain ⟨i, rfl⟩ := Int.eq_ofNat_of_zero_le h0
    obtain ⟨ag, ws⟩ := x
    simp only [Int.toNat_natCast] at hl
    obtain ⟨g, cc, r, k1, hgl, ha, hr, hf, hlt⟩ := h.at_ hl
    cases r with
    | none => exact ha.elim
    | some y =>
      obtain ⟨ay, vy⟩ := y
      have z0 : w.cell? ⟨g, i * 3, none⟩ = some (.bool true) := hr 0 (by omega)
      have z1 : w.cell? ⟨g, i * 3 + 1, none⟩ = some (.int .i64 ay) := hr 1 (by omega)
      have z2 : w.cell? ⟨g, i * 3 + 2, none⟩ = some vy := hr 2 (by omega)
      obtain ⟨cvP, bvP, csP, p0, pl, _⟩ := h
      have hcv := RA.slice p0 k1
      have e2 : bvP = .slice VB' S.back.length cb' := by have := p0.head; simpa [World.cell?, this] using c2'
      subst hcv e2
      have hgB : g ∉ ownB (.slice VB' S.back.length cb') := p0.a3 g (by simp [ownB])
      have hRB : R ∉ ownB (.slice VB' S.back.length cb') := p0.a2
      have hRg : R ≠ g := fun e => p0.a1 (by simp [ownB, e])
      have hbl := H.out.ok.back_le
      have hm2 := H.out.ok.most2
      have hcl := H.out.ok.len
      have HRB := Lib.hid hRB
      obtain ⟨i0, hi0, hz0, hz1, hz2⟩ := info_parts int_info
      have HR2 : Hid (Row ((((w.setCell ⟨g, i * 3, none⟩ (.bool false)).setCell ⟨g, i * 3 + 1, none⟩ (.int .i64 0)).setCell ⟨g, i * 3 + 2, none⟩ (.slice none 0 0)).alloc (.cells #[.int .i64 (i : Int)] 3)) 3 1 (.slice VB' S.back.length cb') S.back.length (S.back.map fun (b : Nat) => Value.int .i64 (b : Int))) := by
        have hkk : ∀ (W : World) (j : Nat) (u : Value), Row W 3 1 (.slice VB' S.back.length cb') S.back.length (S.back.map fun (b : Nat) => Value.int .i64 (b : Int)) → Row (W.setCell ⟨g, j, none⟩ u) 3 1 (.slice VB' S.back.length cb') S.back.length (S.back.map fun (b : Nat) => Value.int .i64 (b : Int)) :=
          fun W j u hr => hr.keep fun b hm => Below.heap_setCell W _ _ b (fun e => by have e' : b = g := e; subst e'; exact hgB hm)
        exact Lib.hid ((hkk _ _ _ (hkk _ _ _ (hkk _ _ _ p0.back))).alloc _)
      have HSrc : Hid (Src ((((w.setCell ⟨g, i * 3, none⟩ (.bool false)).setCell ⟨g, i * 3 + 1, none⟩ (.int .i64 0)).setCell ⟨g, i * 3 + 2, none⟩ (.slice none 0 0)).alloc (.cells #[.int .i64 (i : Int)] 3)) (some ⟨w.heap.size, 0, none⟩) 1 1 [.int .i64 (i : Int)]) := by
        have := Src.block (cs := #[.int .i64 (i : Int)]) (t := 3) (fr := (0, 0)) (m := 1) (size := 1) (heap_alloc_new (((w.setCell ⟨g, i * 3, none⟩ (.bool false)).setCell ⟨g, i * 3 + 1, none⟩ (.int .i64 0)).setCell ⟨g, i * 3 + 2, none⟩ (.slice none 0 0)) _) rfl (by simp [Value.oneCell'])
        exact Lib.hid (by simpa using this)
      have HS : Hid ((S.cell i).isSome = true) := by show _ = _; rw [hc]; rfl
      have HK := Lib.hid hc
      have HB63 : S.back.length + 1 ≤ maxLen := by simp only [maxLen]; omega
      have HB47 : (S.back.length + 1) * 8 ≤ 140737488355328 := by omega
      have f2 := cf 2
      have f3 := cf 3
      have hlive : Hid (0 ≤ S.live ∧ S.live ≤ 4096) := by constructor <;> (unfold Ars.live; omega)
      have hlv1 : 0 ≤ S.live := hlive.out.1
      have hlv2 : S.live ≤ 4096 := hlive.out.2
      clear c1 hr ha hRB p0 pl cf c0 c4
      go_enter Try.func50, Try.ntmps50
      go_wp2_with (first
        | (go_at_call 98; refine (rr_is _ S F _ _ H.out).mono ?_; rintro e w1 ⟨rfl, rfl⟩; rw [HS.out])
        | (at_builtin; go_loud (refine inPlain rfl (wpo_row_append _ _ _ rfl i0 _ 8 Try.underlying64 hi0 hz0 hz1 hz2 rfl rfl HR2.out _ 1 1 rfl [.int .i64 (i : Int)] HSrc.out HB63 HB47 ?_)); intro sv5 w5 r5 k5 o5; obtain ⟨V5, cp5, rfl, hc5⟩ := r5.len
           go_loud (have q2 : w5.cell? ⟨R, 2, none⟩ = some (.slice VB' S.back.length cb') := (k5.cell (p := ⟨R, 2, none⟩) (by simp; omega) HRB.out).trans (by go_simp))
           go_loud (have q3 : w5.frozen? ⟨R, 2, none⟩ = false := (k5.frozen (p := ⟨R, 2, none⟩) (by simp; omega) HRB.out).trans (by go_simp))
           go_loud (have q4 : w5.cell? ⟨R, 3, none⟩ = some (.int .i64 S.live) := (k5.cell (p := ⟨R, 3, none⟩) (by simp; omega) HRB.out).trans (by go_simp))
           go_loud (have q5 : w5.frozen? ⟨R, 3, none⟩ = false := (k5.frozen (p := ⟨R, 3, none⟩) (by simp; omega) HRB.out).trans (by go_simp))))
      go_ret
      exact ⟨by simp [Ars.giveE, HK.out], rr_give_close H.out HK.out k1 c2' k5 (o5.imp id fun e => ⟨_, e, by simp⟩) r5⟩
end Go.Proofs.Ythbobooiedcofaa
/-
  The document's wiring in memory; Word, put.
-/
/-
  The document's arena, continued: Take.
-/
namespace Go.Proofs.Ythbobooiedcofaa
open Go.RowKit
attribute [local go_sem] cell_set
set_option maxRecDepth 100000

theorem rr_take_bad (R : Nat) (S : Ars) (F : List Nat) (ag ar : Int) (w : World) (_ : RA w R S F) (hb : Ars.bad ag ar) :
    Calls Try.prog 52 #[.pointer (some ⟨R, 0, none⟩), .int .i64 ag, .int .i64 ar] w fun e w' => e = .returned (.tuple #[.int .i64 0, .int .i64 1]) ∧ w = w' := by
  rcases (by unfold Ars.bad at hb; omega : ag < 0 ∨ (0 ≤ ag ∧ 32 ≤ ag) ∨ (0 ≤ ag ∧ ag < 32 ∧ ar < 0) ∨ (0 ≤ ag ∧ ag < 32 ∧ 0 ≤ ar ∧ 6 < ar)) with h1 | ⟨h1, h2⟩ | ⟨h1, h2, h3⟩ | ⟨h1, h2, h3, h4⟩
  all_goals
    go_enter Try.func52, Try.ntmps52
    go_wp2
    go_ret2
    exact ⟨rfl, rfl⟩
theorem rr_take_full (R : Nat) (S : Ars) (F : List Nat) (ag ar : Int) (w : World) (h : RA w R S F) (hb : ¬ Ars.bad ag ar) (he : S.nextE ≠ 0) :
    Calls Try.prog 52 #[.pointer (some ⟨R, 0, none⟩), .int .i64 ag, .int .i64 ar] w fun e w' => e = .returned (.tuple #[.int .i64 0, .int .i64 S.nextE]) ∧ Below w.heap.size w w' := by
  have H := Lib.hid h
  have hE : S.nextE = 40 := S.nextE_eq.resolve_left he
  obtain ⟨h1, h2, h3, h4⟩ : 0 ≤ ag ∧ ag < 32 ∧ 0 ≤ ar ∧ ar ≤ 6 := by unfold Ars.bad at hb; omega
  have HE := Lib.hid hE
  clear h hb he hE
  go_enter Try.func52, Try.ntmps52
  go_wp2_with (go_at_call 100; refine (rr_next _ S F _ H.out).mono ?_; rintro e w1 ⟨rfl, hb1⟩; rw [HE.out])
  go_ret2
  exact ⟨retI2 rfl HE.out.symm, hb1⟩

/-- The new cell in the making. -/
structure WB (w1 wr : World) (ag : Int) (k : Nat) (v : Value) : Prop where
  below : Below w1.heap.size w1 wr
  blk : wr.heap[w1.heap.size]? = some (.cells #[.bool true, .int .i64 ag, v] 147 (0, 0))
  row : Row wr 49 1 v k (wvals (List.replicate k 4294967295))
  own : ∀ b ∈ ownB v, w1.heap.size < b
theorem WB.cell {w1 wr : World} {ag : Int} {k j : Nat} {v u : Value} (h : WB w1 wr ag k v) (hu : #[Value.bool true, .int .i64 ag, v][j]? = some u) : wr.cell? ⟨w1.heap.size, j, none⟩ = some u := by
  simp only [World.cell?, h.blk]; exact hu
theorem WB.frozen {w1 wr : World} {ag : Int} {k : Nat} {v : Value} (h : WB w1 wr ag k v) (j : Nat) : wr.frozen? ⟨w1.heap.size, j, none⟩ = false := by simp [World.frozen?, h.blk]
theorem WB.append {w1 wr w5 : World} {ag : Int} {k : Nat} {v v5 : Value} {o : Obj} (h : WB w1 wr ag k v) (k5 : Kp (ownB v) (wr.alloc o) w5) (o5 : ownB v5 = ownB v ∨ ∃ z, ownB v5 = [z] ∧ wr.heap.size ≤ z)
    (r5 : Row w5 49 1 v5 (k + 1) (wvals (List.replicate k 4294967295) ++ [.int .u32 4294967295])) : WB w1 (w5.setCell ⟨w1.heap.size, 2, none⟩ v5) ag (k + 1) v5 := by
  have hX : w1.heap.size ∉ ownB v := fun hb => by have := h.own _ hb; omega
  have hb5 : w5.heap[w1.heap.size]? = some (.cells #[.bool true, .int .i64 ag, v] 147 (0, 0)) :=
    ((k5.block _ (by have := heap_lt h.blk; simp; omega) hX).trans (Below.heap_alloc _ _ _ (heap_lt h.blk))).trans h.blk
  refine ⟨(((h.below.alloc h.below.size o).trans (k5.below (by have := h.below.size; simp; omega) (fun b hb => Nat.le_of_lt (h.own b hb)))).setCell (Nat.le_refl _) _), by simp [World.setCell, Array.getElem?_modify, hb5], ?_, fun b hb => ?_⟩
  · have e : wvals (List.replicate (k + 1) 4294967295) = wvals (List.replicate k 4294967295) ++ [.int .u32 4294967295] := by simp [wvals, List.replicate_succ']
    rw [e]
    refine r5.keep fun b hb => Below.heap_setCell w5 _ _ b (fun e => ?_)
    have e' : b = w1.heap.size := e
    subst e'
    obtain ⟨_, hh⟩ := r5.ty hb
    exact ty_ne hb5 hh (by decide) rfl
  · rcases o5 with e | ⟨z, e, hz⟩
    · rw [e] at hb; exact h.own b hb
    · rw [e] at hb; simp at hb; have := heap_lt h.blk; omega

/-- Behind the store of the new cell. -/
def RTMid (w W : World) (R : Nat) (S : Ars) (F : List Nat) (S' : Ars) : Prop :=
  ∃ cv bv cs, RA0 W R S'.most S'.live (S.cells.length : Int) cv bv cs S'.back ∧ cs.length = S'.cells.length ∧ (∀ (i : Nat) c r, S'.cells[i]? = some c → cs[i]? = some r → wOk W c r) ∧ wApart cs ∧
    (∀ b ∈ R :: (ownB cv ++ (ownB bv ++ cs.flatMap wB)), b ∈ F ∨ w.heap.size ≤ b) ∧ Kp F w W
theorem rtake_close {w W : World} {R : Nat} {S S' : Ars} {F : List Nat} (h : RTMid w W R S F S') (hok : S'.Ok) {q : Int} (hq : q = (S'.cells.length : Int)) :
    (∃ F', RA ((W.setCell ⟨R, 4, none⟩ (.int .i64 q)).drew) R S' F' ∧ ∀ b ∈ F', b ∈ F ∨ w.heap.size ≤ b) ∧ Kp F w ((W.setCell ⟨R, 4, none⟩ (.int .i64 q)).drew) := by
  obtain ⟨cv, bv, cs, h0, hl, hr, hap, hF, hk⟩ := h
  subst hq
  exact ⟨⟨_, ⟨cv, bv, cs, (h0.setPeak _).drew, hl, fun i c r hc hr' => (hr i c r hc hr').kw (((KW.refl W).setCell h0.head (by decide) _).drew), hap, rfl, hok⟩, hF⟩, ((hk.setCell (hF R (by simp)) _).drew)⟩
theorem wfresh {w1 wr W : World} {ag ar : Int} {k : Nat} {v : Value} (h : WB w1 wr ag k v) (hk : (k : Int) = ar + 1) (h3 : 0 ≤ ar) (hkw : KW wr W) : wOk W (Ars.fresh ag ar) (some (ag, v)) := by
  refine ⟨rfl, ?_⟩
  have e : ar.toNat + 1 = k := by omega
  simp only [List.length_replicate, e]
  exact h.row.keep fun b hb => by obtain ⟨cur, hh⟩ := h.row.ty hb; rw [hh]; exact hkw b cur hh
set_option maxHeartbeats 1000000 in
theorem rmid_a {w w1 wr : World} {R : Nat} {S : Ars} {F : List Nat} (h : RA wr R S F) (hlt : ∀ b ∈ F, b < w1.heap.size) (hkw : Kp F w wr) (hw1 : w.heap.size ≤ w1.heap.size) {ag ar : Int} {k : Nat} {v : Value} (X : WB w1 wr ag k v) (hk : (k : Int) = ar + 1) (h3 : 0 ≤ ar) {b g cc g2 cb m : Nat} (hcb : S.cells[b]? = some none) (hm : S.back.length = m + 1)
    (ht : S.take ag ar = { S with cells := S.cells.set b (Ars.fresh ag ar), back := S.back.dropLast })
    (k1 : wr.cell? ⟨R, 1, none⟩ = some (.slice (some ⟨g, 0, none⟩) S.cells.length cc)) (d2 : wr.cell? ⟨R, 2, none⟩ = some (.slice (some ⟨g2, 0, none⟩) S.back.length cb)) (hncb : S.back.length ≤ cb) {q : Int} (hq : q = S.live + 1) :
    RTMid w (((((wr.setCell ⟨R, 2, none⟩ (.slice (some ⟨g2, 0, none⟩) m cb)).setCell ⟨g, b * 3, none⟩ (.bool true)).setCell ⟨g, b * 3 + 1, none⟩ (.int .i64 ag)).setCell ⟨g, b * 3 + 2, none⟩ v).setCell ⟨R, 3, none⟩ (.int .i64 q)) R S F (S.take ag ar) := by
  obtain ⟨cv, bv, cs, h0, hl, hw, hap, rfl, ok, hwd⟩ := h.words
  have e1 := RA.slice h0 k1
  have e2 : bv = .slice (some ⟨g2, 0, none⟩) S.back.length cb := by have := h0.head; simpa [World.cell?, this] using d2
  subst e1 e2 hq
  have hblt : b < S.cells.length := by
    rcases Nat.lt_or_ge b S.cells.length with hl | hl
    · exact hl
    · rw [List.getElem?_eq_none hl] at hcb; cases hcb
  have s1 := h0.setBack (Kp.refl [] wr) ⟨by simp, by simp⟩ (bv' := .slice (some ⟨g2, 0, none⟩) m cb) (back' := S.back.dropLast) (by
    have := h0.back.cut (k := m) (c := cb) (by omega) (by omega) (Nat.le_refl _)
    have hd : S.back.dropLast.length = m := by simp [hm]
    rw [hd, List.dropLast_eq_take, List.map_take, hm]
    simpa using this)
  have s2 := s1.set3 (i := b) (by omega) (r := some (ag, v)) (u0 := .bool true) (u1 := .int .i64 ag) (u2 := v) rfl
  have s3 := s2.setLive (S.live + 1)
  obtain ⟨cg, hg⟩ := s1.cells.ty (b := g) (by simp [ownB])
  obtain ⟨cg1, hg1⟩ := setCell_ty hg ⟨g, b * 3, none⟩ (.bool true)
  obtain ⟨cg2, hg2⟩ := setCell_ty hg1 ⟨g, b * 3 + 1, none⟩ (.int .i64 ag)
  have kw : KW wr (((((wr.setCell ⟨R, 2, none⟩ (.slice (some ⟨g2, 0, none⟩) m cb)).setCell ⟨g, b * 3, none⟩ (.bool true)).setCell ⟨g, b * 3 + 1, none⟩ (.int .i64 ag)).setCell ⟨g, b * 3 + 2, none⟩ v).setCell ⟨R, 3, none⟩ (.int .i64 (S.live + 1))) :=
    (((((KW.refl wr).setCell h0.head (by decide) _).setCell hg (by decide) _).setCell hg1 (by decide) _).setCell hg2 (by decide) _).setCell s2.head (by decide) _
  have hlive : S.live + 1 = (S.take ag ar).live := by rw [ht]; simp [Ars.live]; omega
  refine ⟨.slice (some ⟨g, 0, none⟩) S.cells.length cc, .slice (some ⟨g2, 0, none⟩) m cb, cs.set b (some (ag, v)), ?_, ?_, ?_, ?_, ?_, ?_⟩
  · rw [← hlive, ht]; exact s3
  · rw [ht]; simpa using hl
  · rw [ht]; exact wOks_set (fun j c r hj hr => (hw j c r hj hr).kw kw) hl (wfresh X hk h3 kw)
  · refine hap.set b _ fun j s hj x hx hx' => ?_
    have h1 := hlt x (by simp only [List.mem_cons, List.mem_append, List.mem_flatMap]; exact .inr (.inr (.inr ⟨s, List.mem_of_getElem? hj, hx⟩)))
    have h2 := X.own x hx'
    omega
  · intro x hx
    simp only [List.mem_cons, List.mem_append, List.mem_flatMap] at hx ⊢
    rcases hx with hx | hx | hx | ⟨r, hr, hx⟩
    · exact .inl (.inl hx)
    · exact .inl (.inr (.inl hx))
    · exact .inl (.inr (.inr (.inl (by simpa [ownB] using hx))))
    · rcases List.mem_or_eq_of_mem_set hr with hr | rfl
      · exact .inl (.inr (.inr (.inr ⟨r, hr, hx⟩)))
      · have := X.own x hx; exact .inr (by omega)
  · iterate 5 refine Kp.setCell ?_ (.inl (by simp [ownB])) _
    exact hkw
theorem wApart.snoc {cs : List (Option (Int × Value))} (h : wApart cs) (r' : Option (Int × Value)) (hr : ∀ (j : Nat) s, cs[j]? = some s → ∀ b ∈ wB s, b ∉ wB r') : wApart (cs ++ [r']) := by
  intro a b r s ha hb hne x hx hx'
  rw [List.getElem?_append] at ha hb
  split at ha
  · split at hb
    · exact h a b r s ha hb hne x hx hx'
    · rw [List.getElem?_singleton] at hb; split at hb
      · injection hb with hb; subst hb; exact hr a r ha x hx hx'
      · cases hb
  · rw [List.getElem?_singleton] at ha
    split at ha
    · injection ha with ha; subst ha
      split at hb
      · exact hr b s hb x hx' hx
      · rw [List.getElem?_singleton] at hb; split at hb
        · omega
        · cases hb
    · cases ha
theorem wOks_snoc {w : World} {cells : List (Option (Int × List Int))} {cs : List (Option (Int × Value))} (hr : ∀ (i : Nat) c r, cells[i]? = some c → cs[i]? = some r → wOk w c r) (hl : cs.length = cells.length) {c' : Option (Int × List Int)} {r' : Option (Int × Value)} (h : wOk w c' r') :
    ∀ (k : Nat) c r, (cells ++ [c'])[k]? = some c → (cs ++ [r'])[k]? = some r → wOk w c r := by
  intro k c r hc hr'
  rw [List.getElem?_append] at hc hr'
  by_cases e : k < cells.length
  · rw [if_pos e] at hc; rw [if_pos (by omega)] at hr'; exact hr k c r hc hr'
  · rw [if_neg e, List.getElem?_singleton] at hc
    rw [if_neg (by omega), List.getElem?_singleton] at hr'
    split at hc
    · rw [if_pos (by omega)] at hr'
      injection hc with hc; injection hr' with hr'
      subst hc hr'; exact h
    · cases hc
theorem rmid_b {w w1 wr w5 : World} {R : Nat} {S : Ars} {F : List Nat} (h : RA wr R S F) (hlt : ∀ b ∈ F, b < w1.heap.size) (hkw : Kp F w wr) (hw1 : w.heap.size ≤ w1.heap.size) {ag ar : Int} {k : Nat} {v : Value} (X : WB w1 wr ag k v) (hk : (k : Int) = ar + 1) (h3 : 0 ≤ ar) {VC : Option Addr} {cc : Nat} {o : Obj} {v5 : Value}
    (k1 : wr.cell? ⟨R, 1, none⟩ = some (.slice VC S.cells.length cc)) (ht : S.take ag ar = { S with cells := S.cells ++ [Ars.fresh ag ar] })
    (k5 : Kp (ownB (.slice VC S.cells.length cc)) ((wr.alloc o).drew) w5) (o5 : ownB v5 = ownB (.slice VC S.cells.length cc) ∨ ∃ z, ownB v5 = [z] ∧ wr.heap.size ≤ z)
    (r5 : ∀ xs, Row wr 147 3 (.slice VC S.cells.length cc) S.cells.length xs → Row w5 147 3 v5 (S.cells.length + 1) (xs ++ [.bool true, .int .i64 ag, v])) {q : Int} (hq : q = S.live + 1) :
    RTMid w ((w5.setCell ⟨R, 1, none⟩ v5).setCell ⟨R, 3, none⟩ (.int .i64 q)) R S F (S.take ag ar) := by
  obtain ⟨cv, bv, cs, h0, hl, hw, hap, rfl, ok, hwd⟩ := h.words
  have e1 : cv = .slice VC S.cells.length cc := by have := h0.head; simpa [World.cell?, this] using k1
  subst e1 hq
  have hr5 := r5 _ (by have := h0.cells; rw [hl] at this; exact this)
  have t1 := (h0.alloc o).drew
  have t2 := t1.setCells k5 ⟨h0.a1, fun b hb hb' => h0.a3 b hb' hb⟩ (cv' := v5) (cs' := cs ++ [some (ag, v)]) (by simpa [hl, rcell] using hr5)
  have t3 := t2.setLive (S.live + 1)
  have hRT : w5.heap[R]? = _ := (k5.block R (heap_lt t1.head) h0.a1).trans t1.head
  have kw : KW wr ((w5.setCell ⟨R, 1, none⟩ v5).setCell ⟨R, 3, none⟩ (.int .i64 (S.live + 1))) :=
    ((((KW.refl wr).alloc o).drew.kp k5 (fun b hb => by obtain ⟨cur, hh⟩ := t1.cells.ty hb; exact ⟨cur, _, hh, by decide⟩)).setCell hRT (by decide) _).setCell t2.head (by decide) _
  have hlive : S.live + 1 = (S.take ag ar).live := by rw [ht]; simp [Ars.live]; omega
  refine ⟨v5, bv, cs ++ [some (ag, v)], ?_, ?_, ?_, ?_, ?_, ?_⟩
  · rw [← hlive, ht]; exact t3
  · rw [ht]; simpa using hl
  · rw [ht]; exact wOks_snoc (fun j c r hj hr => (hw j c r hj hr).kw kw) hl (wfresh X hk h3 kw)
  · refine hap.snoc _ fun j s hj x hx hx' => ?_
    have h1 := hlt x (by simp only [List.mem_cons, List.mem_append, List.mem_flatMap]; exact .inr (.inr (.inr ⟨s, List.mem_of_getElem? hj, hx⟩)))
    have h2 := X.own x hx'
    omega
  · intro x hx
    simp only [List.mem_cons, List.mem_append, List.mem_flatMap, List.not_mem_nil, or_false] at hx ⊢
    rcases hx with hx | hx | hx | ⟨r, hr | rfl, hx⟩
    · exact .inl (.inl hx)
    · rcases o5 with e | ⟨z, e, hz⟩
      · rw [e] at hx; exact .inl (.inr (.inl hx))
      · rw [e] at hx; simp at hx; have := hkw.size; exact .inr (by omega)
    · exact .inl (.inr (.inr (.inl hx)))
    · exact .inl (.inr (.inr (.inr ⟨r, hr, hx⟩)))
    · have := X.own x hx; exact .inr (by omega)
  · refine Kp.setCell (Kp.setCell ?_ (.inl (by simp)) _) (.inl (by simp)) _
    exact ((hkw.alloc o).drew).trans k5 (fun b hb => .inl (by simp [hb]))
end Go.Proofs.Ythbobooiedcofaa
/-
  The document's arena: Take.
-/
/-
  The document's arena, continued: Take, where there is room.
-/
namespace Go.Proofs.Ythbobooiedcofaa
open Go.RowKit
attribute [local go_sem] cell_set
set_option maxRecDepth 100000

theorem RTMid.drew {w W : World} {R : Nat} {S S' : Ars} {F : List Nat} (h : RTMid w W R S F S') : RTMid w W.drew R S F S' := by
  obtain ⟨cv, bv, cs, h0, hl, hr, hap, hF, hk⟩ := h
  exact ⟨cv, bv, cs, h0.drew, hl, fun i c r hc hr' => (hr i c r hc hr').kw (fun _ _ h => h), hap, hF, hk.drew⟩
theorem RTMid.head {w W : World} {R : Nat} {S S' : Ars} {F : List Nat} (h : RTMid w W R S F S') : W.cell? ⟨R, 3, none⟩ = some (.int .i64 S'.live) ∧ W.cell? ⟨R, 4, none⟩ = some (.int .i64 S.cells.length) ∧ W.frozen? ⟨R, 4, none⟩ = false := by
  obtain ⟨cv, bv, cs, h0, hl, hr, hap, hF, hk⟩ := h
  have := h0.head
  exact ⟨by simp [World.cell?, this], by simp [World.cell?, this], by simp [World.frozen?, this]⟩
theorem row_same {w : World} {e : TypeId} {size n : Nat} {v : Value} {xs ys : List Value} (h : Row w e size v n xs) (k : Row w e size v n ys) : xs = ys := by
  rcases h.2 with ⟨rfl, rfl⟩ | ⟨g, cap, cur, rfl, hg, _, _, _, ht⟩
  · have e1 : xs = [] := List.eq_nil_of_length_eq_zero (by simpa using h.1)
    have e2 : ys = [] := List.eq_nil_of_length_eq_zero (by simpa using k.1)
    rw [e1, e2]
  · rcases k.2 with ⟨e, _⟩ | ⟨g', cap', cur', e, hg', _, _, _, ht'⟩
    · simp at e
    · simp only [Value.slice.injEq, Option.some.injEq, Addr.mk.injEq, and_true, true_and] at e
      obtain ⟨rfl, rfl⟩ := e
      rw [hg] at hg'
      injection hg' with hg'
      injection hg' with hg'
      subst hg'
      rw [← ht, ← ht']
theorem u32_info : (Try.prog.info? 49).map (fun i => (i.zero, i.size, i.bytes)) = some (some (.int .u32 0), 1, 4) := by kernel_rfl
theorem rcell_info : (Try.prog.info? 147).map (fun i => (i.zero, i.size, i.bytes)) = some (some (.agg #[.bool false, .int .i64 0, .slice none 0 0]), 3, 40) := by kernel_rfl

set_option maxHeartbeats 4000000 in
theorem rr_take_ok (R : Nat) (S : Ars) (F : List Nat) (ag ar : Int) (w : World) (h : RA w R S F) (hb : ¬ Ars.bad ag ar) (he : S.nextE = 0) :
    Calls Try.prog 52 #[.pointer (some ⟨R, 0, none⟩), .int .i64 ag, .int .i64 ar] w fun e w' => e = .returned (.tuple #[.int .i64 S.nextC, .int .i64 0]) ∧ (∃ F', RA w' R (S.take ag ar) F' ∧ ∀ b ∈ F', b ∈ F ∨ w.heap.size ≤ b) ∧ Kp F w w' := by
  have H := Lib.hid h
  obtain ⟨h1, h2, h3, h4⟩ : 0 ≤ ag ∧ ag < 32 ∧ 0 ≤ ar ∧ ar ≤ 6 := by unfold Ars.bad at hb; omega
  have HE := Lib.hid he
  have HT := Lib.hid (Ars.take_cases h.ok hb he)
  have hm2 := h.ok.most2
  have hcl := h.ok.len
  have hbl := h.ok.back_le
  have hRl : R < w.heap.size := by obtain ⟨_, _, _, _, _, _, _, _, _, _, hRl⟩ := h.head; exact hRl
  obtain ⟨i4, hi4, hi41, hi42, hi43⟩ := info_parts u32_info
  clear h hb he
  go_enter Try.func52, Try.ntmps52
  go_wp2_with (go_at_call 100; refine (rr_next _ S F _ H.out).mono ?_; rintro e w1 ⟨rfl, hb1⟩; rw [HE.out]; have hz1 := hb1.size)
  go_loopw [11] (fun i wr => ∃ k : Nat, i = .int .i64 k ∧ (k : Int) ≤ ar + 1 ∧ Hid (∃ v, WB w1 wr ag k v)) (fun i _ => (ar + 1 - intOf i).toNat)
  case atStart => exact ⟨0, rfl, by omega, Lib.hid ⟨_, (Below.refl _ _).alloc (Nat.le_refl _) _, heap_alloc_new w1 _, Row.nil _ _ _, by simp [ownB]⟩⟩
  case round =>
    obtain ⟨k, rfl, hk, X0⟩ := hrel
    obtain ⟨v, X⟩ := X0.out
    obtain ⟨V, cp, rfl, hcp⟩ := X.row.len
    have XH := Lib.hid X
    have x2 := X.cell (j := 2) rfl
    have x2f := X.frozen 2
    have hXl := heap_lt X.blk
    by_cases hlt : (k : Int) ≤ ar
    · have HR : Hid (Row (wr.alloc (.cells #[.int .u32 4294967295] 49)) 49 1 (.slice V k cp) k (wvals (List.replicate k 4294967295))) := X.row.alloc _
      have HSrc : Hid (Src (wr.alloc (.cells #[.int .u32 4294967295] 49)) (some ⟨wr.heap.size, 0, none⟩) 1 1 [.int .u32 4294967295]) :=
        Src.block (cs := #[.int .u32 4294967295]) (t := 49) (fr := (0, 0)) (heap_alloc_new wr _) rfl (by simp [Value.oneCell'])
      have HB63 : k + 1 ≤ maxLen := by simp only [maxLen]; omega
      have HB47 : (k + 1) * 4 ≤ 140737488355328 := by omega
      have HX : Hid (w1.heap.size ∉ ownB (.slice V k cp)) := fun hb => by have := X.own _ hb; omega
      clear X
      go_wp2_with (at_builtin; go_loud (refine inPlain rfl (wpo_row_append _ _ _ rfl i4 _ 4 Try.underlying97 hi4 hi41 hi42 hi43 rfl rfl HR.out _ 1 1 rfl [.int .u32 4294967295] HSrc.out HB63 HB47 ?_)); intro sv5 w5 r5 k5 o5; obtain ⟨V5, cp5, rfl, hc5⟩ := r5.len
                   go_loud (have q2 : w5.cell? ⟨w1.heap.size, 2, none⟩ = some (.slice V k cp) := (k5.cell (p := ⟨w1.heap.size, 2, none⟩) (by simp; omega) HX.out).trans (by go_simp))
                   go_loud (have q3 : w5.frozen? ⟨w1.heap.size, 2, none⟩ = false := (k5.frozen (p := ⟨w1.heap.size, 2, none⟩) (by simp; omega) HX.out).trans (by go_simp)))
      go_roundw
      case rel => exact ⟨k + 1, by go_num, by omega, Lib.hid ⟨_, XH.out.append k5 (o5.imp id fun e => ⟨_, e, by simp⟩) r5⟩⟩
      case measure => simp [intOf]; omega
    · have hk1 : (k : Int) = ar + 1 := by omega
      have hbr := hb1.trans (X.below.mono hb1.size)
      have HP : Hid (RA wr R S F) := H.out.below hbr
      have HB := Lib.hid hbr
      have HL : Hid (∀ b ∈ F, b < w1.heap.size) := fun b hb => Nat.lt_of_lt_of_le (H.out.lt b hb) hb1.size
      have x0 := X.cell (j := 0) rfl
      have x1 := X.cell (j := 1) rfl
      have hRr : R < wr.heap.size := by have := hbr.size; omega
      have hRX : R ≠ w1.heap.size := by omega
      obtain ⟨VC, VB, cc, cb, c0, c1, c2, c3, c4, cf, _⟩ := HP.out.head
      have f1 := cf 1
      have f2 := cf 2
      have f3 := cf 3
      have f4 := cf 4
      have hlv : Hid (0 ≤ S.live ∧ S.live ≤ 4096) := by constructor <;> (unfold Ars.live; omega)
      have hlv1 := hlv.out.1
      have hlv2 := hlv.out.2
      clear X hbr cf c0
      rcases HT.out with ⟨b, hl, hn, ht, hcb⟩ | ⟨hb0, hn, hlt2, ht⟩
      · obtain ⟨g2, cb2, d2, hg2, _, hp, hncb⟩ := HP.out.last hl
        rw [d2] at c2
        simp only [Option.some.injEq, Value.slice.injEq, true_and] at c2
        obtain ⟨rfl, rfl⟩ := c2
        obtain ⟨g, cc', r, k1, hgl, ha, hr, hf, hlt2⟩ := HP.out.at_ hcb
        rw [k1] at c1
        simp only [Option.some.injEq, Value.slice.injEq, true_and] at c1
        obtain ⟨rfl, rfl⟩ := c1
        obtain ⟨m, hm⟩ : ∃ m, S.back.length = m + 1 := ⟨S.back.length - 1, by omega⟩
        cases r with
        | some y => exact ha.elim
        | none =>
          rw [hn]
          have z0 : wr.cell? ⟨g, b * 3, none⟩ = some (.bool false) := hr 0 (by omega)
          have z1 : wr.cell? ⟨g, b * 3 + 1, none⟩ = some (.int .i64 0) := hr 1 (by omega)
          have z2 : wr.cell? ⟨g, b * 3 + 2, none⟩ = some (.slice none 0 0) := hr 2 (by omega)
          have hRg : R ≠ g := by
            obtain ⟨cvP, bvP, csP, p0, _⟩ := HP.out
            have hcv := RA.slice p0 k1
            subst hcv
            exact fun e => p0.a1 (by simp [ownB, e])
          have hXg : w1.heap.size ≠ g := by
            have : g ∈ F := by
              obtain ⟨cvP, bvP, csP, p0, _, _, _, rfl, _⟩ := HP.out
              have hcv := RA.slice p0 k1
              subst hcv
              simp [ownB]
            have := HL.out g this; omega
          clear hr ha
          go_wp2_with fail
          have hmb : m ≤ 4096 := by omega
          have hmc : m ≤ cb2 := by omega
          have hmw : IntKind.i64.wrap (m : Int) = (m : Int) := by rw [IntKind.wrap_i64]; omega
          (refine region_tail 12 (by kernel_rfl) (by kernel_rfl) ?_; simp only [List.take_succ_cons, List.take_zero, List.drop_succ_cons, List.drop_zero]; repeat still_step; try refine wpStill_nil ?_)
          go_wp2_with fail
          (refine region_tail 7 (by kernel_rfl) (by kernel_rfl) ?_; simp only [List.take_succ_cons, List.take_zero, List.drop_succ_cons, List.drop_zero]; repeat still_step; try refine wpStill_nil ?_)
          go_wp2_with fail
          obtain ⟨L, hL⟩ : ∃ L, (S.take ag ar).live = L := ⟨_, rfl⟩
          have hLv : L ≤ S.cells.length := by rw [← hL, ht]; simp [Ars.live]; omega
          have HTT := Lib.hid ht
          have HO := Lib.hid (HP.out.ok.take ag ar)
          refine absW (fun W => RTMid w W R S F (S.take ag ar)) ((rmid_a HP.out HL.out (Kp.of_below HB.out) hz1 XH.out hk1 h3 hcb hm ht k1 d2 hncb rfl).drew.drew) ?_
          intro W MID
          obtain ⟨w3c, w4c, w4f⟩ := MID.head
          rw [hL] at w3c
          have M := Lib.hid MID
          clear ht hL MID
          (refine region_tail 10 (by kernel_rfl) (by kernel_rfl) ?_; simp only [List.take_succ_cons, List.take_zero, List.drop_succ_cons, List.drop_zero]; repeat still_step; try refine wpStill_nil ?_)
          go_wp2
          go_ret2
          exact ⟨rfl, rtake_close M.out HO.out (by rw [HTT.out]; simp)⟩
      · have hB0 : S.back.length = 0 := by rw [hb0]; rfl
        obtain ⟨i0, hi0, hi1, hi2, hi3⟩ := info_parts rcell_info
        have hrow : ∃ xs, Row wr 147 3 (.slice VC S.cells.length cc) S.cells.length xs ∧ R ∉ ownB (.slice VC S.cells.length cc) := by
          obtain ⟨cvP, bvP, csP, p0, pl, _⟩ := HP.out
          have e1 : cvP = .slice VC S.cells.length cc := by have := p0.head; simpa [World.cell?, this] using c1
          subst e1
          have := p0.cells
          rw [pl] at this
          exact ⟨_, this, p0.a1⟩
        obtain ⟨xs, hrow, hnR⟩ := hrow
        have HR := Lib.hid hrow
        have HN1 := Lib.hid hnR
        have HB63 : S.cells.length + 1 ≤ maxLen := by simp only [maxLen]; omega
        have HB47 : (S.cells.length + 1) * 40 ≤ 140737488355328 := by omega
        rw [hB0] at c2
        clear hrow hnR
        rw [hn]
        go_wp2_with fail
        go_region_law
          ((refine inDraw (by rfl) (wpo_row_append _ _ _ (by rfl) i0 _ 40 Try.underlying119 hi0 hi1 hi2 hi3 (by rfl) (by rfl) (HR.out.alloc (.cells #[.bool true, .int .i64 ag, .slice V k cp] 147)).drew _ 1 1 (by rfl) [.bool true, .int .i64 ag, .slice V k cp] (Src.block (cs := #[.bool true, .int .i64 ag, .slice V k cp]) (t := 147) (fr := (0, 0)) (heap_alloc_new wr _) (by rfl) (by simp [Value.oneCell'])).drew HB63 HB47 ?_); intro sv5 w5 r5 k5 o5; obtain ⟨V5, cp5, rfl, hc5⟩ := r5.len; have q1 : w5.cell? ⟨R, 1, none⟩ = some (.slice VC S.cells.length cc) := (k5.cell (p := ⟨R, 1, none⟩) (by simp; omega) HN1.out).trans (by go_simp); have q1f : w5.frozen? ⟨R, 1, none⟩ = false := (k5.frozen (p := ⟨R, 1, none⟩) (by simp; omega) HN1.out).trans (by go_simp); have q3 : w5.cell? ⟨R, 3, none⟩ = some (.int .i64 S.live) := (k5.cell (p := ⟨R, 3, none⟩) (by simp; omega) HN1.out).trans (by go_simp); have q3f : w5.frozen? ⟨R, 3, none⟩ = false := (k5.frozen (p := ⟨R, 3, none⟩) (by simp; omega) HN1.out).trans (by go_simp)))
        all_goals
          go_wp2_with fail
          obtain ⟨L, hL⟩ : ∃ L, (S.take ag ar).live = L := ⟨_, rfl⟩
          have hLE : Hid (L = (S.cells.length : Int) + 1) := by show _ = _; rw [← hL, ht]; simp [Ars.live]; omega
          have hLv : (S.cells.length : Int) < L := by rw [hLE.out]; omega
          have HTT := Lib.hid ht
          have HO := Lib.hid (HP.out.ok.take ag ar)
          refine absW (fun W => RTMid w W R S F (S.take ag ar)) (rmid_b HP.out HL.out (Kp.of_below HB.out) hz1 XH.out hk1 h3 c1 ht k5 (o5.imp id fun e => ⟨_, e, by simp⟩) (fun xs' hr' => by rw [row_same hr' HR.out]; exact r5) rfl) ?_
          intro W MID
          obtain ⟨w3c, w4c, w4f⟩ := MID.head
          rw [hL] at w3c
          have M := Lib.hid MID
          clear ht hL MID
          (refine region_tail 10 (by kernel_rfl) (by kernel_rfl) ?_; simp only [List.take_succ_cons, List.take_zero, List.drop_succ_cons, List.drop_zero]; repeat still_step; try refine wpStill_nil ?_)
          go_wp2
          go_ret2
          exact ⟨retI2 hn.symm rfl, rtake_close M.out HO.out (by rw [HTT.out, hLE.out]; simp)⟩
end Go.Proofs.Ythbobooiedcofaa
namespace Go.Proofs.Ythbobooiedcofaa
open Go.RowKit

theorem rr_take (R : Nat) (S : Ars) (F : List Nat) (ag ar : Int) (w : World) (h : RA w R S F) :
    Calls Try.prog 52 #[.pointer (some ⟨R, 0, none⟩), .int .i64 ag, .int .i64 ar] w fun e w' => e = .returned (.tuple #[.int .i64 (S.takeC ag ar), .int .i64 (S.takeE ag ar)]) ∧ (∃ F', RA w' R (S.take ag ar) F' ∧ ∀ b ∈ F', b ∈ F ∨ w.heap.size ≤ b) ∧ Kp F w w' := by
  by_cases hb : Ars.bad ag ar
  · refine (rr_take_bad R S F ag ar w h hb).mono ?_
    rintro e w' ⟨rfl, rfl⟩
    have he : S.takeE ag ar = 1 := by unfold Ars.takeE; rw [if_pos hb]
    have hc : S.takeC ag ar = 0 := by unfold Ars.takeC; rw [if_pos hb]
    exact ⟨by rw [he, hc], ⟨F, by rw [Ars.take_same (by rw [he]; decide)]; exact h, fun b hb => .inl hb⟩, Kp.refl _ _⟩
  · have he : S.takeE ag ar = S.nextE := by unfold Ars.takeE; rw [if_neg hb]
    have hc : S.takeC ag ar = S.nextC := by unfold Ars.takeC; rw [if_neg hb]
    by_cases hn : S.nextE = 0
    · refine (rr_take_ok R S F ag ar w h hb hn).mono ?_
      rintro e w' ⟨rfl, h1, h2⟩
      exact ⟨by rw [he, hc, hn], h1, h2⟩
    · refine (rr_take_full R S F ag ar w h hb hn).mono ?_
      rintro e w' ⟨rfl, hbl⟩
      have hc0 : S.nextC = 0 := by
        unfold Ars.nextE at hn; unfold Ars.nextC
        split at hn
        · exact absurd rfl hn
        · by_cases hl : S.cells.length = S.most
          · rw [if_pos hl]
          · rw [if_neg hl] at hn; exact absurd rfl hn
      exact ⟨by rw [he, hc, hc0], ⟨F, by rw [Ars.take_same (by rw [he]; exact hn)]; exact h.below hbl, fun b hb => .inl hb⟩, Kp.of_below hbl⟩

end Go.Proofs.Ythbobooiedcofaa
namespace Go.Proofs.Ythbobooiedcofaa
open Go.RowKit
attribute [local go_sem] cell_set
set_option maxRecDepth 100000
set_option linter.unusedVariables false

/-- The document's wiring in memory: block B, its arena's block A, all further blocks F. -/
structure RG (w : World) (B A : Nat) (S : Wir) (F : List Nat) : Prop where
  hd : ∃ (FA : List Nat) (pv : Value), w.heap[B]? = some (.cells #[.pointer (some ⟨A, 0, none⟩), pv] 99 (0, 0)) ∧ Row w 49 1 pv S.P.length (wvals S.P) ∧ RA w A S.A FA ∧ (∀ b ∈ ownB pv, b ∉ FA) ∧ F = ownB pv ++ FA
  ok : S.Ok
theorem RA.tys {w : World} {A : Nat} {S : Ars} {F : List Nat} (h : RA w A S F) : ∀ b ∈ F, ∃ c t, w.heap[b]? = some (.cells c t (0, 0)) ∧ (t = 121 ∨ t = 147 ∨ t = 3 ∨ t = 49) := by
  obtain ⟨cv, bv, cs, h0, hl, hw, ha, rfl, ok, hwd⟩ := h.words
  intro b hm
  simp only [List.mem_cons, List.mem_append, List.mem_flatMap] at hm
  rcases hm with rfl | hm | hm | ⟨r, hr, hm⟩
  · exact ⟨_, _, h0.head, .inl rfl⟩
  · obtain ⟨cur, hh⟩ := h0.cells.ty hm; exact ⟨_, _, hh, .inr (.inl rfl)⟩
  · obtain ⟨cur, hh⟩ := h0.back.ty hm; exact ⟨_, _, hh, .inr (.inr (.inl rfl))⟩
  · obtain ⟨cur, hh⟩ := hwd r hr b hm; exact ⟨_, _, hh, .inr (.inr (.inr rfl))⟩
section
variable {w w' : World} {B A : Nat} {S : Wir} {FA : List Nat}
theorem RG.lt (h : RG w B A S FA) : B < w.heap.size := by obtain ⟨_, _, hh, _⟩ := h.hd; exact heap_lt hh
theorem RG.na (h : RG w B A S FA) : B ∉ FA := fun hm => by
  obtain ⟨FR, pv, hh, hr, ha, _, rfl⟩ := h.hd
  rcases List.mem_append.1 hm with hm | hm
  · obtain ⟨cur, h2⟩ := hr.ty hm
    exact ty_ne hh h2 (by decide) rfl
  · obtain ⟨c, t, h2, h3⟩ := ha.tys B hm
    refine ty_ne hh h2 ?_ rfl
    rcases h3 with rfl | rfl | rfl | rfl <;> decide
theorem RG.cells (h : RG w B A S FA) : w.cell? ⟨B, 0, none⟩ = some (.pointer (some ⟨A, 0, none⟩)) ∧ ∃ V c, w.cell? ⟨B, 1, none⟩ = some (.slice V S.P.length c) := by
  obtain ⟨FR, pv, hh, hr, _⟩ := h.hd
  obtain ⟨V, c, rfl, _⟩ := hr.len
  exact ⟨by simp [World.cell?, hh], V, c, by simp [World.cell?, hh]⟩
theorem RG.word (h : RG w B A S FA) {i : Nat} (hi : i < S.P.length) : ∃ g c, w.cell? ⟨B, 1, none⟩ = some (.slice (some ⟨g, 0, none⟩) S.P.length c) ∧ w.cell? ⟨g, i, none⟩ = some (.int .u32 (S.P.getD i 0)) ∧ w.frozen? ⟨g, i, none⟩ = false ∧ g ∈ FA ∧ g < w.heap.size := by
  obtain ⟨FR, pv, hh, hr, ha, hap, rfl⟩ := h.hd
  obtain ⟨g, c, cur, rfl, hg, _⟩ := hr.some_ (by omega)
  refine ⟨g, c, by simp [World.cell?, hh], (hr.cellAt i (by omega)).trans (by simp [wvals, hi]), hr.frozenAt i, by simp [ownB], heap_lt hg⟩
theorem RG.keep (h : RG w B A S FA) (hk : ∀ b ∈ B :: FA, w'.heap[b]? = w.heap[b]?) : RG w' B A S FA := by
  obtain ⟨FR, pv, hh, hr, ha, hap, rfl⟩ := h.hd
  exact ⟨⟨FR, pv, (hk B (by simp)).trans hh, hr.keep fun b hb => hk b (by simp [hb]), ha.keep fun b hb => hk b (by simp [hb]), hap, rfl⟩, h.ok⟩
theorem RG.blt (h : RG w B A S FA) : ∀ b ∈ B :: FA, b < w.heap.size := fun b hb => by
  rcases List.mem_cons.1 hb with rfl | hb
  · exact h.lt
  · obtain ⟨FR, pv, hh, hr, ha, hap, rfl⟩ := h.hd
    rcases List.mem_append.1 hb with hb | hb
    · exact hr.lt b hb
    · exact ha.lt b hb
theorem RG.below (h : RG w B A S FA) (hb : Below w.heap.size w w') : RG w' B A S FA := h.keep fun b hm => hb.block b (h.blt b hm)
theorem RG.kp {G : List Nat} (h : RG w B A S FA) (hk : Kp G w w') (hG : ∀ b ∈ B :: FA, b ∉ G) : RG w' B A S FA := h.keep fun b hb => hk.block b (h.blt b hb) (hG b hb)
theorem wvals_set (l : List Int) (j : Nat) (x : Int) : (wvals l).set j (.int .u32 x) = wvals (l.set j x) := by simp [wvals, List.map_set]
/-- A free port is written. -/
theorem RG.putP (h : RG w B A S FA) {g i c : Nat} (hc : w.cell? ⟨B, 1, none⟩ = some (.slice (some ⟨g, 0, none⟩) S.P.length c)) (hi : i < S.P.length) {v : Int} (hv : 0 ≤ v ∧ v < 4294967296) : RG (w.setCell ⟨g, i, none⟩ (.int .u32 v)) B A { S with P := S.P.set i v } FA := by
  have hna := h.na
  obtain ⟨FR, pv, hh, hr, ha, hap, rfl⟩ := h.hd
  have hpv : pv = .slice (some ⟨g, 0, none⟩) S.P.length c := by simpa [World.cell?, hh] using hc
  subst hpv
  have hgB : B ≠ g := fun e => hna (by rw [e]; simp [ownB])
  have hR := hr.set i (.int .u32 v)
  rw [wvals_set] at hR
  refine ⟨⟨FR, _, (Below.heap_setCell _ _ _ B hgB).trans hh, by simpa using hR, ha.keep fun b hb => Below.heap_setCell _ _ _ b (fun e => hap g (by simp [ownB]) (by have e' : b = g := e; exact e' ▸ hb)), hap, by simp⟩, ⟨h.ok.a, by simpa using h.ok.p, fun x hx => ?_⟩⟩
  rcases List.mem_or_eq_of_mem_set hx with hm | rfl
  · exact h.ok.w x hm
  · exact hv
/-- The arena; what holds where it has turned. -/
theorem RG.split (h : RG w B A S FA) : ∃ P FR, FA = P ++ FR ∧ RA w A S.A FR ∧ ∀ (w' : World) (A' : Ars) (FR' : List Nat), RA w' A A' FR' → Kp FR w w' → (∀ b ∈ FR', b ∈ FR ∨ w.heap.size ≤ b) → RG w' B A { S with A := A' } (P ++ FR') := by
  have hna := h.na
  obtain ⟨FR, pv, hh, hr, ha, hap, rfl⟩ := h.hd
  refine ⟨ownB pv, FR, rfl, ha, fun w' A' FR' h' hk hn => ⟨⟨FR', pv, (hk.block B (heap_lt hh) (fun hm => hna (List.mem_append_right _ hm))).trans hh, hr.keep fun b hb => hk.block b (hr.lt b hb) (hap b hb), h', fun b hb hm => ?_, rfl⟩, ⟨h'.ok, h.ok.p, h.ok.w⟩⟩⟩
  rcases hn b hm with hm | hm
  · exact hap b hb hm
  · have := hr.lt b hb; omega
end
section
variable (B A : Nat) (S : Wir) (FA : List Nat) (w : World)
set_option maxHeartbeats 1000000 in
theorem rw_word (c s : Int) (h : RG w B A S FA) : Calls Try.prog 67 #[.pointer (some ⟨B, 0, none⟩), .agg #[.int .i64 c, .int .i64 s]] w fun e w' => e = .returned (.tuple #[.int .u32 (S.wV (c, s)), .int .i64 (S.wE (c, s))]) ∧ Below w.heap.size w w' := by
  by_cases hc : c = -1
  · subst hc
    by_cases h1 : s < 0
    · have e1 : S.wE (-1, s) = 30 := by unfold Wir.wE; rw [if_pos rfl, if_pos (.inl h1)]
      have e2 : S.wV (-1, s) = 0 := by unfold Wir.wV; rw [if_pos rfl, if_pos (.inl h1)]
      rw [e1, e2]
      have hX : Below w.heap.size w (w.alloc (.cells #[.int .i64 (-1), .int .i64 s] 39)) := (Below.refl _ _).alloc (Nat.le_refl _) _
      have HX := Lib.hid hX
      have HG := Lib.hid (h.below hX)
      have hlt := h.lt
      obtain ⟨c0, V, cV, c1⟩ := h.cells
      have hP := h.ok.p
      clear hX
      go_enter Try.func67, Try.ntmps67
      go_wp2_with fail
      go_quiet (fail)
      go_wp2_with fail
      go_ret2
      exact ⟨rfl, by (repeat (with_reducible refine below_drewN ?_ _)); (repeat (first | exact Below.refl _ _ | (with_reducible refine Below.drew ?_) | (with_reducible refine Below.alloc ?_ (by (try simp); (try omega)) _) | (with_reducible refine Below.setCell ?_ (by (try simp); (try omega)) _) | (with_reducible refine Below.trans ?_ (Below.mono (by assumption) (by (try simp); (try omega))))))⟩
    · by_cases h2 : (S.P.length : Int) ≤ s
      · have e1 : S.wE (-1, s) = 30 := by unfold Wir.wE; rw [if_pos rfl, if_pos (.inr h2)]
        have e2 : S.wV (-1, s) = 0 := by unfold Wir.wV; rw [if_pos rfl, if_pos (.inr h2)]
        rw [e1, e2]
        have hX : Below w.heap.size w (w.alloc (.cells #[.int .i64 (-1), .int .i64 s] 39)) := (Below.refl _ _).alloc (Nat.le_refl _) _
        have HX := Lib.hid hX
        have HG := Lib.hid (h.below hX)
        have hlt := h.lt
        obtain ⟨c0, V, cV, c1⟩ := h.cells
        have hP := h.ok.p
        clear hX
        go_enter Try.func67, Try.ntmps67
        go_wp2_with fail
        go_quiet (fail)
        go_wp2_with fail
        go_ret2
        exact ⟨rfl, by (repeat (with_reducible refine below_drewN ?_ _)); (repeat (first | exact Below.refl _ _ | (with_reducible refine Below.drew ?_) | (with_reducible refine Below.alloc ?_ (by (try simp); (try omega)) _) | (with_reducible refine Below.setCell ?_ (by (try simp); (try omega)) _) | (with_reducible refine Below.trans ?_ (Below.mono (by assumption) (by (try simp); (try omega))))))⟩
      · obtain ⟨i, rfl⟩ := Int.eq_ofNat_of_zero_le (by omega : 0 ≤ s)
        have hi : i < S.P.length := by omega
        have e1 : S.wE (-1, (i : Int)) = 0 := by unfold Wir.wE; rw [if_pos rfl, if_neg (by omega)]
        have e2 : S.wV (-1, (i : Int)) = S.P.getD i 0 := by unfold Wir.wV; rw [if_pos rfl, if_neg (by omega)]; rfl
        rw [e1, e2]
        obtain ⟨g, cg, k1, k0, _, _, hg⟩ := h.word hi
        generalize S.P.getD i 0 = x at k0 ⊢
        have h3 : ¬ ((i : Int) < 0) := by omega
        have h4 : ¬ ((S.P.length : Int) ≤ (i : Int)) := h2
        have h6 : (i : Int) < (S.P.length : Int) := by omega
        have h7 : (0 : Int) ≤ (i : Int) := by omega
        have hX : Below w.heap.size w (w.alloc (.cells #[.int .i64 (-1), .int .i64 (i : Int)] 39)) := (Below.refl _ _).alloc (Nat.le_refl _) _
        have HX := Lib.hid hX
        have HG := Lib.hid (h.below hX)
        have hlt := h.lt
        obtain ⟨c0, V, cV, c1⟩ := h.cells
        have hP := h.ok.p
        clear hX
        go_enter Try.func67, Try.ntmps67
        clear c1
        go_wp2_with fail
        go_quiet (fail)
        go_wp2_with fail
        go_quiet (fail)
        go_wp2_with fail
        go_ret2
        exact ⟨rfl, by (repeat (with_reducible refine below_drewN ?_ _)); (repeat (first | exact Below.refl _ _ | (with_reducible refine Below.drew ?_) | (with_reducible refine Below.alloc ?_ (by (try simp); (try omega)) _) | (with_reducible refine Below.setCell ?_ (by (try simp); (try omega)) _) | (with_reducible refine Below.trans ?_ (Below.mono (by assumption) (by (try simp); (try omega))))))⟩
  · have hcb : (c == -1) = false := by rw [beq_eq_false_iff_ne]; exact hc
    have e2 : S.wV (c, s) = S.A.getV c s := by unfold Wir.wV; rw [if_neg hc]
    rw [e2]
    obtain ⟨P, FR, _, hra, _⟩ := (h.below (w' := w.alloc (.cells #[.int .i64 c, .int .i64 s] 39)) ((Below.refl _ _).alloc (Nat.le_refl _) _)).split
    have HRA := Lib.hid hra
    clear hra
    by_cases he : S.A.slotE c s = 0
    · have e1 : S.wE (c, s) = 0 := by unfold Wir.wE; rw [if_neg hc, if_pos he]
      rw [e1]
      have HE := Lib.hid he
      clear he e1 e2
      have hX : Below w.heap.size w (w.alloc (.cells #[.int .i64 c, .int .i64 s] 39)) := (Below.refl _ _).alloc (Nat.le_refl _) _
      have HX := Lib.hid hX
      have HG := Lib.hid (h.below hX)
      have hlt := h.lt
      obtain ⟨c0, V, cV, c1⟩ := h.cells
      have hP := h.ok.p
      clear hX
      go_enter Try.func67, Try.ntmps67
      go_wp2_with fail
      go_region_held3 (fun W => (W.cell? ⟨w.heap.size, 0, none⟩ = some (.int .i64 c) ∧ W.cell? ⟨w.heap.size, 1, none⟩ = some (.int .i64 s)) ∧ W.cell? ⟨B, 0, none⟩ = some (.pointer (some ⟨A, 0, none⟩)))
        (exact ⟨⟨by go_simp, by go_simp⟩, HG.out.cells.1⟩)
        (first
          | ((with_reducible refine (rr_get A S.A FR c s _ (by first | exact HRA.out | exact HRA.out.below (Below.refl _ _).drew)).mono ?_); rintro e w' ⟨rfl, rfl⟩; dsimp only; rw [HE.out]))
      all_goals
        go_wp2_with fail
        go_ret2
        exact ⟨rfl, by (repeat (with_reducible refine below_drewN ?_ _)); (repeat (first | exact Below.refl _ _ | (with_reducible refine Below.drew ?_) | (with_reducible refine Below.alloc ?_ (by (try simp); (try omega)) _) | (with_reducible refine Below.setCell ?_ (by (try simp); (try omega)) _) | (with_reducible refine Below.trans ?_ (Below.mono (by assumption) (by (try simp); (try omega))))))⟩
    · have e1 : S.wE (c, s) = 30 := by unfold Wir.wE; rw [if_neg hc, if_neg he]
      have hv : S.A.getV c s = 0 := Ars.getV_no he
      rw [e1, hv]
      have hek : (S.A.slotE c s != 0) = true := bne_iff_ne.2 he
      clear he e1 e2 hv
      have hX : Below w.heap.size w (w.alloc (.cells #[.int .i64 c, .int .i64 s] 39)) := (Below.refl _ _).alloc (Nat.le_refl _) _
      have HX := Lib.hid hX
      have HG := Lib.hid (h.below hX)
      have hlt := h.lt
      obtain ⟨c0, V, cV, c1⟩ := h.cells
      have hP := h.ok.p
      clear hX
      go_enter Try.func67, Try.ntmps67
      go_wp2_with fail
      go_region_held3 (fun W => (W.cell? ⟨w.heap.size, 0, none⟩ = some (.int .i64 c) ∧ W.cell? ⟨w.heap.size, 1, none⟩ = some (.int .i64 s)) ∧ W.cell? ⟨B, 0, none⟩ = some (.pointer (some ⟨A, 0, none⟩)))
        (exact ⟨⟨by go_simp, by go_simp⟩, HG.out.cells.1⟩)
        (first
          | ((with_reducible refine (rr_get A S.A FR c s _ (by first | exact HRA.out | exact HRA.out.below (Below.refl _ _).drew)).mono ?_); rintro e w' ⟨rfl, rfl⟩; dsimp only))
      all_goals
        go_wp2_with fail
        go_ret2
        exact ⟨rfl, by (repeat (with_reducible refine below_drewN ?_ _)); (repeat (first | exact Below.refl _ _ | (with_reducible refine Below.drew ?_) | (with_reducible refine Below.alloc ?_ (by (try simp); (try omega)) _) | (with_reducible refine Below.setCell ?_ (by (try simp); (try omega)) _) | (with_reducible refine Below.trans ?_ (Below.mono (by assumption) (by (try simp); (try omega))))))⟩
end
end Go.Proofs.Ythbobooiedcofaa
/-
  skeinref06.Unpack.
-/
namespace Go.Proofs.Ythbobooiedcofaa
open Go.RowKit
attribute [local go_sem] cell_set
set_option maxRecDepth 100000
set_option linter.unusedVariables false

theorem pack_anyR (c s : Int) (w : World) : Calls Try.prog 114 #[.agg #[.int .i64 c, .int .i64 s]] w fun e w' => e = .returned (.tuple #[.int .u32 (pkW c s), .int .i64 (pkE c s)]) ∧ Below w.heap.size w w' := rpack_any c s w
set_option maxHeartbeats 2000000 in
theorem runpack_any (v : Int) (H : Hid (0 ≤ v ∧ v < 4294967296)) (w : World) :
    Calls Try.prog 68 #[.int .u32 v] w fun e w' => e = .returned (.tuple #[.agg #[.int .i64 (upC v), .int .i64 (upS v)], .bool (unOk v)]) ∧ Below w.heap.size w w' := by
  by_cases hv : 2147483648 ≤ v
  · have HC : Hid (unC v = -1) := by show _ = _; unfold unC; rw [if_pos hv]
    have HS : Hid ((v - 2147483648) % 4294967296 = unS v) := by show _ = _; have := H.out; unfold unS; rw [if_pos hv]; omega
    have HV : Hid (2147483648 ≤ v) := hv
    have k0 : 2147483648 ≤ v := hv
    by_cases h1 : pkE (-1) (unS v) = 0
    · by_cases h2 : pkW (-1) (unS v) = v
      · have hu : unOk v = true := by unfold unOk; rw [HC.out]; exact decide_eq_true ⟨h1, h2⟩
        have hc1 : upC v = -1 := by unfold upC; rw [if_pos hu, HC.out]
        have hc2 : upS v = unS v := by unfold upS; rw [if_pos hu]
        rw [hu, hc1, hc2]
        have H1 := Lib.hid h1
        have H2 := Lib.hid h2
        clear h1 h2 hu hc1 hc2 H hv
        go_enter Try.func68, Try.ntmps68
        go_wp2_with fail
        rw [HS.out]; clear k0
        refine (pack_anyR _ _ _).mono ?_
        rintro e w1 ⟨rfl, hb1⟩
        obtain ⟨hc1, hf1⟩ := bcell hb1; have hz1 := hb1.size; (try simp at hz1); have hz1a : w.heap.size < w1.heap.size := (by omega); have hz1b : w.heap.size + 1 < w1.heap.size := (by omega)
        rw [H1.out, H2.out]
        simp only []
        go_wp2_with fail
        exact bodyPost_ret (v := .tuple #[.agg #[.int .i64 (-1), .int .i64 (unS v)], .bool true]) (by simp only [results, Try.results68]; go_simp) rfl ⟨rfl, by (repeat (first | exact Below.refl _ _ | (with_reducible refine Below.drew ?_) | (with_reducible refine Below.alloc ?_ (by (try simp); (try omega)) _) | (with_reducible refine Below.setCell ?_ (by (try simp); (try omega)) _) | (with_reducible refine Below.trans ?_ (Below.mono (by assumption) (by (try simp); (try omega))))))⟩
      · have hu : unOk v = false := by unfold unOk; rw [HC.out]; exact decide_eq_false fun h => h2 h.2
        have hc1 : upC v = 0 := by unfold upC; rw [hu]; rfl
        have hc2 : upS v = 0 := by unfold upS; rw [hu]; rfl
        rw [hu, hc1, hc2]
        have k2 : (pkW (-1) (unS v) != v) = true := bne_iff_ne.2 h2
        have H1 := Lib.hid h1
        clear h1 h2 hu hc1 hc2 H hv
        go_enter Try.func68, Try.ntmps68
        go_wp2_with fail
        rw [HS.out]; clear k0
        refine (pack_anyR _ _ _).mono ?_
        rintro e w1 ⟨rfl, hb1⟩
        obtain ⟨hc1, hf1⟩ := bcell hb1; have hz1 := hb1.size; (try simp at hz1); have hz1a : w.heap.size < w1.heap.size := (by omega); have hz1b : w.heap.size + 1 < w1.heap.size := (by omega)
        rw [H1.out]
        simp only []
        go_wp2_with fail
        exact bodyPost_ret (v := .tuple #[.agg #[.int .i64 0, .int .i64 0], .bool false]) (by simp only [results, Try.results68]; go_simp) rfl ⟨rfl, by (repeat (first | exact Below.refl _ _ | (with_reducible refine Below.drew ?_) | (with_reducible refine Below.alloc ?_ (by (try simp); (try omega)) _) | (with_reducible refine Below.setCell ?_ (by (try simp); (try omega)) _) | (with_reducible refine Below.trans ?_ (Below.mono (by assumption) (by (try simp); (try omega))))))⟩
    · have hu : unOk v = false := by unfold unOk; rw [HC.out]; exact decide_eq_false fun h => h1 h.1
      have hc1 : upC v = 0 := by unfold upC; rw [hu]; rfl
      have hc2 : upS v = 0 := by unfold upS; rw [hu]; rfl
      rw [hu, hc1, hc2]
      have k1 : (pkE (-1) (unS v) != 0) = true := bne_iff_ne.2 h1
      clear h1 hu hc1 hc2 H hv
      go_enter Try.func68, Try.ntmps68
      go_wp2_with fail
      rw [HS.out]; clear k0
      refine (pack_anyR _ _ _).mono ?_
      rintro e w1 ⟨rfl, hb1⟩
      obtain ⟨hc1, hf1⟩ := bcell hb1; have hz1 := hb1.size; (try simp at hz1); have hz1a : w.heap.size < w1.heap.size := (by omega); have hz1b : w.heap.size + 1 < w1.heap.size := (by omega)
      skip
      simp only []
      go_wp2_with fail
      exact bodyPost_ret (v := .tuple #[.agg #[.int .i64 0, .int .i64 0], .bool false]) (by simp only [results, Try.results68]; go_simp) rfl ⟨rfl, by (repeat (first | exact Below.refl _ _ | (with_reducible refine Below.drew ?_) | (with_reducible refine Below.alloc ?_ (by (try simp); (try omega)) _) | (with_reducible refine Below.setCell ?_ (by (try simp); (try omega)) _) | (with_reducible refine Below.trans ?_ (Below.mono (by assumption) (by (try simp); (try omega))))))⟩
  · have HC0 : Hid (unC v = v / 8) := by show _ = _; unfold unC; rw [if_neg hv]
    have hS : v % 8 = unS v := by unfold unS; rw [if_neg hv]
    have hd : v.tdiv 8 % 4294967296 = v / 8 := by have := H.out; rw [Int.tdiv_eq_ediv_of_nonneg (by omega)]; omega
    have hm : wrap64 (v.tmod 8) = unS v := by have := H.out; rw [← hS, Int.tmod_eq_emod_of_nonneg (by omega)]; unfold wrap64; omega
    have HD := Lib.hid hd
    have HM := Lib.hid hm
    have k0 : ¬ 2147483648 ≤ v := hv
    obtain ⟨d, hdd⟩ : ∃ d, v / 8 = d := ⟨_, rfl⟩
    rw [hdd] at HC0 HD
    have HC := HC0
    clear hS hd hm hdd HC0
    by_cases h1 : pkE (d) (unS v) = 0
    · by_cases h2 : pkW (d) (unS v) = v
      · have hu : unOk v = true := by unfold unOk; rw [HC.out]; exact decide_eq_true ⟨h1, h2⟩
        have hc1 : upC v = d := by unfold upC; rw [if_pos hu, HC.out]
        have hc2 : upS v = unS v := by unfold upS; rw [if_pos hu]
        rw [hu, hc1, hc2]
        have H1 := Lib.hid h1
        have H2 := Lib.hid h2
        clear h1 h2 hu hc1 hc2 H hv
        go_enter Try.func68, Try.ntmps68
        go_wp2_with fail
        rw [HD.out, HM.out]; clear k0
        refine (pack_anyR _ _ _).mono ?_
        rintro e w1 ⟨rfl, hb1⟩
        obtain ⟨hc1, hf1⟩ := bcell hb1; have hz1 := hb1.size; (try simp at hz1); have hz1a : w.heap.size < w1.heap.size := (by omega); have hz1b : w.heap.size + 1 < w1.heap.size := (by omega)
        rw [H1.out, H2.out]
        simp only []
        go_wp2_with fail
        exact bodyPost_ret (v := .tuple #[.agg #[.int .i64 (d), .int .i64 (unS v)], .bool true]) (by simp only [results, Try.results68]; go_simp) rfl ⟨rfl, by (repeat (first | exact Below.refl _ _ | (with_reducible refine Below.drew ?_) | (with_reducible refine Below.alloc ?_ (by (try simp); (try omega)) _) | (with_reducible refine Below.setCell ?_ (by (try simp); (try omega)) _) | (with_reducible refine Below.trans ?_ (Below.mono (by assumption) (by (try simp); (try omega))))))⟩
      · have hu : unOk v = false := by unfold unOk; rw [HC.out]; exact decide_eq_false fun h => h2 h.2
        have hc1 : upC v = 0 := by unfold upC; rw [hu]; rfl
        have hc2 : upS v = 0 := by unfold upS; rw [hu]; rfl
        rw [hu, hc1, hc2]
        have k2 : (pkW (d) (unS v) != v) = true := bne_iff_ne.2 h2
        have H1 := Lib.hid h1
        clear h1 h2 hu hc1 hc2 H hv
        go_enter Try.func68, Try.ntmps68
        go_wp2_with fail
        rw [HD.out, HM.out]; clear k0
        refine (pack_anyR _ _ _).mono ?_
        rintro e w1 ⟨rfl, hb1⟩
        obtain ⟨hc1, hf1⟩ := bcell hb1; have hz1 := hb1.size; (try simp at hz1); have hz1a : w.heap.size < w1.heap.size := (by omega); have hz1b : w.heap.size + 1 < w1.heap.size := (by omega)
        rw [H1.out]
        simp only []
        go_wp2_with fail
        exact bodyPost_ret (v := .tuple #[.agg #[.int .i64 0, .int .i64 0], .bool false]) (by simp only [results, Try.results68]; go_simp) rfl ⟨rfl, by (repeat (first | exact Below.refl _ _ | (with_reducible refine Below.drew ?_) | (with_reducible refine Below.alloc ?_ (by (try simp); (try omega)) _) | (with_reducible refine Below.setCell ?_ (by (try simp); (try omega)) _) | (with_reducible refine Below.trans ?_ (Below.mono (by assumption) (by (try simp); (try omega))))))⟩
    · have hu : unOk v = false := by unfold unOk; rw [HC.out]; exact decide_eq_false fun h => h1 h.1
      have hc1 : upC v = 0 := by unfold upC; rw [hu]; rfl
      have hc2 : upS v = 0 := by unfold upS; rw [hu]; rfl
      rw [hu, hc1, hc2]
      have k1 : (pkE (d) (unS v) != 0) = true := bne_iff_ne.2 h1
      clear h1 hu hc1 hc2 H hv
      go_enter Try.func68, Try.ntmps68
      go_wp2_with fail
      rw [HD.out, HM.out]; clear k0
      refine (pack_anyR _ _ _).mono ?_
      rintro e w1 ⟨rfl, hb1⟩
      obtain ⟨hc1, hf1⟩ := bcell hb1; have hz1 := hb1.size; (try simp at hz1); have hz1a : w.heap.size < w1.heap.size := (by omega); have hz1b : w.heap.size + 1 < w1.heap.size := (by omega)
      skip
      simp only []
      go_wp2_with fail
      exact bodyPost_ret (v := .tuple #[.agg #[.int .i64 0, .int .i64 0], .bool false]) (by simp only [results, Try.results68]; go_simp) rfl ⟨rfl, by (repeat (first | exact Below.refl _ _ | (with_reducible refine Below.drew ?_) | (with_reducible refine Below.alloc ?_ (by (try simp); (try omega)) _) | (with_reducible refine Below.setCell ?_ (by (try simp); (try omega)) _) | (with_reducible refine Below.trans ?_ (Below.mono (by assumption) (by (try simp); (try omega))))))⟩
end Go.Proofs.Ythbobooiedcofaa
/-
  The document's wiring: To.
-/
namespace Go.Proofs.Ythbobooiedcofaa
open Go.RowKit
attribute [local go_sem] cell_set
set_option maxRecDepth 100000
set_option linter.unusedVariables false

section
variable (B A : Nat) (S : Wir) (FA : List Nat) (w : World)
set_option maxHeartbeats 1000000 in
theorem rw_to (c s : Int) (h : RG w B A S FA) : Calls Try.prog 18 #[.pointer (some ⟨B, 0, none⟩), .agg #[.int .i64 c, .int .i64 s]] w fun e w' => e = .returned (.tuple #[.agg #[.int .i64 (S.toP (c, s)).1, .int .i64 (S.toP (c, s)).2], .int .i64 (S.toE (c, s))]) ∧ Below w.heap.size w w' := by
  have HG := Lib.hid h
  have hlt := h.lt
  by_cases hw : S.wE (c, s) = 0
  · have HV := Lib.hid (h.ok.val hw)
    have hdf : S.toE (c, s) = if unOk (S.wV (c, s)) = true ∧ S.wE (nxP (S.wV (c, s))) = 0 then 0 else 32 := by unfold Wir.toE; rw [if_neg (by omega)]
    have hpf : S.toP (c, s) = if S.toE (c, s) = 0 then nxP (S.wV (c, s)) else (0, 0) := rfl
    have HW := Lib.hid hw
    obtain ⟨v, hv⟩ : ∃ v, S.wV (c, s) = v := ⟨_, rfl⟩
    rw [hv] at HV hdf hpf
    have HVv := Lib.hid hv
    clear hv hw
    cases hu : unOk v with
    | false =>
      have e1 : S.toE (c, s) = 32 := by rw [hdf, if_neg (by rw [hu]; simp)]
      have e2 : S.toP (c, s) = (0, 0) := by rw [hpf, e1, if_neg (by decide)]
      rw [e1, e2]
      clear hdf hpf e1 e2
      go_enter Try.func18, Try.ntmps18
      go_wp2_with (first
        | (go_at_call 67; refine (rw_word B A S FA _ _ _ (HG.out.below (by (repeat (first | exact Below.refl _ _ | (with_reducible refine Below.drew ?_) | (with_reducible refine Below.alloc ?_ (by (try simp); (try omega)) _) | (with_reducible refine Below.setCell ?_ (by (try simp); (try omega)) _) | (with_reducible refine Below.trans ?_ (Below.mono (by assumption) (by (try simp); (try omega))))))))).mono ?_; rintro e w1 ⟨rfl, hb1⟩
           obtain ⟨hc1, hf1⟩ := bcell hb1; have hz1 := hb1.size; (try simp at hz1); have hz1a : w.heap.size < w1.heap.size := (by omega); have hz1b : w.heap.size + 1 < w1.heap.size := (by omega)
           first | rw [HW.out, HVv.out] | rw [HVv.out] | rw [HW.out])
        | (go_at_call 68; refine (runpack_any v HV _).mono ?_; rintro e w2 ⟨rfl, hb2⟩
           obtain ⟨hc2, hf2⟩ := bcell hb2; have hz2 := hb2.size; (try simp at hz2); have hz2a : w.heap.size < w2.heap.size := (by omega); have hz2b : w.heap.size + 1 < w2.heap.size := (by omega)
           rw [hu]))
      exact bodyPost_ret (v := .tuple #[.agg #[.int .i64 0, .int .i64 0], .int .i64 32]) (by simp only [results, Try.results18]; go_simp) rfl ⟨rfl, by (repeat (first | exact Below.refl _ _ | (with_reducible refine Below.drew ?_) | (with_reducible refine Below.alloc ?_ (by (try simp); (try omega)) _) | (with_reducible refine Below.setCell ?_ (by (try simp); (try omega)) _) | (with_reducible refine Below.trans ?_ (Below.mono (by assumption) (by (try simp); (try omega))))))⟩
    | true =>
      have hn : upC v = (nxP v).1 ∧ upS v = (nxP v).2 := by unfold upC upS nxP; rw [if_pos hu, if_pos hu]; exact ⟨rfl, rfl⟩
      obtain ⟨⟨q1, q2⟩, hq⟩ : ∃ q, nxP v = q := ⟨_, rfl⟩
      rw [hq] at hn hdf hpf
      obtain ⟨n1, n2⟩ := hn
      by_cases hx : S.wE (q1, q2) = 0
      · have e1 : S.toE (c, s) = 0 := by rw [hdf, if_pos ⟨hu, hx⟩]
        have e2 : S.toP (c, s) = (q1, q2) := by rw [hpf, e1, if_pos rfl]
        rw [e1, e2]
        have HQ := Lib.hid hx
        clear hdf hpf e1 e2 hx hq
        go_enter Try.func18, Try.ntmps18
        go_wp2_with (first
          | (go_at_call 67; refine (rw_word B A S FA _ _ _ (HG.out.below (by (repeat (first | exact Below.refl _ _ | (with_reducible refine Below.drew ?_) | (with_reducible refine Below.alloc ?_ (by (try simp); (try omega)) _) | (with_reducible refine Below.setCell ?_ (by (try simp); (try omega)) _) | (with_reducible refine Below.trans ?_ (Below.mono (by assumption) (by (try simp); (try omega))))))))).mono ?_; rintro e w1 ⟨rfl, hb1⟩
             obtain ⟨hc1, hf1⟩ := bcell hb1; have hz1 := hb1.size; (try simp at hz1); have hz1a : w.heap.size < w1.heap.size := (by omega); have hz1b : w.heap.size + 1 < w1.heap.size := (by omega)
             first | rw [HW.out, HVv.out] | rw [HVv.out] | rw [HW.out])
          | (go_at_call 68; refine (runpack_any v HV _).mono ?_; rintro e w2 ⟨rfl, hb2⟩
             obtain ⟨hc2, hf2⟩ := bcell hb2; have hz2 := hb2.size; (try simp at hz2); have hz2a : w.heap.size < w2.heap.size := (by omega); have hz2b : w.heap.size + 1 < w2.heap.size := (by omega)
             rw [hu, n1, n2])
          | (go_at_call 67; refine (rw_word B A S FA _ _ _ (HG.out.below (by (repeat (first | exact Below.refl _ _ | (with_reducible refine Below.drew ?_) | (with_reducible refine Below.alloc ?_ (by (try simp); (try omega)) _) | (with_reducible refine Below.setCell ?_ (by (try simp); (try omega)) _) | (with_reducible refine Below.trans ?_ (Below.mono (by assumption) (by (try simp); (try omega))))))))).mono ?_; rintro e w3 ⟨rfl, hb3⟩
             obtain ⟨hc3, hf3⟩ := bcell hb3; have hz3 := hb3.size; (try simp at hz3); have hz3a : w.heap.size < w3.heap.size := (by omega); have hz3b : w.heap.size + 1 < w3.heap.size := (by omega); have hz3c : w2.heap.size < w3.heap.size := (by omega)
             rw [HQ.out]))
        exact bodyPost_ret (v := .tuple #[.agg #[.int .i64 q1, .int .i64 q2], .int .i64 0]) (by simp only [results, Try.results18]; go_simp) rfl ⟨rfl, by (repeat (first | exact Below.refl _ _ | (with_reducible refine Below.drew ?_) | (with_reducible refine Below.alloc ?_ (by (try simp); (try omega)) _) | (with_reducible refine Below.setCell ?_ (by (try simp); (try omega)) _) | (with_reducible refine Below.trans ?_ (Below.mono (by assumption) (by (try simp); (try omega))))))⟩
      · have e1 : S.toE (c, s) = 32 := by rw [hdf, if_neg (fun hh => hx hh.2)]
        have e2 : S.toP (c, s) = (0, 0) := by rw [hpf, e1, if_neg (by decide)]
        rw [e1, e2]
        have hk : (S.wE (q1, q2) != 0) = true := bne_iff_ne.2 hx
        clear hdf hpf e1 e2 hx hq
        go_enter Try.func18, Try.ntmps18
        go_wp2_with (first
          | (go_at_call 67; refine (rw_word B A S FA _ _ _ (HG.out.below (by (repeat (first | exact Below.refl _ _ | (with_reducible refine Below.drew ?_) | (with_reducible refine Below.alloc ?_ (by (try simp); (try omega)) _) | (with_reducible refine Below.setCell ?_ (by (try simp); (try omega)) _) | (with_reducible refine Below.trans ?_ (Below.mono (by assumption) (by (try simp); (try omega))))))))).mono ?_; rintro e w1 ⟨rfl, hb1⟩
             obtain ⟨hc1, hf1⟩ := bcell hb1; have hz1 := hb1.size; (try simp at hz1); have hz1a : w.heap.size < w1.heap.size := (by omega); have hz1b : w.heap.size + 1 < w1.heap.size := (by omega)
             first | rw [HW.out, HVv.out] | rw [HVv.out] | rw [HW.out])
          | (go_at_call 68; refine (runpack_any v HV _).mono ?_; rintro e w2 ⟨rfl, hb2⟩
             obtain ⟨hc2, hf2⟩ := bcell hb2; have hz2 := hb2.size; (try simp at hz2); have hz2a : w.heap.size < w2.heap.size := (by omega); have hz2b : w.heap.size + 1 < w2.heap.size := (by omega)
             rw [hu, n1, n2])
          | (go_at_call 67; refine (rw_word B A S FA _ _ _ (HG.out.below (by (repeat (first | exact Below.refl _ _ | (with_reducible refine Below.drew ?_) | (with_reducible refine Below.alloc ?_ (by (try simp); (try omega)) _) | (with_reducible refine Below.setCell ?_ (by (try simp); (try omega)) _) | (with_reducible refine Below.trans ?_ (Below.mono (by assumption) (by (try simp); (try omega))))))))).mono ?_; rintro e w3 ⟨rfl, hb3⟩
             obtain ⟨hc3, hf3⟩ := bcell hb3; have hz3 := hb3.size; (try simp at hz3); have hz3a : w.heap.size < w3.heap.size := (by omega); have hz3b : w.heap.size + 1 < w3.heap.size := (by omega); have hz3c : w2.heap.size < w3.heap.size := (by omega)))
        exact bodyPost_ret (v := .tuple #[.agg #[.int .i64 0, .int .i64 0], .int .i64 32]) (by simp only [results, Try.results18]; go_simp) rfl ⟨rfl, by (repeat (first | exact Below.refl _ _ | (with_reducible refine Below.drew ?_) | (with_reducible refine Below.alloc ?_ (by (try simp); (try omega)) _) | (with_reducible refine Below.setCell ?_ (by (try simp); (try omega)) _) | (with_reducible refine Below.trans ?_ (Below.mono (by assumption) (by (try simp); (try omega))))))⟩
  · have h30 : S.wE (c, s) = 30 := (Wir.wE_01 _).resolve_left hw
    have e1 : S.toE (c, s) = 30 := (Wir.toE_30 _).2 hw
    have e2 : S.toP (c, s) = (0, 0) := by unfold Wir.toP; rw [e1, if_neg (by decide)]
    rw [e1, e2]
    have H30 := Lib.hid h30
    clear hw h30 e1 e2
    go_enter Try.func18, Try.ntmps18
    go_wp2_with (go_at_call 67; refine (rw_word B A S FA _ _ _ (HG.out.below (by (repeat (first | exact Below.refl _ _ | (with_reducible refine Below.drew ?_) | (with_reducible refine Below.alloc ?_ (by (try simp); (try omega)) _) | (with_reducible refine Below.setCell ?_ (by (try simp); (try omega)) _) | (with_reducible refine Below.trans ?_ (Below.mono (by assumption) (by (try simp); (try omega))))))))).mono ?_; rintro e w1 ⟨rfl, hb1⟩
                 obtain ⟨hc1, hf1⟩ := bcell hb1; have hz1 := hb1.size; (try simp at hz1); have hz1a : w.heap.size < w1.heap.size := (by omega); have hz1b : w.heap.size + 1 < w1.heap.size := (by omega)
                 rw [H30.out])
    exact bodyPost_ret (v := .tuple #[.agg #[.int .i64 0, .int .i64 0], .int .i64 30]) (by simp only [results, Try.results18]; go_simp) rfl ⟨rfl, by (repeat (first | exact Below.refl _ _ | (with_reducible refine Below.drew ?_) | (with_reducible refine Below.alloc ?_ (by (try simp); (try omega)) _) | (with_reducible refine Below.setCell ?_ (by (try simp); (try omega)) _) | (with_reducible refine Below.trans ?_ (Below.mono (by assumption) (by (try simp); (try omega))))))⟩
end
end Go.Proofs.Ythbobooiedcofaa
namespace Go.Proofs.Ythbobooiedcofaa
open Go.RowKit
attribute [local go_sem] cell_set
set_option maxRecDepth 100000
set_option linter.unusedVariables false

section
variable (B A : Nat) (S : Wir) (FA : List Nat) (w : World)
set_option maxHeartbeats 1000000 in
theorem rw_put (c s v : Int) (hv : 0 ≤ v ∧ v < 4294967296) (hp : S.wE (c, s) = 0) (h : RG w B A S FA) :
    Calls Try.prog 101 #[.pointer (some ⟨B, 0, none⟩), .agg #[.int .i64 c, .int .i64 s], .int .u32 v] w fun e w' => (∃ r, e = .returned r) ∧ RG w' B A (S.put (c, s) v) FA ∧ Kp (B :: FA) w w' := by
  have HG := Lib.hid h
  have HV := Lib.hid hv
  have hlt := h.lt
  obtain ⟨c0, V, cV, c1⟩ := h.cells
  clear hv
  by_cases hc : c = -1
  · subst hc
    have h1 : ¬ (s < 0 ∨ (S.P.length : Int) ≤ s) := by
      intro h2; unfold Wir.wE at hp; rw [if_pos rfl, if_pos h2] at hp; exact absurd hp (by decide)
    obtain ⟨i, rfl⟩ := Int.eq_ofNat_of_zero_le (by omega : 0 ≤ s)
    have hi : i < S.P.length := by omega
    obtain ⟨g, cg, k1, k0, k2, hgF, hg⟩ := h.word hi
    have h5 : (i : Int) < (S.P.length : Int) := by omega
    have h7 : (0 : Int) ≤ (i : Int) := by omega
    have hS : S.put (-1, (i : Int)) v = { S with P := S.P.set i v } := by unfold Wir.put; rw [if_pos rfl]; rfl
    rw [hS]
    have HR := Lib.hid (h.putP k1 hi HV.out)
    generalize S.P.getD i 0 = x at k0
    clear hp h1 hS c1
    go_enter Try.func101, Try.ntmps101
    go_wp2_with fail
    (refine region_tail 8 (by kernel_rfl) (by kernel_rfl) ?_; simp only [List.take_succ_cons, List.take_zero, List.drop_succ_cons, List.drop_zero]; repeat still_step; try refine wpStill_nil ?_)
    go_wp2_with fail
    refine bodyPost_ret (results_none rfl _ _ _) rfl ⟨⟨_, rfl⟩, ?_, ?_⟩
    · exact HR.out.below (by (repeat (first | exact Below.refl _ _ | (with_reducible refine Below.drew ?_) | (with_reducible refine Below.alloc ?_ (by (try simp); (try omega)) _) | (with_reducible refine Below.setCell ?_ (by (try simp); (try omega)) _) | (with_reducible refine Below.trans ?_ (Below.mono (by assumption) (by (try simp); (try omega)))))))
    · exact (((Kp.refl _ _).setCell (p := ⟨g, i, none⟩) (.inl (by simp [hgF])) _).alloc _).drew
  · have hcb : (c == -1) = false := by rw [beq_eq_false_iff_ne]; exact hc
    have hS : S.put (c, s) v = { S with A := S.A.put c s v } := by unfold Wir.put; rw [if_neg hc]
    rw [hS]
    have hse : S.A.slotE c s = 0 := by
      unfold Wir.wE at hp
      rw [if_neg hc] at hp
      by_cases he : S.A.slotE c s = 0
      · exact he
      · rw [if_neg he] at hp; exact absurd hp (by decide)
    rcases slotE_cases S.A c s with ⟨h1, _⟩ | ⟨h1, _⟩ | ⟨h1, ag, ws, hcc, hs0, hs⟩
    · omega
    · omega
    obtain ⟨h0, hl⟩ := Ars.cell_some hcc
    obtain ⟨i, rfl⟩ := Int.eq_ofNat_of_zero_le h0
    obtain ⟨k, rfl⟩ := Int.eq_ofNat_of_zero_le hs0
    have hk : k < ws.length := by omega
    obtain ⟨P, FR, hFA, hra, hput⟩ := h.split
    obtain ⟨g, cc, d, cw, k1, hli, z1, z2, hrow, hdF, hgF, hn1, hn7⟩ := hra.live hcc
    have z3 : w.cell? ⟨d, k, none⟩ = some (.int .u32 (ws.getD k 0)) := (hrow.cellAt k (by omega)).trans (by simp [wvals, hk])
    have z3f := hrow.frozenAt k
    have hdd : d < w.heap.size := hra.lt d hdF
    have hgg : g < w.heap.size := hra.lt g hgF
    have hAA := (hra.head).choose_spec.choose_spec.choose_spec.choose_spec.2.2.2.2.2.2
    have HR := Lib.hid (hput _ _ FR (hra.putw hcc hk k1 z2 HV.out) ((Kp.refl _ _).setCell (p := ⟨d, k, none⟩) (.inl hdF) _) (fun b hb => .inl hb))
    rw [← hFA] at HR
    have hdFA : d ∈ FA := by rw [hFA]; exact List.mem_append_right _ hdF
    have h5 : (i : Int) < (S.A.cells.length : Int) := by omega
    have h7 : (0 : Int) ≤ (i : Int) := by omega
    have h8 : (k : Int) < (ws.length : Int) := by omega
    have h9 : (0 : Int) ≤ (k : Int) := by omega
    clear hp hS hse h1 hcc hs0 hs h0 hl hra hput hrow hdF hgF c1 hFA
    go_enter Try.func101, Try.ntmps101
    go_wp2_with fail
    (refine region_tail 16 (by kernel_rfl) (by kernel_rfl) ?_; simp only [List.take_succ_cons, List.take_zero, List.drop_succ_cons, List.drop_zero]; repeat still_step; try refine wpStill_nil ?_)
    go_wp2_with fail
    refine bodyPost_end (results_none rfl _ _ _) rfl ⟨⟨_, rfl⟩, ?_, ?_⟩
    · exact HR.out.below (by (repeat (first | exact Below.refl _ _ | (with_reducible refine Below.drew ?_) | (with_reducible refine Below.alloc ?_ (by (try simp); (try omega)) _) | (with_reducible refine Below.setCell ?_ (by (try simp); (try omega)) _) | (with_reducible refine Below.trans ?_ (Below.mono (by assumption) (by (try simp); (try omega)))))))
    · exact (((Kp.refl _ _).setCell (p := ⟨d, k, none⟩) (.inl (by simp [hdFA])) _).alloc _).drew
end
end Go.Proofs.Ythbobooiedcofaa
