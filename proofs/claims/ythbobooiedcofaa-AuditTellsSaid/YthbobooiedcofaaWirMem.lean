/-
  A wiring in memory; Arena, Free, Word.
-/
import Derived.Test.YthbobooiedcofaaChecked
import Derived.Test.YthbobooiedcofaaBase
import Derived.Test.YthbobooiedcofaaWirPts
import Derived.WalkKit
import Derived.Below
import Derived.Lib.Hide
import Derived.Outline
import Derived.Laws.BitsAllLaws
import Derived.Laws.BitsLemmas
import Derived.WalkLawsBesides
import Derived.Test.YthbobooiedcofaaArenaOps
import Derived.Test.YthbobooiedcofaaWirPts
/-
  Contracts of package word, and of the reference for it.
-/
namespace Go.Proofs.Ythbobooiedcofaa
open Go.RowKit

attribute [local go_sem] cell_set
theorem or_high {s : Int} (h1 : 0 ≤ s) (h2 : s < 64) : bits .or .u32 2147483648 s = 2147483648 + s := by
  obtain ⟨n, rfl⟩ := Int.eq_ofNat_of_zero_le h1
  have := u32_or_nat 2147483648 n (by omega) (by omega)
  rw [nat_join 31 _ _ (by decide) (by omega)] at this
  simpa using this
theorem or_low {c s : Int} (h0 : 0 ≤ c) (hc : c < 4096) (h1 : 0 ≤ s) (h2 : s ≤ 6) : bits .or .u32 (c * 8) s = 8 * c + s := by
  obtain ⟨n, rfl⟩ := Int.eq_ofNat_of_zero_le h1
  obtain ⟨m, rfl⟩ := Int.eq_ofNat_of_zero_le h0
  have := u32_or_nat (m * 8) n (by omega) (by omega)
  rw [nat_join 3 _ _ (by omega) (by omega)] at this
  rw [show ((m : Int) * 8) = ((m * 8 : Nat) : Int) by omega, this]
  omega

theorem pack_any (c s : Int) (w : World) :
    Calls Try.prog 84 #[.agg #[.int .i64 c, .int .i64 s]] w fun e w' => e = .returned (.tuple #[.int .u32 (pkW c s), .int .i64 (pkE c s)]) ∧ Below w.heap.size w w' := by
  go_enter Try.func84, Try.ntmps84
  go_wp2
  all_goals go_ret2
  all_goals refine ⟨retI2 ?_ ?_, (Below.refl _ _).alloc (Nat.le_refl _) _⟩
  all_goals first | (rw [pkE]; repeat (first | rfl | omega | split)) | (rw [pkW]; repeat (first | rfl | omega | split | (rw [or_high] <;> omega) | (rw [or_low] <;> omega)))

theorem rpack_any (c s : Int) (w : World) :
    Calls Try.prog 114 #[.agg #[.int .i64 c, .int .i64 s]] w fun e w' => e = .returned (.tuple #[.int .u32 (pkW c s), .int .i64 (pkE c s)]) ∧ Below w.heap.size w w' := by
  go_enter Try.func114, Try.ntmps114
  go_wp2
  all_goals go_ret2
  all_goals refine ⟨retI2 ?_ ?_, (Below.refl _ _).alloc (Nat.le_refl _) _⟩
  all_goals first | (rw [pkE]; repeat (first | rfl | omega | split)) | (rw [pkW]; repeat (first | rfl | omega | split | (rw [or_high] <;> omega) | (rw [or_low] <;> omega)))

theorem and_high {v : Int} (h : 2147483648 ≤ v) (h2 : v < 4294967296) : (bits .and .u32 v 2147483648 != 0) = true := by
  obtain ⟨n, rfl⟩ := Int.eq_ofNat_of_zero_le (show 0 ≤ v by omega)
  have := u32_and_nat n 2147483648 (by omega) (by omega)
  rw [show ((2147483648 : Nat) : Int) = 2147483648 from rfl] at this
  rw [this, show (2147483648 : Nat) = 2 ^ 31 by decide, nat_bit]
  rw [bne_iff_ne]; omega
theorem and_high' {v : Int} (h : 0 ≤ v) (h2 : v < 2147483648) : (bits .and .u32 v 2147483648 != 0) = false := by
  obtain ⟨n, rfl⟩ := Int.eq_ofNat_of_zero_le h
  have := u32_and_nat n 2147483648 (by omega) (by omega)
  rw [show ((2147483648 : Nat) : Int) = 2147483648 from rfl] at this
  rw [this, show (2147483648 : Nat) = 2 ^ 31 by decide, nat_bit]
  rw [bne_eq_false_iff_eq]; omega
theorem and_seven {v : Int} (h : 0 ≤ v) (h2 : v < 4294967296) : wrap64 (bits .and .u32 v 7) = v % 8 := by
  obtain ⟨n, rfl⟩ := Int.eq_ofNat_of_zero_le h
  have := u32_and_nat n 7 (by omega) (by omega)
  rw [show ((7 : Nat) : Int) = 7 from rfl] at this
  rw [this, nat_mask3]
  unfold wrap64; omega
theorem andNot_high {v : Int} (h : 2147483648 ≤ v) (h2 : v < 4294967296) : wrap64 (bits .andNot .u32 v 2147483648) = v - 2147483648 := by
  obtain ⟨n, rfl⟩ := Int.eq_ofNat_of_zero_le (show 0 ≤ v by omega)
  have := u32_andNot_nat n 2147483648 (by omega) (by omega)
  rw [show ((2147483648 : Nat) : Int) = 2147483648 from rfl] at this
  rw [this, show (4294967295 - 2147483648 : Nat) = 2 ^ 31 - 1 by decide, Nat.and_two_pow_sub_one_eq_mod]
  unfold wrap64; omega

theorem upYes {v : Int} (h1 : pkE (unC v) (unS v) = 0) (h2 : pkW (unC v) (unS v) = v) : unC v = upC v ∧ unS v = upS v ∧ true = unOk v := by
  have : unOk v = true := by simp [unOk, h1, h2]
  simp [upC, upS, this]
theorem upNo {v : Int} (h : pkE (unC v) (unS v) = 0 → pkW (unC v) (unS v) = v → False) : 0 = upC v ∧ 0 = upS v ∧ false = unOk v := by
  have : unOk v = false := by
    simp only [unOk, decide_eq_false_iff_not]
    exact fun hh => h hh.1 hh.2
  simp [upC, upS, this]

theorem info_u32 : (Try.prog.info? 49).map (fun i => i.size) = some 1 := by kernel_rfl
theorem neq_arr (w : World) (a b : Int) : (binOp .neq 175 (.agg #[.int .u32 a]) (.agg #[.int .u32 b])).run Try.prog w = .ok (.bool (!(a == b))) w := by
  obtain ⟨i, hi, hs⟩ := Option.map_eq_some_iff.1 info_u32
  exact run_neq_array1 w a b Try.underlying175 Try.underlying49 hi hs
set_option maxRecDepth 100000 in
theorem unpack_any (v : Int) (H : Hid (0 ≤ v ∧ v < 4294967296)) (w : World) :
    Calls Try.prog 66 #[.int .u32 v] w fun e w' => e = .returned (.tuple #[.agg #[.int .i64 (upC v), .int .i64 (upS v)], .bool (unOk v)]) ∧ Below w.heap.size w w' := by
  have hcs : Hid ((2147483648 ≤ v → (-1 : Int) = unC v ∧ wrap64 (bits .andNot .u32 v 2147483648) = unS v) ∧ (v < 2147483648 → wrap64 (v / 8) = unC v ∧ wrap64 (bits .and .u32 v 7) = unS v)) := by
    have := H.out
    refine ⟨fun h => ⟨by simp [unC, h], by rw [andNot_high h this.2]; simp [unS, h]⟩, fun h => ⟨?_, ?_⟩⟩
    · unfold unC wrap64; rw [if_neg (by omega)]; omega
    · rw [and_seven (by omega) (by omega), unS, if_neg (by omega)]
  by_cases hv : 2147483648 ≤ v
  · have hbit := and_high hv H.out.2
    have hcs := Lib.hid (hcs.out.1 hv)
    clear H hv
    go_enter Try.func66, Try.ntmps66
    go_wp2_with fail
    rw [hcs.out.2, hcs.out.1]
    refine (pack_any _ _ _).mono ?_
    rintro e w' ⟨rfl, hb⟩
    obtain ⟨hc, hf⟩ := bcell hb; obtain ⟨hz, hzb, hzc⟩ : w.heap.size < w'.heap.size ∧ w.heap.size + 1 < w'.heap.size ∧ w.heap.size + 1 + 1 < w'.heap.size := (by have := hb.size; (try simp at this); omega)
    clear hbit
    have hna := neq_arr
    go_wp2
    · obtain ⟨e1, e2, e3⟩ := upNo (v := v) (fun _ h2 => by simp_all)
      exact bodyPost_ret (v := .tuple #[.agg #[.int .i64 0, .int .i64 0], .bool false]) (by simp only [results, Try.results66]; go_simp) rfl ⟨retPB e1 e2 e3, by (repeat (first | exact Below.refl _ _ | (with_reducible refine Below.drew ?_) | (with_reducible refine Below.alloc ?_ (by (try simp); (try omega)) _) | (with_reducible refine Below.setCell ?_ (by (try simp); (try omega)) _) | (with_reducible refine Below.trans ?_ (Below.mono (by assumption) (by (try simp); (try omega))))))⟩
    · obtain ⟨e1, e2, e3⟩ := upYes (v := v) (by assumption) (by simp_all)
      exact bodyPost_ret (v := .tuple #[.agg #[.int .i64 (unC v), .int .i64 (unS v)], .bool true]) (by simp only [results, Try.results66]; go_simp) rfl ⟨retPB e1 e2 e3, by (repeat (first | exact Below.refl _ _ | (with_reducible refine Below.drew ?_) | (with_reducible refine Below.alloc ?_ (by (try simp); (try omega)) _) | (with_reducible refine Below.setCell ?_ (by (try simp); (try omega)) _) | (with_reducible refine Below.trans ?_ (Below.mono (by assumption) (by (try simp); (try omega))))))⟩
    · obtain ⟨e1, e2, e3⟩ := upNo (v := v) (fun h1 _ => by simp_all)
      exact bodyPost_ret (v := .tuple #[.agg #[.int .i64 0, .int .i64 0], .bool false]) (by simp only [results, Try.results66]; go_simp) rfl ⟨retPB e1 e2 e3, by (repeat (first | exact Below.refl _ _ | (with_reducible refine Below.drew ?_) | (with_reducible refine Below.alloc ?_ (by (try simp); (try omega)) _) | (with_reducible refine Below.setCell ?_ (by (try simp); (try omega)) _) | (with_reducible refine Below.trans ?_ (Below.mono (by assumption) (by (try simp); (try omega))))))⟩
  · have hbit := and_high' H.out.1 (Int.lt_of_not_ge hv)
    have hcs := Lib.hid (hcs.out.2 (Int.lt_of_not_ge hv))
    clear H hv
    go_enter Try.func66, Try.ntmps66
    go_wp2_with fail
    rw [hcs.out.2, hcs.out.1]
    refine (pack_any _ _ _).mono ?_
    rintro e w' ⟨rfl, hb⟩
    obtain ⟨hc, hf⟩ := bcell hb; obtain ⟨hz, hzb, hzc⟩ : w.heap.size < w'.heap.size ∧ w.heap.size + 1 < w'.heap.size ∧ w.heap.size + 1 + 1 < w'.heap.size := (by have := hb.size; (try simp at this); omega)
    clear hbit
    have hna := neq_arr
    go_wp2
    · obtain ⟨e1, e2, e3⟩ := upNo (v := v) (fun _ h2 => by simp_all)
      exact bodyPost_ret (v := .tuple #[.agg #[.int .i64 0, .int .i64 0], .bool false]) (by simp only [results, Try.results66]; go_simp) rfl ⟨retPB e1 e2 e3, by (repeat (first | exact Below.refl _ _ | (with_reducible refine Below.drew ?_) | (with_reducible refine Below.alloc ?_ (by (try simp); (try omega)) _) | (with_reducible refine Below.setCell ?_ (by (try simp); (try omega)) _) | (with_reducible refine Below.trans ?_ (Below.mono (by assumption) (by (try simp); (try omega))))))⟩
    · obtain ⟨e1, e2, e3⟩ := upYes (v := v) (by assumption) (by simp_all)
      exact bodyPost_ret (v := .tuple #[.agg #[.int .i64 (unC v), .int .i64 (unS v)], .bool true]) (by simp only [results, Try.results66]; go_simp) rfl ⟨retPB e1 e2 e3, by (repeat (first | exact Below.refl _ _ | (with_reducible refine Below.drew ?_) | (with_reducible refine Below.alloc ?_ (by (try simp); (try omega)) _) | (with_reducible refine Below.setCell ?_ (by (try simp); (try omega)) _) | (with_reducible refine Below.trans ?_ (Below.mono (by assumption) (by (try simp); (try omega))))))⟩
    · obtain ⟨e1, e2, e3⟩ := upNo (v := v) (fun h1 _ => by simp_all)
      exact bodyPost_ret (v := .tuple #[.agg #[.int .i64 0, .int .i64 0], .bool false]) (by simp only [results, Try.results66]; go_simp) rfl ⟨retPB e1 e2 e3, by (repeat (first | exact Below.refl _ _ | (with_reducible refine Below.drew ?_) | (with_reducible refine Below.alloc ?_ (by (try simp); (try omega)) _) | (with_reducible refine Below.setCell ?_ (by (try simp); (try omega)) _) | (with_reducible refine Below.trans ?_ (Below.mono (by assumption) (by (try simp); (try omega))))))⟩
end Go.Proofs.Ythbobooiedcofaa
namespace Go.Proofs.Ythbobooiedcofaa
open Go.RowKit
attribute [local go_sem] cell_set
set_option maxRecDepth 100000
set_option linter.unusedVariables false

/-- A wiring in memory: block B, its arena's block A, the arena's blocks FA. -/
structure WG (w : World) (B A : Nat) (S : Wir) (FA : List Nat) : Prop where
  hd : ∃ tl : List Value, w.heap[B]? = some (.cells (Value.pointer (some ⟨A, 0, none⟩) :: .int .i64 (S.P.length : Int) :: tl).toArray 52 (0, 0)) ∧ tl.length = 64 ∧ ∀ i, i < S.P.length → tl[i]? = some (.int .u32 (S.P.getD i 0))
  pa : PA w A S.A FA
  ok : S.Ok
theorem PA.tys {w : World} {A : Nat} {S : Ars} {F : List Nat} (h : PA w A S F) : ∀ b ∈ F, ∃ c t, w.heap[b]? = some (.cells c t (0, 0)) ∧ (t = 118 ∨ t = 150 ∨ t = 3) := by
  obtain ⟨cv, bv, rows, hA, hc, _, _, hb, rfl, _⟩ := h
  intro b hm
  simp only [List.mem_cons, List.mem_append] at hm
  rcases hm with rfl | hm | hm
  · exact ⟨_, _, hA, .inl rfl⟩
  · obtain ⟨cur, hh⟩ := hc.ty hm; exact ⟨_, _, hh, .inr (.inl rfl)⟩
  · obtain ⟨cur, hh⟩ := hb.ty hm; exact ⟨_, _, hh, .inr (.inr rfl)⟩
section
variable {w w' : World} {B A : Nat} {S : Wir} {FA : List Nat}
theorem WG.lt (h : WG w B A S FA) : B < w.heap.size := by obtain ⟨_, hh, _⟩ := h.hd; exact heap_lt hh
theorem WG.na (h : WG w B A S FA) : B ∉ FA := fun hm => by
  obtain ⟨_, hh, _⟩ := h.hd
  obtain ⟨c, t, h2, h3⟩ := h.pa.tys B hm
  refine ty_ne hh h2 ?_ rfl
  rcases h3 with rfl | rfl | rfl <;> decide
theorem WG.cells (h : WG w B A S FA) : w.cell? ⟨B, 0, none⟩ = some (.pointer (some ⟨A, 0, none⟩)) ∧ w.cell? ⟨B, 1, none⟩ = some (.int .i64 (S.P.length : Int)) := by
  obtain ⟨tl, hh, _⟩ := h.hd
  exact ⟨by simp [World.cell?, hh], by simp [World.cell?, hh]⟩
theorem WG.frozen (h : WG w B A S FA) (j : Nat) : w.frozen? ⟨B, j, none⟩ = false := by
  obtain ⟨tl, hh, _⟩ := h.hd
  simp [World.frozen?, hh]
theorem WG.word (h : WG w B A S FA) {i : Nat} (hi : i < S.P.length) : w.cell? ⟨B, 2 + i, none⟩ = some (.int .u32 (S.P.getD i 0)) := by
  obtain ⟨tl, hh, hl, ht⟩ := h.hd
  have := ht i hi
  simp only [World.cell?, hh]
  rw [List.getElem?_toArray, show 2 + i = i + 1 + 1 by omega, List.getElem?_cons_succ, List.getElem?_cons_succ]
  exact this
theorem WG.keep (h : WG w B A S FA) (hk : ∀ b ∈ B :: FA, w'.heap[b]? = w.heap[b]?) : WG w' B A S FA := by
  obtain ⟨tl, hh, hl, ht⟩ := h.hd
  exact ⟨⟨tl, (hk B (by simp)).trans hh, hl, ht⟩, h.pa.keep fun b hb => hk b (by simp [hb]), h.ok⟩
theorem WG.blt (h : WG w B A S FA) : ∀ b ∈ B :: FA, b < w.heap.size := fun b hb => by
  rcases List.mem_cons.1 hb with rfl | hb
  · exact h.lt
  · exact h.pa.lt b hb
theorem WG.below (h : WG w B A S FA) (hb : Below w.heap.size w w') : WG w' B A S FA := h.keep fun b hm => hb.block b (h.blt b hm)
theorem WG.kp {G : List Nat} (h : WG w B A S FA) (hk : Kp G w w') (hG : ∀ b ∈ B :: FA, b ∉ G) : WG w' B A S FA := h.keep fun b hb => hk.block b (h.blt b hb) (hG b hb)
/-- A free port is written. -/
theorem WG.putP (h : WG w B A S FA) {i : Nat} (hi : i < S.P.length) {v : Int} (hv : 0 ≤ v ∧ v < 4294967296) : WG (w.setCell ⟨B, 2 + i, none⟩ (.int .u32 v)) B A { S with P := S.P.set i v } FA := by
  obtain ⟨tl, hh, hl, ht⟩ := h.hd
  have hi64 : i < tl.length := by have := h.ok.p; omega
  refine ⟨⟨tl.set i (.int .u32 v), ?_, by simpa using hl, fun j hj => ?_⟩, h.pa.keep fun b hb => Below.heap_setCell w _ _ b (fun e => h.na (by have e' : b = B := e; exact e' ▸ hb)), ⟨h.ok.a, by simpa using h.ok.p, fun x hx => ?_⟩⟩
  · simp only [World.setCell, Array.getElem?_modify, hh, List.length_set]
    simp only [if_true, Option.map_some]
    congr 2
    simp [List.setIfInBounds_toArray, show 2 + i = i + 1 + 1 by omega, List.set_cons_succ]
  · simp only [List.length_set] at hj
    simp only [List.getElem?_set, List.getD_eq_getElem?_getD]
    by_cases e : i = j
    · subst e
      rw [if_pos rfl, if_pos hi64, if_pos rfl, if_pos hi]; rfl
    · rw [if_neg e, if_neg e, ht j hj, List.getD_eq_getElem?_getD]
  · rcases List.mem_or_eq_of_mem_set hx with hm | rfl
    · exact h.ok.w x hm
    · exact hv
/-- The arena has turned. -/
theorem WG.ofA (h : WG w B A S FA) {A' : Ars} {FA' : List Nat} (hp : PA w' A A' FA') (hk : Kp FA w w') : WG w' B A { S with A := A' } FA' := by
  obtain ⟨tl, hh, hl, ht⟩ := h.hd
  exact ⟨⟨tl, (hk.block B (heap_lt hh) h.na).trans hh, hl, ht⟩, hp, ⟨hp.ok, h.ok.p, h.ok.w⟩⟩
end
theorem Ars.getV_no {S : Ars} {c s : Int} (h : S.slotE c s ≠ 0) : S.getV c s = 0 := by
  unfold Ars.slotE at h
  unfold Ars.getV
  cases hc : S.cell c with
  | none => rfl
  | some x =>
    rw [hc] at h
    simp only at h ⊢
    split at h
    · rename_i h2; rw [if_pos h2]
    · exact absurd rfl h
/-! ### Contracts -/
theorem wi_is (B A : Nat) (w : World) (hc : w.cell? ⟨B, 0, none⟩ = some (.pointer (some ⟨A, 0, none⟩))) : Calls Try.prog 62 #[.pointer (some ⟨B, 0, none⟩)] w fun e w' => e = .returned (.bool false) ∧ w = w' := by
  go_enter Try.func62, Try.ntmps62
  go_wp2
  go_ret
  exact ⟨rfl, rfl⟩
section
variable (B A : Nat) (S : Wir) (FA : List Nat) (w : World)
theorem wi_arena (h : WG w B A S FA) : Calls Try.prog 15 #[.pointer (some ⟨B, 0, none⟩)] w fun e w' => e = .returned (.pointer (some ⟨A, 0, none⟩)) ∧ w = w' := by
  obtain ⟨c0, c1⟩ := h.cells
  have HC := Lib.hid c0
  go_enter Try.func15, Try.ntmps15
  go_wp2_with (go_at_call 62; refine (wi_is B A _ HC.out).mono ?_; rintro e w' ⟨rfl, rfl⟩)
  go_ret
  exact ⟨rfl, rfl⟩
theorem wi_free (h : WG w B A S FA) : Calls Try.prog 25 #[.pointer (some ⟨B, 0, none⟩)] w fun e w' => e = .returned (.int .i64 (S.P.length : Int)) ∧ w = w' := by
  obtain ⟨c0, c1⟩ := h.cells
  have HC := Lib.hid c0
  go_enter Try.func25, Try.ntmps25
  go_wp2_with (go_at_call 62; refine (wi_is B A _ HC.out).mono ?_; rintro e w' ⟨rfl, rfl⟩)
  go_ret
  exact ⟨rfl, rfl⟩
set_option maxHeartbeats 1000000 in
theorem wi_word (c s : Int) (h : WG w B A S FA) : Calls Try.prog 24 #[.pointer (some ⟨B, 0, none⟩), .agg #[.int .i64 c, .int .i64 s]] w fun e w' => e = .returned (.tuple #[.int .u32 (S.wV (c, s)), .int .i64 (S.wE (c, s))]) ∧ Below w.heap.size w w' := by
  by_cases hc : c = -1
  · subst hc
    by_cases h1 : s < 0
    · have e1 : S.wE (-1, s) = 30 := by unfold Wir.wE; rw [if_pos rfl, if_pos (.inl h1)]
      have e2 : S.wV (-1, s) = 0 := by unfold Wir.wV; rw [if_pos rfl, if_pos (.inl h1)]
      rw [e1, e2]
      have hX : Below w.heap.size w (w.alloc (.cells #[.int .i64 (-1), .int .i64 s] 39)) := (Below.refl _ _).alloc (Nat.le_refl _) _
      have HX := Lib.hid hX
      have HG := Lib.hid (h.below hX)
      have HC := Lib.hid (h.below hX).cells.1
      have hlt := h.lt
      obtain ⟨c0, c1⟩ := h.cells
      have hP := h.ok.p
      clear hX
      go_enter Try.func24, Try.ntmps24
      go_wp2_with (go_at_call 62; refine (wi_is B A _ HC.out).mono ?_; rintro e w' ⟨rfl, rfl⟩)
      go_quiet (fail)
      go_wp2_with fail
      go_ret2
      exact ⟨rfl, by (repeat (with_reducible refine below_drewN ?_ _)); (repeat (first | exact Below.refl _ _ | (with_reducible refine Below.drew ?_) | (with_reducible refine Below.alloc ?_ (by (try simp); (try omega)) _) | (with_reducible refine Below.setCell ?_ (by (try simp); (try omega)) _) | (with_reducible refine Below.trans ?_ (Below.mono (by assumption) (by (try simp); (try omega))))))⟩
    · by_cases h2 : (S.P.length : Int) ≤ s
      · have e1 : S.wE (-1, s) = 30 := by unfold Wir.wE; rw [if_pos rfl, if_pos (.inr h2)]
        have e2 : S.wV (-1, s) = 0 := by unfold Wir.wV; rw [if_pos rfl, if_pos (.inr h2)]
        rw [e1, e2]
        have hX : Below w.heap.size w (w.alloc (.cells #[.int .i64 (-1), .int .i64 s] 39)) := (Below.refl _ _).alloc (Nat.le_refl _) _
        have HX := Lib.hid hX
        have HG := Lib.hid (h.below hX)
        have HC := Lib.hid (h.below hX).cells.1
        have hlt := h.lt
        obtain ⟨c0, c1⟩ := h.cells
        have hP := h.ok.p
        clear hX
        go_enter Try.func24, Try.ntmps24
        go_wp2_with (go_at_call 62; refine (wi_is B A _ HC.out).mono ?_; rintro e w' ⟨rfl, rfl⟩)
        go_quiet (fail)
        go_wp2_with fail
        go_ret2
        exact ⟨rfl, by (repeat (with_reducible refine below_drewN ?_ _)); (repeat (first | exact Below.refl _ _ | (with_reducible refine Below.drew ?_) | (with_reducible refine Below.alloc ?_ (by (try simp); (try omega)) _) | (with_reducible refine Below.setCell ?_ (by (try simp); (try omega)) _) | (with_reducible refine Below.trans ?_ (Below.mono (by assumption) (by (try simp); (try omega))))))⟩
      · obtain ⟨i, rfl⟩ := Int.eq_ofNat_of_zero_le (by omega : 0 ≤ s)
        have hi : i < S.P.length := by omega
        have e1 : S.wE (-1, (i : Int)) = 0 := by unfold Wir.wE; rw [if_pos rfl, if_neg (by omega)]
        have e2 : S.wV (-1, (i : Int)) = S.P.getD i 0 := by unfold Wir.wV; rw [if_pos rfl, if_neg (by omega)]; rfl
        rw [e1, e2]
        have k0 := h.word hi
        generalize S.P.getD i 0 = x at k0 ⊢
        have h3 : ¬ ((i : Int) < 0) := by omega
        have h4 : ¬ ((S.P.length : Int) ≤ (i : Int)) := h2
        have h5 : (i : Int) < 64 := by have := h.ok.p; omega
        have h6 : i < 64 := by omega
        have h7 : (0 : Int) ≤ (i : Int) := by omega
        have hX : Below w.heap.size w (w.alloc (.cells #[.int .i64 (-1), .int .i64 (i : Int)] 39)) := (Below.refl _ _).alloc (Nat.le_refl _) _
        have HX := Lib.hid hX
        have HG := Lib.hid (h.below hX)
        have HC := Lib.hid (h.below hX).cells.1
        have hlt := h.lt
        obtain ⟨c0, c1⟩ := h.cells
        have hP := h.ok.p
        clear hX
        go_enter Try.func24, Try.ntmps24
        go_wp2_with (go_at_call 62; refine (wi_is B A _ HC.out).mono ?_; rintro e w' ⟨rfl, rfl⟩)
        go_quiet (fail)
        go_wp2_with fail
        go_quiet (fail)
        go_wp2_with fail
        go_ret2
        exact ⟨rfl, by (repeat (with_reducible refine below_drewN ?_ _)); (repeat (first | exact Below.refl _ _ | (with_reducible refine Below.drew ?_) | (with_reducible refine Below.alloc ?_ (by (try simp); (try omega)) _) | (with_reducible refine Below.setCell ?_ (by (try simp); (try omega)) _) | (with_reducible refine Below.trans ?_ (Below.mono (by assumption) (by (try simp); (try omega))))))⟩
  · have hcb : (c == -1) = false := by rw [beq_eq_false_iff_ne]; exact hc
    have e2 : S.wV (c, s) = S.A.getV c s := by unfold Wir.wV; rw [if_neg hc]
    rw [e2]
    by_cases he : S.A.slotE c s = 0
    · have e1 : S.wE (c, s) = 0 := by unfold Wir.wE; rw [if_neg hc, if_pos he]
      rw [e1]
      have HE := Lib.hid he
      clear he e1 e2
      have hX : Below w.heap.size w (w.alloc (.cells #[.int .i64 c, .int .i64 s] 39)) := (Below.refl _ _).alloc (Nat.le_refl _) _
      have HX := Lib.hid hX
      have HG := Lib.hid (h.below hX)
      have HC := Lib.hid (h.below hX).cells.1
      have hlt := h.lt
      obtain ⟨c0, c1⟩ := h.cells
      have hP := h.ok.p
      clear hX
      go_enter Try.func24, Try.ntmps24
      go_wp2_with (go_at_call 62; refine (wi_is B A _ HC.out).mono ?_; rintro e w' ⟨rfl, rfl⟩)
      go_region_held3 (fun W => (W.cell? ⟨w.heap.size, 0, none⟩ = some (.int .i64 c) ∧ W.cell? ⟨w.heap.size, 1, none⟩ = some (.int .i64 s)) ∧ W.cell? ⟨B, 0, none⟩ = some (.pointer (some ⟨A, 0, none⟩)))
        (exact ⟨⟨by go_simp, by go_simp⟩, HC.out⟩)
        (first
          | ((with_reducible refine (ar_get A S.A FA c s _ (by first | exact HG.out.pa | exact HG.out.pa.below (Below.refl _ _).drew)).mono ?_); rintro e w' ⟨rfl, rfl⟩; dsimp only; rw [HE.out]))
      all_goals
        go_wp2_with fail
        go_ret2
        exact ⟨rfl, by (repeat (with_reducible refine below_drewN ?_ _)); (repeat (first | exact Below.refl _ _ | (with_reducible refine Below.drew ?_) | (with_reducible refine Below.alloc ?_ (by (try simp); (try omega)) _) | (with_reducible refine Below.setCell ?_ (by (try simp); (try omega)) _) | (with_reducible refine Below.trans ?_ (Below.mono (by assumption) (by (try simp); (try omega))))))⟩
    · have e1 : S.wE (c, s) = 30 := by unfold Wir.wE; rw [if_neg hc, if_neg he]
      have hv : S.A.getV c s = 0 := Ars.getV_no he
      rw [e1, hv]
      have hek : (S.A.slotE c s != 0) = true := bne_iff_ne.2 he
      clear he e1 e2 hv
      have hX : Below w.heap.size w (w.alloc (.cells #[.int .i64 c, .int .i64 s] 39)) := (Below.refl _ _).alloc (Nat.le_refl _) _
      have HX := Lib.hid hX
      have HG := Lib.hid (h.below hX)
      have HC := Lib.hid (h.below hX).cells.1
      have hlt := h.lt
      obtain ⟨c0, c1⟩ := h.cells
      have hP := h.ok.p
      clear hX
      go_enter Try.func24, Try.ntmps24
      go_wp2_with (go_at_call 62; refine (wi_is B A _ HC.out).mono ?_; rintro e w' ⟨rfl, rfl⟩)
      go_region_held3 (fun W => (W.cell? ⟨w.heap.size, 0, none⟩ = some (.int .i64 c) ∧ W.cell? ⟨w.heap.size, 1, none⟩ = some (.int .i64 s)) ∧ W.cell? ⟨B, 0, none⟩ = some (.pointer (some ⟨A, 0, none⟩)))
        (exact ⟨⟨by go_simp, by go_simp⟩, HC.out⟩)
        (first
          | ((with_reducible refine (ar_get A S.A FA c s _ (by first | exact HG.out.pa | exact HG.out.pa.below (Below.refl _ _).drew)).mono ?_); rintro e w' ⟨rfl, rfl⟩; dsimp only))
      all_goals
        go_wp2_with fail
        go_ret2
        exact ⟨rfl, by (repeat (with_reducible refine below_drewN ?_ _)); (repeat (first | exact Below.refl _ _ | (with_reducible refine Below.drew ?_) | (with_reducible refine Below.alloc ?_ (by (try simp); (try omega)) _) | (with_reducible refine Below.setCell ?_ (by (try simp); (try omega)) _) | (with_reducible refine Below.trans ?_ (Below.mono (by assumption) (by (try simp); (try omega))))))⟩
end
end Go.Proofs.Ythbobooiedcofaa
