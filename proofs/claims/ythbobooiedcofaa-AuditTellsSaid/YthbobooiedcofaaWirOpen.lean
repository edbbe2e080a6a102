/-
  A wiring: Open.
-/
import Derived.Test.YthbobooiedcofaaWirCut
import Derived.Deep.DeepCutAuto
import Derived.Laws.EntriesVeiled
/-
  A wiring: Drop.
-/
/-
  A wiring: Pass, where both ports are linked.
-/
/-
  A wiring: Pass.
-/
namespace Go.Proofs.Ythbobooiedcofaa
open Go.RowKit
attribute [local go_sem] cell_set
set_option maxRecDepth 100000
set_option linter.unusedVariables false

section
variable (B A : Nat) (S : Wir) (FA : List Nat) (w : World)
end
end Go.Proofs.Ythbobooiedcofaa
namespace Go.Proofs.Ythbobooiedcofaa
open Go.RowKit
attribute [local go_sem] cell_set
set_option maxRecDepth 100000
set_option linter.unusedVariables false

section
variable (B A : Nat) (S : Wir) (FA : List Nat) (w : World)
end
end Go.Proofs.Ythbobooiedcofaa
namespace Go.Proofs.Ythbobooiedcofaa
open Go.RowKit
attribute [local go_sem] cell_set
set_option maxRecDepth 100000
set_option linter.unusedVariables false

section
variable (B A : Nat) (S : Wir) (FA : List Nat) (w : World)
end
end Go.Proofs.Ythbobooiedcofaa
/-
  A wiring: New.
-/
namespace Go.Proofs.Ythbobooiedcofaa
open Go.RowKit
attribute [local go_sem] cell_set
set_option maxRecDepth 100000
set_option linter.unusedVariables false

section
variable (A : Nat) (S : Ars) (FA : List Nat) (w : World)
/-- The cells of a wiring that is being laid. -/
def NW (w : World) (A f k : Nat) (W : World) : Prop := Below w.heap.size w W ∧ ∃ tl : List Value, W.heap[w.heap.size]? = some (.cells (Value.pointer (some ⟨A, 0, none⟩) :: .int .i64 (f : Int) :: tl).toArray 52 (0, 0)) ∧ tl.length = 64 ∧ ∀ j, j < k → tl[j]? = some (.int .u32 4294967295)
theorem NW.set {w W : World} {A f k : Nat} (h : NW w A f k W) (hk : k < 64) : NW w A f (k + 1) (W.setCell ⟨w.heap.size, 2 + k, none⟩ (.int .u32 4294967295)) := by
  obtain ⟨hb, tl, hh, hl, ht⟩ := h
  refine ⟨hb.setCell (p := ⟨w.heap.size, 2 + k, none⟩) (Nat.le_refl _) _, tl.set k (.int .u32 4294967295), ?_, by simpa using hl, fun j hj => ?_⟩
  · simp only [World.setCell, Array.getElem?_modify, hh]
    simp only [if_true, Option.map_some]
    congr 2
    simp [List.setIfInBounds_toArray, show 2 + k = k + 1 + 1 by omega, List.set_cons_succ]
  · rw [List.getElem?_set]
    by_cases e : k = j
    · rw [if_pos e, if_pos (by omega)]
    · rw [if_neg e]; exact ht j (by omega)
theorem NW.at_ {w W : World} {A f k : Nat} (h : NW w A f k W) (hk : k < 64) : (∃ u, W.cell? ⟨w.heap.size, 2 + k, none⟩ = some u) ∧ W.frozen? ⟨w.heap.size, 2 + k, none⟩ = false := by
  obtain ⟨hb, tl, hh, hl, ht⟩ := h
  refine ⟨⟨tl[k]'(by omega), ?_⟩, by simp [World.frozen?, hh]⟩
  simp only [World.cell?, hh]
  rw [List.getElem?_toArray, show 2 + k = k + 1 + 1 by omega, List.getElem?_cons_succ, List.getElem?_cons_succ]
  exact List.getElem?_eq_getElem (by omega)
set_option maxHeartbeats 2000000 in
theorem wi_new_ok (f : Nat) (hf : f ≤ 64) (h : PA w A S FA) :
    Calls Try.prog 13 #[.pointer (some ⟨A, 0, none⟩), .int .i64 (f : Int)] w fun e w' => e = .returned (.tuple #[.pointer (some ⟨w.heap.size, 0, none⟩), .int .i64 0]) ∧ WG w' w.heap.size A (Wir.new S f) FA ∧ Below w.heap.size w w' := by
  have HG := Lib.hid h
  have hm : ((S.most : Int) == 0) = false := ok_ne h.ok
  have h1 : ¬ (f : Int) < 0 := by omega
  have h2 : ¬ (64 : Int) < (f : Int) := by omega
  go_enter Try.func13, Try.ntmps13
  go_upto_region 4 with (go_at_call 39; refine (ar_field A S FA _ HG.out).mono ?_; rintro e w' ⟨rfl, rfl⟩)
  refine absW (fun X => NW w A f 0 X) ⟨by (repeat (first | exact Below.refl _ _ | (with_reducible refine Below.drew ?_) | (with_reducible refine Below.alloc ?_ (by (try simp); (try omega)) _) | (with_reducible refine Below.setCell ?_ (by (try simp); (try omega)) _) | (with_reducible refine Below.trans ?_ (Below.mono (by assumption) (by (try simp); (try omega)))))), List.replicate 64 (.int .u32 0), heap_alloc_new _ _, rfl, fun j hj => absurd hj (by omega)⟩ ?_
  intro X hX
  have HN0 := Lib.hid hX
  clear hX
  go_wp2_with fail
  go_loopw [24] (fun i wr => ∃ k : Nat, i = .int .i64 k ∧ k ≤ 64 ∧ Hid (NW w A f k wr)) (fun i _ => 64 - (intOf i).toNat)
  case atStart => exact ⟨0, rfl, Nat.zero_le _, HN0⟩
  case round =>
    obtain ⟨k, rfl, hk, HR⟩ := hrel
    clear HN0
    by_cases hlt : k < 64
    · obtain ⟨⟨u, k0⟩, k1⟩ := HR.out.at_ hlt
      have h5 : (k : Int) < 64 := by omega
      have h7 : (0 : Int) ≤ (k : Int) := by omega
      go_wp2_with fail
      go_roundw
      case measure => simp [intOf]; omega
      case rel => exact ⟨k + 1, by go_num, by omega, HR.out.set hlt⟩
    · obtain rfl : k = 64 := by omega
      go_wp2_with fail
      go_ret2
      obtain ⟨hb, tl, hh, hl, ht⟩ := HR.out
      refine ⟨rfl, ⟨⟨tl, ?_, hl, fun i hi => ?_⟩, HG.out.below hb, Wir.Ok.new HG.out.ok hf⟩, hb⟩
      · rw [show (Wir.new S f).P.length = f by simp [Wir.new]]; exact hh
      · have hi' : i < f := by simpa [Wir.new] using hi
        rw [ht i (by omega)]
        simp [Wir.new, List.getD_eq_getElem?_getD, hi']
end
end Go.Proofs.Ythbobooiedcofaa
/-
  A wiring: Open's inner function.
-/
namespace Go.Proofs.Ythbobooiedcofaa
open Go.RowKit
attribute [local go_sem] cell_set
set_option maxRecDepth 100000
set_option linter.unusedVariables false

/-- Two boxes: a pointer to the wiring, a counter. -/
structure SeeB (w : World) (P N B : Nat) (n : Nat) : Prop where
  p : w.cell? ⟨P, 0, none⟩ = some (.pointer (some ⟨B, 0, none⟩))
  plt : P < w.heap.size
  pn : P ≠ N
  n : w.heap[N]? = some (.cells #[.int .i64 (n : Int)] 3 (0, 0))
theorem SeeB.below {w w' : World} {P N B n : Nat} (h : SeeB w P N B n) (hb : Below w.heap.size w w') : SeeB w' P N B n :=
  ⟨(hb.cell (p := ⟨P, 0, none⟩) h.plt).trans h.p, Nat.lt_of_lt_of_le h.plt hb.size, h.pn, (hb.block N (heap_lt h.n)).trans h.n⟩
theorem SeeB.kp {w w' : World} {P N B n m : Nat} (h : SeeB w P N B n) (hk : Kp [N] w w') (hn : w'.heap[N]? = some (.cells #[.int .i64 (m : Int)] 3 (0, 0))) : SeeB w' P N B m :=
  ⟨(hk.cell (p := ⟨P, 0, none⟩) h.plt (by simpa using h.pn)).trans h.p, Nat.lt_of_lt_of_le h.plt hk.size, h.pn, hn⟩
section
variable (B A : Nat) (S : Wir) (FA : List Nat) (P N n : Nat) (w : World)
end
end Go.Proofs.Ythbobooiedcofaa
namespace Go.Proofs.Ythbobooiedcofaa
open Go.RowKit
attribute [local go_sem] cell_set
attribute [local go_sem] Oper.semAt_some
set_option maxRecDepth 100000
set_option linter.unusedVariables false

theorem KeepsOthers.ofKp {G : List Nat} {W W' : World} (h : Kp G W W') (hG : ∀ b ∈ G, ∃ c t, W.heap[b]? = some (.cells c t (0, 0))) : KeepsOthers W W' :=
  ⟨h.size, fun k o hk ho => (h.block k (heap_lt hk) (fun hm => by obtain ⟨c, t, hh⟩ := hG k hm; rw [hh] at hk; injection hk with hk; subst hk; cases ho)).trans hk⟩
theorem leaveMk {F : Fence} {n : Nat} {P : Program} {fn : Func} {tmps : Array Value} {R : Ending → World → Prop} {D : Nat} {ds : List Deferred} {W : World}
    (hD : W.heap[D]? = some (.deferred (some []))) (h : LeavesInM F n P fn tmps R ds .returning (W.putObj D (.deferred none))) : LeavesInM F n P fn tmps R ({ target := .collected D, args := #[] } :: ds) .returning W :=
  ⟨by simp, .inl ⟨_, _, rfl, run_takeDeferred hD, h⟩⟩
/-- Between two rounds: all as it was but the counter. -/
def CN (w : World) (N n : Nat) (W : World) : Prop := Kp [N] w W ∧ W.heap[N]? = some (.cells #[.int .i64 (n : Int)] 3 (0, 0))
theorem CN.grown {w W W' : World} {N n : Nat} (h : CN w N n W) {row : Option Nat} (hg : W.grownBy W' row) {C : Nat} (hC : w.heap.size ≤ C) (hN : N < w.heap.size) (hr : ∀ r, row = some r → C ≤ r ∧ ∃ o : Obj, W.heap[r]? = some o ∧ o.isCells = false) : CN w N n W' := by
  obtain ⟨h1, h2⟩ := h
  have hk : ∀ b, b < w.heap.size → W'.heap[b]? = W.heap[b]? := fun b hb => hg.block b (Nat.lt_of_lt_of_le hb h1.size) (fun e => by have := (hr b e.symm).1; omega)
  exact ⟨⟨hg.os.trans h1.os, hg.tape.trans h1.tape, hg.output.trans h1.output, Nat.le_trans h1.size hg.size, fun b hb hn => (hk b hb).trans (h1.block b hb hn)⟩, (hk N hN).trans h2⟩
theorem opens_le {S : Wir} (h : S.Ok) : S.pts.length ≤ 64 + 7 * 4096 := by
  have h1 := Wir.cellPts_le 0 S.A.cells (fun x hx ag ws e => by
    obtain ⟨i, hi, rfl⟩ := List.mem_iff_getElem.1 hx
    exact (h.a.cell i ag ws (by rw [List.getElem?_eq_getElem hi, e])).2.2.2.1)
  have h2 := h.a.len
  have h3 := h.a.most2
  have h4 := h.p
  unfold Wir.pts
  rw [List.length_append, List.length_map, List.length_range]
  omega
theorem slots_le {S : Wir} (h : S.Ok) (c : Int) : 0 ≤ S.A.agA c ∧ S.A.agA c ≤ 6 := by
  unfold Ars.agA
  cases hc : S.A.cell c with
  | none => simp
  | some x =>
    obtain ⟨h0, hx⟩ := Ars.cell_some hc
    obtain ⟨a1, a2, _⟩ := (h.a.cell _ x.1 x.2 hx).2.2
    simp only
    omega
theorem live_le {S : Wir} (h : S.Ok) (l : List (Nat × Int)) : (l.flatMap (Wir.liveSl S)).length ≤ 7 * l.length := by
  induction l with
  | nil => simp
  | cons x r ih =>
    rw [List.flatMap_cons, List.length_append, List.length_cons]
    have := slots_le h (x.1 : Int)
    have e : (Wir.liveSl S x).length = (S.A.agA (x.1 : Int) + 1).toNat := Wir.slotsOf_len _ _
    omega
section
variable (B A : Nat) (S : Wir) (FA : List Nat) (w : World)
end
end Go.Proofs.Ythbobooiedcofaa
