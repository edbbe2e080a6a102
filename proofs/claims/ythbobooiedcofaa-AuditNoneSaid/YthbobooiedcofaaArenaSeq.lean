/-
  Contracts of package arena, continued: what All hands back, as an iterator.
-/
import Derived.Test.YthbobooiedcofaaArenaAll
import Derived.Test.YthbobooiedcofaaRange
import Derived.Shelf.Abstract
import Derived.OwnWalkIn
import Derived.TacticsInMore
import Derived.LoopNIn
import Derived.LoopIn
namespace Go.Proofs.Ythbobooiedcofaa
open Go.RowKit Go.Shelf
attribute [local go_sem] Oper.semAt_some
set_option maxRecDepth 100000

theorem take_snoc {α : Type} (l : List α) {k : Nat} (hk : k < l.length) : l.take (k + 1) = l.take k ++ [l[k]] := by
  rw [List.take_add_one, List.getElem?_eq_getElem hk]; rfl

set_option maxHeartbeats 2000000 in
theorem all1_in (n l B P : Nat) (v : Value) (xs : List (Nat × Int)) (hlen : xs.length ≤ 5000) (J Jx : List (Nat × Int) → World → Prop) (W : World) (hJ : AbidesFrom W.heap.size J)
    (hY : ∀ pre x W1, J pre W1 → pre.length < xs.length → YieldAt Fence.wide (n - 1) Try.prog l #[.int .i64 (x.1 : Int), .int .i64 x.2] W1 fun e W' =>
      (e = .returned (.bool true) ∧ J (pre ++ [x]) W' ∧ KQ (P :: ownB v) W1 W') ∨ (e = .returned (.bool false) ∧ Jx (pre ++ [x]) W'))
    (hb : Box2 W B P v xs) (h0 : J [] W) :
    CallsIn Fence.wide n Try.prog 117 #[.func (.yield l) #[] #[], .pointer (some ⟨P, 0, none⟩)] W fun e W' => (∃ v, e = .returned v) ∧
      ((∃ ys, ys = xs ∧ J ys W') ∨ (∃ pre, (∃ k, k ≤ xs.length ∧ pre = xs.take k) ∧ Jx pre W')) := by
  obtain ⟨V, cp, hv, _⟩ := hb.row.len
  have HV := Lib.hid hv
  have bc : W.cell? ⟨P, 0, none⟩ = some (.slice V xs.length cp) := by simp [World.cell?, hb.cell, hv]
  refine callsIn_of_wp Try.func117 rfl trivial ?_ rfl
  simp only [Try.ntmps117, List.size_toArray, List.length_cons, List.length_nil, Nat.reduceAdd, Nat.reduceSub, Array.replicate_succ, Array.replicate_zero, List.push_toArray, List.append_toArray, List.nil_append, List.cons_append]
  gi_wp2
  gi_loopw [7] (fun i wr => ∃ k : Nat, k ≤ xs.length ∧ i = .int .i64 k ∧ Hid (J (xs.take k) wr ∧ Box2 wr B P v xs ∧ W.heap.size ≤ wr.heap.size)) (fun i _ => xs.length - (intOf i).toNat)
  case atStart => exact ⟨0, Nat.zero_le _, rfl, Lib.hid ⟨h0, hb, Nat.le_refl _⟩⟩
  case round =>
    obtain ⟨k, hk, rfl, X⟩ := hrel
    by_cases hlt : k < xs.length
    · obtain ⟨hJk, hbk, hsz⟩ := X.out
      obtain ⟨g, cap, cur, hv2, _⟩ := hbk.row.some_ (by omega)
      have hv3 := HV.out
      rw [hv2] at hv3
      simp only [Value.slice.injEq, true_and] at hv3
      obtain ⟨rfl, rfl⟩ := hv3
      have hrow := hbk.row
      rw [hv2] at hrow
      have e0 : wr.cell? ⟨g, k * 2, none⟩ = some (.int .i64 (xs[k].1 : Int)) := (hrow.cellAt _ (by omega)).trans (ncells_at xs hlt).1
      have e1 : wr.cell? ⟨g, k * 2 + 1, none⟩ = some (.int .i64 (xs[k]).2) := (hrow.cellAt _ (by omega)).trans (ncells_at xs hlt).2
      have HJ2 : Hid (J (xs.take k) (wr.alloc (.cells #[.int .i64 (xs[k].1 : Int), .int .i64 (xs[k]).2] 174))) := hJ _ _ _ none hJk (World.grownBy_alloc _ _ _) (fun r e => by cases e)
      have HB2 := Lib.hid (hbk.alloc (.cells #[.int .i64 (xs[k].1 : Int), .int .i64 (xs[k]).2] 174))
      obtain ⟨fn, tmps, assign, body, hy, hR⟩ := hY _ xs[k] _ HJ2.out (by rw [List.length_take]; omega)
      have HR := Lib.hid hR
      clear hR hrow hv2 hJk hbk hY hb h0 bc
      gi_wp2
      refine ⟨fun h => (by cases h), HR.out.mono ?_⟩
      rintro e W3 (⟨rfl, hJ3, hk3⟩ | ⟨rfl, hJx3⟩)
      · have X3 : Hid (J (xs.take (k + 1)) W3 ∧ Box2 W3 B P v xs ∧ W.heap.size ≤ W3.heap.size) := Lib.hid ⟨by rw [take_snoc xs hlt]; exact hJ3, HB2.out.keep hk3.same, by have := hk3.size; simp at this; omega⟩
        clear hJ3 hk3
        gi_wp2
        go_roundw
        case rel => exact ⟨k + 1, by omega, by simp, X3⟩
        case measure => simp [intOf]; omega
      · have XX : Hid (Jx (xs.take (k + 1)) W3) := by show Jx _ _; rw [take_snoc xs hlt]; exact hJx3
        clear hJx3
        gi_wp2
        refine bodyPost_ret (results_none rfl _ _ _) rfl ?_
        exact ⟨⟨_, rfl⟩, .inr ⟨_, ⟨k + 1, by omega, rfl⟩, XX.out⟩⟩
    · obtain rfl : k = xs.length := by omega
      clear hb h0
      gi_wp2
      go_end0
      exact ⟨⟨_, rfl⟩, .inl ⟨_, rfl, by have := X.out.1; rwa [List.take_length] at this⟩⟩
theorem seq_stops (n B P : Nat) (v : Value) (xs : List (Nat × Int)) (hlen : xs.length ≤ 5000) (w : World) (hb : Box2 w B P v xs) :
    SeqStopsK Fence.wide n Try.prog 117 #[.pointer (some ⟨P, 0, none⟩)] (fun x : Nat × Int => #[Value.int .i64 (x.1 : Int), Value.int .i64 x.2]) (KQ (P :: ownB v)) (fun ys => ys = xs) (fun pre => ∃ k, k ≤ xs.length ∧ pre = xs.take k) xs.length w :=
  fun l J Jx W hW hJ _ hY h0 => by
    refine (all1_in n l B P v xs hlen J Jx W hJ hY (hb.keep fun b hm => hW.block b ?_) h0)
    simp only [List.mem_cons] at hm
    rcases hm with rfl | hm
    · exact hb.lt
    · exact hb.row.lt b hm
end Go.Proofs.Ythbobooiedcofaa
