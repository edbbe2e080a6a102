/-
  Contracts of skeinref00 for nets: CopyNet, EqInts, EqWires, EqNet, SizeAgents, Long.
-/
import Derived.Test.YthbobooiedcofaaRef02
import Derived.Laws.StructEq
namespace Go.Proofs.Ythbobooiedcofaa
open Go.RowKit
attribute [local go_sem] cell_set
set_option maxRecDepth 100000
set_option linter.unusedVariables false

def eqP (p q : Pt) : Bool := decide (p = q)
def eqW (p q : Pt × Pt) : Bool := decide (p = q)
theorem run_equal_port (d : Nat) (a b c e : Int) (w : World) : (Op.equalIn (d + 3) 39 (.agg #[.int .i64 a, .int .i64 b]) (.agg #[.int .i64 c, .int .i64 e])).run Try.prog w = .ok (eqP (a, b) (c, e)) w := by
  unfold eqP
  go_simp
  by_cases h1 : a = c <;> by_cases h2 : b = e <;> simp [h1, h2]
theorem run_equal_wire (d : Nat) (a b c e a' b' c' e' : Int) (w : World) : (Op.equalIn (d + 5) 55 (.agg #[.int .i64 a, .int .i64 b, .int .i64 c, .int .i64 e]) (.agg #[.int .i64 a', .int .i64 b', .int .i64 c', .int .i64 e'])).run Try.prog w = .ok (eqW ((a, b), (c, e)) ((a', b'), (c', e'))) w := by
  unfold eqW
  go_simp
  by_cases h1 : a = a' <;> by_cases h2 : b = b' <;> by_cases h3 : c = c' <;> by_cases h4 : e = e' <;> simp [h1, h2, h3, h4]
theorem run_eql_port (w : World) (a b c e : Int) : (binOp .eql 39 (.agg #[.int .i64 a, .int .i64 b]) (.agg #[.int .i64 c, .int .i64 e])).run Try.prog w = .ok (.bool (eqP (a, b) (c, e))) w := by
  rw [run_eql_struct, run_equal_port 9997]; rfl
theorem run_neq_port (w : World) (a b c e : Int) : (binOp .neq 39 (.agg #[.int .i64 a, .int .i64 b]) (.agg #[.int .i64 c, .int .i64 e])).run Try.prog w = .ok (.bool (!eqP (a, b) (c, e))) w := by
  rw [run_neq_struct, run_equal_port 9997]; rfl
theorem run_eql_wire (w : World) (a b c e a' b' c' e' : Int) : (binOp .eql 55 (.agg #[.int .i64 a, .int .i64 b, .int .i64 c, .int .i64 e]) (.agg #[.int .i64 a', .int .i64 b', .int .i64 c', .int .i64 e'])).run Try.prog w = .ok (.bool (eqW ((a, b), (c, e)) ((a', b'), (c', e')))) w := by
  rw [run_eql_struct, run_equal_wire 9995]; rfl
theorem run_neq_wire (w : World) (a b c e a' b' c' e' : Int) : (binOp .neq 55 (.agg #[.int .i64 a, .int .i64 b, .int .i64 c, .int .i64 e]) (.agg #[.int .i64 a', .int .i64 b', .int .i64 c', .int .i64 e'])).run Try.prog w = .ok (.bool (!eqW ((a, b), (c, e)) ((a', b'), (c', e')))) w := by
  rw [run_neq_struct, run_equal_wire 9995]; rfl
attribute [local go_sem high] run_neq_wire
attribute [local go_sem high] run_eql_wire
theorem copy_net (VA VB : Option Addr) (ca cb : Nat) (cells : List Int) (free : Int) (W : List (Pt × Pt)) (w : World) (l1 : cells.length ≤ 100000) (l3 : W.length ≤ 100000) (H1 : Hid (IntsRd w VA cells)) (H2 : Hid (WrRd w VB W)) :
    Calls Try.prog 46 #[netV VA ca cells free VB cb W] w fun e w' => ∃ VA' ca' VB' cb', e = .returned (netV VA' ca' cells free VB' cb' W) ∧ IntsRd w' VA' cells ∧ WrRd w' VB' W ∧ cells.length ≤ ca' ∧ W.length ≤ cb' ∧ Below w.heap.size w w' := by
  have hbA : ∀ o o' : Obj, Below w.heap.size w ((w.alloc o).alloc o') := fun o o' => ((Below.refl _ _).alloc (Nat.le_refl _) o).alloc (by simp) o'
  go_enter Try.func46, Try.ntmps46
  go_wp2_with (first
    | (go_at_call 94; refine (copy_ints _ _ cells _ (H1.out.below (hbA _ _)) l1).mono ?_; rintro e w1 ⟨V1, c1, rfl, F1⟩; have hb1 := F1.2.2; obtain ⟨hc1, hf1⟩ := bcell hb1; have hz1 := hb1.size; (try simp at hz1); have hz1a : w.heap.size < w1.heap.size := (by omega); have hz1b : w.heap.size + 1 < w1.heap.size := (by omega)
       have HB1 : Hid (Below w.heap.size w w1) := (hbA _ _).trans (hb1.mono (by simp; omega))
       have HF1 := Lib.hid F1
       have nf1z : Hid (∀ b ∈ ownB (.slice V1 cells.length c1), w.heap.size + 1 < b) := fun b hb => by have := F1.2.1 b hb; simp at this; omega
       have nf1 : w1.frozen? ⟨w.heap.size, 0, none⟩ = false := by rw [hf1 _ _ (by simp; omega)]; go_simp)
    | (go_at_call 95; go_loud (refine (copy_wires _ _ W _ (H2.out.below (HB1.out.setCell (Nat.le_refl _) _)) l3).mono ?_); rintro e w2 ⟨V2, c2, rfl, F2⟩; have hb2 := F2.2.2; have HF2 := Lib.hid F2; clear F2 F1; obtain ⟨hc2, hf2⟩ := bcell hb2; have hz2 := hb2.size; (try simp at hz2); have hz2a : w.heap.size < w2.heap.size := (by omega); have hz2b : w.heap.size + 1 < w2.heap.size := (by omega)))
  have hzz := HF2.out.2.2.size
  have hzy := HB1.out.size
  simp at hzz
  have R1 := HF1.out.1
  have k1 : ∀ b ∈ ownB (.slice V1 cells.length c1), b < w1.heap.size := fun b hb => R1.lt b hb
  have R2 : Row w2 3 1 (.slice V1 cells.length c1) cells.length (ivals cells) := R1.keep fun b hb =>
    (HF2.out.2.2.block b (by have := k1 b hb; simpa using this)).trans (Below.heap_setCell w1 _ _ b (by have := nf1z.out b hb; show b ≠ w.heap.size; omega))
  have k2 : ∀ b ∈ ownB (.slice V2 W.length c2), b < w2.heap.size := fun b hb => HF2.out.1.lt b hb
  have o2 : ∀ b ∈ ownB (.slice V2 W.length c2), w1.heap.size ≤ b := fun b hb => by have := HF2.out.2.1 b hb; simpa using this
  refine bodyPost_ret (v := netV V1 c1 cells free V2 c2 W) (by simp only [results, Try.results46]; go_simp) rfl ?_
  have bw : Below w.heap.size w w2 := (HB1.out.setCell (Nat.le_refl _) _).trans (HF2.out.2.2.mono (by simpa using hzy))
  have hS : ∀ X : World, (∀ b, w.heap.size + 1 < b → b < w2.heap.size → X.heap[b]? = w2.heap[b]?) → IntsRd X V1 cells ∧ WrRd X V2 W := fun X hX =>
    ⟨(R2.keep fun b hb => hX b (nf1z.out b hb) (R2.lt b hb)).ints, (HF2.out.1.keep fun b hb => hX b (by have := o2 b hb; omega) (k2 b hb)).wires⟩
  have hle1 : cells.length ≤ c1 := by obtain ⟨_, _, h, hh⟩ := R2.len; simp only [Value.slice.injEq, true_and] at h; omega
  have hle2 : W.length ≤ c2 := by obtain ⟨_, _, h, hh⟩ := HF2.out.1.len; simp only [Value.slice.injEq, true_and] at h; omega
  have hX : ∀ p1 p2 p3 p4 : Addr, ∀ u1 u2 u3 u4 : Value, p1.block ≤ w.heap.size + 1 → p2.block ≤ w.heap.size + 1 → p3.block ≤ w.heap.size + 1 → p4.block ≤ w.heap.size + 1 → ∀ b, w.heap.size + 1 < b → b < w2.heap.size → ((((w2.setCell p1 u1).setCell p2 u2).setCell p3 u3).setCell p4 u4).heap[b]? = w2.heap[b]? :=
    fun p1 p2 p3 p4 u1 u2 u3 u4 h1 h2 h3 h4 b hb _ => (Below.heap_setCell _ p4 u4 b (by omega)).trans ((Below.heap_setCell _ p3 u3 b (by omega)).trans ((Below.heap_setCell _ p2 u2 b (by omega)).trans (Below.heap_setCell _ p1 u1 b (by omega))))
  have hQ := hS _ (hX ⟨w.heap.size, 2, none⟩ ⟨w.heap.size + 1, 0, none⟩ ⟨w.heap.size + 1, 1, none⟩ ⟨w.heap.size + 1, 2, none⟩ (.slice V2 W.length c2) (.slice V1 cells.length c1) (.int .i64 free) (.slice V2 W.length c2) (by simp) (by simp) (by simp) (by simp))
  exact ⟨V1, c1, V2, c2, rfl, hQ.1, hQ.2, hle1, hle2, by (repeat (first | exact Below.refl _ _ | (with_reducible refine Below.drew ?_) | (with_reducible refine Below.alloc ?_ (by (try simp); (try omega)) _) | (with_reducible refine Below.setCell ?_ (by (try simp); (try omega)) _) | (with_reducible refine Below.trans ?_ (Below.mono (by assumption) (by (try simp); (try omega))))))⟩
theorem long_is (n : Int) (w : World) : Calls Try.prog 44 #[.int .i64 n] w fun e w' => e = .returned (.bool (decide (2147483647 < n))) ∧ w = w' := by
  go_enter Try.func44, Try.ntmps44
  go_wp2
  go_ret
  exact ⟨ret_b (by simp), rfl⟩
end Go.Proofs.Ythbobooiedcofaa
