/-
  Contract of net.Check$1: is it a port?
-/
import Derived.Test.YtogbanlfihabpaaRef02
import Derived.Laws.StructEq
import Derived.Test.YtogbanlfihabpaaNetSeq
import Derived.Test.YtogbanlfihabpaaRangeBox
/-
  Contracts of skeinref00 for nets: CopyNet, EqInts, EqWires, EqNet, SizeAgents, Long.
-/
namespace Go.Proofs.Ytogbanlfihabpaa
open Go.RowKit
attribute [local go_sem] cell_set
set_option maxRecDepth 100000
set_option linter.unusedVariables false

theorem getD_eq_of_take {α : Type} [Inhabited α] {l k : List α} (h : l.length = k.length) (hh : ∀ j, j < l.length → l.getD j default = k.getD j default) : l = k := by
  refine List.ext_getElem h fun i h1 h2 => ?_
  have := hh i h1
  simpa [List.getD_eq_getElem?_getD, h1, h2] using this

theorem eq_ints (A B : Option Addr) (n m ca cb : Nat) (l k : List Int) (w : World) (hn : n = l.length) (hm : m = k.length) (hl : l.length ≤ 100000) (hl2 : k.length ≤ 100000) (HA : Hid (IntsRd w A l)) (HB : Hid (IntsRd w B k)) :
    Calls Try.prog 20 #[.slice A n ca, .slice B m cb] w fun e w' => e = .returned (.bool (decide (l = k))) ∧ Below w.heap.size w w' := by
  subst hn hm
  by_cases hlen : l.length = k.length
  · have hlb : ((l.length : Int) != (k.length : Int)) = false := by simp; omega
    go_enter Try.func20, Try.ntmps20
    go_wp2
    go_loopw [5] (fun i wr => ∃ j : Nat, i = .int .i64 j ∧ j ≤ l.length ∧ Hid (∀ i, i < j → l.getD i 0 = k.getD i 0) ∧ Below w.heap.size w wr) (fun i _ => l.length - (intOf i).toNat)
    case atStart => exact ⟨0, rfl, by omega, fun j hj => by omega, Below.refl _ _⟩
    case round =>
      obtain ⟨j, rfl, hj, HN, hbw⟩ := hrel
      by_cases hlt : j < l.length
      · obtain ⟨b, off, rfl, hb, e0⟩ := HA.out j hlt
        obtain ⟨b2, off2, rfl, hb2, e2⟩ := HB.out j (by omega)
        have c0 := (hbw.cell (p := ⟨b, off + j, none⟩) hb).trans e0
        have c2 := (hbw.cell (p := ⟨b2, off2 + j, none⟩) hb2).trans e2
        have hx : Hid (l.getD j 0 = k.getD j 0 ∨ l ≠ k) := by
          by_cases h : l.getD j 0 = k.getD j 0
          · exact .inl h
          · exact .inr (fun e => h (by rw [e]))
        have hltk : j < k.length := by omega
        clear e0 e2
        by_cases hxy : l.getD j 0 = k.getD j 0
        · have HXY := Lib.hid hxy
          have hb1 : (l.getD j 0 != k.getD j 0) = false := by simp; exact hxy
          generalize l.getD j 0 = x at c0 hb1
          generalize k.getD j 0 = y at c2 hb1
          clear hxy
          go_wp2_with fail
          go_quiet (fail)
          go_wp2
          go_roundw
          case rel => exact ⟨j + 1, by go_num, by omega, fun i hi => by
            rcases Nat.lt_or_ge i j with h | h
            · exact HN.out i h
            · obtain rfl : i = j := by omega
              exact HXY.out, below_drewN hbw _⟩
          case measure => simp [intOf]; omega
        · have hne : l ≠ k := fun e => hxy (by rw [e])
          have hb1 : (l.getD j 0 != k.getD j 0) = true := by simpa using hxy
          have HNE := Lib.hid hne
          generalize l.getD j 0 = x at c0 hb1
          generalize k.getD j 0 = y at c2 hb1
          clear hxy hne
          go_wp2_with fail
          go_quiet (fail)
          go_wp2
          go_ret
          exact ⟨ret_b (by simpa using HNE.out), below_drewN hbw _⟩
      · have HE : Hid (l = k) := getD_eq_of_take hlen (fun i hi => HN.out i (by omega))
        go_wp2
        go_ret
        exact ⟨ret_b (by simpa using HE.out), by (repeat (first | exact Below.refl _ _ | (with_reducible refine Below.drew ?_) | (with_reducible refine Below.alloc ?_ (by (try simp); (try omega)) _) | (with_reducible refine Below.setCell ?_ (by (try simp); (try omega)) _) | (with_reducible refine Below.trans ?_ (Below.mono (by assumption) (by (try simp); (try omega))))))⟩
  · have hlb : ((l.length : Int) != (k.length : Int)) = true := by simp; omega
    go_enter Try.func20, Try.ntmps20
    go_wp2
    go_ret
    exact ⟨ret_b (by
      have : l ≠ k := fun e => hlen (by rw [e])
      simpa using this), by (repeat (first | exact Below.refl _ _ | (with_reducible refine Below.drew ?_) | (with_reducible refine Below.alloc ?_ (by (try simp); (try omega)) _) | (with_reducible refine Below.setCell ?_ (by (try simp); (try omega)) _) | (with_reducible refine Below.trans ?_ (Below.mono (by assumption) (by (try simp); (try omega))))))⟩
def eqP (p q : Pt) : Bool := decide (p = q)
def eqW (p q : Pt × Pt) : Bool := decide (p = q)
theorem run_equal_port (d : Nat) (a b c e : Int) (w : World) : (Op.equalIn (d + 3) 41 (.agg #[.int .i64 a, .int .i64 b]) (.agg #[.int .i64 c, .int .i64 e])).run Try.prog w = .ok (eqP (a, b) (c, e)) w := by
  unfold eqP
  go_simp
  by_cases h1 : a = c <;> by_cases h2 : b = e <;> simp [h1, h2]
theorem run_equal_wire (d : Nat) (a b c e a' b' c' e' : Int) (w : World) : (Op.equalIn (d + 5) 43 (.agg #[.int .i64 a, .int .i64 b, .int .i64 c, .int .i64 e]) (.agg #[.int .i64 a', .int .i64 b', .int .i64 c', .int .i64 e'])).run Try.prog w = .ok (eqW ((a, b), (c, e)) ((a', b'), (c', e'))) w := by
  unfold eqW
  go_simp
  by_cases h1 : a = a' <;> by_cases h2 : b = b' <;> by_cases h3 : c = c' <;> by_cases h4 : e = e' <;> simp [h1, h2, h3, h4]
theorem run_eql_port (w : World) (a b c e : Int) : (binOp .eql 41 (.agg #[.int .i64 a, .int .i64 b]) (.agg #[.int .i64 c, .int .i64 e])).run Try.prog w = .ok (.bool (eqP (a, b) (c, e))) w := by
  rw [run_eql_struct, run_equal_port 9997]; rfl
theorem run_eql_wire (w : World) (a b c e a' b' c' e' : Int) : (binOp .eql 43 (.agg #[.int .i64 a, .int .i64 b, .int .i64 c, .int .i64 e]) (.agg #[.int .i64 a', .int .i64 b', .int .i64 c', .int .i64 e'])).run Try.prog w = .ok (.bool (eqW ((a, b), (c, e)) ((a', b'), (c', e')))) w := by
  rw [run_eql_struct, run_equal_wire 9995]; rfl
theorem run_neq_wire (w : World) (a b c e a' b' c' e' : Int) : (binOp .neq 43 (.agg #[.int .i64 a, .int .i64 b, .int .i64 c, .int .i64 e]) (.agg #[.int .i64 a', .int .i64 b', .int .i64 c', .int .i64 e'])).run Try.prog w = .ok (.bool (!eqW ((a, b), (c, e)) ((a', b'), (c', e')))) w := by
  rw [run_neq_struct, run_equal_wire 9995]; rfl
attribute [local go_sem high] run_neq_wire
attribute [local go_sem high] run_eql_wire
theorem copy_net (VA VB : Option Addr) (ca cb : Nat) (cells : List Int) (free : Int) (W : List (Pt × Pt)) (w : World) (l1 : cells.length ≤ 100000) (l3 : W.length ≤ 100000) (H1 : Hid (IntsRd w VA cells)) (H2 : Hid (WrRd w VB W)) :
    Calls Try.prog 9 #[netV VA ca cells free VB cb W] w fun e w' => ∃ VA' ca' VB' cb', e = .returned (netV VA' ca' cells free VB' cb' W) ∧ IntsRd w' VA' cells ∧ WrRd w' VB' W ∧ cells.length ≤ ca' ∧ W.length ≤ cb' ∧ Below w.heap.size w w' := by
  have hbA : ∀ o o' : Obj, Below w.heap.size w ((w.alloc o).alloc o') := fun o o' => ((Below.refl _ _).alloc (Nat.le_refl _) o).alloc (by simp) o'
  go_enter Try.func9, Try.ntmps9
  go_wp2_with (first
    | (go_at_call 25; refine (copy_ints _ _ cells _ (H1.out.below (hbA _ _)) l1).mono ?_; rintro e w1 ⟨V1, c1, rfl, F1⟩; have hb1 := F1.2.2; obtain ⟨hc1, hf1⟩ := bcell hb1; have hz1 := hb1.size; (try simp at hz1); have hz1a : w.heap.size < w1.heap.size := (by omega); have hz1b : w.heap.size + 1 < w1.heap.size := (by omega)
       have HB1 : Hid (Below w.heap.size w w1) := (hbA _ _).trans (hb1.mono (by simp; omega))
       have HF1 := Lib.hid F1
       have nf1z : Hid (∀ b ∈ ownB (.slice V1 cells.length c1), w.heap.size + 1 < b) := fun b hb => by have := F1.2.1 b hb; simp at this; omega
       have nf1 : w1.frozen? ⟨w.heap.size, 0, none⟩ = false := by rw [hf1 _ _ (by simp; omega)]; go_simp)
    | (go_at_call 26; go_loud (refine (copy_wires _ _ W _ (H2.out.below (HB1.out.setCell (Nat.le_refl _) _)) l3).mono ?_); rintro e w2 ⟨V2, c2, rfl, F2⟩; have hb2 := F2.2.2; have HF2 := Lib.hid F2; clear F2 F1; obtain ⟨hc2, hf2⟩ := bcell hb2; have hz2 := hb2.size; (try simp at hz2); have hz2a : w.heap.size < w2.heap.size := (by omega); have hz2b : w.heap.size + 1 < w2.heap.size := (by omega)))
  have hzz := HF2.out.2.2.size
  have hzy := HB1.out.size
  simp at hzz
  have R1 := HF1.out.1
  have k1 : ∀ b ∈ ownB (.slice V1 cells.length c1), b < w1.heap.size := fun b hb => R1.lt b hb
  have R2 : Row w2 3 1 (.slice V1 cells.length c1) cells.length (ivals cells) := R1.keep fun b hb =>
    (HF2.out.2.2.block b (by have := k1 b hb; simpa using this)).trans (Below.heap_setCell w1 _ _ b (by have := nf1z.out b hb; show b ≠ w.heap.size; omega))
  have k2 : ∀ b ∈ ownB (.slice V2 W.length c2), b < w2.heap.size := fun b hb => HF2.out.1.lt b hb
  have o2 : ∀ b ∈ ownB (.slice V2 W.length c2), w1.heap.size ≤ b := fun b hb => by have := HF2.out.2.1 b hb; simpa using this
  refine bodyPost_ret (v := netV V1 c1 cells free V2 c2 W) (by simp only [results, Try.results9]; go_simp) rfl ?_
  have bw : Below w.heap.size w w2 := (HB1.out.setCell (Nat.le_refl _) _).trans (HF2.out.2.2.mono (by simpa using hzy))
  have hS : ∀ X : World, (∀ b, w.heap.size + 1 < b → b < w2.heap.size → X.heap[b]? = w2.heap[b]?) → IntsRd X V1 cells ∧ WrRd X V2 W := fun X hX =>
    ⟨(R2.keep fun b hb => hX b (nf1z.out b hb) (R2.lt b hb)).ints, (HF2.out.1.keep fun b hb => hX b (by have := o2 b hb; omega) (k2 b hb)).wires⟩
  have hle1 : cells.length ≤ c1 := by obtain ⟨_, _, h, hh⟩ := R2.len; simp only [Value.slice.injEq, true_and] at h; omega
  have hle2 : W.length ≤ c2 := by obtain ⟨_, _, h, hh⟩ := HF2.out.1.len; simp only [Value.slice.injEq, true_and] at h; omega
  have hX : ∀ p1 p2 p3 p4 : Addr, ∀ u1 u2 u3 u4 : Value, p1.block ≤ w.heap.size + 1 → p2.block ≤ w.heap.size + 1 → p3.block ≤ w.heap.size + 1 → p4.block ≤ w.heap.size + 1 → ∀ b, w.heap.size + 1 < b → b < w2.heap.size → ((((w2.setCell p1 u1).setCell p2 u2).setCell p3 u3).setCell p4 u4).heap[b]? = w2.heap[b]? :=
    fun p1 p2 p3 p4 u1 u2 u3 u4 h1 h2 h3 h4 b hb _ => (Below.heap_setCell _ p4 u4 b (by omega)).trans ((Below.heap_setCell _ p3 u3 b (by omega)).trans ((Below.heap_setCell _ p2 u2 b (by omega)).trans (Below.heap_setCell _ p1 u1 b (by omega))))
  have hQ := hS _ (hX ⟨w.heap.size, 2, none⟩ ⟨w.heap.size + 1, 0, none⟩ ⟨w.heap.size + 1, 1, none⟩ ⟨w.heap.size + 1, 2, none⟩ (.slice V2 W.length c2) (.slice V1 cells.length c1) (.int .i64 free) (.slice V2 W.length c2) (by simp) (by simp) (by simp) (by simp))
  exact ⟨V1, c1, V2, c2, rfl, hQ.1, hQ.2, hle1, hle2, by (repeat (first | exact Below.refl _ _ | (with_reducible refine Below.drew ?_) | (with_reducible refine Below.alloc ?_ (by (try simp); (try omega)) _) | (with_reducible refine Below.setCell ?_ (by (try simp); (try omega)) _) | (with_reducible refine Below.trans ?_ (Below.mono (by assumption) (by (try simp); (try omega))))))⟩
end Go.Proofs.Ytogbanlfihabpaa
/-
  Maps whose keys are ports.
-/
namespace Go.Proofs.Ytogbanlfihabpaa
open Go.RowKit
set_option maxRecDepth 100000
set_option linter.unusedVariables false

def encPt (p : Pt) : Value := .agg #[.int .i64 p.1, .int .i64 p.2]
theorem zport : ∀ W, (zeroValue 41).run Try.prog W = .ok (encPt (0, 0)) W := fun W => by kernel_rfl
theorem chk_int (b : Bool) (n : Nat) (x : Int) (W : World) : (Instr.checkKey b (n + 1) 3 (.int .i64 x)).run Try.prog W = .ok () W := by
  rw [Instr.checkKey]
  simp [run_underlying Try.underlying3]
theorem kport : KOk Try.prog 41 encPt :=
  KOk.agg (fun p => #[.int .i64 p.1, .int .i64 p.2]) (fun _ => rfl) Try.underlying41
    (fun a b W => by
      have := run_equal_port 9997 a.1 a.2 b.1 b.2 W
      unfold eqP at this
      exact this)
    (fun b a W => by
      unfold encPt
      rw [show (10000 : Nat) = 9999 + 1 from rfl, Instr.checkKey]
      go_simp
      have h1 := chk_int b 9998 a.1 W
      have h2 := chk_int b 9998 a.2 W
      simp only [Nat.reduceAdd] at h1 h2
      rw [h1]
      exact h2)
    (fun a => by
      unfold encPt
      simp [Instr.sameBits])
end Go.Proofs.Ytogbanlfihabpaa
namespace Go.Proofs.Ytogbanlfihabpaa
open Go.RowKit
attribute [local go_sem] cell_set
set_option maxRecDepth 100000
set_option linter.unusedVariables false

section
variable (Bn Bs : Nat) (A : Option Addr) (cap : Nat) (L : List (ByteArray × Int)) (VA VB : Option Addr) (ca cb : Nat) (cells : List Int) (free n2 : Nat) (c s : Int) (w : World)
set_option maxHeartbeats 400000 in
theorem is_free (hP : Hid (PSet w Bn Bs A cap L VA VB ca cb cells free n2)) (hf : free ≤ 100) (hc1 : c = -1) :
    Calls Try.prog 36 #[.agg #[.int .i64 c, .int .i64 s], .pointer (some ⟨Bn, 0, none⟩), .pointer (some ⟨Bs, 0, none⟩)] w fun e w' => e = .returned (.bool (isPt (pnL L) cells free (c, s))) ∧ Below w.heap.size w w' := by
  subst hc1
  have n1 := hP.out.n.c1
  have nl := hP.out.n.lt
  have HP : Hid (isPt (pnL L) cells free (-1, s) = decide (0 ≤ s ∧ s < free)) := by
    show _ = _
    unfold isPt
    rw [if_pos rfl]
  rcases (by omega : s < 0 ∨ (0 ≤ s ∧ (free : Int) ≤ s) ∨ (0 ≤ s ∧ s < free)) with h | ⟨h, h'⟩ | ⟨h, h'⟩
  all_goals
    go_enter Try.func36, Try.ntmps36
    go_wp2
    go_ret
    exact ⟨ret_b (by rw [HP.out]; simp; omega), by (repeat (first | exact Below.refl _ _ | (with_reducible refine Below.drew ?_) | (with_reducible refine Below.alloc ?_ (by (try simp); (try omega)) _) | (with_reducible refine Below.setCell ?_ (by (try simp); (try omega)) _) | (with_reducible refine Below.trans ?_ (Below.mono (by assumption) (by (try simp); (try omega))))))⟩
set_option maxHeartbeats 400000 in
theorem is_neg (hP : Hid (PSet w Bn Bs A cap L VA VB ca cb cells free n2)) (hc1 : c ≠ -1) (h : c < 0) :
    Calls Try.prog 36 #[.agg #[.int .i64 c, .int .i64 s], .pointer (some ⟨Bn, 0, none⟩), .pointer (some ⟨Bs, 0, none⟩)] w fun e w' => e = .returned (.bool (isPt (pnL L) cells free (c, s))) ∧ Below w.heap.size w w' := by
  have hcb : (c == -1) = false := by rw [beq_eq_false_iff_ne]; exact hc1
  have HP : Hid (isPt (pnL L) cells free (c, s) = false) := by
    show _ = _
    unfold isPt
    rw [if_neg hc1]; simp; omega
  have d1 : decide (0 ≤ c) = false := by simpa using h
  go_enter Try.func36, Try.ntmps36
  go_wp2_with fail
  refine absW (fun X => Below w.heap.size w X ∧ X.cell? ⟨w.heap.size, 0, none⟩ = some (.int .i64 c) ∧ X.cell? ⟨w.heap.size, 1, none⟩ = some (.int .i64 s)) ⟨(Below.refl _ _).alloc (Nat.le_refl _) _, by go_simp, by go_simp⟩ ?_
  rintro X ⟨hbX, x1, x2⟩
  have HX := Lib.hid hbX
  clear hbX
  go_quiet (fail)
  go_wp2
  go_ret
  exact ⟨ret_b HP.out.symm, below_drewN HX.out _⟩
set_option maxHeartbeats 400000 in
theorem is_big (hP : Hid (PSet w Bn Bs A cap L VA VB ca cb cells free n2)) (h : 0 ≤ c ∧ (cells.length : Int) ≤ c) :
    Calls Try.prog 36 #[.agg #[.int .i64 c, .int .i64 s], .pointer (some ⟨Bn, 0, none⟩), .pointer (some ⟨Bs, 0, none⟩)] w fun e w' => e = .returned (.bool (isPt (pnL L) cells free (c, s))) ∧ Below w.heap.size w w' := by
  obtain ⟨h, h'⟩ := h
  have hcb : (c == -1) = false := by rw [beq_eq_false_iff_ne]; omega
  have HP : Hid (isPt (pnL L) cells free (c, s) = false) := by
    show _ = _
    unfold isPt
    rw [if_neg (by omega)]; simp; omega
  have d1 : decide (0 ≤ c) = true := by simpa using h
  have d2 : decide (c < (cells.length : Int)) = false := by simpa using h'
  have n0 := hP.out.n.c0
  have nl := hP.out.n.lt
  go_enter Try.func36, Try.ntmps36
  go_wp2_with fail
  refine absW (fun X => Below w.heap.size w X ∧ X.cell? ⟨w.heap.size, 0, none⟩ = some (.int .i64 c) ∧ X.cell? ⟨w.heap.size, 1, none⟩ = some (.int .i64 s) ∧ X.cell? ⟨Bn, 0, none⟩ = some (.slice VA cells.length ca)) ⟨(Below.refl _ _).alloc (Nat.le_refl _) _, by go_simp, by go_simp, by go_simp⟩ ?_
  rintro X ⟨hbX, x1, x2, x3⟩
  have HX := Lib.hid hbX
  clear hbX n0
  go_quiet (fail)
  go_wp2
  go_ret
  exact ⟨ret_b HP.out.symm, below_drewN HX.out _⟩
set_option maxHeartbeats 400000 in
theorem is_slot (hP : Hid (PSet w Bn Bs A cap L VA VB ca cb cells free n2)) (h : 0 ≤ c ∧ c < cells.length ∧ s < 0) :
    Calls Try.prog 36 #[.agg #[.int .i64 c, .int .i64 s], .pointer (some ⟨Bn, 0, none⟩), .pointer (some ⟨Bs, 0, none⟩)] w fun e w' => e = .returned (.bool (isPt (pnL L) cells free (c, s))) ∧ Below w.heap.size w w' := by
  obtain ⟨h, h', h''⟩ := h
  have hcb : (c == -1) = false := by rw [beq_eq_false_iff_ne]; omega
  have HP : Hid (isPt (pnL L) cells free (c, s) = false) := by
    show _ = _
    unfold isPt
    rw [if_neg (by omega)]; simp; omega
  have d1 : decide (0 ≤ c) = true := by simpa using h
  have d2 : decide (c < (cells.length : Int)) = true := by simpa using h'
  have d3 : decide (0 ≤ s) = false := by simpa using h''
  have n0 := hP.out.n.c0
  have nl := hP.out.n.lt
  go_enter Try.func36, Try.ntmps36
  go_wp2_with fail
  refine absW (fun X => Below w.heap.size w X ∧ X.cell? ⟨w.heap.size, 0, none⟩ = some (.int .i64 c) ∧ X.cell? ⟨w.heap.size, 1, none⟩ = some (.int .i64 s) ∧ X.cell? ⟨Bn, 0, none⟩ = some (.slice VA cells.length ca)) ⟨(Below.refl _ _).alloc (Nat.le_refl _) _, by go_simp, by go_simp, by go_simp⟩ ?_
  rintro X ⟨hbX, x1, x2, x3⟩
  have HX := Lib.hid hbX
  clear hbX n0
  go_quiet (fail)
  go_wp2
  go_ret
  exact ⟨ret_b HP.out.symm, below_drewN HX.out _⟩
set_option maxHeartbeats 800000 in
theorem is_ok (hP : Hid (PSet w Bn Bs A cap L VA VB ca cb cells free n2)) (hs : SigOk L) (hc : cells.length ≤ 5000) (h : 0 ≤ c ∧ c < cells.length ∧ 0 ≤ s) :
    Calls Try.prog 36 #[.agg #[.int .i64 c, .int .i64 s], .pointer (some ⟨Bn, 0, none⟩), .pointer (some ⟨Bs, 0, none⟩)] w fun e w' => e = .returned (.bool (isPt (pnL L) cells free (c, s))) ∧ Below w.heap.size w w' := by
  have hll := hs.len
  obtain ⟨h, h', h''⟩ := h
  obtain ⟨k, rfl⟩ := Int.eq_ofNat_of_zero_le h
  have hk : k < cells.length := by omega
  have HP : Hid (isPt (pnL L) cells free ((k : Int), s) = decide (s < (pnL L (cells.getD k 0) : Int))) := by
    show _ = _
    unfold isPt
    rw [if_neg (by show ¬ (k : Int) = -1; omega)]
    refine decide_eq_decide.2 ?_
    dsimp only
    rw [Int.toNat_natCast]; omega
  obtain ⟨b, off, rfl, hb, e0⟩ := hP.out.c k hk
  have hp := Lib.hid (hs.ports (cells.getD k 0))
  have HPE := Lib.hid (pnL_eq hs (cells.getD k 0))
  have hp7 := pnL_le hs (cells.getD k 0)
  generalize cells.getD k 0 = x at e0 HP hp HPE hp7
  have d0 : ((k : Int) == -1) = false := by rw [beq_eq_false_iff_ne]; omega
  have d1 : decide (0 ≤ (k : Int)) = true := by simp
  have d2 : decide ((k : Int) < (cells.length : Int)) = true := by simpa using hk
  have d3 : decide (0 ≤ s) = true := by simpa using h''
  have n0 := hP.out.n.c0
  have nl := hP.out.n.lt
  have s0 := hP.out.s
  have sl := hP.out.sl
  have HL := Lib.hid hP.out.a
  clear hs
  go_enter Try.func36, Try.ntmps36
  go_wp2_with fail
  refine absW (fun X => Below w.heap.size w X ∧ X.cell? ⟨w.heap.size, 0, none⟩ = some (.int .i64 (k : Int)) ∧ X.cell? ⟨w.heap.size, 1, none⟩ = some (.int .i64 s) ∧ X.cell? ⟨Bn, 0, none⟩ = some (.slice (some ⟨b, off, none⟩) cells.length ca) ∧ X.cell? ⟨Bs, 0, none⟩ = some (.slice A L.length cap)) ⟨(Below.refl _ _).alloc (Nat.le_refl _) _, by go_simp, by go_simp, by go_simp, by go_simp⟩ ?_
  rintro X ⟨hbX, x1, x2, x3, x4⟩
  have HX := Lib.hid hbX
  have y0 : X.cell? ⟨b, off + k, none⟩ = some (.int .i64 x) := (hbX.cell (p := ⟨b, off + k, none⟩) hb).trans e0
  have HQ : Hid (∀ n, AgRd (X.drewN n) A L) := fun n => HL.out.below (below_drewN hbX n)
  clear hbX n0 e0 s0
  go_quiet (exact Calls.quiet_of_same ((ports_any _ _ _ L _ _ rfl (by simp only [maxLen]; omega) (HQ.out _) hp.out.2.2).mono fun e w' h => ⟨by rw [h.1, HPE.out], h.2.symm⟩))
  go_wp2
  go_ret
  exact ⟨ret_b HP.out.symm, below_drewN HX.out _⟩
theorem is_any (hP : Hid (PSet w Bn Bs A cap L VA VB ca cb cells free n2)) (hs : SigOk L) (hc : cells.length ≤ 5000) (hf : free ≤ 100) :
    Calls Try.prog 36 #[.agg #[.int .i64 c, .int .i64 s], .pointer (some ⟨Bn, 0, none⟩), .pointer (some ⟨Bs, 0, none⟩)] w fun e w' => e = .returned (.bool (isPt (pnL L) cells free (c, s))) ∧ Below w.heap.size w w' := by
  by_cases hc1 : c = -1
  · exact is_free Bn Bs A cap L VA VB ca cb cells free n2 c s w hP hf hc1
  · rcases (by omega : c < 0 ∨ (0 ≤ c ∧ (cells.length : Int) ≤ c) ∨ (0 ≤ c ∧ c < cells.length ∧ s < 0) ∨ (0 ≤ c ∧ c < cells.length ∧ 0 ≤ s)) with h | h | h | h
    · exact is_neg Bn Bs A cap L VA VB ca cb cells free n2 c s w hP hc1 h
    · exact is_big Bn Bs A cap L VA VB ca cb cells free n2 c s w hP h
    · exact is_slot Bn Bs A cap L VA VB ca cb cells free n2 c s w hP h
    · exact is_ok Bn Bs A cap L VA VB ca cb cells free n2 c s w hP hs hc h
end
end Go.Proofs.Ytogbanlfihabpaa
