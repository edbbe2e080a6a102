/-
  Contracts of skeinref00 for nets: CopyNet, EqInts, EqWires, EqNet, SizeAgents, Long.
-/
import Derived.Test.YtkonfogebepccaaGreatDoorRef02
import Derived.Laws.StructEq
namespace Go.Proofs.YtkonfogebepccaaGreatDoor
open Go.RowKit
attribute [local go_sem] cell_set
set_option maxRecDepth 100000
set_option linter.unusedVariables false

theorem getD_eq_of_take {α : Type} [Inhabited α] {l k : List α} (h : l.length = k.length) (hh : ∀ j, j < l.length → l.getD j default = k.getD j default) : l = k := by
  refine List.ext_getElem h fun i h1 h2 => ?_
  have := hh i h1
  simpa [List.getD_eq_getElem?_getD, h1, h2] using this

theorem eq_ints (A B : Option Addr) (n m ca cb : Nat) (l k : List Int) (w : World) (hn : n = l.length) (hm : m = k.length) (hl : l.length ≤ 100000) (hl2 : k.length ≤ 100000) (HA : Hid (IntsRd w A l)) (HB : Hid (IntsRd w B k)) :
    Calls Tryz.prog 12 #[.slice A n ca, .slice B m cb] w fun e w' => e = .returned (.bool (decide (l = k))) ∧ Below w.heap.size w w' := by
  subst hn hm
  by_cases hlen : l.length = k.length
  · have hlb : ((l.length : Int) != (k.length : Int)) = false := by simp; omega
    go_enter Tryz.func12, Tryz.ntmps12
    go_wp2
    go_loopw [5] (fun i wr => ∃ j : Nat, i = .int .i64 j ∧ j ≤ l.length ∧ Hid (∀ i, i < j → l.getD i 0 = k.getD i 0) ∧ Below w.heap.size w wr) (fun i _ => l.length - (intOf i).toNat)
    case atStart => exact ⟨0, rfl, by omega, fun j hj => by omega, Below.refl _ _⟩
    case round =>
      obtain ⟨j, rfl, hj, HN, hbw⟩ := hrel
      by_cases hlt : j < l.length
      · obtain ⟨b, off, rfl, hb, e0⟩ := HA.out j hlt
        obtain ⟨b2, off2, rfl, hb2, e2⟩ := HB.out j (by omega)
        have c0 := (hbw.cell (p := ⟨b, off + j, none⟩) hb).trans e0
        have c2 := (hbw.cell (p := ⟨b2, off2 + j, none⟩) hb2).trans e2
        have hx : Hid (l.getD j 0 = k.getD j 0 ∨ l ≠ k) := by
          by_cases h : l.getD j 0 = k.getD j 0
          · exact .inl h
          · exact .inr (fun e => h (by rw [e]))
        have hltk : j < k.length := by omega
        clear e0 e2
        by_cases hxy : l.getD j 0 = k.getD j 0
        · have HXY := Lib.hid hxy
          have hb1 : (l.getD j 0 != k.getD j 0) = false := by simp; exact hxy
          generalize l.getD j 0 = x at c0 hb1
          generalize k.getD j 0 = y at c2 hb1
          clear hxy
          go_wp2_with fail
          go_quiet (fail)
          go_wp2
          go_roundw
          case rel => exact ⟨j + 1, by go_num, by omega, fun i hi => by
            rcases Nat.lt_or_ge i j with h | h
            · exact HN.out i h
            · obtain rfl : i = j := by omega
              exact HXY.out, below_drewN hbw _⟩
          case measure => simp [intOf]; omega
        · have hne : l ≠ k := fun e => hxy (by rw [e])
          have hb1 : (l.getD j 0 != k.getD j 0) = true := by simpa using hxy
          have HNE := Lib.hid hne
          generalize l.getD j 0 = x at c0 hb1
          generalize k.getD j 0 = y at c2 hb1
          clear hxy hne
          go_wp2_with fail
          go_quiet (fail)
          go_wp2
          go_ret
          exact ⟨ret_b (by simpa using HNE.out), below_drewN hbw _⟩
      · have HE : Hid (l = k) := getD_eq_of_take hlen (fun i hi => HN.out i (by omega))
        go_wp2
        go_ret
        exact ⟨ret_b (by simpa using HE.out), by (repeat (first | exact Below.refl _ _ | (with_reducible refine Below.drew ?_) | (with_reducible refine Below.alloc ?_ (by (try simp); (try omega)) _) | (with_reducible refine Below.setCell ?_ (by (try simp); (try omega)) _) | (with_reducible refine Below.trans ?_ (Below.mono (by assumption) (by (try simp); (try omega))))))⟩
  · have hlb : ((l.length : Int) != (k.length : Int)) = true := by simp; omega
    go_enter Tryz.func12, Tryz.ntmps12
    go_wp2
    go_ret
    exact ⟨ret_b (by
      have : l ≠ k := fun e => hlen (by rw [e])
      simpa using this), by (repeat (first | exact Below.refl _ _ | (with_reducible refine Below.drew ?_) | (with_reducible refine Below.alloc ?_ (by (try simp); (try omega)) _) | (with_reducible refine Below.setCell ?_ (by (try simp); (try omega)) _) | (with_reducible refine Below.trans ?_ (Below.mono (by assumption) (by (try simp); (try omega))))))⟩
def eqP (p q : Pt) : Bool := decide (p = q)
def eqW (p q : Pt × Pt) : Bool := decide (p = q)
theorem run_equal_port (d : Nat) (a b c e : Int) (w : World) : (Op.equalIn (d + 3) 28 (.agg #[.int .i64 a, .int .i64 b]) (.agg #[.int .i64 c, .int .i64 e])).run Tryz.prog w = .ok (eqP (a, b) (c, e)) w := by
  unfold eqP
  go_simp
  by_cases h1 : a = c <;> by_cases h2 : b = e <;> simp [h1, h2]
theorem run_equal_wire (d : Nat) (a b c e a' b' c' e' : Int) (w : World) : (Op.equalIn (d + 5) 102 (.agg #[.int .i64 a, .int .i64 b, .int .i64 c, .int .i64 e]) (.agg #[.int .i64 a', .int .i64 b', .int .i64 c', .int .i64 e'])).run Tryz.prog w = .ok (eqW ((a, b), (c, e)) ((a', b'), (c', e'))) w := by
  unfold eqW
  go_simp
  by_cases h1 : a = a' <;> by_cases h2 : b = b' <;> by_cases h3 : c = c' <;> by_cases h4 : e = e' <;> simp [h1, h2, h3, h4]
theorem run_eql_port (w : World) (a b c e : Int) : (binOp .eql 28 (.agg #[.int .i64 a, .int .i64 b]) (.agg #[.int .i64 c, .int .i64 e])).run Tryz.prog w = .ok (.bool (eqP (a, b) (c, e))) w := by
  rw [run_eql_struct, run_equal_port 9997]; rfl
theorem run_eql_wire (w : World) (a b c e a' b' c' e' : Int) : (binOp .eql 102 (.agg #[.int .i64 a, .int .i64 b, .int .i64 c, .int .i64 e]) (.agg #[.int .i64 a', .int .i64 b', .int .i64 c', .int .i64 e'])).run Tryz.prog w = .ok (.bool (eqW ((a, b), (c, e)) ((a', b'), (c', e')))) w := by
  rw [run_eql_struct, run_equal_wire 9995]; rfl
theorem run_neq_wire (w : World) (a b c e a' b' c' e' : Int) : (binOp .neq 102 (.agg #[.int .i64 a, .int .i64 b, .int .i64 c, .int .i64 e]) (.agg #[.int .i64 a', .int .i64 b', .int .i64 c', .int .i64 e'])).run Tryz.prog w = .ok (.bool (!eqW ((a, b), (c, e)) ((a', b'), (c', e')))) w := by
  rw [run_neq_struct, run_equal_wire 9995]; rfl
attribute [local go_sem high] run_neq_wire
attribute [local go_sem high] run_eql_wire
theorem eq_wires (A B : Option Addr) (n m ca cb : Nat) (l k : List (Pt × Pt)) (w : World) (hn : n = l.length) (hm : m = k.length) (hl : l.length ≤ 100000) (hl2 : k.length ≤ 100000) (HA : Hid (WrRd w A l)) (HB : Hid (WrRd w B k)) :
    Calls Tryz.prog 37 #[.slice A n ca, .slice B m cb] w fun e w' => e = .returned (.bool (decide (l = k))) ∧ Below w.heap.size w w' := by
  subst hn hm
  by_cases hlen : l.length = k.length
  · have hlb : ((l.length : Int) != (k.length : Int)) = false := by simp; omega
    have HLEN := Lib.hid hlen
    clear hlen
    go_enter Tryz.func37, Tryz.ntmps37
    go_wp2
    go_loopw [5] (fun i wr => ∃ j : Nat, i = .int .i64 j ∧ j ≤ l.length ∧ Hid (∀ i, i < j → l.getD i default = k.getD i default) ∧ Below w.heap.size w wr) (fun i _ => l.length - (intOf i).toNat)
    case atStart => exact ⟨0, rfl, by omega, fun j hj => by omega, Below.refl _ _⟩
    case round =>
      obtain ⟨j, rfl, hj, HN, hbw⟩ := hrel
      by_cases hlt : j < l.length
      · obtain ⟨b, off, rfl, hb, e0, e1, e2, e3⟩ := HA.out j hlt
        obtain ⟨b2, off2, rfl, hb2, g0, g1, g2, g3⟩ := HB.out j (by have := HLEN.out; omega)
        have c0 := (hbw.cell (p := ⟨b, off + j * 4, none⟩) hb).trans e0
        have c1 := (hbw.cell (p := ⟨b, off + j * 4 + 1, none⟩) hb).trans e1
        have c2 := (hbw.cell (p := ⟨b, off + j * 4 + 2, none⟩) hb).trans e2
        have c3 := (hbw.cell (p := ⟨b, off + j * 4 + 3, none⟩) hb).trans e3
        have d0 := (hbw.cell (p := ⟨b2, off2 + j * 4, none⟩) hb2).trans g0
        have d1 := (hbw.cell (p := ⟨b2, off2 + j * 4 + 1, none⟩) hb2).trans g1
        have d2 := (hbw.cell (p := ⟨b2, off2 + j * 4 + 2, none⟩) hb2).trans g2
        have d3 := (hbw.cell (p := ⟨b2, off2 + j * 4 + 3, none⟩) hb2).trans g3
        have hltk : j < k.length := by have := HLEN.out; omega
        clear e0 e1 e2 e3 g0 g1 g2 g3
        by_cases hxy : l.getD j default = k.getD j default
        · have HXY := Lib.hid hxy
          have hb1 : eqW (l.getD j default) (k.getD j default) = true := by unfold eqW; simpa using hxy
          clear hxy
          generalize l.getD j default = x at c0 c1 c2 c3 hb1
          generalize k.getD j default = y at d0 d1 d2 d3 hb1
          obtain ⟨⟨x0, x1⟩, x2, x3⟩ := x
          obtain ⟨⟨y0, y1⟩, y2, y3⟩ := y
          go_wp2_with fail
          go_quiet (fail)
          go_wp2
          go_roundw
          case rel => exact ⟨j + 1, by go_num, by omega, fun i hi => by
            rcases Nat.lt_or_ge i j with h | h
            · exact HN.out i h
            · obtain rfl : i = j := by omega
              exact HXY.out, below_drewN hbw _⟩
          case measure => simp [intOf]; omega
        · have hne : l ≠ k := fun e => hxy (by rw [e])
          have hb1 : eqW (l.getD j default) (k.getD j default) = false := by unfold eqW; simpa using hxy
          have HNE := Lib.hid hne
          clear hxy hne
          generalize l.getD j default = x at c0 c1 c2 c3 hb1
          generalize k.getD j default = y at d0 d1 d2 d3 hb1
          obtain ⟨⟨x0, x1⟩, x2, x3⟩ := x
          obtain ⟨⟨y0, y1⟩, y2, y3⟩ := y
          go_wp2_with fail
          go_quiet (fail)
          go_wp2
          go_ret
          exact ⟨ret_b (by simpa using HNE.out), below_drewN hbw _⟩
      · have HE : Hid (l = k) := getD_eq_of_take HLEN.out (fun i hi => HN.out i (by omega))
        go_wp2
        go_ret
        exact ⟨ret_b (by simpa using HE.out), by (repeat (first | exact Below.refl _ _ | (with_reducible refine Below.drew ?_) | (with_reducible refine Below.alloc ?_ (by (try simp); (try omega)) _) | (with_reducible refine Below.setCell ?_ (by (try simp); (try omega)) _) | (with_reducible refine Below.trans ?_ (Below.mono (by assumption) (by (try simp); (try omega))))))⟩
  · have hlb : ((l.length : Int) != (k.length : Int)) = true := by simp; omega
    go_enter Tryz.func37, Tryz.ntmps37
    go_wp2
    go_ret
    exact ⟨ret_b (by
      have : l ≠ k := fun e => hlen (by rw [e])
      simpa using this), by (repeat (first | exact Below.refl _ _ | (with_reducible refine Below.drew ?_) | (with_reducible refine Below.alloc ?_ (by (try simp); (try omega)) _) | (with_reducible refine Below.setCell ?_ (by (try simp); (try omega)) _) | (with_reducible refine Below.trans ?_ (Below.mono (by assumption) (by (try simp); (try omega))))))⟩

theorem eq_net (VA VB WA WB : Option Addr) (ca cb da db : Nat) (c1 c2 : List Int) (f1 f2 : Int) (W1 W2 : List (Pt × Pt)) (w : World) (l1 : c1.length ≤ 100000) (l2 : c2.length ≤ 100000) (l3 : W1.length ≤ 100000) (l4 : W2.length ≤ 100000)
    (H1 : Hid (IntsRd w VA c1)) (H2 : Hid (WrRd w VB W1)) (H3 : Hid (IntsRd w WA c2)) (H4 : Hid (WrRd w WB W2)) :
    Calls Tryz.prog 16 #[netV VA ca c1 f1 VB cb W1, netV WA da c2 f2 WB db W2] w fun e w' => e = .returned (.bool (decide (c1 = c2 ∧ f1 = f2 ∧ W1 = W2))) ∧ Below w.heap.size w w' := by
  have hbA : ∀ o o' : Obj, Below w.heap.size w ((w.alloc o).alloc o') := fun o o' => ((Below.refl _ _).alloc (Nat.le_refl _) o).alloc (by simp) o'
  cases hf : (f1 == f2)
  · have HF := Lib.hid hf
    go_enter Tryz.func16, Tryz.ntmps16
    go_wp2
    go_ret
    exact ⟨ret_b (by have h := HF.out; simp at h; simp [h]), by (repeat (first | exact Below.refl _ _ | (with_reducible refine Below.drew ?_) | (with_reducible refine Below.alloc ?_ (by (try simp); (try omega)) _) | (with_reducible refine Below.setCell ?_ (by (try simp); (try omega)) _) | (with_reducible refine Below.trans ?_ (Below.mono (by assumption) (by (try simp); (try omega))))))⟩
  · have HF := Lib.hid hf
    by_cases hc : c1 = c2
    · have hcd : decide (c1 = c2) = true := by simpa using hc
      have HC := Lib.hid hc
      clear hc
      go_enter Tryz.func16, Tryz.ntmps16
      go_wp2_with (first
        | (go_at_call 12; refine (eq_ints _ _ _ _ _ _ c1 c2 _ rfl rfl l1 l2 (Lib.hid (H1.out.below (hbA _ _))) (Lib.hid (H3.out.below (hbA _ _)))).mono ?_; rintro e w1 ⟨rfl, hb1⟩; rw [hcd]; obtain ⟨hc1, hf1⟩ := bcell hb1; have hz1 := hb1.size; (try simp at hz1); have hz1a : w.heap.size < w1.heap.size := (by omega); have hz1b : w.heap.size + 1 < w1.heap.size := (by omega)
           have HB1 : Hid (Below w.heap.size w w1) := (hbA _ _).trans (hb1.mono (by simp; omega)))
        | (go_at_call 37; refine (eq_wires _ _ _ _ _ _ W1 W2 _ rfl rfl l3 l4 (Lib.hid (H2.out.below HB1.out)) (Lib.hid (H4.out.below HB1.out))).mono ?_; rintro e w2 ⟨rfl, hb2⟩))
      go_ret
      exact ⟨ret_b (by have h := HF.out; simp at h; simp [h, HC.out]), HB1.out.trans (hb2.mono HB1.out.size)⟩
    · have hcd : decide (c1 = c2) = false := by simpa using hc
      have HC := Lib.hid hc
      clear hc
      go_enter Tryz.func16, Tryz.ntmps16
      go_wp2_with (first
        | (go_at_call 12; refine (eq_ints _ _ _ _ _ _ c1 c2 _ rfl rfl l1 l2 (Lib.hid (H1.out.below (hbA _ _))) (Lib.hid (H3.out.below (hbA _ _)))).mono ?_; rintro e w1 ⟨rfl, hb1⟩; rw [hcd]; obtain ⟨hc1, hf1⟩ := bcell hb1; have hz1 := hb1.size; (try simp at hz1); have hz1a : w.heap.size < w1.heap.size := (by omega); have hz1b : w.heap.size + 1 < w1.heap.size := (by omega)
           have HB1 : Hid (Below w.heap.size w w1) := (hbA _ _).trans (hb1.mono (by simp; omega))))
      go_ret
      exact ⟨ret_b (by simp [HC.out]), HB1.out⟩
end Go.Proofs.YtkonfogebepccaaGreatDoor
