/-
  Contracts of skeinref03.Twos, skeinref00.EqPairs, EqAgents, Bag.AddNet.
-/
import Derived.Test.YtkonfogebepccaaDoorNetPairs
import Derived.Test.YtkonfogebepccaaDoorRef03M
import Derived.Test.YtkonfogebepccaaDoorNetMuch
import Derived.Test.YtkonfogebepccaaDoorBag
namespace Go.Proofs.YtkonfogebepccaaDoor
open Go.RowKit Go.Shelf
attribute [local go_sem] cell_set
set_option maxRecDepth 100000
set_option linter.unusedVariables false

section
variable (A : Option Addr) (n cap : Nat) (L : List (ByteArray × Int)) (VA VB : Option Addr) (ca cb : Nat) (cells : List Int) (f : Nat) (W : List (Pt × Pt)) (w : World)
end
theorem run_equal_pr (d : Nat) (a b c e : Int) (w : World) : (Op.equalIn (d + 3) 35 (.agg #[.int .i64 a, .int .i64 b]) (.agg #[.int .i64 c, .int .i64 e])).run Tryd.prog w = .ok (eqP (a, b) (c, e)) w := by
  unfold eqP
  go_simp
  by_cases h1 : a = c <;> by_cases h2 : b = e <;> simp [h1, h2]
theorem run_neq_pr (w : World) (a b c e : Int) : (binOp .neq 35 (.agg #[.int .i64 a, .int .i64 b]) (.agg #[.int .i64 c, .int .i64 e])).run Tryd.prog w = .ok (.bool (!eqP (a, b) (c, e))) w := by
  rw [run_neq_struct, run_equal_pr 9997]; rfl
attribute [local go_sem high] run_neq_pr
/-- Lists of pairs that are the same. -/
theorem eq_pairs (A B : Option Addr) (n m ca cb : Nat) (l : List Pt) (w : World) (hn : n = l.length) (hm : m = l.length) (hl : l.length ≤ 100000) (HA : Hid (PtsRd w A l)) (HB : Hid (PtsRd w B l)) :
    Calls Tryd.prog 16 #[.slice A n ca, .slice B m cb] w fun e w' => e = .returned (.bool true) ∧ Below w.heap.size w w' := by
  subst hn hm
  go_enter Tryd.func16, Tryd.ntmps16
  go_wp2
  go_loopw [5] (fun i wr => ∃ j : Nat, i = .int .i64 j ∧ j ≤ l.length ∧ Hid (Below w.heap.size w wr)) (fun i _ => l.length - (intOf i).toNat)
  case atStart => exact ⟨0, rfl, by omega, Below.refl _ _⟩
  case round =>
    obtain ⟨j, rfl, hj, hbw⟩ := hrel
    by_cases hlt : j < l.length
    · obtain ⟨b, off, rfl, hb, e0, e1⟩ := HA.out j hlt
      obtain ⟨b2, off2, rfl, hb2, g0, g1⟩ := HB.out j hlt
      have c0 := (hbw.out.cell (p := ⟨b, off + j * 2, none⟩) hb).trans e0
      have c1 := (hbw.out.cell (p := ⟨b, off + j * 2 + 1, none⟩) hb).trans e1
      have d0 := (hbw.out.cell (p := ⟨b2, off2 + j * 2, none⟩) hb2).trans g0
      have d1 := (hbw.out.cell (p := ⟨b2, off2 + j * 2 + 1, none⟩) hb2).trans g1
      have hb1 : eqP (l.getD j default) (l.getD j default) = true := by unfold eqP; simp
      clear e0 e1 g0 g1
      generalize l.getD j default = x at c0 c1 d0 d1 hb1
      obtain ⟨x0, x1⟩ := x
      go_wp2_with fail
      go_quiet (fail)
      go_wp2
      go_roundw
      case rel => exact ⟨j + 1, by go_num, by omega, below_drewN hbw.out _⟩
      case measure => simp [intOf]; omega
    · go_wp2
      go_ret
      exact ⟨rfl, hbw.out⟩
end Go.Proofs.YtkonfogebepccaaDoor
