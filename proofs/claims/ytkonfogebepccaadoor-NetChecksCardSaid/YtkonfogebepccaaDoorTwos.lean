/-
  Contracts of skeinref03.Twos, skeinref00.EqPairs, EqAgents, Bag.AddNet.
-/
import Derived.Test.YtkonfogebepccaaDoorNetPairs
import Derived.Test.YtkonfogebepccaaDoorRef03M
import Derived.Test.YtkonfogebepccaaDoorNetMuch
import Derived.Test.YtkonfogebepccaaDoorBag
namespace Go.Proofs.YtkonfogebepccaaDoor
open Go.RowKit Go.Shelf
attribute [local go_sem] cell_set
set_option maxRecDepth 100000
set_option linter.unusedVariables false

section
variable (A : Option Addr) (n cap : Nat) (L : List (ByteArray × Int)) (VA VB : Option Addr) (ca cb : Nat) (cells : List Int) (f : Nat) (W : List (Pt × Pt)) (w : World)
set_option maxHeartbeats 2000000 in
theorem rtwos (hn : n = L.length) (HL : Hid (AgRd w A L)) (hs : SigOk L) (HC : Hid (IntsRd w VA cells)) (HW : Hid (WrRd w VB W)) (hc : cells.length ≤ 5000) (hf : f ≤ 100) (hw : W.length ≤ 40000) (hok : Hid (NetOk (pnL L) cells f W)) :
    Calls Tryd.prog 36 #[.slice A n cap, netV VA ca cells f VB cb W] w fun e w' => ∃ V c, e = .returned (.slice V (pairsOf (tidyW (allPs (pnL L) cells f) W)).length c) ∧ Fresh w w' 35 2 (pairsOf (tidyW (allPs (pnL L) cells f) W)).length (.slice V (pairsOf (tidyW (allPs (pnL L) cells f) W)).length c) (pvals (pairsOf (tidyW (allPs (pnL L) cells f) W))) := by
  subst hn
  have hbA : ∀ o : Obj, Below w.heap.size w (w.alloc o) := fun o => (Below.refl _ _).alloc (Nat.le_refl _) o
  have HT : Hid (∀ Z, Below w.heap.size w Z → Calls Tryd.prog 35 #[.slice A L.length cap, netV VA ca cells f VB cb W] Z fun e w' => ∃ V1 c1 V2 c2, e = .returned (netV V1 c1 cells f V2 c2 (tidyW (allPs (pnL L) cells f) W)) ∧ NetFresh Z w' V1 c1 cells V2 c2 (tidyW (allPs (pnL L) cells f) W)) := fun Z hz =>
    rneat A _ cap L VA VB ca cb cells f W Z rfl (Lib.hid (HL.out.below hz)) hs (Lib.hid (HC.out.below hz)) (Lib.hid (HW.out.below hz)) hc hf hw hok
  have htl : (tidyW (allPs (pnL L) cells f) W).length ≤ 40000 := by
    have h1 : (tidyW (allPs (pnL L) cells f) W).length ≤ (allPs (pnL L) cells f).length := List.length_filterMap_le _ _
    rw [allPs_len] at h1
    have := firstN_le (pnL_le hs) cells f cells.length
    omega
  obtain ⟨i0, hi0, hi1, hi2, hi3⟩ := info_parts pair_info
  generalize tidyW (allPs (pnL L) cells f) W = T at HT htl
  go_enter Tryd.func36, Tryd.ntmps36
  go_wp2_with fail
  refine (HT.out _ (hbA _)).mono ?_
  rintro e w1 ⟨V1, c1, V2, c2, rfl, hnf⟩
  have HB1 : Hid (Below w.heap.size w w1) := (hbA _).trans (hnf.1.2.2.mono (by simp))
  have HT1 : Hid (WrRd w1 V2 T) := hnf.2.1.wires
  clear hnf HT
  go_wp2_with fail
  refine absW (fun X => Below w1.heap.size w1 X ∧ X.heap[w1.heap.size]? = some (.cells #[.slice V1 cells.length c1, .int .i64 (f : Int), .slice V2 T.length c2] 64 (0, 0))) ⟨(Below.refl _ _).alloc (Nat.le_refl _) _, heap_alloc_new w1 _⟩ ?_
  rintro X ⟨hbX, hxX⟩
  have HX := Lib.hid (And.intro hbX hxX)
  clear hbX hxX
  go_loopw [5, 7] (fun l i wr => ∃ k : Nat, ∃ V c, i = .int .i64 k ∧ k ≤ T.length ∧ l = .slice V (pairsOf (T.take k)).length c ∧ Hid (Fresh X wr 35 2 (pairsOf (T.take k)).length (.slice V (pairsOf (T.take k)).length c) (pvals (pairsOf (T.take k))))) (fun _ i _ => T.length - (intOf i).toNat)
  case atStart => exact ⟨0, none, 0, rfl, by omega, rfl, Lib.hid (Fresh.nil _ _ _)⟩
  case round =>
    obtain ⟨k, V, c, rfl, hk, rfl, HF⟩ := hrel
    have HBr : Hid (Below w1.heap.size w1 wr) := HX.out.1.trans (HF.out.2.2.mono HX.out.1.size)
    have hbw := (HF.out.2.2.block _ (heap_lt HX.out.2)).trans HX.out.2
    have q2 : wr.cell? ⟨w1.heap.size, 2, none⟩ = some (.slice V2 T.length c2) := by simp [World.cell?, hbw]
    have ql := heap_lt hbw
    clear hbw
    by_cases hlt : k < T.length
    · obtain ⟨b, off, rfl, hb, e0, e1, e2, e3⟩ := HT1.out k hlt
      have d0 := (HBr.out.cell (p := ⟨b, off + k * 4, none⟩) hb).trans e0
      have d1 := (HBr.out.cell (p := ⟨b, off + k * 4 + 1, none⟩) hb).trans e1
      have d2 := (HBr.out.cell (p := ⟨b, off + k * 4 + 2, none⟩) hb).trans e2
      have d3 := (HBr.out.cell (p := ⟨b, off + k * 4 + 3, none⟩) hb).trans e3
      clear e0 e1 e2 e3
      have hsn := pairsOf_succ hlt
      have hpl : (pairsOf (T.take k)).length ≤ 40000 := by
        have h1 : (pairsOf (T.take k)).length ≤ (T.take k).length := List.length_filterMap_le _ _
        have h2 : (T.take k).length ≤ k := List.length_take_le _ _
        omega
      generalize T.getD k default = x at d0 d1 d2 d3 hsn
      obtain ⟨⟨x0, x1⟩, y0, y1⟩ := x
      have HSn := Lib.hid hsn
      clear hsn
      cases hp : isPair ((x0, x1), (y0, y1))
      · have hsn2 : pairsOf (T.take (k + 1)) = pairsOf (T.take k) := by have := HSn.out; rw [hp] at this; simpa using this
        have HSn2 := Lib.hid hsn2
        clear hsn2
        have hp2 : x0 < 0 ∨ (0 ≤ x0 ∧ x1 ≠ 0) ∨ (0 ≤ x0 ∧ x1 = 0 ∧ y1 ≠ 0) ∨ (0 ≤ x0 ∧ x1 = 0 ∧ y1 = 0 ∧ x0 = y0) := by
          unfold isPair at hp; simp only [decide_eq_false_iff_not] at hp; omega
        clear hp HSn
        rcases hp2 with h | ⟨h, h2⟩ | ⟨h, h2, h3⟩ | ⟨h, h2, h3, h4⟩
        · have b1 : decide (0 ≤ x0) = false := by simpa using h
          go_wp2
          go_roundw
          case rel => exact ⟨k + 1, V, c, by go_num, by omega, by rw [HSn2.out], by rw [HSn2.out]; exact HF.out.later ((Below.refl _ _).alloc (Nat.le_refl _) _)⟩
          case measure => simp [intOf]; omega
        · have b1 : decide (0 ≤ x0) = true := by simpa using h
          have b2 : (x1 == 0) = false := by simpa using h2
          go_wp2
          go_roundw
          case rel => exact ⟨k + 1, V, c, by go_num, by omega, by rw [HSn2.out], by rw [HSn2.out]; exact HF.out.later ((Below.refl _ _).alloc (Nat.le_refl _) _)⟩
          case measure => simp [intOf]; omega
        · have b1 : decide (0 ≤ x0) = true := by simpa using h
          have b2 : (x1 == 0) = true := by simpa using h2
          have b3 : (y1 == 0) = false := by simpa using h3
          clear h2
          go_wp2
          go_roundw
          case rel => exact ⟨k + 1, V, c, by go_num, by omega, by rw [HSn2.out], by rw [HSn2.out]; exact HF.out.later ((Below.refl _ _).alloc (Nat.le_refl _) _)⟩
          case measure => simp [intOf]; omega
        · have b1 : decide (0 ≤ x0) = true := by simpa using h
          have b2 : (x1 == 0) = true := by simpa using h2
          have b3 : (y1 == 0) = true := by simpa using h3
          have b4 : (x0 != y0) = false := by simpa using h4
          clear h2 h3 h4
          go_wp2
          go_roundw
          case rel => exact ⟨k + 1, V, c, by go_num, by omega, by rw [HSn2.out], by rw [HSn2.out]; exact HF.out.later ((Below.refl _ _).alloc (Nat.le_refl _) _)⟩
          case measure => simp [intOf]; omega
      · have hsn2 : pairsOf (T.take (k + 1)) = pairsOf (T.take k) ++ [(x0, y0)] := by have := HSn.out; rw [hp] at this; simpa using this
        have HSn2 := Lib.hid hsn2
        clear hsn2
        have hp2 : 0 ≤ x0 ∧ x1 = 0 ∧ y1 = 0 ∧ x0 ≠ y0 := by unfold isPair at hp; simpa using hp
        obtain ⟨h, h2, h3, h4⟩ := hp2
        have b1 : decide (0 ≤ x0) = true := by simpa using h
        have b2 : (x1 == 0) = true := by simpa using h2
        have b3 : (y1 == 0) = true := by simpa using h3
        have b4 : (x0 != y0) = true := by simpa using h4
        generalize pairsOf (T.take k) = ps at *
        have HRow : Hid (Row ((wr.alloc (.cells #[.int .i64 x0, .int .i64 x1, .int .i64 y0, .int .i64 y1] 108)).alloc (.cells #[.int .i64 x0, .int .i64 y0] 35)) 35 2 (.slice V ps.length c) ps.length (pvals ps)) := (HF.out.1.alloc _).alloc _
        have HSrc : Hid (Src ((wr.alloc (.cells #[.int .i64 x0, .int .i64 x1, .int .i64 y0, .int .i64 y1] 108)).alloc (.cells #[.int .i64 x0, .int .i64 y0] 35)) (some ⟨wr.heap.size + 1, 0, none⟩) 1 2 [.int .i64 x0, .int .i64 y0]) :=
          Src.block (cs := #[.int .i64 x0, .int .i64 y0]) (t := 35) (fr := (0, 0)) (by have := heap_alloc_new (wr.alloc (.cells #[.int .i64 x0, .int .i64 x1, .int .i64 y0, .int .i64 y1] 108)) (.cells #[.int .i64 x0, .int .i64 y0] 35); rw [World.size_alloc] at this; exact this) rfl (by simp [Value.oneCell'])
        have HB63 : ps.length + 1 ≤ maxLen := by simp only [maxLen]; omega
        have HB47 : (ps.length + 1) * 16 ≤ 140737488355328 := by omega
        have HF2 : Hid (Fresh X (wr.alloc (.cells #[.int .i64 x0, .int .i64 x1, .int .i64 y0, .int .i64 y1] 108)) 35 2 ps.length (.slice V ps.length c) (pvals ps)) := HF.out.later ((Below.refl _ _).alloc (Nat.le_refl _) _)
        clear hp h2 h3 h4 HSn
        go_wp2_with (at_builtin; go_loud (refine inPlain rfl (wpo_row_append _ _ _ rfl i0 _ 16 Tryd.underlying27 hi0 hi1 hi2 hi3 rfl rfl HRow.out _ 1 1 rfl [.int .i64 x0, .int .i64 y0] HSrc.out HB63 HB47 ?_)); intro sv5 w5 r5 k5 o5; obtain ⟨V5, cp5, rfl, hc5⟩ := r5.len
                     go_loud (have F5 : Hid (Fresh X w5 35 2 (ps.length + 1) (.slice V5 (ps.length + 1) cp5) (pvals (ps ++ [(x0, y0)]))) := by rw [pvals_snoc]; exact HF2.out.app k5 o5 r5))
        go_roundw
        case rel => exact ⟨k + 1, V5, cp5, by go_num, by omega, by rw [HSn2.out, List.length_append]; rfl, by rw [HSn2.out, List.length_append]; exact F5⟩
        case measure => simp [intOf]; omega
    · obtain rfl : k = T.length := by omega
      rw [List.take_length] at HF ⊢
      go_wp2
      go_ret
      exact ⟨V, c, rfl, HF.out.from (HB1.out.trans (HX.out.1.mono HB1.out.size))⟩
end
theorem run_equal_pr (d : Nat) (a b c e : Int) (w : World) : (Op.equalIn (d + 3) 35 (.agg #[.int .i64 a, .int .i64 b]) (.agg #[.int .i64 c, .int .i64 e])).run Tryd.prog w = .ok (eqP (a, b) (c, e)) w := by
  unfold eqP
  go_simp
  by_cases h1 : a = c <;> by_cases h2 : b = e <;> simp [h1, h2]
theorem run_neq_pr (w : World) (a b c e : Int) : (binOp .neq 35 (.agg #[.int .i64 a, .int .i64 b]) (.agg #[.int .i64 c, .int .i64 e])).run Tryd.prog w = .ok (.bool (!eqP (a, b) (c, e))) w := by
  rw [run_neq_struct, run_equal_pr 9997]; rfl
attribute [local go_sem high] run_neq_pr
/-- Lists of pairs that are the same. -/
theorem eq_pairs (A B : Option Addr) (n m ca cb : Nat) (l : List Pt) (w : World) (hn : n = l.length) (hm : m = l.length) (hl : l.length ≤ 100000) (HA : Hid (PtsRd w A l)) (HB : Hid (PtsRd w B l)) :
    Calls Tryd.prog 16 #[.slice A n ca, .slice B m cb] w fun e w' => e = .returned (.bool true) ∧ Below w.heap.size w w' := by
  subst hn hm
  go_enter Tryd.func16, Tryd.ntmps16
  go_wp2
  go_loopw [5] (fun i wr => ∃ j : Nat, i = .int .i64 j ∧ j ≤ l.length ∧ Hid (Below w.heap.size w wr)) (fun i _ => l.length - (intOf i).toNat)
  case atStart => exact ⟨0, rfl, by omega, Below.refl _ _⟩
  case round =>
    obtain ⟨j, rfl, hj, hbw⟩ := hrel
    by_cases hlt : j < l.length
    · obtain ⟨b, off, rfl, hb, e0, e1⟩ := HA.out j hlt
      obtain ⟨b2, off2, rfl, hb2, g0, g1⟩ := HB.out j hlt
      have c0 := (hbw.out.cell (p := ⟨b, off + j * 2, none⟩) hb).trans e0
      have c1 := (hbw.out.cell (p := ⟨b, off + j * 2 + 1, none⟩) hb).trans e1
      have d0 := (hbw.out.cell (p := ⟨b2, off2 + j * 2, none⟩) hb2).trans g0
      have d1 := (hbw.out.cell (p := ⟨b2, off2 + j * 2 + 1, none⟩) hb2).trans g1
      have hb1 : eqP (l.getD j default) (l.getD j default) = true := by unfold eqP; simp
      clear e0 e1 g0 g1
      generalize l.getD j default = x at c0 c1 d0 d1 hb1
      obtain ⟨x0, x1⟩ := x
      go_wp2_with fail
      go_quiet (fail)
      go_wp2
      go_roundw
      case rel => exact ⟨j + 1, by go_num, by omega, below_drewN hbw.out _⟩
      case measure => simp [intOf]; omega
    · go_wp2
      go_ret
      exact ⟨rfl, hbw.out⟩
theorem run_equal_agent (d : Nat) (s : ByteArray) (a : Int) (w : World) : (Op.equalIn (d + 3) 106 (.agg #[.string s, .int .i64 a]) (.agg #[.string s, .int .i64 a])).run Tryd.prog w = .ok true w := by
  go_simp
theorem run_neq_agent (w : World) (s : ByteArray) (a : Int) : (binOp .neq 106 (.agg #[.string s, .int .i64 a]) (.agg #[.string s, .int .i64 a])).run Tryd.prog w = .ok (.bool false) w := by
  rw [run_neq_struct, run_equal_agent 9997]; rfl
/-- A signature and its like. -/
theorem eq_agents (A B : Option Addr) (n m ca cb : Nat) (L : List (ByteArray × Int)) (w : World) (hn : n = L.length) (hm : m = L.length) (hl : L.length ≤ 100000) (HA : Hid (AgRd w A L)) (HB : Hid (AgRd w B L)) :
    Calls Tryd.prog 31 #[.slice A n ca, .slice B m cb] w fun e w' => e = .returned (.bool true) ∧ Below w.heap.size w w' := by
  subst hn hm
  have hq := run_neq_agent
  go_enter Tryd.func31, Tryd.ntmps31
  go_wp2
  go_loopw [5] (fun i wr => ∃ j : Nat, i = .int .i64 j ∧ j ≤ L.length ∧ Hid (Below w.heap.size w wr)) (fun i _ => L.length - (intOf i).toNat)
  case atStart => exact ⟨0, rfl, by omega, Below.refl _ _⟩
  case round =>
    obtain ⟨j, rfl, hj, hbw⟩ := hrel
    by_cases hlt : j < L.length
    · obtain ⟨b, off, rfl, hb, e0, e1⟩ := HA.out j hlt
      obtain ⟨b2, off2, rfl, hb2, g0, g1⟩ := HB.out j hlt
      have c0 := (hbw.out.cell (p := ⟨b, off + j * 2, none⟩) hb).trans e0
      have c1 := (hbw.out.cell (p := ⟨b, off + j * 2 + 1, none⟩) hb).trans e1
      have d0 := (hbw.out.cell (p := ⟨b2, off2 + j * 2, none⟩) hb2).trans g0
      have d1 := (hbw.out.cell (p := ⟨b2, off2 + j * 2 + 1, none⟩) hb2).trans g1
      clear e0 e1 g0 g1
      generalize agN L j = s at c0 d0
      generalize agA L j = x at c1 d1
      go_wp2_with fail
      go_quiet (fail)
      go_wp2
      go_roundw
      case rel => exact ⟨j + 1, by go_num, by omega, below_drewN hbw.out _⟩
      case measure => simp [intOf]; omega
    · go_wp2
      go_ret
      exact ⟨rfl, hbw.out⟩
end Go.Proofs.YtkonfogebepccaaDoor
