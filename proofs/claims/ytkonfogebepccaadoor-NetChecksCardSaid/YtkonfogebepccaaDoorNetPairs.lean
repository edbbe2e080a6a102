/-
  Contract of net.Pairs.
-/
import Derived.Test.YtkonfogebepccaaDoorNetTop
import Derived.Test.YtkonfogebepccaaDoorRef03N
namespace Go.Proofs.YtkonfogebepccaaDoor
open Go.RowKit Go.Shelf
attribute [local go_sem] cell_set
set_option maxRecDepth 100000
set_option linter.unusedVariables false

def isPair (w : Pt × Pt) : Bool := decide (0 ≤ w.1.1 ∧ w.1.2 = 0 ∧ w.2.2 = 0 ∧ w.1.1 ≠ w.2.1)
def pairsOf (W : List (Pt × Pt)) : List Pt := W.filterMap fun w => if isPair w then some (w.1.1, w.2.1) else none
theorem pairsOf_succ {W : List (Pt × Pt)} {k : Nat} (hk : k < W.length) : pairsOf (W.take (k + 1)) = pairsOf (W.take k) ++ (if isPair (W.getD k default) then [((W.getD k default).1.1, (W.getD k default).2.1)] else []) := by
  unfold pairsOf
  rw [take_succ_getD hk, List.filterMap_append]
  congr 1
  by_cases h : isPair (W.getD k default)
  · rw [if_pos h, List.filterMap_cons, if_pos h]; rfl
  · rw [if_neg h, List.filterMap_cons, if_neg h]; rfl
theorem pair_info : (Tryd.prog.info? 35).map (fun i => (i.zero, i.size, i.bytes)) = some (some (.agg #[.int .i64 0, .int .i64 0]), 2, 16) := by kernel_rfl

section
variable (A : Option Addr) (n cap : Nat) (L : List (ByteArray × Int)) (VA VB : Option Addr) (ca cb : Nat) (cells : List Int) (free : Int) (W : List (Pt × Pt)) (w : World)
set_option maxHeartbeats 400000 in
theorem net_pairs_bad (hn : n = L.length) (hcap : L.length ≤ cap) (HL : Hid (AgRd w A L)) (hl : L.length ≤ maxLen) (HC : Hid (IntsRd w VA cells)) (HW : Hid (WrRd w VB W)) (hc : cells.length ≤ 10000) (hw : W.length ≤ 40000)
    (hk : (netChk (pnL L) L.length (chk L) cells free W).1 ≠ 0) :
    Calls Tryd.prog 28 #[.slice A n cap, netV VA ca cells free VB cb W] w fun e w' => e = .returned (.tuple #[.slice none 0 0, .int .i64 (netChk (pnL L) L.length (chk L) cells free W).1]) ∧ Below w.heap.size w w' := by
  subst hn
  have hbA : ∀ o : Obj, Below w.heap.size w (w.alloc o) := fun o => (Below.refl _ _).alloc (Nat.le_refl _) o
  have HK := Lib.hid hk
  have hkb : ((netChk (pnL L) L.length (chk L) cells free W).1 != 0) = true := by simpa using hk
  have HT : Hid (∀ Z, Below w.heap.size w Z → Calls Tryd.prog 27 #[.slice A L.length cap, netV VA ca cells free VB cb W] Z fun e w' => e = .returned (.tuple #[netV none 0 [] 0 none 0 [], .int .i64 (netChk (pnL L) L.length (chk L) cells free W).1]) ∧ Below Z.heap.size Z w') := fun Z hz =>
    net_tidy_bad A _ cap L VA VB ca cb cells free W Z rfl hcap (Lib.hid (HL.out.below hz)) hl (Lib.hid (HC.out.below hz)) (Lib.hid (HW.out.below hz)) hc hw HK.out
  clear hk
  generalize (netChk (pnL L) L.length (chk L) cells free W).1 = K at hkb HT
  go_enter Tryd.func28, Tryd.ntmps28
  go_wp2_with (go_at_call 27; refine (HT.out _ (hbA _)).mono ?_; rintro e w1 ⟨rfl, hb1⟩; have HB1 : Hid (Below w.heap.size w w1) := (hbA _).trans (hb1.mono (by simp)))
  go_ret2
  exact ⟨rfl, by have hsz := HB1.out.size; have := HB1.out; (repeat (first | exact Below.refl _ _ | (with_reducible refine Below.drew ?_) | (with_reducible refine Below.alloc ?_ (by (try simp); (try omega)) _) | (with_reducible refine Below.setCell ?_ (by (try simp); (try omega)) _) | (with_reducible refine Below.trans ?_ (Below.mono (by assumption) (by (try simp); (try omega))))))⟩
set_option maxHeartbeats 2000000 in
theorem net_pairs_ok (hn : n = L.length) (hcap : L.length ≤ cap) (HL : Hid (AgRd w A L)) (hl : L.length ≤ maxLen) (HC : Hid (IntsRd w VA cells)) (HW : Hid (WrRd w VB W)) (hc : cells.length ≤ 10000) (hw : W.length ≤ 40000)
    (hk : (netChk (pnL L) L.length (chk L) cells free W).1 = 0) :
    Calls Tryd.prog 28 #[.slice A n cap, netV VA ca cells free VB cb W] w fun e w' => ∃ V c, e = .returned (.tuple #[.slice V (pairsOf (tidyW (allPs (pnL L) cells free.toNat) W)).length c, .int .i64 0]) ∧ Fresh w w' 35 2 (pairsOf (tidyW (allPs (pnL L) cells free.toNat) W)).length (.slice V (pairsOf (tidyW (allPs (pnL L) cells free.toNat) W)).length c) (pvals (pairsOf (tidyW (allPs (pnL L) cells free.toNat) W))) := by
  subst hn
  have hbA : ∀ o : Obj, Below w.heap.size w (w.alloc o) := fun o => (Below.refl _ _).alloc (Nat.le_refl _) o
  have HT : Hid (∀ Z, Below w.heap.size w Z → Calls Tryd.prog 27 #[.slice A L.length cap, netV VA ca cells free VB cb W] Z fun e w' => ∃ V1 c1 V2 c2, e = .returned (.tuple #[netV V1 c1 cells free V2 c2 (tidyW (allPs (pnL L) cells free.toNat) W), .int .i64 0]) ∧ NetFresh Z w' V1 c1 cells V2 c2 (tidyW (allPs (pnL L) cells free.toNat) W)) := fun Z hz =>
    net_tidy_ok A _ cap L VA VB ca cb cells free W Z rfl hcap (Lib.hid (HL.out.below hz)) hl (Lib.hid (HC.out.below hz)) (Lib.hid (HW.out.below hz)) hc hw hk
  have htl : (tidyW (allPs (pnL L) cells free.toNat) W).length ≤ 40000 := by
    obtain ⟨hz, hc4, hf0, hf64, hag, hok⟩ := netChk_ok hk
    have h1 : (tidyW (allPs (pnL L) cells free.toNat) W).length ≤ (allPs (pnL L) cells free.toNat).length := List.length_filterMap_le _ _
    rw [allPs_len] at h1
    have := firstN_le (pnL_le (chk_sig hz)) cells free.toNat cells.length
    omega
  obtain ⟨i0, hi0, hi1, hi2, hi3⟩ := info_parts pair_info
  clear hk
  generalize tidyW (allPs (pnL L) cells free.toNat) W = T at HT htl
  go_enter Tryd.func28, Tryd.ntmps28
  go_wp2_with fail
  refine (HT.out _ (hbA _)).mono ?_
  rintro e w1 ⟨V1, c1, V2, c2, rfl, hnf⟩
  have HB1 : Hid (Below w.heap.size w w1) := (hbA _).trans (hnf.1.2.2.mono (by simp))
  have HT1 : Hid (WrRd w1 V2 T) := hnf.2.1.wires
  clear hnf HT
  go_wp2_with fail
  refine absW (fun X => Below w1.heap.size w1 X) ((Below.refl _ _).alloc (Nat.le_refl _) _) ?_
  rintro X hbX
  have HX := Lib.hid hbX
  clear hbX
  go_loopw [8, 10, 23] (fun l _ i wr => ∃ k : Nat, ∃ V c, i = .int .i64 k ∧ k ≤ T.length ∧ l = .slice V (pairsOf (T.take k)).length c ∧ Hid (Fresh X wr 35 2 (pairsOf (T.take k)).length (.slice V (pairsOf (T.take k)).length c) (pvals (pairsOf (T.take k))))) (fun _ _ i _ => T.length - (intOf i).toNat)
  case atStart => exact ⟨0, none, 0, rfl, by omega, rfl, Lib.hid (Fresh.nil _ _ _)⟩
  case round =>
    obtain ⟨k, V, c, rfl, hk, rfl, HF⟩ := hrel
    have HBr : Hid (Below w1.heap.size w1 wr) := HX.out.trans (HF.out.2.2.mono HX.out.size)
    by_cases hlt : k < T.length
    · obtain ⟨b, off, rfl, hb, e0, e1, e2, e3⟩ := HT1.out k hlt
      have d0 := (HBr.out.cell (p := ⟨b, off + k * 4, none⟩) hb).trans e0
      have d1 := (HBr.out.cell (p := ⟨b, off + k * 4 + 1, none⟩) hb).trans e1
      have d2 := (HBr.out.cell (p := ⟨b, off + k * 4 + 2, none⟩) hb).trans e2
      have d3 := (HBr.out.cell (p := ⟨b, off + k * 4 + 3, none⟩) hb).trans e3
      clear e0 e1 e2 e3
      have hsn := pairsOf_succ hlt
      have hpl : (pairsOf (T.take k)).length ≤ 40000 := by
        have h1 : (pairsOf (T.take k)).length ≤ (T.take k).length := List.length_filterMap_le _ _
        have h2 : (T.take k).length ≤ k := List.length_take_le _ _
        omega
      generalize T.getD k default = x at d0 d1 d2 d3 hsn
      obtain ⟨⟨x0, x1⟩, y0, y1⟩ := x
      have HSn := Lib.hid hsn
      clear hsn
      cases hp : isPair ((x0, x1), (y0, y1))
      · have hsn2 : pairsOf (T.take (k + 1)) = pairsOf (T.take k) := by have := HSn.out; rw [hp] at this; simpa using this
        have HSn2 := Lib.hid hsn2
        clear hsn2
        have hp2 : x0 < 0 ∨ (0 ≤ x0 ∧ x1 ≠ 0) ∨ (0 ≤ x0 ∧ x1 = 0 ∧ y1 ≠ 0) ∨ (0 ≤ x0 ∧ x1 = 0 ∧ y1 = 0 ∧ x0 = y0) := by
          unfold isPair at hp; simp only [decide_eq_false_iff_not] at hp; omega
        clear hp HSn
        rcases hp2 with h | ⟨h, h2⟩ | ⟨h, h2, h3⟩ | ⟨h, h2, h3, h4⟩
        · have b1 : decide (0 ≤ x0) = false := by simpa using h
          go_wp2
          go_roundw
          case rel => exact ⟨k + 1, V, c, by go_num, by omega, by rw [HSn2.out], by rw [HSn2.out]; exact HF.out.later ((Below.refl _ _).alloc (Nat.le_refl _) _)⟩
          case measure => simp [intOf]; omega
        · have b1 : decide (0 ≤ x0) = true := by simpa using h
          have b2 : (x1 == 0) = false := by simpa using h2
          go_wp2
          go_roundw
          case rel => exact ⟨k + 1, V, c, by go_num, by omega, by rw [HSn2.out], by rw [HSn2.out]; exact HF.out.later ((Below.refl _ _).alloc (Nat.le_refl _) _)⟩
          case measure => simp [intOf]; omega
        · have b1 : decide (0 ≤ x0) = true := by simpa using h
          have b2 : (x1 == 0) = true := by simpa using h2
          have b3 : (y1 == 0) = false := by simpa using h3
          clear h2
          go_wp2
          go_roundw
          case rel => exact ⟨k + 1, V, c, by go_num, by omega, by rw [HSn2.out], by rw [HSn2.out]; exact HF.out.later ((Below.refl _ _).alloc (Nat.le_refl _) _)⟩
          case measure => simp [intOf]; omega
        · have b1 : decide (0 ≤ x0) = true := by simpa using h
          have b2 : (x1 == 0) = true := by simpa using h2
          have b3 : (y1 == 0) = true := by simpa using h3
          have b4 : (x0 != y0) = false := by simpa using h4
          clear h2 h3 h4
          go_wp2
          go_roundw
          case rel => exact ⟨k + 1, V, c, by go_num, by omega, by rw [HSn2.out], by rw [HSn2.out]; exact HF.out.later ((Below.refl _ _).alloc (Nat.le_refl _) _)⟩
          case measure => simp [intOf]; omega
      · have hsn2 : pairsOf (T.take (k + 1)) = pairsOf (T.take k) ++ [(x0, y0)] := by have := HSn.out; rw [hp] at this; simpa using this
        have HSn2 := Lib.hid hsn2
        clear hsn2
        have hp2 : 0 ≤ x0 ∧ x1 = 0 ∧ y1 = 0 ∧ x0 ≠ y0 := by unfold isPair at hp; simpa using hp
        obtain ⟨h, h2, h3, h4⟩ := hp2
        have b1 : decide (0 ≤ x0) = true := by simpa using h
        have b2 : (x1 == 0) = true := by simpa using h2
        have b3 : (y1 == 0) = true := by simpa using h3
        have b4 : (x0 != y0) = true := by simpa using h4
        generalize pairsOf (T.take k) = ps at *
        have HRow : Hid (Row ((wr.alloc (.cells #[.int .i64 x0, .int .i64 x1, .int .i64 y0, .int .i64 y1] 108)).alloc (.cells #[.int .i64 x0, .int .i64 y0] 35)) 35 2 (.slice V ps.length c) ps.length (pvals ps)) := (HF.out.1.alloc _).alloc _
        have HSrc : Hid (Src ((wr.alloc (.cells #[.int .i64 x0, .int .i64 x1, .int .i64 y0, .int .i64 y1] 108)).alloc (.cells #[.int .i64 x0, .int .i64 y0] 35)) (some ⟨wr.heap.size + 1, 0, none⟩) 1 2 [.int .i64 x0, .int .i64 y0]) :=
          Src.block (cs := #[.int .i64 x0, .int .i64 y0]) (t := 35) (fr := (0, 0)) (by have := heap_alloc_new (wr.alloc (.cells #[.int .i64 x0, .int .i64 x1, .int .i64 y0, .int .i64 y1] 108)) (.cells #[.int .i64 x0, .int .i64 y0] 35); rw [World.size_alloc] at this; exact this) rfl (by simp [Value.oneCell'])
        have HB63 : ps.length + 1 ≤ maxLen := by simp only [maxLen]; omega
        have HB47 : (ps.length + 1) * 16 ≤ 140737488355328 := by omega
        have HF2 : Hid (Fresh X (wr.alloc (.cells #[.int .i64 x0, .int .i64 x1, .int .i64 y0, .int .i64 y1] 108)) 35 2 ps.length (.slice V ps.length c) (pvals ps)) := HF.out.later ((Below.refl _ _).alloc (Nat.le_refl _) _)
        clear hp h2 h3 h4 HSn
        go_wp2_with (at_builtin; go_loud (refine inPlain rfl (wpo_row_append _ _ _ rfl i0 _ 16 Tryd.underlying27 hi0 hi1 hi2 hi3 rfl rfl HRow.out _ 1 1 rfl [.int .i64 x0, .int .i64 y0] HSrc.out HB63 HB47 ?_)); intro sv5 w5 r5 k5 o5; obtain ⟨V5, cp5, rfl, hc5⟩ := r5.len
                     go_loud (have F5 : Hid (Fresh X w5 35 2 (ps.length + 1) (.slice V5 (ps.length + 1) cp5) (pvals (ps ++ [(x0, y0)]))) := by rw [pvals_snoc]; exact HF2.out.app k5 o5 r5))
        go_roundw
        case rel => exact ⟨k + 1, V5, cp5, by go_num, by omega, by rw [HSn2.out, List.length_append]; rfl, by rw [HSn2.out, List.length_append]; exact F5⟩
        case measure => simp [intOf]; omega
    · obtain rfl : k = T.length := by omega
      rw [List.take_length] at HF ⊢
      go_wp2
      go_ret2
      exact ⟨V, c, rfl, HF.out.from (HB1.out.trans (HX.out.mono HB1.out.size))⟩
end
end Go.Proofs.YtkonfogebepccaaDoor
