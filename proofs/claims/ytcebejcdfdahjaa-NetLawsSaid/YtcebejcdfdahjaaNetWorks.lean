/-
  Contract of skeinlaw03.works.
-/
import Derived.Test.YtcebejcdfdahjaaNetTop
import Derived.Test.YtcebejcdfdahjaaRef03N
import Derived.Test.YtcebejcdfdahjaaEqN
import Derived.Deep.Cut
/-
  Contract of net.Pairs.
-/
namespace Go.Proofs.Ytcebejcdfdahjaa
open Go.RowKit Go.Shelf
attribute [local go_sem] cell_set
set_option maxRecDepth 100000
set_option linter.unusedVariables false

def isPair (w : Pt × Pt) : Bool := decide (0 ≤ w.1.1 ∧ w.1.2 = 0 ∧ w.2.2 = 0 ∧ w.1.1 ≠ w.2.1)
def pairsOf (W : List (Pt × Pt)) : List Pt := W.filterMap fun w => if isPair w then some (w.1.1, w.2.1) else none
theorem pairsOf_succ {W : List (Pt × Pt)} {k : Nat} (hk : k < W.length) : pairsOf (W.take (k + 1)) = pairsOf (W.take k) ++ (if isPair (W.getD k default) then [((W.getD k default).1.1, (W.getD k default).2.1)] else []) := by
  unfold pairsOf
  rw [take_succ_getD hk, List.filterMap_append]
  congr 1
  by_cases h : isPair (W.getD k default)
  · rw [if_pos h, List.filterMap_cons, if_pos h]; rfl
  · rw [if_neg h, List.filterMap_cons, if_neg h]; rfl
theorem pair_info : (Try.prog.info? 99).map (fun i => (i.zero, i.size, i.bytes)) = some (some (.agg #[.int .i64 0, .int .i64 0]), 2, 16) := by kernel_rfl

section
variable (A : Option Addr) (n cap : Nat) (L : List (ByteArray × Int)) (VA VB : Option Addr) (ca cb : Nat) (cells : List Int) (free : Int) (W : List (Pt × Pt)) (w : World)
set_option maxHeartbeats 400000 in
theorem net_pairs_bad (hn : n = L.length) (hcap : L.length ≤ cap) (HL : Hid (AgRd w A L)) (hl : L.length ≤ maxLen) (HC : Hid (IntsRd w VA cells)) (HW : Hid (WrRd w VB W)) (hc : cells.length ≤ 10000) (hw : W.length ≤ 40000)
    (hk : (netChk (pnL L) L.length (chk L) cells free W).1 ≠ 0) :
    Calls Try.prog 60 #[.slice A n cap, netV VA ca cells free VB cb W] w fun e w' => e = .returned (.tuple #[.slice none 0 0, .int .i64 (netChk (pnL L) L.length (chk L) cells free W).1]) ∧ Below w.heap.size w w' := by
  subst hn
  have hbA : ∀ o : Obj, Below w.heap.size w (w.alloc o) := fun o => (Below.refl _ _).alloc (Nat.le_refl _) o
  have HK := Lib.hid hk
  have hkb : ((netChk (pnL L) L.length (chk L) cells free W).1 != 0) = true := by simpa using hk
  have HT : Hid (∀ Z, Below w.heap.size w Z → Calls Try.prog 54 #[.slice A L.length cap, netV VA ca cells free VB cb W] Z fun e w' => e = .returned (.tuple #[netV none 0 [] 0 none 0 [], .int .i64 (netChk (pnL L) L.length (chk L) cells free W).1]) ∧ Below Z.heap.size Z w') := fun Z hz =>
    net_tidy_bad A _ cap L VA VB ca cb cells free W Z rfl hcap (Lib.hid (HL.out.below hz)) hl (Lib.hid (HC.out.below hz)) (Lib.hid (HW.out.below hz)) hc hw HK.out
  clear hk
  generalize (netChk (pnL L) L.length (chk L) cells free W).1 = K at hkb HT
  go_enter Try.func60, Try.ntmps60
  go_wp2_with (go_at_call 54; refine (HT.out _ (hbA _)).mono ?_; rintro e w1 ⟨rfl, hb1⟩; have HB1 : Hid (Below w.heap.size w w1) := (hbA _).trans (hb1.mono (by simp)))
  go_ret2
  exact ⟨rfl, by have hsz := HB1.out.size; have := HB1.out; (repeat (first | exact Below.refl _ _ | (with_reducible refine Below.drew ?_) | (with_reducible refine Below.alloc ?_ (by (try simp); (try omega)) _) | (with_reducible refine Below.setCell ?_ (by (try simp); (try omega)) _) | (with_reducible refine Below.trans ?_ (Below.mono (by assumption) (by (try simp); (try omega))))))⟩
set_option maxHeartbeats 2000000 in
theorem net_pairs_ok (hn : n = L.length) (hcap : L.length ≤ cap) (HL : Hid (AgRd w A L)) (hl : L.length ≤ maxLen) (HC : Hid (IntsRd w VA cells)) (HW : Hid (WrRd w VB W)) (hc : cells.length ≤ 10000) (hw : W.length ≤ 40000)
    (hk : (netChk (pnL L) L.length (chk L) cells free W).1 = 0) :
    Calls Try.prog 60 #[.slice A n cap, netV VA ca cells free VB cb W] w fun e w' => ∃ V c, e = .returned (.tuple #[.slice V (pairsOf (tidyW (allPs (pnL L) cells free.toNat) W)).length c, .int .i64 0]) ∧ Fresh w w' 99 2 (pairsOf (tidyW (allPs (pnL L) cells free.toNat) W)).length (.slice V (pairsOf (tidyW (allPs (pnL L) cells free.toNat) W)).length c) (pvals (pairsOf (tidyW (allPs (pnL L) cells free.toNat) W))) := by
  subst hn
  have hbA : ∀ o : Obj, Below w.heap.size w (w.alloc o) := fun o => (Below.refl _ _).alloc (Nat.le_refl _) o
  have HT : Hid (∀ Z, Below w.heap.size w Z → Calls Try.prog 54 #[.slice A L.length cap, netV VA ca cells free VB cb W] Z fun e w' => ∃ V1 c1 V2 c2, e = .returned (.tuple #[netV V1 c1 cells free V2 c2 (tidyW (allPs (pnL L) cells free.toNat) W), .int .i64 0]) ∧ NetFresh Z w' V1 c1 cells V2 c2 (tidyW (allPs (pnL L) cells free.toNat) W)) := fun Z hz =>
    net_tidy_ok A _ cap L VA VB ca cb cells free W Z rfl hcap (Lib.hid (HL.out.below hz)) hl (Lib.hid (HC.out.below hz)) (Lib.hid (HW.out.below hz)) hc hw hk
  have htl : (tidyW (allPs (pnL L) cells free.toNat) W).length ≤ 40000 := by
    obtain ⟨hz, hc4, hf0, hf64, hag, hok⟩ := netChk_ok hk
    have h1 : (tidyW (allPs (pnL L) cells free.toNat) W).length ≤ (allPs (pnL L) cells free.toNat).length := List.length_filterMap_le _ _
    rw [allPs_len] at h1
    have := firstN_le (pnL_le (chk_sig hz)) cells free.toNat cells.length
    omega
  obtain ⟨i0, hi0, hi1, hi2, hi3⟩ := info_parts pair_info
  clear hk
  generalize tidyW (allPs (pnL L) cells free.toNat) W = T at HT htl
  go_enter Try.func60, Try.ntmps60
  go_wp2_with fail
  refine (HT.out _ (hbA _)).mono ?_
  rintro e w1 ⟨V1, c1, V2, c2, rfl, hnf⟩
  have HB1 : Hid (Below w.heap.size w w1) := (hbA _).trans (hnf.1.2.2.mono (by simp))
  have HT1 : Hid (WrRd w1 V2 T) := hnf.2.1.wires
  clear hnf HT
  go_wp2_with fail
  refine absW (fun X => Below w1.heap.size w1 X) ((Below.refl _ _).alloc (Nat.le_refl _) _) ?_
  rintro X hbX
  have HX := Lib.hid hbX
  clear hbX
  go_loopw [8, 10, 23] (fun l _ i wr => ∃ k : Nat, ∃ V c, i = .int .i64 k ∧ k ≤ T.length ∧ l = .slice V (pairsOf (T.take k)).length c ∧ Hid (Fresh X wr 99 2 (pairsOf (T.take k)).length (.slice V (pairsOf (T.take k)).length c) (pvals (pairsOf (T.take k))))) (fun _ _ i _ => T.length - (intOf i).toNat)
  case atStart => exact ⟨0, none, 0, rfl, by omega, rfl, Lib.hid (Fresh.nil _ _ _)⟩
  case round =>
    obtain ⟨k, V, c, rfl, hk, rfl, HF⟩ := hrel
    have HBr : Hid (Below w1.heap.size w1 wr) := HX.out.trans (HF.out.2.2.mono HX.out.size)
    by_cases hlt : k < T.length
    · obtain ⟨b, off, rfl, hb, e0, e1, e2, e3⟩ := HT1.out k hlt
      have d0 := (HBr.out.cell (p := ⟨b, off + k * 4, none⟩) hb).trans e0
      have d1 := (HBr.out.cell (p := ⟨b, off + k * 4 + 1, none⟩) hb).trans e1
      have d2 := (HBr.out.cell (p := ⟨b, off + k * 4 + 2, none⟩) hb).trans e2
      have d3 := (HBr.out.cell (p := ⟨b, off + k * 4 + 3, none⟩) hb).trans e3
      clear e0 e1 e2 e3
      have hsn := pairsOf_succ hlt
      have hpl : (pairsOf (T.take k)).length ≤ 40000 := by
        have h1 : (pairsOf (T.take k)).length ≤ (T.take k).length := List.length_filterMap_le _ _
        have h2 : (T.take k).length ≤ k := List.length_take_le _ _
        omega
      generalize T.getD k default = x at d0 d1 d2 d3 hsn
      obtain ⟨⟨x0, x1⟩, y0, y1⟩ := x
      have HSn := Lib.hid hsn
      clear hsn
      cases hp : isPair ((x0, x1), (y0, y1))
      · have hsn2 : pairsOf (T.take (k + 1)) = pairsOf (T.take k) := by have := HSn.out; rw [hp] at this; simpa using this
        have HSn2 := Lib.hid hsn2
        clear hsn2
        have hp2 : x0 < 0 ∨ (0 ≤ x0 ∧ x1 ≠ 0) ∨ (0 ≤ x0 ∧ x1 = 0 ∧ y1 ≠ 0) ∨ (0 ≤ x0 ∧ x1 = 0 ∧ y1 = 0 ∧ x0 = y0) := by
          unfold isPair at hp; simp only [decide_eq_false_iff_not] at hp; omega
        clear hp HSn
        rcases hp2 with h | ⟨h, h2⟩ | ⟨h, h2, h3⟩ | ⟨h, h2, h3, h4⟩
        · have b1 : decide (0 ≤ x0) = false := by simpa using h
          go_wp2
          go_roundw
          case rel => exact ⟨k + 1, V, c, by go_num, by omega, by rw [HSn2.out], by rw [HSn2.out]; exact HF.out.later ((Below.refl _ _).alloc (Nat.le_refl _) _)⟩
          case measure => simp [intOf]; omega
        · have b1 : decide (0 ≤ x0) = true := by simpa using h
          have b2 : (x1 == 0) = false := by simpa using h2
          go_wp2
          go_roundw
          case rel => exact ⟨k + 1, V, c, by go_num, by omega, by rw [HSn2.out], by rw [HSn2.out]; exact HF.out.later ((Below.refl _ _).alloc (Nat.le_refl _) _)⟩
          case measure => simp [intOf]; omega
        · have b1 : decide (0 ≤ x0) = true := by simpa using h
          have b2 : (x1 == 0) = true := by simpa using h2
          have b3 : (y1 == 0) = false := by simpa using h3
          clear h2
          go_wp2
          go_roundw
          case rel => exact ⟨k + 1, V, c, by go_num, by omega, by rw [HSn2.out], by rw [HSn2.out]; exact HF.out.later ((Below.refl _ _).alloc (Nat.le_refl _) _)⟩
          case measure => simp [intOf]; omega
        · have b1 : decide (0 ≤ x0) = true := by simpa using h
          have b2 : (x1 == 0) = true := by simpa using h2
          have b3 : (y1 == 0) = true := by simpa using h3
          have b4 : (x0 != y0) = false := by simpa using h4
          clear h2 h3 h4
          go_wp2
          go_roundw
          case rel => exact ⟨k + 1, V, c, by go_num, by omega, by rw [HSn2.out], by rw [HSn2.out]; exact HF.out.later ((Below.refl _ _).alloc (Nat.le_refl _) _)⟩
          case measure => simp [intOf]; omega
      · have hsn2 : pairsOf (T.take (k + 1)) = pairsOf (T.take k) ++ [(x0, y0)] := by have := HSn.out; rw [hp] at this; simpa using this
        have HSn2 := Lib.hid hsn2
        clear hsn2
        have hp2 : 0 ≤ x0 ∧ x1 = 0 ∧ y1 = 0 ∧ x0 ≠ y0 := by unfold isPair at hp; simpa using hp
        obtain ⟨h, h2, h3, h4⟩ := hp2
        have b1 : decide (0 ≤ x0) = true := by simpa using h
        have b2 : (x1 == 0) = true := by simpa using h2
        have b3 : (y1 == 0) = true := by simpa using h3
        have b4 : (x0 != y0) = true := by simpa using h4
        generalize pairsOf (T.take k) = ps at *
        have HRow : Hid (Row ((wr.alloc (.cells #[.int .i64 x0, .int .i64 x1, .int .i64 y0, .int .i64 y1] 90)).alloc (.cells #[.int .i64 x0, .int .i64 y0] 99)) 99 2 (.slice V ps.length c) ps.length (pvals ps)) := (HF.out.1.alloc _).alloc _
        have HSrc : Hid (Src ((wr.alloc (.cells #[.int .i64 x0, .int .i64 x1, .int .i64 y0, .int .i64 y1] 90)).alloc (.cells #[.int .i64 x0, .int .i64 y0] 99)) (some ⟨wr.heap.size + 1, 0, none⟩) 1 2 [.int .i64 x0, .int .i64 y0]) :=
          Src.block (cs := #[.int .i64 x0, .int .i64 y0]) (t := 99) (fr := (0, 0)) (by have := heap_alloc_new (wr.alloc (.cells #[.int .i64 x0, .int .i64 x1, .int .i64 y0, .int .i64 y1] 90)) (.cells #[.int .i64 x0, .int .i64 y0] 99); rw [World.size_alloc] at this; exact this) rfl (by simp [Value.oneCell'])
        have HB63 : ps.length + 1 ≤ maxLen := by simp only [maxLen]; omega
        have HB47 : (ps.length + 1) * 16 ≤ 140737488355328 := by omega
        have HF2 : Hid (Fresh X (wr.alloc (.cells #[.int .i64 x0, .int .i64 x1, .int .i64 y0, .int .i64 y1] 90)) 99 2 ps.length (.slice V ps.length c) (pvals ps)) := HF.out.later ((Below.refl _ _).alloc (Nat.le_refl _) _)
        clear hp h2 h3 h4 HSn
        go_wp2_with (at_builtin; go_loud (refine inPlain rfl (wpo_row_append _ _ _ rfl i0 _ 16 Try.underlying95 hi0 hi1 hi2 hi3 rfl rfl HRow.out _ 1 1 rfl [.int .i64 x0, .int .i64 y0] HSrc.out HB63 HB47 ?_)); intro sv5 w5 r5 k5 o5; obtain ⟨V5, cp5, rfl, hc5⟩ := r5.len
                     go_loud (have F5 : Hid (Fresh X w5 99 2 (ps.length + 1) (.slice V5 (ps.length + 1) cp5) (pvals (ps ++ [(x0, y0)]))) := by rw [pvals_snoc]; exact HF2.out.app k5 o5 r5))
        go_roundw
        case rel => exact ⟨k + 1, V5, cp5, by go_num, by omega, by rw [HSn2.out, List.length_append]; rfl, by rw [HSn2.out, List.length_append]; exact F5⟩
        case measure => simp [intOf]; omega
    · obtain rfl : k = T.length := by omega
      rw [List.take_length] at HF ⊢
      go_wp2
      go_ret2
      exact ⟨V, c, rfl, HF.out.from (HB1.out.trans (HX.out.mono HB1.out.size))⟩
end
end Go.Proofs.Ytcebejcdfdahjaa
/-
  Contracts of skeinref00.SizeAgents and skeinlaw03.much.
-/
namespace Go.Proofs.Ytcebejcdfdahjaa
open Go.RowKit
attribute [local go_sem] cell_set
set_option maxRecDepth 100000
set_option linter.unusedVariables false

def SomeI (w : World) (e : Ending) (w' : World) : Prop := ∃ m : Int, e = .returned (.int .i64 m) ∧ w = w'
set_option maxHeartbeats 400000 in
theorem size_agents (A : Option Addr) (n cap : Nat) (L : List (ByteArray × Int)) (w : World) (hn : n = L.length) (hl : L.length ≤ maxLen) (HL : Hid (AgRd w A L)) :
    Calls Try.prog 22 #[.slice A n cap] w (SomeI w) := by
  subst hn
  unfold maxLen at hl
  go_enter Try.func22, Try.ntmps22
  go_wp2
  go_loop [3, 4] (fun t i => ∃ k : Nat, ∃ m : Int, i = .int .i64 k ∧ k ≤ L.length ∧ t = .int .i64 m) (fun _ i => L.length - (intOf i).toNat)
  case atStart => exact ⟨0, _, rfl, by omega, rfl⟩
  case round =>
    obtain ⟨k, m, rfl, hk, rfl⟩ := hrel
    by_cases hlt : k < L.length
    · by_cases hm : m ≤ 2147483647
      · obtain ⟨b, off, rfl, hb, e0, e1⟩ := HL.out k hlt
        clear e1
        generalize agN L k = s at e0
        go_wp2
        go_round
        case rel => exact ⟨k + 1, _, by go_num, by omega, rfl⟩
        case measure => simp [intOf]; omega
      · go_wp2
        go_ret
        exact ⟨_, rfl, rfl⟩
    · go_wp2
      go_ret
      exact ⟨_, rfl, rfl⟩

def SomeB (P : Bool → Prop) (w : World) (e : Ending) (w' : World) : Prop := ∃ r : Bool, e = .returned (.bool r) ∧ P r ∧ Below w.heap.size w w'
set_option maxHeartbeats 400000 in
theorem much_is (A : Option Addr) (n cap : Nat) (L : List (ByteArray × Int)) (VA VB : Option Addr) (n1 n2 ca cb : Nat) (free : Int) (w : World) (hn : n = L.length) (hl : L.length ≤ maxLen) (HL : Hid (AgRd w A L)) (h1 : n1 ≤ maxLen) (h2 : n2 ≤ maxLen) :
    Calls Try.prog 11 #[.slice A n cap, .agg #[.slice VA n1 ca, .int .i64 free, .slice VB n2 cb]] w (SomeB (fun r => r = false → L.length ≤ 1024 ∧ n1 ≤ 8192 ∧ n2 ≤ 32768) w) := by
  subst hn
  have hbA : ∀ o : Obj, Below w.heap.size w (w.alloc o) := fun o => (Below.refl _ _).alloc (Nat.le_refl _) o
  unfold maxLen at hl h1 h2
  by_cases c1 : 1024 < L.length
  · go_enter Try.func11, Try.ntmps11
    go_wp2
    go_ret
    exact ⟨_, rfl, fun h => by simp at h, hbA _⟩
  · have HSz : Hid (∀ Z, Below w.heap.size w Z → Calls Try.prog 22 #[.slice A L.length cap] Z (SomeI Z)) := fun Z hz => size_agents A _ cap L Z rfl (by simp only [maxLen]; omega) (Lib.hid (HL.out.below hz))
    go_enter Try.func11, Try.ntmps11
    go_wp2_with fail
    refine (HSz.out _ (hbA _)).mono ?_
    rintro e w1 ⟨m, rfl, rfl⟩
    go_wp2_with fail
    refine (long_is m _).mono ?_
    rintro e w1 ⟨rfl, rfl⟩
    by_cases c2 : 2147483647 < m
    · have d2 : decide (2147483647 < m) = true := by simpa using c2
      rw [d2]
      go_wp2
      go_ret
      exact ⟨_, rfl, fun h => by simp at h, hbA _⟩
    · have d2 : decide (2147483647 < m) = false := by simpa using c2
      rw [d2]
      by_cases c3 : 8192 < n1
      · go_wp2
        go_ret
        exact ⟨_, rfl, fun h => by simp at h, hbA _⟩
      · go_wp2
        go_ret
        exact ⟨_, rfl, fun h => by simp at h; omega, hbA _⟩
end Go.Proofs.Ytcebejcdfdahjaa
namespace Go.Proofs.Ytcebejcdfdahjaa
open Go.RowKit
attribute [local go_sem] cell_set
attribute [local go_sem high] run_eql_wire
set_option maxRecDepth 100000
set_option linter.unusedVariables false

def L3 : List (ByteArray × Int) := [(⟨#[90]⟩, 0), (⟨#[83]⟩, 1)]
def W3 : List (Pt × Pt) := [((1, 0), (0, 0)), ((0, 1), (-1, 0))]
theorem chk3 : chk L3 = (0, 0) := by decide +kernel
theorem net3 : (netChk (pnL L3) L3.length (chk L3) [1, 0] 1 W3).1 = 0 := by decide +kernel
theorem tidy3 : tidyW (allPs (pnL L3) [1, 0] 1) W3 = [((-1, 0), (0, 1)), ((0, 0), (1, 0))] := by decide +kernel
theorem pairs3 : pairsOf [((-1, 0), (0, 1)), ((0, 0), (1, 0))] = [(0, 1)] := by decide +kernel
theorem ag_lit {w : World} {b : Nat} {c : Nat × Nat} (h : w.heap[b]? = some (.cells #[.string ⟨#[90]⟩, .int .i64 0, .string ⟨#[83]⟩, .int .i64 1] 94 c)) : AgRd w (some ⟨b, 0, none⟩) L3 := fun i hi => by
  have hi2 : i = 0 ∨ i = 1 := by simp [L3] at hi; omega
  refine ⟨b, 0, rfl, heap_lt h, ?_, ?_⟩ <;> rcases hi2 with rfl | rfl <;> simp [World.cell?, h, L3, agN, agA]
theorem ints_lit {w : World} {b : Nat} {c : Nat × Nat} (h : w.heap[b]? = some (.cells #[.int .i64 1, .int .i64 0] 3 c)) : IntsRd w (some ⟨b, 0, none⟩) [1, 0] := fun i hi => by
  have hi2 : i = 0 ∨ i = 1 := by simp at hi; omega
  refine ⟨b, 0, rfl, heap_lt h, ?_⟩
  rcases hi2 with rfl | rfl <;> simp [World.cell?, h]
theorem wires_lit {w : World} {b : Nat} {c : Nat × Nat} (h : w.heap[b]? = some (.cells #[.int .i64 1, .int .i64 0, .int .i64 0, .int .i64 0, .int .i64 0, .int .i64 1, .int .i64 (-1), .int .i64 0] 90 c)) : WrRd w (some ⟨b, 0, none⟩) W3 := fun i hi => by
  have hi2 : i = 0 ∨ i = 1 := by simp [W3] at hi; omega
  refine ⟨b, 0, rfl, heap_lt h, ?_, ?_, ?_, ?_⟩ <;> rcases hi2 with rfl | rfl <;> simp [World.cell?, h, W3]

theorem heap4 (w : World) (a b c d : Obj) : ((((w.alloc a).alloc b).alloc c).alloc d).heap[w.heap.size]? = some a ∧ ((((w.alloc a).alloc b).alloc c).alloc d).heap[w.heap.size + 1]? = some b ∧ ((((w.alloc a).alloc b).alloc c).alloc d).heap[w.heap.size + 2]? = some c ∧ ((((w.alloc a).alloc b).alloc c).alloc d).heap[w.heap.size + 3]? = some d := by
  have e1 := heap_alloc_new w a
  have e2 := heap_alloc_new (w.alloc a) b
  have e3 := heap_alloc_new ((w.alloc a).alloc b) c
  have e4 := heap_alloc_new (((w.alloc a).alloc b).alloc c) d
  simp only [World.size_alloc, Nat.add_assoc, Nat.reduceAdd] at e2 e3 e4
  refine ⟨?_, ?_, ?_, e4⟩
  · exact (Below.heap_alloc _ _ _ (by simp <;> omega)).trans ((Below.heap_alloc _ _ _ (by simp <;> omega)).trans ((Below.heap_alloc _ _ _ (by simp <;> omega)).trans e1))
  · exact (Below.heap_alloc _ _ _ (by simp <;> omega)).trans ((Below.heap_alloc _ _ _ (by simp <;> omega)).trans e2)
  · exact (Below.heap_alloc _ _ _ (by simp <;> omega)).trans e3
/-- The net of 'works' lies in memory. -/
def Lit3 (b : Nat) (X : World) : Prop := X.heap[b]? = some (.cells #[.string ⟨#[90]⟩, .int .i64 0, .string ⟨#[83]⟩, .int .i64 1] 94 (0, 0)) ∧ X.heap[b + 1]? = some (.cells #[.int .i64 1, .int .i64 0] 3 (0, 0)) ∧
  X.heap[b + 2]? = some (.cells #[.int .i64 1, .int .i64 0, .int .i64 0, .int .i64 0, .int .i64 0, .int .i64 1, .int .i64 (-1), .int .i64 0] 90 (0, 0)) ∧ X.heap[b + 3]? = some (.cells #[.slice (some ⟨b + 1, 0, none⟩) 2 2, .int .i64 1, .slice (some ⟨b + 2, 0, none⟩) 2 2] 26 (0, 0))
theorem Lit3.below {b : Nat} {X X' : World} (h : Lit3 b X) (hb : Below X.heap.size X X') : Lit3 b X' :=
  ⟨(hb.block _ (heap_lt h.1)).trans h.1, (hb.block _ (heap_lt h.2.1)).trans h.2.1, (hb.block _ (heap_lt h.2.2.1)).trans h.2.2.1, (hb.block _ (heap_lt h.2.2.2)).trans h.2.2.2⟩
theorem lit3_tidy {b : Nat} {X : World} (h : Lit3 b X) : Calls Try.prog 54 #[.slice (some ⟨b, 0, none⟩) 2 2, .agg #[.slice (some ⟨b + 1, 0, none⟩) 2 2, .int .i64 1, .slice (some ⟨b + 2, 0, none⟩) 2 2]] X fun e w' => ∃ V1 c1 V2 c2, e = .returned (.tuple #[.agg #[.slice V1 2 c1, .int .i64 1, .slice V2 2 c2], .int .i64 0]) ∧ WrRd w' V2 [((-1, 0), (0, 1)), ((0, 0), (1, 0))] ∧ Below X.heap.size X w' := by
  refine (net_tidy_ok (some ⟨b, 0, none⟩) 2 2 L3 (some ⟨b + 1, 0, none⟩) (some ⟨b + 2, 0, none⟩) 2 2 [1, 0] 1 W3 X rfl (by decide) (Lib.hid (ag_lit h.1)) (by decide) (Lib.hid (ints_lit h.2.1)) (Lib.hid (wires_lit h.2.2.1)) (by decide) (by decide) net3).mono ?_
  rintro e w' ⟨V1, c1, V2, c2, rfl, hnf⟩
  have ht : tidyW (allPs (pnL L3) [1, 0] (1 : Int).toNat) W3 = [((-1, 0), (0, 1)), ((0, 0), (1, 0))] := tidy3
  rw [ht] at hnf ⊢
  exact ⟨V1, c1, V2, c2, rfl, hnf.2.1.wires, hnf.1.2.2⟩
theorem lit3_pairs {b : Nat} {X : World} (h : Lit3 b X) : Calls Try.prog 60 #[.slice (some ⟨b, 0, none⟩) 2 2, .agg #[.slice (some ⟨b + 1, 0, none⟩) 2 2, .int .i64 1, .slice (some ⟨b + 2, 0, none⟩) 2 2]] X fun e w' => ∃ V c, e = .returned (.tuple #[.slice V 1 c, .int .i64 0]) ∧ (∃ g, V = some ⟨g, 0, none⟩ ∧ w'.cell? ⟨g, 0, none⟩ = some (.int .i64 0) ∧ w'.cell? ⟨g, 1, none⟩ = some (.int .i64 1)) ∧ Below X.heap.size X w' := by
  refine (net_pairs_ok (some ⟨b, 0, none⟩) 2 2 L3 (some ⟨b + 1, 0, none⟩) (some ⟨b + 2, 0, none⟩) 2 2 [1, 0] 1 W3 X rfl (by decide) (Lib.hid (ag_lit h.1)) (by decide) (Lib.hid (ints_lit h.2.1)) (Lib.hid (wires_lit h.2.2.1)) (by decide) (by decide) net3).mono ?_
  rintro e w' ⟨V, c, rfl, hf⟩
  have ht : pairsOf (tidyW (allPs (pnL L3) [1, 0] (1 : Int).toNat) W3) = [(0, 1)] := by rw [show ((1 : Int)).toNat = 1 from rfl, tidy3, pairs3]
  rw [ht] at hf ⊢
  refine ⟨V, c, rfl, ?_, hf.2.2⟩
  obtain ⟨g, c', cur, e, hg, _⟩ := hf.1.some_ (by decide)
  simp only [Value.slice.injEq, true_and] at e
  obtain ⟨rfl, rfl⟩ := e
  exact ⟨g, rfl, hf.1.cellAt 0 (by decide), hf.1.cellAt 1 (by decide)⟩

set_option maxHeartbeats 2000000 in
theorem works03 (w : World) : Calls Try.prog 12 #[] w fun e w' => e = .returned (.bool true) ∧ Below w.heap.size w w' := by
  go_enter Try.func12, Try.ntmps12
  go_upto_region 3 with fail
  refine absW (fun X => Lit3 w.heap.size X ∧ Below w.heap.size w X) ⟨heap4 w _ _ _ _, by (repeat (first | exact Below.refl _ _ | (with_reducible refine Below.drew ?_) | (with_reducible refine Below.alloc ?_ (by (try simp); (try omega)) _) | (with_reducible refine Below.setCell ?_ (by (try simp); (try omega)) _) | (with_reducible refine Below.trans ?_ (Below.mono (by assumption) (by (try simp); (try omega))))))⟩ ?_
  rintro X ⟨hlit, hbx⟩
  have HL := Lib.hid hlit
  have HB := Lib.hid hbx
  have n0 : X.cell? ⟨w.heap.size + 3, 0, none⟩ = some (.slice (some ⟨w.heap.size + 1, 0, none⟩) 2 2) := by simp [World.cell?, hlit.2.2.2]
  have n1 : X.cell? ⟨w.heap.size + 3, 1, none⟩ = some (.int .i64 1) := by simp [World.cell?, hlit.2.2.2]
  have n2 : X.cell? ⟨w.heap.size + 3, 2, none⟩ = some (.slice (some ⟨w.heap.size + 2, 0, none⟩) 2 2) := by simp [World.cell?, hlit.2.2.2]
  clear hlit hbx
  go_wp2_with fail
  refine (lit3_tidy HL.out).mono ?_
  rintro e w1 ⟨V1, c1, V2, c2, rfl, hw1, hb1⟩
  have HW1 := Lib.hid hw1
  have HB1 := Lib.hid (HB.out.trans (hb1.mono HB.out.size))
  have HL1 := Lib.hid (HL.out.below hb1)
  have hl3 := heap_lt HL1.out.2.2.2
  clear n0 n1 n2 hw1 hb1
  have n0 : w1.cell? ⟨w.heap.size + 3, 0, none⟩ = some (.slice (some ⟨w.heap.size + 1, 0, none⟩) 2 2) := by simp [World.cell?, HL1.out.2.2.2]
  have n1 : w1.cell? ⟨w.heap.size + 3, 1, none⟩ = some (.int .i64 1) := by simp [World.cell?, HL1.out.2.2.2]
  have n2 : w1.cell? ⟨w.heap.size + 3, 2, none⟩ = some (.slice (some ⟨w.heap.size + 2, 0, none⟩) 2 2) := by simp [World.cell?, HL1.out.2.2.2]
  go_wp2_with fail
  refine (lit3_pairs (HL1.out.below ((Below.refl _ _).alloc (Nat.le_refl _) _))).mono ?_
  rintro e w2 ⟨V, c, rfl, ⟨g, rfl, p0, p1⟩, hb2⟩
  have q2 : w2.cell? ⟨w1.heap.size, 2, none⟩ = some (.slice V2 2 c2) := (hb2.cell (p := ⟨w1.heap.size, 2, none⟩) (by simp)).trans (by go_simp)
  have HW2 := Lib.hid (HW1.out.below (((Below.refl _ _).alloc (Nat.le_refl _) _).trans (hb2.mono (by simp))))
  have HB2 := Lib.hid (HB1.out.trans ((((Below.refl _ w1).alloc (Nat.le_refl _) _).trans (hb2.mono (by simp))).mono HB1.out.size))
  obtain ⟨b, off, rfl, hb, e0, e1, e2, e3⟩ := HW2.out 0 (by decide)
  obtain ⟨b', off', e', hb', f0, f1, f2, f3⟩ := HW2.out 1 (by decide)
  simp only [Option.some.injEq, Addr.mk.injEq, and_true] at e'
  obtain ⟨rfl, rfl⟩ := e'
  have hE1 : eqW ((-1, 0), (0, 1)) ((-1, 0), (0, 1)) = true := by decide
  have hE2 : eqW ((0, 0), (1, 0)) ((0, 0), (1, 0)) = true := by decide
  simp only [List.getD_cons_zero, List.getD_cons_succ, Nat.zero_mul, Nat.one_mul, Nat.add_zero, Nat.add_assoc, Nat.reduceAdd] at e0 e1 e2 e3 f0 f1 f2 f3
  clear n0 n1 n2 hb2
  go_wp2
  go_ret
  exact ⟨rfl, HB2.out⟩
end Go.Proofs.Ytcebejcdfdahjaa
