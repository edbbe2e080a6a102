/-
  Contract of skeinlaw03.works.
-/
import Derived.Test.YtcebejcdfdahjaaEqN
import Derived.Test.YtcebejcdfdahjaaNetPairs
import Derived.Deep.Cut
/-
  Contracts of skeinref00.SizeAgents and skeinlaw03.much.
-/
namespace Go.Proofs.Ytcebejcdfdahjaa
open Go.RowKit
attribute [local go_sem] cell_set
set_option maxRecDepth 100000
set_option linter.unusedVariables false

def SomeI (w : World) (e : Ending) (w' : World) : Prop := ∃ m : Int, e = .returned (.int .i64 m) ∧ w = w'
set_option maxHeartbeats 400000 in
theorem size_agents (A : Option Addr) (n cap : Nat) (L : List (ByteArray × Int)) (w : World) (hn : n = L.length) (hl : L.length ≤ maxLen) (HL : Hid (AgRd w A L)) :
    Calls Try.prog 22 #[.slice A n cap] w (SomeI w) := by
  subst hn
  unfold maxLen at hl
  go_enter Try.func22, Try.ntmps22
  go_wp2
  go_loop [3, 4] (fun t i => ∃ k : Nat, ∃ m : Int, i = .int .i64 k ∧ k ≤ L.length ∧ t = .int .i64 m) (fun _ i => L.length - (intOf i).toNat)
  case atStart => exact ⟨0, _, rfl, by omega, rfl⟩
  case round =>
    obtain ⟨k, m, rfl, hk, rfl⟩ := hrel
    by_cases hlt : k < L.length
    · by_cases hm : m ≤ 2147483647
      · obtain ⟨b, off, rfl, hb, e0, e1⟩ := HL.out k hlt
        clear e1
        generalize agN L k = s at e0
        go_wp2
        go_round
        case rel => exact ⟨k + 1, _, by go_num, by omega, rfl⟩
        case measure => simp [intOf]; omega
      · go_wp2
        go_ret
        exact ⟨_, rfl, rfl⟩
    · go_wp2
      go_ret
      exact ⟨_, rfl, rfl⟩

def SomeB (P : Bool → Prop) (w : World) (e : Ending) (w' : World) : Prop := ∃ r : Bool, e = .returned (.bool r) ∧ P r ∧ Below w.heap.size w w'
set_option maxHeartbeats 400000 in
theorem much_is (A : Option Addr) (n cap : Nat) (L : List (ByteArray × Int)) (VA VB : Option Addr) (n1 n2 ca cb : Nat) (free : Int) (w : World) (hn : n = L.length) (hl : L.length ≤ maxLen) (HL : Hid (AgRd w A L)) (h1 : n1 ≤ maxLen) (h2 : n2 ≤ maxLen) :
    Calls Try.prog 11 #[.slice A n cap, .agg #[.slice VA n1 ca, .int .i64 free, .slice VB n2 cb]] w (SomeB (fun r => r = false → L.length ≤ 1024 ∧ n1 ≤ 8192 ∧ n2 ≤ 32768) w) := by
  subst hn
  have hbA : ∀ o : Obj, Below w.heap.size w (w.alloc o) := fun o => (Below.refl _ _).alloc (Nat.le_refl _) o
  unfold maxLen at hl h1 h2
  by_cases c1 : 1024 < L.length
  · go_enter Try.func11, Try.ntmps11
    go_wp2
    go_ret
    exact ⟨_, rfl, fun h => by simp at h, hbA _⟩
  · have HSz : Hid (∀ Z, Below w.heap.size w Z → Calls Try.prog 22 #[.slice A L.length cap] Z (SomeI Z)) := fun Z hz => size_agents A _ cap L Z rfl (by simp only [maxLen]; omega) (Lib.hid (HL.out.below hz))
    go_enter Try.func11, Try.ntmps11
    go_wp2_with fail
    refine (HSz.out _ (hbA _)).mono ?_
    rintro e w1 ⟨m, rfl, rfl⟩
    go_wp2_with fail
    refine (long_is m _).mono ?_
    rintro e w1 ⟨rfl, rfl⟩
    by_cases c2 : 2147483647 < m
    · have d2 : decide (2147483647 < m) = true := by simpa using c2
      rw [d2]
      go_wp2
      go_ret
      exact ⟨_, rfl, fun h => by simp at h, hbA _⟩
    · have d2 : decide (2147483647 < m) = false := by simpa using c2
      rw [d2]
      by_cases c3 : 8192 < n1
      · go_wp2
        go_ret
        exact ⟨_, rfl, fun h => by simp at h, hbA _⟩
      · go_wp2
        go_ret
        exact ⟨_, rfl, fun h => by simp at h; omega, hbA _⟩
end Go.Proofs.Ytcebejcdfdahjaa
namespace Go.Proofs.Ytcebejcdfdahjaa
open Go.RowKit
attribute [local go_sem] cell_set
attribute [local go_sem high] run_eql_wire
set_option maxRecDepth 100000
set_option linter.unusedVariables false

def L3 : List (ByteArray × Int) := [(⟨#[90]⟩, 0), (⟨#[83]⟩, 1)]
def W3 : List (Pt × Pt) := [((1, 0), (0, 0)), ((0, 1), (-1, 0))]
theorem chk3 : chk L3 = (0, 0) := by decide +kernel
theorem net3 : (netChk (pnL L3) L3.length (chk L3) [1, 0] 1 W3).1 = 0 := by decide +kernel
theorem tidy3 : tidyW (allPs (pnL L3) [1, 0] 1) W3 = [((-1, 0), (0, 1)), ((0, 0), (1, 0))] := by decide +kernel
theorem pairs3 : pairsOf [((-1, 0), (0, 1)), ((0, 0), (1, 0))] = [(0, 1)] := by decide +kernel
theorem ag_lit {w : World} {b : Nat} {c : Nat × Nat} (h : w.heap[b]? = some (.cells #[.string ⟨#[90]⟩, .int .i64 0, .string ⟨#[83]⟩, .int .i64 1] 94 c)) : AgRd w (some ⟨b, 0, none⟩) L3 := fun i hi => by
  have hi2 : i = 0 ∨ i = 1 := by simp [L3] at hi; omega
  refine ⟨b, 0, rfl, heap_lt h, ?_, ?_⟩ <;> rcases hi2 with rfl | rfl <;> simp [World.cell?, h, L3, agN, agA]
theorem ints_lit {w : World} {b : Nat} {c : Nat × Nat} (h : w.heap[b]? = some (.cells #[.int .i64 1, .int .i64 0] 3 c)) : IntsRd w (some ⟨b, 0, none⟩) [1, 0] := fun i hi => by
  have hi2 : i = 0 ∨ i = 1 := by simp at hi; omega
  refine ⟨b, 0, rfl, heap_lt h, ?_⟩
  rcases hi2 with rfl | rfl <;> simp [World.cell?, h]
theorem wires_lit {w : World} {b : Nat} {c : Nat × Nat} (h : w.heap[b]? = some (.cells #[.int .i64 1, .int .i64 0, .int .i64 0, .int .i64 0, .int .i64 0, .int .i64 1, .int .i64 (-1), .int .i64 0] 90 c)) : WrRd w (some ⟨b, 0, none⟩) W3 := fun i hi => by
  have hi2 : i = 0 ∨ i = 1 := by simp [W3] at hi; omega
  refine ⟨b, 0, rfl, heap_lt h, ?_, ?_, ?_, ?_⟩ <;> rcases hi2 with rfl | rfl <;> simp [World.cell?, h, W3]

theorem heap4 (w : World) (a b c d : Obj) : ((((w.alloc a).alloc b).alloc c).alloc d).heap[w.heap.size]? = some a ∧ ((((w.alloc a).alloc b).alloc c).alloc d).heap[w.heap.size + 1]? = some b ∧ ((((w.alloc a).alloc b).alloc c).alloc d).heap[w.heap.size + 2]? = some c ∧ ((((w.alloc a).alloc b).alloc c).alloc d).heap[w.heap.size + 3]? = some d := by
  have e1 := heap_alloc_new w a
  have e2 := heap_alloc_new (w.alloc a) b
  have e3 := heap_alloc_new ((w.alloc a).alloc b) c
  have e4 := heap_alloc_new (((w.alloc a).alloc b).alloc c) d
  simp only [World.size_alloc, Nat.add_assoc, Nat.reduceAdd] at e2 e3 e4
  refine ⟨?_, ?_, ?_, e4⟩
  · exact (Below.heap_alloc _ _ _ (by simp <;> omega)).trans ((Below.heap_alloc _ _ _ (by simp <;> omega)).trans ((Below.heap_alloc _ _ _ (by simp <;> omega)).trans e1))
  · exact (Below.heap_alloc _ _ _ (by simp <;> omega)).trans ((Below.heap_alloc _ _ _ (by simp <;> omega)).trans e2)
  · exact (Below.heap_alloc _ _ _ (by simp <;> omega)).trans e3
/-- The net of 'works' lies in memory. -/
def Lit3 (b : Nat) (X : World) : Prop := X.heap[b]? = some (.cells #[.string ⟨#[90]⟩, .int .i64 0, .string ⟨#[83]⟩, .int .i64 1] 94 (0, 0)) ∧ X.heap[b + 1]? = some (.cells #[.int .i64 1, .int .i64 0] 3 (0, 0)) ∧
  X.heap[b + 2]? = some (.cells #[.int .i64 1, .int .i64 0, .int .i64 0, .int .i64 0, .int .i64 0, .int .i64 1, .int .i64 (-1), .int .i64 0] 90 (0, 0)) ∧ X.heap[b + 3]? = some (.cells #[.slice (some ⟨b + 1, 0, none⟩) 2 2, .int .i64 1, .slice (some ⟨b + 2, 0, none⟩) 2 2] 26 (0, 0))
theorem Lit3.below {b : Nat} {X X' : World} (h : Lit3 b X) (hb : Below X.heap.size X X') : Lit3 b X' :=
  ⟨(hb.block _ (heap_lt h.1)).trans h.1, (hb.block _ (heap_lt h.2.1)).trans h.2.1, (hb.block _ (heap_lt h.2.2.1)).trans h.2.2.1, (hb.block _ (heap_lt h.2.2.2)).trans h.2.2.2⟩
theorem lit3_tidy {b : Nat} {X : World} (h : Lit3 b X) : Calls Try.prog 54 #[.slice (some ⟨b, 0, none⟩) 2 2, .agg #[.slice (some ⟨b + 1, 0, none⟩) 2 2, .int .i64 1, .slice (some ⟨b + 2, 0, none⟩) 2 2]] X fun e w' => ∃ V1 c1 V2 c2, e = .returned (.tuple #[.agg #[.slice V1 2 c1, .int .i64 1, .slice V2 2 c2], .int .i64 0]) ∧ WrRd w' V2 [((-1, 0), (0, 1)), ((0, 0), (1, 0))] ∧ Below X.heap.size X w' := by
  refine (net_tidy_ok (some ⟨b, 0, none⟩) 2 2 L3 (some ⟨b + 1, 0, none⟩) (some ⟨b + 2, 0, none⟩) 2 2 [1, 0] 1 W3 X rfl (by decide) (Lib.hid (ag_lit h.1)) (by decide) (Lib.hid (ints_lit h.2.1)) (Lib.hid (wires_lit h.2.2.1)) (by decide) (by decide) net3).mono ?_
  rintro e w' ⟨V1, c1, V2, c2, rfl, hnf⟩
  have ht : tidyW (allPs (pnL L3) [1, 0] (1 : Int).toNat) W3 = [((-1, 0), (0, 1)), ((0, 0), (1, 0))] := tidy3
  rw [ht] at hnf ⊢
  exact ⟨V1, c1, V2, c2, rfl, hnf.2.1.wires, hnf.1.2.2⟩
theorem lit3_pairs {b : Nat} {X : World} (h : Lit3 b X) : Calls Try.prog 60 #[.slice (some ⟨b, 0, none⟩) 2 2, .agg #[.slice (some ⟨b + 1, 0, none⟩) 2 2, .int .i64 1, .slice (some ⟨b + 2, 0, none⟩) 2 2]] X fun e w' => ∃ V c, e = .returned (.tuple #[.slice V 1 c, .int .i64 0]) ∧ (∃ g, V = some ⟨g, 0, none⟩ ∧ w'.cell? ⟨g, 0, none⟩ = some (.int .i64 0) ∧ w'.cell? ⟨g, 1, none⟩ = some (.int .i64 1)) ∧ Below X.heap.size X w' := by
  refine (net_pairs_ok (some ⟨b, 0, none⟩) 2 2 L3 (some ⟨b + 1, 0, none⟩) (some ⟨b + 2, 0, none⟩) 2 2 [1, 0] 1 W3 X rfl (by decide) (Lib.hid (ag_lit h.1)) (by decide) (Lib.hid (ints_lit h.2.1)) (Lib.hid (wires_lit h.2.2.1)) (by decide) (by decide) net3).mono ?_
  rintro e w' ⟨V, c, rfl, hf⟩
  have ht : pairsOf (tidyW (allPs (pnL L3) [1, 0] (1 : Int).toNat) W3) = [(0, 1)] := by rw [show ((1 : Int)).toNat = 1 from rfl, tidy3, pairs3]
  rw [ht] at hf ⊢
  refine ⟨V, c, rfl, ?_, hf.2.2⟩
  obtain ⟨g, c', cur, e, hg, _⟩ := hf.1.some_ (by decide)
  simp only [Value.slice.injEq, true_and] at e
  obtain ⟨rfl, rfl⟩ := e
  exact ⟨g, rfl, hf.1.cellAt 0 (by decide), hf.1.cellAt 1 (by decide)⟩

set_option maxHeartbeats 2000000 in
theorem works03 (w : World) : Calls Try.prog 12 #[] w fun e w' => e = .returned (.bool true) ∧ Below w.heap.size w w' := by
  go_enter Try.func12, Try.ntmps12
  go_upto_region 3 with fail
  refine absW (fun X => Lit3 w.heap.size X ∧ Below w.heap.size w X) ⟨heap4 w _ _ _ _, by (repeat (first | exact Below.refl _ _ | (with_reducible refine Below.drew ?_) | (with_reducible refine Below.alloc ?_ (by (try simp); (try omega)) _) | (with_reducible refine Below.setCell ?_ (by (try simp); (try omega)) _) | (with_reducible refine Below.trans ?_ (Below.mono (by assumption) (by (try simp); (try omega))))))⟩ ?_
  rintro X ⟨hlit, hbx⟩
  have HL := Lib.hid hlit
  have HB := Lib.hid hbx
  have n0 : X.cell? ⟨w.heap.size + 3, 0, none⟩ = some (.slice (some ⟨w.heap.size + 1, 0, none⟩) 2 2) := by simp [World.cell?, hlit.2.2.2]
  have n1 : X.cell? ⟨w.heap.size + 3, 1, none⟩ = some (.int .i64 1) := by simp [World.cell?, hlit.2.2.2]
  have n2 : X.cell? ⟨w.heap.size + 3, 2, none⟩ = some (.slice (some ⟨w.heap.size + 2, 0, none⟩) 2 2) := by simp [World.cell?, hlit.2.2.2]
  clear hlit hbx
  go_wp2_with fail
  refine (lit3_tidy HL.out).mono ?_
  rintro e w1 ⟨V1, c1, V2, c2, rfl, hw1, hb1⟩
  have HW1 := Lib.hid hw1
  have HB1 := Lib.hid (HB.out.trans (hb1.mono HB.out.size))
  have HL1 := Lib.hid (HL.out.below hb1)
  have hl3 := heap_lt HL1.out.2.2.2
  clear n0 n1 n2 hw1 hb1
  have n0 : w1.cell? ⟨w.heap.size + 3, 0, none⟩ = some (.slice (some ⟨w.heap.size + 1, 0, none⟩) 2 2) := by simp [World.cell?, HL1.out.2.2.2]
  have n1 : w1.cell? ⟨w.heap.size + 3, 1, none⟩ = some (.int .i64 1) := by simp [World.cell?, HL1.out.2.2.2]
  have n2 : w1.cell? ⟨w.heap.size + 3, 2, none⟩ = some (.slice (some ⟨w.heap.size + 2, 0, none⟩) 2 2) := by simp [World.cell?, HL1.out.2.2.2]
  go_wp2_with fail
  refine (lit3_pairs (HL1.out.below ((Below.refl _ _).alloc (Nat.le_refl _) _))).mono ?_
  rintro e w2 ⟨V, c, rfl, ⟨g, rfl, p0, p1⟩, hb2⟩
  have q2 : w2.cell? ⟨w1.heap.size, 2, none⟩ = some (.slice V2 2 c2) := (hb2.cell (p := ⟨w1.heap.size, 2, none⟩) (by simp)).trans (by go_simp)
  have HW2 := Lib.hid (HW1.out.below (((Below.refl _ _).alloc (Nat.le_refl _) _).trans (hb2.mono (by simp))))
  have HB2 := Lib.hid (HB1.out.trans ((((Below.refl _ w1).alloc (Nat.le_refl _) _).trans (hb2.mono (by simp))).mono HB1.out.size))
  obtain ⟨b, off, rfl, hb, e0, e1, e2, e3⟩ := HW2.out 0 (by decide)
  obtain ⟨b', off', e', hb', f0, f1, f2, f3⟩ := HW2.out 1 (by decide)
  simp only [Option.some.injEq, Addr.mk.injEq, and_true] at e'
  obtain ⟨rfl, rfl⟩ := e'
  have hE1 : eqW ((-1, 0), (0, 1)) ((-1, 0), (0, 1)) = true := by decide
  have hE2 : eqW ((0, 0), (1, 0)) ((0, 0), (1, 0)) = true := by decide
  simp only [List.getD_cons_zero, List.getD_cons_succ, Nat.zero_mul, Nat.one_mul, Nat.add_zero, Nat.add_assoc, Nat.reduceAdd] at e0 e1 e2 e3 f0 f1 f2 f3
  clear n0 n1 n2 hb2
  go_wp2
  go_ret
  exact ⟨rfl, HB2.out⟩
end Go.Proofs.Ytcebejcdfdahjaa
