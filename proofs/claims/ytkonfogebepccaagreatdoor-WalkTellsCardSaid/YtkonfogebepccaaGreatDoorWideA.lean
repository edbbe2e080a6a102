/-
  Contracts of skeinref00.WideAgents, SpareAgents.
-/
import Derived.Test.YtkonfogebepccaaGreatDoorNetTop
import Derived.Test.YtkonfogebepccaaGreatDoorRef03N
import Derived.Test.YtkonfogebepccaaGreatDoorRef03L
import Derived.Test.YtkonfogebepccaaGreatDoorNetMove
import Derived.Test.YtkonfogebepccaaGreatDoorNetMuch
import Derived.Test.YtkonfogebepccaaGreatDoorBag
import Derived.Test.YtkonfogebepccaaGreatDoorWideW
/-
  Contracts of skeinref03.Twos, skeinref00.EqPairs, EqAgents, Bag.AddNet.
-/
/-
  Contract of net.Pairs.
-/
namespace Go.Proofs.YtkonfogebepccaaGreatDoor
open Go.RowKit Go.Shelf
attribute [local go_sem] cell_set
set_option maxRecDepth 100000
set_option linter.unusedVariables false

section
variable (A : Option Addr) (n cap : Nat) (L : List (ByteArray × Int)) (VA VB : Option Addr) (ca cb : Nat) (cells : List Int) (free : Int) (W : List (Pt × Pt)) (w : World)
end
end Go.Proofs.YtkonfogebepccaaGreatDoor
/-
  Contracts of skeinref03: Neat, there.
-/
namespace Go.Proofs.YtkonfogebepccaaGreatDoor
open Go.RowKit Go.Shelf
attribute [local go_sem] cell_set
set_option maxRecDepth 100000
set_option linter.unusedVariables false

end Go.Proofs.YtkonfogebepccaaGreatDoor
namespace Go.Proofs.YtkonfogebepccaaGreatDoor
open Go.RowKit Go.Shelf
attribute [local go_sem] cell_set
set_option maxRecDepth 100000
set_option linter.unusedVariables false

section
variable (A : Option Addr) (n cap : Nat) (L : List (ByteArray × Int)) (VA VB : Option Addr) (ca cb : Nat) (cells : List Int) (f : Nat) (W : List (Pt × Pt)) (w : World)
end
theorem run_equal_pr (d : Nat) (a b c e : Int) (w : World) : (Op.equalIn (d + 3) 119 (.agg #[.int .i64 a, .int .i64 b]) (.agg #[.int .i64 c, .int .i64 e])).run Tryz.prog w = .ok (eqP (a, b) (c, e)) w := by
  unfold eqP
  go_simp
  by_cases h1 : a = c <;> by_cases h2 : b = e <;> simp [h1, h2]
theorem run_neq_pr (w : World) (a b c e : Int) : (binOp .neq 119 (.agg #[.int .i64 a, .int .i64 b]) (.agg #[.int .i64 c, .int .i64 e])).run Tryz.prog w = .ok (.bool (!eqP (a, b) (c, e))) w := by
  rw [run_neq_struct, run_equal_pr 9997]; rfl
attribute [local go_sem high] run_neq_pr
theorem run_equal_agent (d : Nat) (s : ByteArray) (a : Int) (w : World) : (Op.equalIn (d + 3) 72 (.agg #[.string s, .int .i64 a]) (.agg #[.string s, .int .i64 a])).run Tryz.prog w = .ok true w := by
  go_simp
theorem run_neq_agent (w : World) (s : ByteArray) (a : Int) : (binOp .neq 72 (.agg #[.string s, .int .i64 a]) (.agg #[.string s, .int .i64 a])).run Tryz.prog w = .ok (.bool false) w := by
  rw [run_neq_struct, run_equal_agent 9997]; rfl
/-- A signature and its like. -/
theorem eq_agents (A B : Option Addr) (n m ca cb : Nat) (L : List (ByteArray × Int)) (w : World) (hn : n = L.length) (hm : m = L.length) (hl : L.length ≤ 6000000000000) (HA : Hid (AgRd w A L)) (HB : Hid (AgRd w B L)) :
    Calls Tryz.prog 14 #[.slice A n ca, .slice B m cb] w fun e w' => e = .returned (.bool true) ∧ Below w.heap.size w w' := by
  subst hn hm
  have hq := run_neq_agent
  go_enter Tryz.func14, Tryz.ntmps14
  go_wp2
  go_loopw [5] (fun i wr => ∃ j : Nat, i = .int .i64 j ∧ j ≤ L.length ∧ Hid (Below w.heap.size w wr)) (fun i _ => L.length - (intOf i).toNat)
  case atStart => exact ⟨0, rfl, by omega, Below.refl _ _⟩
  case round =>
    obtain ⟨j, rfl, hj, hbw⟩ := hrel
    by_cases hlt : j < L.length
    · obtain ⟨b, off, rfl, hb, e0, e1⟩ := HA.out j hlt
      obtain ⟨b2, off2, rfl, hb2, g0, g1⟩ := HB.out j hlt
      have c0 := (hbw.out.cell (p := ⟨b, off + j * 2, none⟩) hb).trans e0
      have c1 := (hbw.out.cell (p := ⟨b, off + j * 2 + 1, none⟩) hb).trans e1
      have d0 := (hbw.out.cell (p := ⟨b2, off2 + j * 2, none⟩) hb2).trans g0
      have d1 := (hbw.out.cell (p := ⟨b2, off2 + j * 2 + 1, none⟩) hb2).trans g1
      clear e0 e1 g0 g1
      generalize agN L j = s at c0 d0
      generalize agA L j = x at c1 d1
      go_wp2_with fail
      go_quiet (fail)
      go_wp2
      go_roundw
      case rel => exact ⟨j + 1, by go_num, by omega, below_drewN hbw.out _⟩
      case measure => simp [intOf]; omega
    · go_wp2
      go_ret
      exact ⟨rfl, hbw.out⟩
end Go.Proofs.YtkonfogebepccaaGreatDoor
namespace Go.Proofs.YtkonfogebepccaaGreatDoor
open Go.RowKit
attribute [local go_sem] cell_set
set_option maxRecDepth 100000
set_option linter.unusedVariables false

def zA : ByteArray × Int := (ByteArray.empty, 0)
theorem agvals_set (l : List (ByteArray × Int)) (s : Nat) (x : ByteArray × Int) : ((agvals l).set (s * 2) (.string x.1)).set (s * 2 + 1) (.int .i64 x.2) = agvals (l.set s x) := by
  induction l generalizing s with
  | nil => simp [agvals]
  | cons y r ih =>
    have hc : agvals (y :: r) = .string y.1 :: .int .i64 y.2 :: agvals r := rfl
    cases s with
    | zero => rw [hc]; rfl
    | succ s =>
      rw [hc, show (s + 1) * 2 = s * 2 + 1 + 1 by omega]
      simp only [List.set_cons_succ]
      rw [ih s]
      rfl
theorem made_agents (M : Nat) : (madeCells #[.string ByteArray.empty, .int .i64 0] (M * 2)).toList = agvals (List.replicate M zA) := by
  refine List.ext_getElem (by rw [agvals_len]; simp [size_madeCells]) fun i h1 h2 => ?_
  have hi : i < M * 2 := by simpa [size_madeCells] using h1
  obtain ⟨a0, a1⟩ := agvals_at (List.replicate M zA) (i := i / 2) (by simp; omega)
  have e0 : agN (List.replicate M zA) (i / 2) = ByteArray.empty := by simp [agN, zA, show i / 2 < M by omega]
  have e1 : agA (List.replicate M zA) (i / 2) = 0 := by simp [agA, zA, show i / 2 < M by omega]
  rw [e0] at a0
  rw [e1] at a1
  simp only [madeCells, Array.toList_map, List.getElem_map, Array.toList_range, List.getElem_range]
  rcases (by omega : i % 2 = 0 ∨ i % 2 = 1) with h | h
  · have hq : i / 2 * 2 = i := by omega
    rw [hq] at a0
    have := (List.getElem?_eq_some_iff.1 a0).2
    rw [this]
    simp [h]
  · have hq : i / 2 * 2 + 1 = i := by omega
    rw [hq] at a1
    have := (List.getElem?_eq_some_iff.1 a1).2
    rw [this]
    simp [h]
theorem row_ags {X : World} {F M : Nat} (h : X.heap[F]? = some (.cells (madeCells #[.string ByteArray.empty, .int .i64 0] (M * 2)) 72 (0, 0))) (hM : M ≤ maxLen) : Row X 72 2 (.slice (some ⟨F, 0, none⟩) M M) M (agvals (List.replicate M zA)) :=
  ⟨by rw [agvals_len]; simp, .inr ⟨F, M, _, rfl, h, Nat.le_refl _, hM, by simp [size_madeCells], by rw [made_agents]; rw [List.take_of_length_le (by rw [agvals_len]; simp)]⟩⟩
theorem make_agents (n : Nat) (hn : n ≤ 6000000000064) (w : World) : (Instr.makeSlice 22 (.int .i64 (n : Int)) (.int .i64 (n : Int))).run Tryz.prog w = .ok (.slice (some ⟨w.heap.size, 0, none⟩) n n) (w.alloc (.cells (madeCells #[.string ByteArray.empty, .int .i64 0] (n * 2)) 72)) := by
  obtain ⟨i, hi, hz, hs, hb⟩ := info_parts agent_info
  have hb' : (i.bytes : Int) * (n : Int) ≤ 281474976710656 := by rw [hb]; omega
  have hr := run_make (P := Tryz.prog) w 22 72 i _ Tryz.underlying22 hi hz .i64 .i64 n n (by omega) (Int.le_refl _) hb' (by omega)
  simp only [Int.toNat_natCast, hs] at hr
  exact hr
def partA (l : List (ByteArray × Int)) (k : Nat) : List (ByteArray × Int) := l.take k ++ List.replicate (l.length - k) zA
theorem partA_0 (l : List (ByteArray × Int)) : partA l 0 = List.replicate l.length zA := by simp [partA]
theorem partA_alln {l : List (ByteArray × Int)} {n : Nat} (h : l.length = n) : partA l n = l := by subst h; simp [partA]
theorem partA_succ {l : List (ByteArray × Int)} {k : Nat} (h : k < l.length) : partA l (k + 1) = (partA l k).set k (agN l k, agA l k) := by
  have e : l.length - k = (l.length - (k + 1)) + 1 := by omega
  unfold partA
  rw [e, List.replicate_succ, List.set_append_right _ _ (by simp; omega)]
  simp only [List.length_take]
  rw [show k - min k l.length = 0 by omega, List.set_cons_zero, List.take_add_one, List.getElem?_eq_getElem h]
  simp only [agN, agA, List.getD_eq_getElem?_getD, List.getElem?_eq_getElem h, Option.toList_some, Option.getD_some, List.append_assoc, List.singleton_append]
def wideA (l : List (ByteArray × Int)) : List (ByteArray × Int) := l ++ (List.range 64).map fun (i : Nat) => (ByteArray.empty, markN 9 (l.length + i))
theorem wideA_len (l : List (ByteArray × Int)) : (wideA l).length = l.length + 64 := by simp [wideA]
theorem wideA_lo {l : List (ByteArray × Int)} {i : Nat} (h : i < l.length) : agN (wideA l) i = agN l i ∧ agA (wideA l) i = agA l i := by simp [wideA, agN, agA, List.getElem?_append_left h]
theorem wideA_hi {l : List (ByteArray × Int)} {i : Nat} (h : l.length ≤ i) (h2 : i < l.length + 64) : agN (wideA l) i = ByteArray.empty ∧ agA (wideA l) i = markN 9 i := by
  have h3 : i - l.length < 64 := by omega
  have h4 : l.length + (i - l.length) = i := by omega
  simp [wideA, agN, agA, List.getElem?_append_right h, h3, h4]
theorem Row.set2a {w : World} {e : TypeId} {g n cap : Nat} {xs : List Value} (h : Row w e 2 (.slice (some ⟨g, 0, none⟩) n cap) n xs) (j : Nat) (a b : Value) :
    Row ((w.setCell ⟨g, j, none⟩ a).setCell ⟨g, j + 1, none⟩ b) e 2 (.slice (some ⟨g, 0, none⟩) n cap) n ((xs.set j a).set (j + 1) b) := (h.set j a).set (j + 1) b
theorem num9b (i : Nat) (hi : i ≤ 1000000000000000) (w : World) : Calls Tryz.prog 24 #[.int .i64 9, .int .i64 (i : Int)] w fun e w' => e = .returned (.int .i64 (markN 9 i)) ∧ w = w' := by
  have h1 : IntKind.i64.wrap (1048576 * 9 + (i : Int)) = 1048576 * 9 + (i : Int) := IntWalk.i64_in _ (by omega)
  have h2 : IntKind.i64.wrap (1048576 * 9 + (i : Int) + 1) = 1048576 * 9 + (i : Int) + 1 := IntWalk.i64_in _ (by omega)
  go_enter Tryz.func24, Tryz.ntmps24
  go_wp2
  go_ret
  exact ⟨retI (by unfold markN; first | omega | (simp; omega) | (unfold wrap64; omega)), rfl⟩
set_option maxHeartbeats 1000000 in
theorem wide_agents (A : Option Addr) (n cap : Nat) (l : List (ByteArray × Int)) (w : World) (hn : n = l.length) (hl : l.length ≤ 6000000000000) (HA : Hid (AgRd w A l)) :
    Calls Tryz.prog 6 #[.slice A n cap] w fun e w' => ∃ g, e = .returned (.slice (some ⟨g, 0, none⟩) n (n + 64)) ∧ w.heap.size ≤ g ∧ Row w' 72 2 (.slice (some ⟨g, 0, none⟩) (n + 64) (n + 64)) (n + 64) (agvals (wideA l)) ∧ Below w.heap.size w w' := by
  subst hn
  obtain ⟨N, hN⟩ : ∃ N, N = l.length + 64 := ⟨_, rfl⟩
  have hsum : IntKind.i64.wrap ((l.length : Int) + 64) = (N : Int) := by rw [IntWalk.i64_in _ (by omega)]; omega
  have hN1 : N ≤ 6000000000064 := by omega
  have hlN : l.length ≤ N := by omega
  have HN := Lib.hid hN
  have hw := wideA_len l
  rw [← hN] at hw ⊢
  have HW := Lib.hid hw
  have hmk : ∀ w : World, (Instr.makeSlice 22 (.int .i64 (N : Int)) (.int .i64 (N : Int))).run Tryz.prog w = .ok (.slice (some ⟨w.heap.size, 0, none⟩) N N) (w.alloc (.cells (madeCells #[.string ByteArray.empty, .int .i64 0] (N * 2)) 72)) := fun w => make_agents N (by omega) w
  clear hN hw
  go_enter Tryz.func6, Tryz.ntmps6
  go_upto_region 2 with fail
  refine absW (fun X => Row X 72 2 (.slice (some ⟨w.heap.size, 0, none⟩) N N) N (agvals (partA (wideA l) 0)) ∧ Below w.heap.size w X)
    ⟨by rw [partA_0, HW.out]; exact row_ags (heap_alloc_new w _) (by unfold maxLen; omega), (Below.refl _ _).alloc (Nat.le_refl _) _⟩ ?_
  rintro X ⟨hrx, hbx⟩
  have HX := Lib.hid (And.intro hrx hbx)
  clear hrx hbx hmk
  go_wp2_with fail
  go_loopw [4] (fun i wr => ∃ k : Nat, i = .int .i64 k ∧ k ≤ N ∧ Hid (Row wr 72 2 (.slice (some ⟨w.heap.size, 0, none⟩) N N) N (agvals (partA (wideA l) k)) ∧ Below w.heap.size w wr)) (fun i _ => N - (intOf i).toNat)
  case atStart => exact ⟨0, rfl, by omega, HX⟩
  case round =>
    obtain ⟨k, rfl, hk, HR⟩ := hrel
    clear HX
    by_cases hlt : k < N
    · have hrl : (agvals (partA (wideA l) k)).length = N * 2 := HR.out.1.1
      have s0 : wr.frozen? ⟨w.heap.size, k * 2, none⟩ = false := HR.out.1.frozenAt _
      have s1 : wr.frozen? ⟨w.heap.size, k * 2 + 1, none⟩ = false := HR.out.1.frozenAt _
      obtain ⟨u0, t0⟩ : ∃ u, wr.cell? ⟨w.heap.size, k * 2, none⟩ = some u := ⟨_, (HR.out.1.cellAt (k * 2) (by omega)).trans (List.getElem?_eq_getElem (by omega))⟩
      obtain ⟨u1, t1⟩ : ∃ u, wr.cell? ⟨w.heap.size, k * 2 + 1, none⟩ = some u := ⟨_, (HR.out.1.cellAt (k * 2 + 1) (by omega)).trans (List.getElem?_eq_getElem (by omega))⟩
      have HE : Hid (partA (wideA l) (k + 1) = (partA (wideA l) k).set k (agN (wideA l) k, agA (wideA l) k)) := partA_succ (by rw [HW.out]; exact hlt)
      clear hrl
      by_cases hlo : k < l.length
      · obtain ⟨b, off, rfl, hb, e0, e1⟩ := HA.out k hlo
        have c0 := (HR.out.2.cell (p := ⟨b, off + k * 2, none⟩) hb).trans e0
        have c1 := (HR.out.2.cell (p := ⟨b, off + k * 2 + 1, none⟩) hb).trans e1
        have hbr : b < wr.heap.size := Nat.lt_of_lt_of_le hb HR.out.2.size
        have HV := Lib.hid (wideA_lo hlo)
        have hbne : ¬ w.heap.size = b := by omega
        clear e0 e1
        generalize agN l k = x0 at c0 HV
        generalize agA l k = x1 at c1 HV
        go_wp2
        go_roundw
        case rel =>
          have hR8 := HR.out.1.set2a (k * 2) (.string x0) (.int .i64 x1)
          have e := HE.out
          rw [HV.out.1, HV.out.2] at e
          have e2 := agvals_set (partA (wideA l) k) k (x0, x1)
          rw [e2, ← e] at hR8
          exact ⟨k + 1, by go_num, by omega, hR8, ((HR.out.2.setCell (p := ⟨w.heap.size, _, none⟩) (Nat.le_refl _) _).setCell (p := ⟨w.heap.size, _, none⟩) (Nat.le_refl _) _)⟩
        case measure => simp [intOf]; omega
      · have HV := Lib.hid (wideA_hi (l := l) (i := k) (by omega) (by have := HN.out; omega))
        go_wp2_with (go_at_call 24; refine (num9b k (by omega) _).mono ?_; rintro e w5 ⟨rfl, rfl⟩)
        go_roundw
        case rel =>
          have hR8 := HR.out.1.set2a (k * 2) (.string ByteArray.empty) (.int .i64 (markN 9 k))
          have e := HE.out
          rw [HV.out.1, HV.out.2] at e
          have e2 := agvals_set (partA (wideA l) k) k (ByteArray.empty, markN 9 k)
          rw [e2, ← e] at hR8
          exact ⟨k + 1, by go_num, by omega, hR8, ((HR.out.2.setCell (p := ⟨w.heap.size, _, none⟩) (Nat.le_refl _) _).setCell (p := ⟨w.heap.size, _, none⟩) (Nat.le_refl _) _)⟩
        case measure => simp [intOf]; omega
    · obtain rfl : N = k := by omega
      have HL2 : Hid (partA (wideA l) N = wideA l) := partA_alln HW.out
      go_wp2
      exact bodyPost_ret (v := .slice (some ⟨w.heap.size, 0, none⟩) l.length N) (by simp only [results, Tryz.results6]; go_simp) rfl ⟨w.heap.size, rfl, Nat.le_refl _, by rw [← HL2.out]; exact HR.out.1, HR.out.2⟩
theorem Row.wideAg {w : World} {g m : Nat} {l : List (ByteArray × Int)} (hR : Row w 72 2 (.slice (some ⟨g, 0, none⟩) m m) m (agvals (wideA l))) (hm : m = l.length + 64) {k : Nat} (h1 : l.length ≤ k) (h2 : k < m) :
    w.cell? ⟨g, k * 2, none⟩ = some (.string ByteArray.empty) ∧ w.cell? ⟨g, k * 2 + 1, none⟩ = some (.int .i64 (markN 9 k)) := by
  have hk : k < (wideA l).length := by rw [wideA_len]; omega
  obtain ⟨a0, a1⟩ := agvals_at (wideA l) hk
  obtain ⟨e0, e1⟩ := wideA_hi (l := l) (i := k) h1 (by omega)
  rw [e0] at a0
  rw [e1] at a1
  exact ⟨(hR.cellAt _ (by omega)).trans a0, (hR.cellAt _ (by omega)).trans a1⟩
theorem run_eql_agent (w : World) (s : ByteArray) (a : Int) : (binOp .eql 72 (.agg #[.string s, .int .i64 a]) (.agg #[.string s, .int .i64 a])).run Tryz.prog w = .ok (.bool true) w := by
  rw [run_eql_struct, run_equal_agent 9997]; rfl
set_option maxHeartbeats 1000000 in
theorem spare_agents (g : Nat) (n m : Nat) (l : List (ByteArray × Int)) (w : World) (hn : n = l.length) (hm : m = l.length + 64) (hl : l.length ≤ 6000000000000) (HR : Hid (Row w 72 2 (.slice (some ⟨g, 0, none⟩) m m) m (agvals (wideA l)))) :
    Calls Tryz.prog 15 #[.slice (some ⟨g, 0, none⟩) n m] w fun e w' => e = .returned (.bool true) ∧ Below w.heap.size w w' := by
  subst hn
  have hq := run_eql_agent
  have hsum : IntKind.i64.wrap ((l.length : Int) + 64) = (m : Int) := by rw [IntWalk.i64_in _ (by omega)]; omega
  have hN1 : m ≤ 6000000000064 := by omega
  have hlN : l.length ≤ m := by omega
  have HN := Lib.hid hm
  have hgl : g < w.heap.size := HR.out.lt g (by simp [ownB])
  clear hm
  go_enter Tryz.func15, Tryz.ntmps15
  go_wp2
  go_loopw [4, 5] (fun i _ wr => ∃ k : Nat, i = .int .i64 k ∧ l.length ≤ k ∧ k ≤ m ∧ Hid (Below w.heap.size w wr)) (fun i _ _ => m - (intOf i).toNat)
  case atStart => exact ⟨l.length, rfl, by omega, by omega, Below.refl _ _⟩
  case round =>
    obtain ⟨k, rfl, hk, hk2, HW⟩ := hrel
    by_cases hlt : k < m
    · obtain ⟨c0, c1⟩ := Row.wideAg (HR.out.keep fun b hb => HW.out.block b (HR.out.lt b hb)) HN.out hk hlt
      have hgr : g < wr.heap.size := by have := HW.out.size; omega
      go_upto_region 6 with fail
      refine absW (fun X => Below w.heap.size w X ∧ X.heap[wr.heap.size]? = some (.cells #[.string ByteArray.empty, .int .i64 (markN 9 k)] 72 (0, 0))) ⟨HW.out.alloc HW.out.size _, heap_alloc_new wr _⟩ ?_
      rintro X ⟨hbX, hX⟩
      have HX := Lib.hid hbX
      have x0 : X.cell? ⟨wr.heap.size, 0, none⟩ = some (.string ByteArray.empty) := by simp [World.cell?, hX]
      have x1 : X.cell? ⟨wr.heap.size, 1, none⟩ = some (.int .i64 (markN 9 k)) := by simp [World.cell?, hX]
      clear c0 c1 hX hbX
      go_quiet ((go_at_call 24; exact Calls.quiet_of_same ((num9b k (by omega) _).mono fun e w' h => ⟨h.1, h.2.symm⟩)))
      go_wp2_with fail
      go_roundw
      case rel => exact ⟨k + 1, by go_num, by omega, by omega, below_drewN HX.out _⟩
      case measure => simp [intOf]; omega
    · go_wp2
      go_ret
      exact ⟨rfl, HW.out⟩
theorem Row.wideRd {w : World} {g : Nat} {l : List (ByteArray × Int)} (h : Row w 72 2 (.slice (some ⟨g, 0, none⟩) (l.length + 64) (l.length + 64)) (l.length + 64) (agvals (wideA l))) : AgRd w (some ⟨g, 0, none⟩) l := fun i hi => by
  have h3 : i < (wideA l).length := by rw [wideA_len]; omega
  obtain ⟨a0, a1⟩ := agvals_at (wideA l) h3
  obtain ⟨e0, e1⟩ := wideA_lo hi
  rw [e0] at a0
  rw [e1] at a1
  refine ⟨g, 0, rfl, h.lt g (by simp [ownB]), ?_, ?_⟩
  · rw [Nat.zero_add, h.cellAt _ (by omega)]; exact a0
  · rw [Nat.zero_add, h.cellAt _ (by omega)]; exact a1
end Go.Proofs.YtkonfogebepccaaGreatDoor
