/-
  Contracts of skeinref00.WideWires, SpareWires, WideNet, SpareNet.
-/
import Derived.Test.YtkonfogebepccaaGreatDoorEqN
import Derived.Test.YtkonfogebepccaaGreatDoorRef03K
import Derived.Test.YtkonfogebepccaaGreatDoorRowPorts
import Derived.Deep.QuietTactic
import Derived.BigQuiet
/-
  Contracts of skeinref00.num, WideInts, SpareInts.
-/
namespace Go.Proofs.YtkonfogebepccaaGreatDoor
open Go.RowKit
attribute [local go_sem] cell_set
set_option maxRecDepth 100000
set_option linter.unusedVariables false

def markN (n i : Nat) : Int := 1048576 * n + i + 1
/-- A list with marks behind it. -/
def wideL (l : List Int) : List Int := l ++ (List.range 64).map fun (i : Nat) => markN 9 (l.length + i)
theorem wideL_len (l : List Int) : (wideL l).length = l.length + 64 := by simp [wideL]
theorem wideL_lo {l : List Int} {i : Nat} (h : i < l.length) : (wideL l).getD i 0 = l.getD i 0 := by simp [wideL, List.getD_eq_getElem?_getD, List.getElem?_append_left h]
theorem wideL_hi {l : List Int} {i : Nat} (h : l.length ≤ i) (h2 : i < l.length + 64) : (wideL l).getD i 0 = markN 9 i := by
  have : i - l.length < 64 := by omega
  simp [wideL, List.getD_eq_getElem?_getD, List.getElem?_append_right h, this]
  congr 1
  omega
theorem num9 (i : Nat) (hi : i ≤ 1000000) (w : World) : Calls Tryz.prog 24 #[.int .i64 9, .int .i64 (i : Int)] w fun e w' => e = .returned (.int .i64 (markN 9 i)) ∧ w = w' := by
  have h1 : IntKind.i64.wrap (1048576 * 9 + (i : Int)) = 1048576 * 9 + (i : Int) := IntWalk.i64_in _ (by omega)
  have h2 : IntKind.i64.wrap (1048576 * 9 + (i : Int) + 1) = 1048576 * 9 + (i : Int) + 1 := IntWalk.i64_in _ (by omega)
  go_enter Tryz.func24, Tryz.ntmps24
  go_wp2
  go_ret
  exact ⟨retI (by unfold markN; first | omega | (simp; omega) | (unfold wrap64; omega)), rfl⟩
set_option maxHeartbeats 1000000 in
theorem wide_ints (A : Option Addr) (n cap : Nat) (l : List Int) (w : World) (hn : n = l.length) (hl : l.length ≤ 100000) (HA : Hid (IntsRd w A l)) :
    Calls Tryz.prog 25 #[.slice A n cap] w fun e w' => ∃ g, e = .returned (.slice (some ⟨g, 0, none⟩) n (n + 64)) ∧ w.heap.size ≤ g ∧ Row w' 3 1 (.slice (some ⟨g, 0, none⟩) (n + 64) (n + 64)) (n + 64) (ivals (wideL l)) ∧ Below w.heap.size w w' := by
  subst hn
  obtain ⟨i0, hi0, hi1, hi2, hi3⟩ := info_parts int_info
  obtain ⟨N, hN⟩ : ∃ N, N = l.length + 64 := ⟨_, rfl⟩
  have hsum : IntKind.i64.wrap ((l.length : Int) + 64) = (N : Int) := by rw [IntWalk.i64_in _ (by omega)]; omega
  have hN1 : N ≤ 100064 := by omega
  have hlN : l.length ≤ N := by omega
  have HN := Lib.hid hN
  have hw := wideL_len l
  rw [← hN] at hw ⊢
  have HW := Lib.hid hw
  clear hN hw
  go_enter Tryz.func25, Tryz.ntmps25
  go_upto_region 2 with (at_make; refine wpList_make_row _ rfl _ _ _ rfl _ i0 _ (by rfl) hi0 hi1 hi2 (by rfl) .i64 .i64 N (by rfl) (by rfl) (by rw [hi3]; omega) (by omega) ?_)
  refine absW (fun X => Row X 3 1 (.slice (some ⟨w.heap.size, 0, none⟩) N N) N (ivals (partL (wideL l) 0)) ∧ Below w.heap.size w X)
    ⟨by rw [partL_0, HW.out, ivals_replicate]; exact Row.made w _ _ N (by unfold maxLen; omega), (Below.refl _ _).alloc (Nat.le_refl _) _⟩ ?_
  rintro X ⟨hrx, hbx⟩
  have HX := Lib.hid (And.intro hrx hbx)
  clear hrx hbx
  go_wp2_with fail
  go_loopw [4] (fun i wr => ∃ k : Nat, i = .int .i64 k ∧ k ≤ N ∧ Hid (Row wr 3 1 (.slice (some ⟨w.heap.size, 0, none⟩) N N) N (ivals (partL (wideL l) k)) ∧ Below w.heap.size w wr)) (fun i _ => N - (intOf i).toNat)
  case atStart => exact ⟨0, rfl, by omega, HX⟩
  case round =>
    obtain ⟨k, rfl, hk, HR⟩ := hrel
    clear HX
    by_cases hlt : k < N
    · have s0 : wr.frozen? ⟨w.heap.size, k, none⟩ = false := HR.out.1.frozenAt k
      obtain ⟨u1, s2⟩ : ∃ u, wr.cell? ⟨w.heap.size, k, none⟩ = some u := ⟨_, (HR.out.1.cellAt k (by omega)).trans (List.getElem?_eq_getElem (by rw [HR.out.1.1]; omega))⟩
      have HE : Hid (partL (wideL l) (k + 1) = (partL (wideL l) k).set k ((wideL l).getD k 0)) := partL_succ (by rw [HW.out]; exact hlt)
      by_cases hlo : k < l.length
      · obtain ⟨b, off, rfl, hb, e0⟩ := HA.out k hlo
        have c0 := (HR.out.2.cell (p := ⟨b, off + k, none⟩) hb).trans e0
        have hbr : b < wr.heap.size := Nat.lt_of_lt_of_le hb HR.out.2.size
        have HV := Lib.hid (wideL_lo hlo)
        clear e0
        generalize l.getD k 0 = x at c0 HV
        go_wp2
        go_roundw
        case rel =>
          have hR8 := HR.out.1.set k (.int .i64 x)
          have hB8 := HR.out.2.setCell (p := ⟨w.heap.size, k, none⟩) (Nat.le_refl _) (.int .i64 x)
          have e := HE.out
          rw [HV.out] at e
          rw [ivals_set, ← e] at hR8
          exact ⟨k + 1, by go_num, by omega, hR8, hB8⟩
        case measure => simp [intOf]; omega
      · have HV : Hid ((wideL l).getD k 0 = markN 9 k) := wideL_hi (by omega) (by have := HN.out; omega)
        go_wp2_with (go_at_call 24; refine (num9 k (by omega) _).mono ?_; rintro e w5 ⟨rfl, rfl⟩)
        go_roundw
        case rel =>
          have hR8 := HR.out.1.set k (.int .i64 (markN 9 k))
          have hB8 := HR.out.2.setCell (p := ⟨w.heap.size, k, none⟩) (Nat.le_refl _) (.int .i64 (markN 9 k))
          have e := HE.out
          rw [HV.out] at e
          rw [ivals_set, ← e] at hR8
          exact ⟨k + 1, by go_num, by omega, hR8, hB8⟩
        case measure => simp [intOf]; omega
    · obtain rfl : N = k := by omega
      have HL2 : Hid (partL (wideL l) N = wideL l) := partL_alln HW.out
      go_wp2
      exact bodyPost_ret (v := .slice (some ⟨w.heap.size, 0, none⟩) l.length N) (by simp only [results, Tryz.results25]; go_simp) rfl ⟨w.heap.size, rfl, Nat.le_refl _, by rw [← HL2.out]; exact HR.out.1, HR.out.2⟩
theorem spare_ints (g : Nat) (n m : Nat) (l : List Int) (w : World) (hn : n = l.length) (hm : m = l.length + 64) (hl : l.length ≤ 100000) (HR : Hid (Row w 3 1 (.slice (some ⟨g, 0, none⟩) m m) m (ivals (wideL l)))) :
    Calls Tryz.prog 38 #[.slice (some ⟨g, 0, none⟩) n m] w fun e w' => e = .returned (.bool true) ∧ Below w.heap.size w w' := by
  subst hn
  have hsum : IntKind.i64.wrap ((l.length : Int) + 64) = (m : Int) := by rw [IntWalk.i64_in _ (by omega)]; omega
  have hN1 : m ≤ 100064 := by omega
  have hlN : l.length ≤ m := by omega
  have HN := Lib.hid hm
  have hgl : g < w.heap.size := HR.out.lt g (by simp [ownB])
  clear hm
  go_enter Tryz.func38, Tryz.ntmps38
  go_wp2
  go_loopw [4, 5] (fun i _ wr => ∃ k : Nat, i = .int .i64 k ∧ l.length ≤ k ∧ k ≤ m ∧ Hid (w = wr)) (fun i _ _ => m - (intOf i).toNat)
  case atStart => exact ⟨l.length, rfl, by omega, by omega, rfl⟩
  case round =>
    obtain ⟨k, rfl, hk, hk2, HW⟩ := hrel
    have hw := HW.out
    subst hw
    by_cases hlt : k < m
    · have c0 : w.cell? ⟨g, k, none⟩ = some (.int .i64 (markN 9 k)) := by
        have h1 := HR.out.cellAt k (by omega)
        have h2 := wideL_hi (l := l) hk (by have := HN.out; omega)
        rw [h1]
        have h3 : k < (wideL l).length := by rw [wideL_len]; have := HN.out; omega
        simp only [List.getD_eq_getElem?_getD, List.getElem?_eq_getElem h3, Option.getD_some] at h2
        simp [ivals, h3, h2]
      go_wp2_with (go_at_call 24; refine (num9 k (by omega) _).mono ?_; rintro e w5 ⟨rfl, rfl⟩)
      go_roundw
      case rel => first
        | exact ⟨k + 1, by go_num, by omega, by omega, rfl⟩
        | exact ⟨k + 1, by go_num, by omega, by omega, trivial⟩
      case measure => simp [intOf]; omega
    · go_wp2
      go_ret
      exact ⟨rfl, Below.refl _ _⟩
end Go.Proofs.YtkonfogebepccaaGreatDoor
namespace Go.Proofs.YtkonfogebepccaaGreatDoor
open Go.RowKit
attribute [local go_sem] cell_set
attribute [local go_sem high] run_eql_wire
set_option maxRecDepth 100000
set_option linter.unusedVariables false

def zW : Pt × Pt := ((0, 0), (0, 0))
theorem wrvals_set (l : List (Pt × Pt)) (s : Nat) (x : Pt × Pt) : ((((wrvals l).set (s * 4) (.int .i64 x.1.1)).set (s * 4 + 1) (.int .i64 x.1.2)).set (s * 4 + 2) (.int .i64 x.2.1)).set (s * 4 + 3) (.int .i64 x.2.2) = wrvals (l.set s x) := by
  induction l generalizing s with
  | nil => simp [wrvals]
  | cons y r ih =>
    have hc : wrvals (y :: r) = .int .i64 y.1.1 :: .int .i64 y.1.2 :: .int .i64 y.2.1 :: .int .i64 y.2.2 :: wrvals r := rfl
    cases s with
    | zero => rw [hc]; rfl
    | succ s =>
      rw [hc, show (s + 1) * 4 = s * 4 + 1 + 1 + 1 + 1 by omega]
      simp only [List.set_cons_succ]
      rw [ih s]
      rfl
theorem wrvals_rep (M : Nat) : wrvals (List.replicate M zW) = List.replicate (M * 4) (.int .i64 0) := by
  induction M with
  | zero => rfl
  | succ M ih =>
    rw [List.replicate_succ, show (M + 1) * 4 = M * 4 + 1 + 1 + 1 + 1 by omega, List.replicate_succ, List.replicate_succ, List.replicate_succ, List.replicate_succ, ← ih]
    rfl
theorem made4 (z : Value) (n : Nat) : (madeCells #[z, z, z, z] n).toList = List.replicate n z := by
  refine List.ext_getElem (by simp [size_madeCells]) fun i h1 h2 => ?_
  simp only [List.getElem_replicate]
  have hi : i < n := by simpa [size_madeCells] using h1
  simp only [madeCells, Array.toList_map, List.getElem_map, Array.toList_range, List.getElem_range]
  rcases (by omega : i % 4 = 0 ∨ i % 4 = 1 ∨ i % 4 = 2 ∨ i % 4 = 3) with h | h | h | h <;> simp [h]
theorem row_wires {X : World} {F M : Nat} (h : X.heap[F]? = some (.cells (madeCells #[.int .i64 0, .int .i64 0, .int .i64 0, .int .i64 0] (M * 4)) 102 (0, 0))) (hM : M ≤ maxLen) : Row X 102 4 (.slice (some ⟨F, 0, none⟩) M M) M (wrvals (List.replicate M zW)) :=
  ⟨by rw [wrvals_rep]; simp, .inr ⟨F, M, _, rfl, h, Nat.le_refl _, hM, by simp [size_madeCells], by rw [made4, wrvals_rep]; simp⟩⟩
theorem make_wires (n : Nat) (hn : n ≤ 1000000) (w : World) : (Instr.makeSlice 24 (.int .i64 (n : Int)) (.int .i64 (n : Int))).run Tryz.prog w = .ok (.slice (some ⟨w.heap.size, 0, none⟩) n n) (w.alloc (.cells (madeCells #[.int .i64 0, .int .i64 0, .int .i64 0, .int .i64 0] (n * 4)) 102)) := by
  obtain ⟨i, hi, hz, hs, hb⟩ := info_parts wire_info
  have hb' : (i.bytes : Int) * (n : Int) ≤ 281474976710656 := by rw [hb]; omega
  have hr := run_make (P := Tryz.prog) w 24 102 i _ Tryz.underlying24 hi hz .i64 .i64 n n (by omega) (Int.le_refl _) hb' (by omega)
  simp only [Int.toNat_natCast, hs] at hr
  exact hr
/-- A list that is written from its head on. -/
def partW (l : List (Pt × Pt)) (k : Nat) : List (Pt × Pt) := l.take k ++ List.replicate (l.length - k) zW
theorem partW_0 (l : List (Pt × Pt)) : partW l 0 = List.replicate l.length zW := by simp [partW]
theorem partW_alln {l : List (Pt × Pt)} {n : Nat} (h : l.length = n) : partW l n = l := by subst h; simp [partW]
theorem partW_succ {l : List (Pt × Pt)} {k : Nat} (h : k < l.length) : partW l (k + 1) = (partW l k).set k (l.getD k default) := by
  have e : l.length - k = (l.length - (k + 1)) + 1 := by omega
  unfold partW
  rw [e, List.replicate_succ, List.set_append_right _ _ (by simp; omega)]
  simp only [List.length_take]
  rw [show k - min k l.length = 0 by omega, List.set_cons_zero, List.take_add_one, List.getElem?_eq_getElem h]
  simp only [List.getD_eq_getElem?_getD, List.getElem?_eq_getElem h, Option.toList_some, Option.getD_some, List.append_assoc, List.singleton_append]
def wideW (l : List (Pt × Pt)) : List (Pt × Pt) := l ++ (List.range 64).map fun (i : Nat) => (((0 : Int), (0 : Int)), ((0 : Int), markN 9 (l.length + i)))
theorem wideW_len (l : List (Pt × Pt)) : (wideW l).length = l.length + 64 := by simp [wideW]
theorem wideW_lo {l : List (Pt × Pt)} {i : Nat} (h : i < l.length) : (wideW l).getD i default = l.getD i default := by simp [wideW, List.getD_eq_getElem?_getD, List.getElem?_append_left h]
theorem wideW_hi {l : List (Pt × Pt)} {i : Nat} (h : l.length ≤ i) (h2 : i < l.length + 64) : (wideW l).getD i default = ((0, 0), (0, markN 9 i)) := by
  have : i - l.length < 64 := by omega
  simp [wideW, List.getD_eq_getElem?_getD, List.getElem?_append_right h, this]
  congr 1
  omega
theorem Row.set4 {w : World} {e : TypeId} {g n cap : Nat} {xs : List Value} (h : Row w e 4 (.slice (some ⟨g, 0, none⟩) n cap) n xs) (j : Nat) (a b c d : Value) :
    Row ((((w.setCell ⟨g, j, none⟩ a).setCell ⟨g, j + 1, none⟩ b).setCell ⟨g, j + 2, none⟩ c).setCell ⟨g, j + 3, none⟩ d) e 4 (.slice (some ⟨g, 0, none⟩) n cap) n ((((xs.set j a).set (j + 1) b).set (j + 2) c).set (j + 3) d) := (((h.set j a).set (j + 1) b).set (j + 2) c).set (j + 3) d
set_option maxHeartbeats 1000000 in
theorem wide_wires (A : Option Addr) (n cap : Nat) (l : List (Pt × Pt)) (w : World) (hn : n = l.length) (hl : l.length ≤ 100000) (HA : Hid (WrRd w A l)) :
    Calls Tryz.prog 26 #[.slice A n cap] w fun e w' => ∃ g, e = .returned (.slice (some ⟨g, 0, none⟩) n (n + 64)) ∧ w.heap.size ≤ g ∧ Row w' 102 4 (.slice (some ⟨g, 0, none⟩) (n + 64) (n + 64)) (n + 64) (wrvals (wideW l)) ∧ Below w.heap.size w w' := by
  subst hn
  obtain ⟨N, hN⟩ : ∃ N, N = l.length + 64 := ⟨_, rfl⟩
  have hsum : IntKind.i64.wrap ((l.length : Int) + 64) = (N : Int) := by rw [IntWalk.i64_in _ (by omega)]; omega
  have hN1 : N ≤ 100064 := by omega
  have hlN : l.length ≤ N := by omega
  have HN := Lib.hid hN
  have hw := wideW_len l
  rw [← hN] at hw ⊢
  have HW := Lib.hid hw
  have hmk : ∀ w : World, (Instr.makeSlice 24 (.int .i64 (N : Int)) (.int .i64 (N : Int))).run Tryz.prog w = .ok (.slice (some ⟨w.heap.size, 0, none⟩) N N) (w.alloc (.cells (madeCells #[.int .i64 0, .int .i64 0, .int .i64 0, .int .i64 0] (N * 4)) 102)) := fun w => make_wires N (by omega) w
  clear hN hw
  go_enter Tryz.func26, Tryz.ntmps26
  go_upto_region 2 with fail
  refine absW (fun X => Row X 102 4 (.slice (some ⟨w.heap.size, 0, none⟩) N N) N (wrvals (partW (wideW l) 0)) ∧ Below w.heap.size w X)
    ⟨by rw [partW_0, HW.out]; exact row_wires (heap_alloc_new w _) (by unfold maxLen; omega), (Below.refl _ _).alloc (Nat.le_refl _) _⟩ ?_
  rintro X ⟨hrx, hbx⟩
  have HX := Lib.hid (And.intro hrx hbx)
  clear hrx hbx hmk
  go_wp2_with fail
  go_loopw [4] (fun i wr => ∃ k : Nat, i = .int .i64 k ∧ k ≤ N ∧ Hid (Row wr 102 4 (.slice (some ⟨w.heap.size, 0, none⟩) N N) N (wrvals (partW (wideW l) k)) ∧ Below w.heap.size w wr)) (fun i _ => N - (intOf i).toNat)
  case atStart => exact ⟨0, rfl, by omega, HX⟩
  case round =>
    obtain ⟨k, rfl, hk, HR⟩ := hrel
    clear HX
    by_cases hlt : k < N
    · have hrl : (wrvals (partW (wideW l) k)).length = N * 4 := HR.out.1.1
      have s0 : wr.frozen? ⟨w.heap.size, k * 4, none⟩ = false := HR.out.1.frozenAt _
      have s1 : wr.frozen? ⟨w.heap.size, k * 4 + 1, none⟩ = false := HR.out.1.frozenAt _
      have s2 : wr.frozen? ⟨w.heap.size, k * 4 + 2, none⟩ = false := HR.out.1.frozenAt _
      have s3 : wr.frozen? ⟨w.heap.size, k * 4 + 3, none⟩ = false := HR.out.1.frozenAt _
      obtain ⟨u0, t0⟩ : ∃ u, wr.cell? ⟨w.heap.size, k * 4, none⟩ = some u := ⟨_, (HR.out.1.cellAt (k * 4) (by omega)).trans (List.getElem?_eq_getElem (by omega))⟩
      obtain ⟨u1, t1⟩ : ∃ u, wr.cell? ⟨w.heap.size, k * 4 + 1, none⟩ = some u := ⟨_, (HR.out.1.cellAt (k * 4 + 1) (by omega)).trans (List.getElem?_eq_getElem (by omega))⟩
      obtain ⟨u2, t2⟩ : ∃ u, wr.cell? ⟨w.heap.size, k * 4 + 2, none⟩ = some u := ⟨_, (HR.out.1.cellAt (k * 4 + 2) (by omega)).trans (List.getElem?_eq_getElem (by omega))⟩
      obtain ⟨u3, t3⟩ : ∃ u, wr.cell? ⟨w.heap.size, k * 4 + 3, none⟩ = some u := ⟨_, (HR.out.1.cellAt (k * 4 + 3) (by omega)).trans (List.getElem?_eq_getElem (by omega))⟩
      have HE : Hid (partW (wideW l) (k + 1) = (partW (wideW l) k).set k ((wideW l).getD k default)) := partW_succ (by rw [HW.out]; exact hlt)
      clear hrl
      by_cases hlo : k < l.length
      · obtain ⟨b, off, rfl, hb, e0, e1, e2, e3⟩ := HA.out k hlo
        have c0 := (HR.out.2.cell (p := ⟨b, off + k * 4, none⟩) hb).trans e0
        have c1 := (HR.out.2.cell (p := ⟨b, off + k * 4 + 1, none⟩) hb).trans e1
        have c2 := (HR.out.2.cell (p := ⟨b, off + k * 4 + 2, none⟩) hb).trans e2
        have c3 := (HR.out.2.cell (p := ⟨b, off + k * 4 + 3, none⟩) hb).trans e3
        have hbr : b < wr.heap.size := Nat.lt_of_lt_of_le hb HR.out.2.size
        have HV := Lib.hid (wideW_lo hlo)
        have hbne : ¬ w.heap.size = b := by omega
        clear e0 e1 e2 e3
        generalize l.getD k default = x at c0 c1 c2 c3 HV
        obtain ⟨⟨x0, x1⟩, x2, x3⟩ := x
        go_wp2
        go_roundw
        case rel =>
          have hR8 := HR.out.1.set4 (k * 4) (.int .i64 x0) (.int .i64 x1) (.int .i64 x2) (.int .i64 x3)
          have e := HE.out
          rw [HV.out] at e
          have e2 := wrvals_set (partW (wideW l) k) k ((x0, x1), (x2, x3))
          rw [e2, ← e] at hR8
          exact ⟨k + 1, by go_num, by omega, hR8, ((((HR.out.2.setCell (p := ⟨w.heap.size, _, none⟩) (Nat.le_refl _) _).setCell (p := ⟨w.heap.size, _, none⟩) (Nat.le_refl _) _).setCell (p := ⟨w.heap.size, _, none⟩) (Nat.le_refl _) _).setCell (p := ⟨w.heap.size, _, none⟩) (Nat.le_refl _) _)⟩
        case measure => simp [intOf]; omega
      · have HV : Hid ((wideW l).getD k default = ((0, 0), (0, markN 9 k))) := wideW_hi (by omega) (by have := HN.out; omega)
        go_wp2_with (go_at_call 24; refine (num9 k (by omega) _).mono ?_; rintro e w5 ⟨rfl, rfl⟩)
        go_roundw
        case rel =>
          have hR8 := HR.out.1.set4 (k * 4) (.int .i64 0) (.int .i64 0) (.int .i64 0) (.int .i64 (markN 9 k))
          have e := HE.out
          rw [HV.out] at e
          have e2 := wrvals_set (partW (wideW l) k) k ((0, 0), (0, markN 9 k))
          rw [e2, ← e] at hR8
          exact ⟨k + 1, by go_num, by omega, hR8, ((((HR.out.2.setCell (p := ⟨w.heap.size, _, none⟩) (Nat.le_refl _) _).setCell (p := ⟨w.heap.size, _, none⟩) (Nat.le_refl _) _).setCell (p := ⟨w.heap.size, _, none⟩) (Nat.le_refl _) _).setCell (p := ⟨w.heap.size, _, none⟩) (Nat.le_refl _) _)⟩
        case measure => simp [intOf]; omega
    · obtain rfl : N = k := by omega
      have HL2 : Hid (partW (wideW l) N = wideW l) := partW_alln HW.out
      go_wp2
      exact bodyPost_ret (v := .slice (some ⟨w.heap.size, 0, none⟩) l.length N) (by simp only [results, Tryz.results26]; go_simp) rfl ⟨w.heap.size, rfl, Nat.le_refl _, by rw [← HL2.out]; exact HR.out.1, HR.out.2⟩
theorem Row.wide {w : World} {g m : Nat} {l : List (Pt × Pt)} (hR : Row w 102 4 (.slice (some ⟨g, 0, none⟩) m m) m (wrvals (wideW l))) (hm : m = l.length + 64) {k : Nat} (h1 : l.length ≤ k) (h2 : k < m) :
    w.cell? ⟨g, k * 4, none⟩ = some (.int .i64 0) ∧ w.cell? ⟨g, k * 4 + 1, none⟩ = some (.int .i64 0) ∧ w.cell? ⟨g, k * 4 + 2, none⟩ = some (.int .i64 0) ∧ w.cell? ⟨g, k * 4 + 3, none⟩ = some (.int .i64 (markN 9 k)) := by
  have hk : k < (wideW l).length := by rw [wideW_len]; omega
  obtain ⟨a0, a1, a2, a3⟩ := wrvals_at (wideW l) hk
  rw [wideW_hi h1 (by omega)] at a0 a1 a2 a3
  exact ⟨(hR.cellAt _ (by omega)).trans a0, (hR.cellAt _ (by omega)).trans a1, (hR.cellAt _ (by omega)).trans a2, (hR.cellAt _ (by omega)).trans a3⟩
set_option maxHeartbeats 1000000 in
theorem spare_wires (g : Nat) (n m : Nat) (l : List (Pt × Pt)) (w : World) (hn : n = l.length) (hm : m = l.length + 64) (hl : l.length ≤ 100000) (HR : Hid (Row w 102 4 (.slice (some ⟨g, 0, none⟩) m m) m (wrvals (wideW l)))) :
    Calls Tryz.prog 39 #[.slice (some ⟨g, 0, none⟩) n m] w fun e w' => e = .returned (.bool true) ∧ Below w.heap.size w w' := by
  subst hn
  have hsum : IntKind.i64.wrap ((l.length : Int) + 64) = (m : Int) := by rw [IntWalk.i64_in _ (by omega)]; omega
  have hN1 : m ≤ 100064 := by omega
  have hlN : l.length ≤ m := by omega
  have HN := Lib.hid hm
  have hgl : g < w.heap.size := HR.out.lt g (by simp [ownB])
  clear hm
  go_enter Tryz.func39, Tryz.ntmps39
  go_wp2
  go_loopw [4, 5] (fun i _ wr => ∃ k : Nat, i = .int .i64 k ∧ l.length ≤ k ∧ k ≤ m ∧ Hid (Below w.heap.size w wr)) (fun i _ _ => m - (intOf i).toNat)
  case atStart => exact ⟨l.length, rfl, by omega, by omega, Below.refl _ _⟩
  case round =>
    obtain ⟨k, rfl, hk, hk2, HW⟩ := hrel
    by_cases hlt : k < m
    · obtain ⟨c0, c1, c2, c3⟩ := Row.wide (HR.out.keep fun b hb => HW.out.block b (HR.out.lt b hb)) HN.out hk hlt
      have hgr : g < wr.heap.size := by have := HW.out.size; omega
      have hE : eqW ((0, 0), (0, markN 9 k)) ((0, 0), (0, markN 9 k)) = true := by unfold eqW; simp
      go_upto_region 6 with fail
      refine absW (fun X => Below w.heap.size w X ∧ X.heap[wr.heap.size]? = some (.cells #[.int .i64 0, .int .i64 0, .int .i64 0, .int .i64 (markN 9 k)] 102 (0, 0))) ⟨HW.out.alloc HW.out.size _, heap_alloc_new wr _⟩ ?_
      rintro X ⟨hbX, hX⟩
      have HX := Lib.hid hbX
      have x0 : X.cell? ⟨wr.heap.size, 0, none⟩ = some (.int .i64 0) := by simp [World.cell?, hX]
      have x1 : X.cell? ⟨wr.heap.size, 1, none⟩ = some (.int .i64 0) := by simp [World.cell?, hX]
      have x2 : X.cell? ⟨wr.heap.size, 2, none⟩ = some (.int .i64 0) := by simp [World.cell?, hX]
      have x3 : X.cell? ⟨wr.heap.size, 3, none⟩ = some (.int .i64 (markN 9 k)) := by simp [World.cell?, hX]
      clear c0 c1 c2 c3 hX hbX
      go_quiet ((go_at_call 24; exact Calls.quiet_of_same ((num9 k (by omega) _).mono fun e w' h => ⟨h.1, h.2.symm⟩)))
      go_wp2_with fail
      go_roundw
      case rel => exact ⟨k + 1, by go_num, by omega, by omega, below_drewN HX.out _⟩
      case measure => simp [intOf]; omega
    · go_wp2
      go_ret
      exact ⟨rfl, HW.out⟩
/-- A net with marks behind its lists. -/
def WideN (w : World) (g1 g2 : Nat) (cells : List Int) (W : List (Pt × Pt)) : Prop := Row w 3 1 (.slice (some ⟨g1, 0, none⟩) (cells.length + 64) (cells.length + 64)) (cells.length + 64) (ivals (wideL cells)) ∧ Row w 102 4 (.slice (some ⟨g2, 0, none⟩) (W.length + 64) (W.length + 64)) (W.length + 64) (wrvals (wideW W))
theorem WideN.below {w w' : World} {g1 g2 : Nat} {cells : List Int} {W : List (Pt × Pt)} (h : WideN w g1 g2 cells W) (hb : Below w.heap.size w w') : WideN w' g1 g2 cells W := ⟨h.1.keep fun b hm => hb.block b (h.1.lt b hm), h.2.keep fun b hm => hb.block b (h.2.lt b hm)⟩
theorem WideN.ints {w : World} {g1 g2 : Nat} {cells : List Int} {W : List (Pt × Pt)} (h : WideN w g1 g2 cells W) : IntsRd w (some ⟨g1, 0, none⟩) cells := fun i hi => by
  refine ⟨g1, 0, rfl, h.1.lt g1 (by simp [ownB]), ?_⟩
  rw [Nat.zero_add, h.1.cellAt i (by omega)]
  have h2 := wideL_lo hi
  have h3 : i < (wideL cells).length := by rw [wideL_len]; omega
  simp only [List.getD_eq_getElem?_getD, List.getElem?_eq_getElem h3, Option.getD_some] at h2
  simp [ivals, h3, h2, List.getD_eq_getElem?_getD]
theorem WideN.wires {w : World} {g1 g2 : Nat} {cells : List Int} {W : List (Pt × Pt)} (h : WideN w g1 g2 cells W) : WrRd w (some ⟨g2, 0, none⟩) W := fun i hi => by
  have h3 : i < (wideW W).length := by rw [wideW_len]; omega
  obtain ⟨a0, a1, a2, a3⟩ := wrvals_at (wideW W) h3
  rw [wideW_lo hi] at a0 a1 a2 a3
  refine ⟨g2, 0, rfl, h.2.lt g2 (by simp [ownB]), ?_, ?_, ?_, ?_⟩
  · rw [Nat.zero_add, h.2.cellAt _ (by omega)]; exact a0
  · rw [Nat.zero_add, h.2.cellAt _ (by omega)]; exact a1
  · rw [Nat.zero_add, h.2.cellAt _ (by omega)]; exact a2
  · rw [Nat.zero_add, h.2.cellAt _ (by omega)]; exact a3
set_option maxHeartbeats 1000000 in
theorem wide_net (VA VB : Option Addr) (ca cb : Nat) (cells : List Int) (free : Int) (W : List (Pt × Pt)) (w : World) (hc : cells.length ≤ 100000) (hw : W.length ≤ 100000) (HC : Hid (IntsRd w VA cells)) (HW : Hid (WrRd w VB W)) :
    Calls Tryz.prog 7 #[netV VA ca cells free VB cb W] w fun e w' => ∃ g1 g2, e = .returned (netV (some ⟨g1, 0, none⟩) (cells.length + 64) cells free (some ⟨g2, 0, none⟩) (W.length + 64) W) ∧ w.heap.size ≤ g1 ∧ w.heap.size ≤ g2 ∧ WideN w' g1 g2 cells W ∧ Below w.heap.size w w' := by
  unfold netV
  go_enter Tryz.func7, Tryz.ntmps7
  go_upto_region 1 with fail
  refine absW (fun X => Below w.heap.size w X ∧ X.heap[w.heap.size]? = some (.cells #[.slice VA cells.length ca, .int .i64 free, .slice VB W.length cb] 26 (0, 0)) ∧ X.heap[w.heap.size + 1]? = some (.cells #[.slice none 0 0, .int .i64 0, .slice none 0 0] 26 (0, 0)))
    ⟨by (repeat (first | exact Below.refl _ _ | (with_reducible refine Below.drew ?_) | (with_reducible refine Below.alloc ?_ (by (try simp); (try omega)) _) | (with_reducible refine Below.setCell ?_ (by (try simp); (try omega)) _) | (with_reducible refine Below.trans ?_ (Below.mono (by assumption) (by (try simp); (try omega)))))), (Below.heap_alloc _ _ _ (by simp)).trans (heap_alloc_new w _), by have := heap_alloc_new (w.alloc (.cells #[.slice VA cells.length ca, .int .i64 free, .slice VB W.length cb] 26)) (.cells #[.slice none 0 0, .int .i64 0, .slice none 0 0] 26); rwa [World.size_alloc] at this⟩ ?_
  rintro X ⟨hbX, h0, h1⟩
  have x0 : X.cell? ⟨w.heap.size, 0, none⟩ = some (.slice VA cells.length ca) := by simp [World.cell?, h0]
  have HX := Lib.hid (And.intro hbX (And.intro h0 h1))
  clear hbX h0 h1
  go_wp2_with fail
  refine (wide_ints VA _ ca cells X rfl hc (Lib.hid (HC.out.below HX.out.1))).mono ?_
  rintro e w1 ⟨g1, rfl, hg1, hr1, hb1⟩
  have h0 := (hb1.block _ (heap_lt HX.out.2.1)).trans HX.out.2.1
  have h1 := (hb1.block _ (heap_lt HX.out.2.2)).trans HX.out.2.2
  have hsz := heap_lt HX.out.2.2
  have y0 : w1.cell? ⟨w.heap.size, 0, none⟩ = some (.slice VA cells.length ca) := by simp [World.cell?, h0]
  have y1 : w1.frozen? ⟨w.heap.size, 0, none⟩ = false := by simp [World.frozen?, h0]
  have hl1 := heap_lt h0
  have hq0 : (w1.setCell ⟨w.heap.size, 0, none⟩ (.slice (some ⟨g1, 0, none⟩) cells.length (cells.length + 64))).heap[w.heap.size]? = some (.cells #[.slice (some ⟨g1, 0, none⟩) cells.length (cells.length + 64), .int .i64 free, .slice VB W.length cb] 26 (0, 0)) := by simp [World.setCell, Array.getElem?_modify, h0]
  have hq1 := (Below.heap_setCell w1 ⟨w.heap.size, 0, none⟩ (.slice (some ⟨g1, 0, none⟩) cells.length (cells.length + 64)) (w.heap.size + 1) (by simp)).trans h1
  have HY : Hid (Below w.heap.size w (w1.setCell ⟨w.heap.size, 0, none⟩ (.slice (some ⟨g1, 0, none⟩) cells.length (cells.length + 64))) ∧ Row (w1.setCell ⟨w.heap.size, 0, none⟩ (.slice (some ⟨g1, 0, none⟩) cells.length (cells.length + 64))) 3 1 (.slice (some ⟨g1, 0, none⟩) (cells.length + 64) (cells.length + 64)) (cells.length + 64) (ivals (wideL cells))) :=
    ⟨(HX.out.1.trans (hb1.mono HX.out.1.size)).setCell (p := ⟨w.heap.size, 0, none⟩) (Nat.le_refl _) _, hr1.keep fun b hb => Below.heap_setCell _ _ _ b (by simp [ownB] at hb; subst hb; have := HX.out.1.size; simp; omega)⟩
  have HQ := Lib.hid (And.intro hq0 hq1)
  have hg1' : w.heap.size + 1 < g1 := by omega
  clear hr1 hb1 h0 h1 x0 hq0 hq1
  simp only []
  go_upto_region 2 with fail
  refine absW (fun Z => Hid ((Below w.heap.size w Z ∧ Row Z 3 1 (.slice (some ⟨g1, 0, none⟩) (cells.length + 64) (cells.length + 64)) (cells.length + 64) (ivals (wideL cells))) ∧ Z.heap[w.heap.size]? = some (.cells #[.slice (some ⟨g1, 0, none⟩) cells.length (cells.length + 64), .int .i64 free, .slice VB W.length cb] 26 (0, 0)) ∧ Z.heap[w.heap.size + 1]? = some (.cells #[.slice none 0 0, .int .i64 0, .slice none 0 0] 26 (0, 0)))) (Lib.hid ⟨HY.out, HQ.out⟩) ?_
  intro Z HZ
  clear HY HQ y0 y1 hl1 hsz
  have z2 : Z.cell? ⟨w.heap.size, 2, none⟩ = some (.slice VB W.length cb) := by simp [World.cell?, HZ.out.2.1]
  go_wp2_with fail
  refine (wide_wires VB _ cb W Z rfl hw (Lib.hid (HW.out.below HZ.out.1.1))).mono ?_
  rintro e w2 ⟨g2, rfl, hg2, hr2, hb2⟩
  have h0 := (hb2.block _ (heap_lt HZ.out.2.1)).trans HZ.out.2.1
  have h1 := (hb2.block _ (heap_lt HZ.out.2.2)).trans HZ.out.2.2
  have hsz := heap_lt HZ.out.2.2
  have y0 : w2.cell? ⟨w.heap.size, 0, none⟩ = some (.slice (some ⟨g1, 0, none⟩) cells.length (cells.length + 64)) := by simp [World.cell?, h0]
  have y1 : w2.cell? ⟨w.heap.size, 1, none⟩ = some (.int .i64 free) := by simp [World.cell?, h0]
  have y2 : w2.cell? ⟨w.heap.size, 2, none⟩ = some (.slice VB W.length cb) := by simp [World.cell?, h0]
  have y3 : w2.frozen? ⟨w.heap.size, 2, none⟩ = false := by simp [World.frozen?, h0]
  have k0 : w2.cell? ⟨w.heap.size + 1, 0, none⟩ = some (.slice none 0 0) := by simp [World.cell?, h1]
  have k1 : w2.cell? ⟨w.heap.size + 1, 1, none⟩ = some (.int .i64 0) := by simp [World.cell?, h1]
  have k2 : w2.cell? ⟨w.heap.size + 1, 2, none⟩ = some (.slice none 0 0) := by simp [World.cell?, h1]
  have k3 : w2.frozen? ⟨w.heap.size + 1, 0, none⟩ = false := by simp [World.frozen?, h1]
  have k4 : w2.frozen? ⟨w.heap.size + 1, 1, none⟩ = false := by simp [World.frozen?, h1]
  have k5 : w2.frozen? ⟨w.heap.size + 1, 2, none⟩ = false := by simp [World.frozen?, h1]
  have hl1 := heap_lt h1
  have hl0 := heap_lt h0
  have HE := Lib.hid (And.intro (HZ.out.1.1.trans (hb2.mono HZ.out.1.1.size)) (And.intro (HZ.out.1.2.keep fun b hb => hb2.block b (HZ.out.1.2.lt b hb)) hr2))
  have HG : Hid (w.heap.size ≤ g1 ∧ w.heap.size ≤ g2 ∧ w.heap.size + 1 < g2 ∧ w.heap.size + 1 < g1) := ⟨by omega, by omega, by omega, hg1'⟩
  clear hr2 hb2 h0 h1 z2 hg1 hg2 hg1'
  simp only []
  go_wp2_with fail
  refine bodyPost_ret (v := .agg #[.slice (some ⟨g1, 0, none⟩) cells.length (cells.length + 64), .int .i64 free, .slice (some ⟨g2, 0, none⟩) W.length (W.length + 64)]) (by simp only [results, Tryz.results7]; go_simp) rfl ⟨g1, g2, rfl, HG.out.1, HG.out.2.1, ⟨HE.out.2.1.keep fun b hb => ?_, HE.out.2.2.keep fun b hb => ?_⟩, ?_⟩
  · have hbe : b = g1 := by simpa [ownB] using hb
    have := HG.out.2.2.2
    iterate 4 (refine (Below.heap_setCell _ _ _ b (by simp; omega)).trans ?_)
    rfl
  · have hbe : b = g2 := by simpa [ownB] using hb
    have := HG.out.2.2.1
    iterate 4 (refine (Below.heap_setCell _ _ _ b (by simp; omega)).trans ?_)
    rfl
  · have := HE.out.1
    iterate 4 (refine Below.setCell ?_ (by simp) _)
    exact this
theorem spare_net (g1 g2 : Nat) (cells : List Int) (free : Int) (W : List (Pt × Pt)) (w : World) (hc : cells.length ≤ 100000) (hw : W.length ≤ 100000) (H : Hid (WideN w g1 g2 cells W)) :
    Calls Tryz.prog 17 #[netV (some ⟨g1, 0, none⟩) (cells.length + 64) cells free (some ⟨g2, 0, none⟩) (W.length + 64) W] w fun e w' => e = .returned (.bool true) ∧ Below w.heap.size w w' := by
  have hbA : ∀ o : Obj, Below w.heap.size w (w.alloc o) := fun o => (Below.refl _ _).alloc (Nat.le_refl _) o
  unfold netV
  obtain ⟨m1, h1⟩ : ∃ m, m = cells.length + 64 := ⟨_, rfl⟩
  obtain ⟨m2, h2⟩ : ∃ m, m = W.length + 64 := ⟨_, rfl⟩
  have HH : Hid (∀ X, Below w.heap.size w X → Row X 3 1 (.slice (some ⟨g1, 0, none⟩) m1 m1) m1 (ivals (wideL cells)) ∧ Row X 102 4 (.slice (some ⟨g2, 0, none⟩) m2 m2) m2 (wrvals (wideW W))) := fun X hX => by
    have := H.out.below hX
    unfold WideN at this
    rw [← h1, ← h2] at this
    exact this
  have HM := Lib.hid (And.intro h1 h2)
  rw [← h1, ← h2]
  clear h1 h2
  go_enter Tryz.func17, Tryz.ntmps17
  go_wp2_with fail
  refine (spare_ints g1 _ m1 cells _ rfl HM.out.1 hc (Lib.hid (HH.out _ (hbA _)).1)).mono ?_
  rintro e w1 ⟨rfl, hb1⟩
  have HB := Lib.hid ((hbA (.cells #[.slice (some ⟨g1, 0, none⟩) cells.length m1, .int .i64 free, .slice (some ⟨g2, 0, none⟩) W.length m2] 26)).trans (hb1.mono (hbA _).size))
  have y2 : w1.cell? ⟨w.heap.size, 2, none⟩ = some (.slice (some ⟨g2, 0, none⟩) W.length m2) := (hb1.cell (p := ⟨w.heap.size, 2, none⟩) (by simp)).trans (by go_simp)
  clear hb1
  simp only []
  go_wp2_with fail
  refine (spare_wires g2 _ m2 W w1 rfl HM.out.2 hw (Lib.hid (HH.out _ HB.out).2)).mono ?_
  rintro e w2 ⟨rfl, hb2⟩
  have HB2 := Lib.hid (HB.out.trans (hb2.mono HB.out.size))
  clear y2 hb2
  simp only []
  go_wp2_with fail
  go_ret
  exact ⟨rfl, HB2.out⟩
end Go.Proofs.YtkonfogebepccaaGreatDoor
