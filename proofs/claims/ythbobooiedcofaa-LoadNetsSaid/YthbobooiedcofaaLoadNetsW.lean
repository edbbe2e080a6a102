/-
  The statement LoadNets: its walk.
-/
import Derived.Test.YthbobooiedcofaaRef03K
import Derived.Test.YthbobooiedcofaaNetPlainK
import Derived.Test.YthbobooiedcofaaEqN
import Derived.Deep.QuietTactic
import Derived.BigQuiet
import Derived.Test.YthbobooiedcofaaRLoadC
import Derived.Test.YthbobooiedcofaaLoadMuch
import Derived.Test.YthbobooiedcofaaRWirPut
/-
  Contracts of skeinref00.WideWires, SpareWires, WideNet, SpareNet.
-/
/-
  Contracts of skeinref00.num, WideInts, SpareInts.
-/
/-
  Rows of ports and of ints that 'make' makes; a list of ints, filled so far.
-/
namespace Go.Proofs.Ythbobooiedcofaa
open Go.RowKit
attribute [local go_sem] cell_set
set_option maxRecDepth 100000
set_option linter.unusedVariables false

theorem pvals_set (l : List Pt) (s : Nat) (p : Pt) : ((pvals l).set (s * 2) (.int .i64 p.1)).set (s * 2 + 1) (.int .i64 p.2) = pvals (l.set s p) := by
  induction l generalizing s with
  | nil => simp [pvals]
  | cons x r ih =>
    have hc : pvals (x :: r) = .int .i64 x.1 :: .int .i64 x.2 :: pvals r := rfl
    cases s with
    | zero => rw [hc]; rfl
    | succ s =>
      rw [hc, show (s + 1) * 2 = s * 2 + 1 + 1 by omega]
      simp only [List.set_cons_succ]
      rw [ih s]
      rfl
theorem pvals_rep (M : Nat) : pvals (List.replicate M (0, 0)) = List.replicate (M * 2) (.int .i64 0) := by
  induction M with
  | zero => rfl
  | succ M ih =>
    rw [List.replicate_succ, show (M + 1) * 2 = M * 2 + 1 + 1 by omega, List.replicate_succ, List.replicate_succ, ← ih]
    rfl
theorem made2 (z : Value) (n : Nat) : (madeCells #[z, z] n).toList = List.replicate n z := by
  refine List.ext_getElem (by simp [size_madeCells]) fun i h1 h2 => ?_
  simp only [List.getElem_replicate]
  have hi : i < n := by simpa [size_madeCells] using h1
  simp only [madeCells, Array.toList_map, List.getElem_map, Array.toList_range, List.getElem_range]
  rcases (by omega : i % 2 = 0 ∨ i % 2 = 1) with h | h
  · simp [h]
  · simp [h]
theorem row_ports {X : World} {F M : Nat} (h : X.heap[F]? = some (.cells (madeCells #[.int .i64 0, .int .i64 0] (M * 2)) 39 (0, 0))) (hM : M ≤ maxLen) : Row X 39 2 (.slice (some ⟨F, 0, none⟩) M M) M (pvals (List.replicate M (0, 0))) :=
  ⟨by rw [pvals_rep]; simp, .inr ⟨F, M, _, rfl, h, Nat.le_refl _, hM, by simp [size_madeCells], by rw [made2, pvals_rep]; simp⟩⟩
theorem row_zeros {X : World} {C n : Nat} (h : X.heap[C]? = some (.cells (madeCells #[.int .i64 0] n) 3 (0, 0))) (hM : n ≤ maxLen) : Row X 3 1 (.slice (some ⟨C, 0, none⟩) n n) n (List.replicate n (.int .i64 0)) :=
  ⟨by simp, .inr ⟨C, n, _, rfl, h, Nat.le_refl _, hM, by simp [size_madeCells], by rw [toList_madeCells_one]; simp⟩⟩
theorem make_ports (n : Nat) (hn : n ≤ 1000000) (w : World) : (Instr.makeSlice 84 (.int .i64 (n : Int)) (.int .i64 (n : Int))).run Try.prog w = .ok (.slice (some ⟨w.heap.size, 0, none⟩) n n) (w.alloc (.cells (madeCells #[.int .i64 0, .int .i64 0] (n * 2)) 39)) := by
  obtain ⟨i, hi, hz, hs, hb⟩ := info_parts port_info
  have hb' : (i.bytes : Int) * (n : Int) ≤ 281474976710656 := by rw [hb]; omega
  have hr := run_make (P := Try.prog) w 84 39 i _ Try.underlying84 hi hz .i64 .i64 n n (by omega) (Int.le_refl _) hb' (by omega)
  simp only [Int.toNat_natCast, hs] at hr
  exact hr
/-- A list that is written from its head on. -/
def partL (l : List Int) (k : Nat) : List Int := l.take k ++ List.replicate (l.length - k) 0
theorem partL_0 (l : List Int) : partL l 0 = List.replicate l.length 0 := by simp [partL]
theorem partL_len {l : List Int} {k : Nat} (h : k ≤ l.length) : (partL l k).length = l.length := by simp [partL]; omega
theorem partL_all (l : List Int) : partL l l.length = l := by simp [partL]
theorem partL_succ {l : List Int} {k : Nat} (h : k < l.length) : partL l (k + 1) = (partL l k).set k (l.getD k 0) := by
  have e : l.length - k = (l.length - (k + 1)) + 1 := by omega
  unfold partL
  rw [e, List.replicate_succ, List.set_append_right _ _ (by simp; omega)]
  simp only [List.length_take]
  rw [show k - min k l.length = 0 by omega, List.set_cons_zero, List.take_add_one, List.getElem?_eq_getElem h]
  simp only [List.getD_eq_getElem?_getD, List.getElem?_eq_getElem h, Option.toList_some, Option.getD_some, List.append_assoc, List.singleton_append]
theorem partL_alln {l : List Int} {n : Nat} (h : l.length = n) : partL l n = l := h ▸ partL_all l
end Go.Proofs.Ythbobooiedcofaa
namespace Go.Proofs.Ythbobooiedcofaa
open Go.RowKit
attribute [local go_sem] cell_set
set_option maxRecDepth 100000
set_option linter.unusedVariables false

def markN (n i : Nat) : Int := 1048576 * n + i + 1
/-- A list with marks behind it. -/
def wideL (l : List Int) : List Int := l ++ (List.range 64).map fun (i : Nat) => markN 9 (l.length + i)
theorem wideL_len (l : List Int) : (wideL l).length = l.length + 64 := by simp [wideL]
theorem wideL_lo {l : List Int} {i : Nat} (h : i < l.length) : (wideL l).getD i 0 = l.getD i 0 := by simp [wideL, List.getD_eq_getElem?_getD, List.getElem?_append_left h]
theorem wideL_hi {l : List Int} {i : Nat} (h : l.length ≤ i) (h2 : i < l.length + 64) : (wideL l).getD i 0 = markN 9 i := by
  have : i - l.length < 64 := by omega
  simp [wideL, List.getD_eq_getElem?_getD, List.getElem?_append_right h, this]
  congr 1
  omega
theorem num9 (i : Nat) (hi : i ≤ 1000000) (w : World) : Calls Try.prog 123 #[.int .i64 9, .int .i64 (i : Int)] w fun e w' => e = .returned (.int .i64 (markN 9 i)) ∧ w = w' := by
  have h1 : IntKind.i64.wrap (1048576 * 9 + (i : Int)) = 1048576 * 9 + (i : Int) := IntWalk.i64_in _ (by omega)
  have h2 : IntKind.i64.wrap (1048576 * 9 + (i : Int) + 1) = 1048576 * 9 + (i : Int) + 1 := IntWalk.i64_in _ (by omega)
  go_enter Try.func123, Try.ntmps123
  go_wp2
  go_ret
  exact ⟨retI (by unfold markN; first | omega | (simp; omega) | (unfold wrap64; omega)), rfl⟩
set_option maxHeartbeats 1000000 in
theorem wide_ints (A : Option Addr) (n cap : Nat) (l : List Int) (w : World) (hn : n = l.length) (hl : l.length ≤ 100000) (HA : Hid (IntsRd w A l)) :
    Calls Try.prog 87 #[.slice A n cap] w fun e w' => ∃ g, e = .returned (.slice (some ⟨g, 0, none⟩) n (n + 64)) ∧ w.heap.size ≤ g ∧ Row w' 3 1 (.slice (some ⟨g, 0, none⟩) (n + 64) (n + 64)) (n + 64) (ivals (wideL l)) ∧ Below w.heap.size w w' := by
  subst hn
  obtain ⟨i0, hi0, hi1, hi2, hi3⟩ := info_parts int_info
  obtain ⟨N, hN⟩ : ∃ N, N = l.length + 64 := ⟨_, rfl⟩
  have hsum : IntKind.i64.wrap ((l.length : Int) + 64) = (N : Int) := by rw [IntWalk.i64_in _ (by omega)]; omega
  have hN1 : N ≤ 100064 := by omega
  have hlN : l.length ≤ N := by omega
  have HN := Lib.hid hN
  have hw := wideL_len l
  rw [← hN] at hw ⊢
  have HW := Lib.hid hw
  clear hN hw
  go_enter Try.func87, Try.ntmps87
  go_upto_region 2 with (at_make; refine wpList_make_row _ rfl _ _ _ rfl _ i0 _ (by rfl) hi0 hi1 hi2 (by rfl) .i64 .i64 N (by rfl) (by rfl) (by rw [hi3]; omega) (by omega) ?_)
  refine absW (fun X => Row X 3 1 (.slice (some ⟨w.heap.size, 0, none⟩) N N) N (ivals (partL (wideL l) 0)) ∧ Below w.heap.size w X)
    ⟨by rw [partL_0, HW.out, ivals_replicate]; exact Row.made w _ _ N (by unfold maxLen; omega), (Below.refl _ _).alloc (Nat.le_refl _) _⟩ ?_
  rintro X ⟨hrx, hbx⟩
  have HX := Lib.hid (And.intro hrx hbx)
  clear hrx hbx
  go_wp2_with fail
  go_loopw [4] (fun i wr => ∃ k : Nat, i = .int .i64 k ∧ k ≤ N ∧ Hid (Row wr 3 1 (.slice (some ⟨w.heap.size, 0, none⟩) N N) N (ivals (partL (wideL l) k)) ∧ Below w.heap.size w wr)) (fun i _ => N - (intOf i).toNat)
  case atStart => exact ⟨0, rfl, by omega, HX⟩
  case round =>
    obtain ⟨k, rfl, hk, HR⟩ := hrel
    clear HX
    by_cases hlt : k < N
    · have s0 : wr.frozen? ⟨w.heap.size, k, none⟩ = false := HR.out.1.frozenAt k
      obtain ⟨u1, s2⟩ : ∃ u, wr.cell? ⟨w.heap.size, k, none⟩ = some u := ⟨_, (HR.out.1.cellAt k (by omega)).trans (List.getElem?_eq_getElem (by rw [HR.out.1.1]; omega))⟩
      have HE : Hid (partL (wideL l) (k + 1) = (partL (wideL l) k).set k ((wideL l).getD k 0)) := partL_succ (by rw [HW.out]; exact hlt)
      by_cases hlo : k < l.length
      · obtain ⟨b, off, rfl, hb, e0⟩ := HA.out k hlo
        have c0 := (HR.out.2.cell (p := ⟨b, off + k, none⟩) hb).trans e0
        have hbr : b < wr.heap.size := Nat.lt_of_lt_of_le hb HR.out.2.size
        have HV := Lib.hid (wideL_lo hlo)
        clear e0
        generalize l.getD k 0 = x at c0 HV
        go_wp2
        go_roundw
        case rel =>
          have hR8 := HR.out.1.set k (.int .i64 x)
          have hB8 := HR.out.2.setCell (p := ⟨w.heap.size, k, none⟩) (Nat.le_refl _) (.int .i64 x)
          have e := HE.out
          rw [HV.out] at e
          rw [ivals_set, ← e] at hR8
          exact ⟨k + 1, by go_num, by omega, hR8, hB8⟩
        case measure => simp [intOf]; omega
      · have HV : Hid ((wideL l).getD k 0 = markN 9 k) := wideL_hi (by omega) (by have := HN.out; omega)
        go_wp2_with (go_at_call 123; refine (num9 k (by omega) _).mono ?_; rintro e w5 ⟨rfl, rfl⟩)
        go_roundw
        case rel =>
          have hR8 := HR.out.1.set k (.int .i64 (markN 9 k))
          have hB8 := HR.out.2.setCell (p := ⟨w.heap.size, k, none⟩) (Nat.le_refl _) (.int .i64 (markN 9 k))
          have e := HE.out
          rw [HV.out] at e
          rw [ivals_set, ← e] at hR8
          exact ⟨k + 1, by go_num, by omega, hR8, hB8⟩
        case measure => simp [intOf]; omega
    · obtain rfl : N = k := by omega
      have HL2 : Hid (partL (wideL l) N = wideL l) := partL_alln HW.out
      go_wp2
      exact bodyPost_ret (v := .slice (some ⟨w.heap.size, 0, none⟩) l.length N) (by simp only [results, Try.results87]; go_simp) rfl ⟨w.heap.size, rfl, Nat.le_refl _, by rw [← HL2.out]; exact HR.out.1, HR.out.2⟩
theorem spare_ints (g : Nat) (n m : Nat) (l : List Int) (w : World) (hn : n = l.length) (hm : m = l.length + 64) (hl : l.length ≤ 100000) (HR : Hid (Row w 3 1 (.slice (some ⟨g, 0, none⟩) m m) m (ivals (wideL l)))) :
    Calls Try.prog 89 #[.slice (some ⟨g, 0, none⟩) n m] w fun e w' => e = .returned (.bool true) ∧ Below w.heap.size w w' := by
  subst hn
  have hsum : IntKind.i64.wrap ((l.length : Int) + 64) = (m : Int) := by rw [IntWalk.i64_in _ (by omega)]; omega
  have hN1 : m ≤ 100064 := by omega
  have hlN : l.length ≤ m := by omega
  have HN := Lib.hid hm
  have hgl : g < w.heap.size := HR.out.lt g (by simp [ownB])
  clear hm
  go_enter Try.func89, Try.ntmps89
  go_wp2
  go_loopw [4, 5] (fun i _ wr => ∃ k : Nat, i = .int .i64 k ∧ l.length ≤ k ∧ k ≤ m ∧ Hid (w = wr)) (fun i _ _ => m - (intOf i).toNat)
  case atStart => exact ⟨l.length, rfl, by omega, by omega, rfl⟩
  case round =>
    obtain ⟨k, rfl, hk, hk2, HW⟩ := hrel
    have hw := HW.out
    subst hw
    by_cases hlt : k < m
    · have c0 : w.cell? ⟨g, k, none⟩ = some (.int .i64 (markN 9 k)) := by
        have h1 := HR.out.cellAt k (by omega)
        have h2 := wideL_hi (l := l) hk (by have := HN.out; omega)
        rw [h1]
        have h3 : k < (wideL l).length := by rw [wideL_len]; have := HN.out; omega
        simp only [List.getD_eq_getElem?_getD, List.getElem?_eq_getElem h3, Option.getD_some] at h2
        simp [ivals, h3, h2]
      go_wp2_with (go_at_call 123; refine (num9 k (by omega) _).mono ?_; rintro e w5 ⟨rfl, rfl⟩)
      go_roundw
      case rel => first
        | exact ⟨k + 1, by go_num, by omega, by omega, rfl⟩
        | exact ⟨k + 1, by go_num, by omega, by omega, trivial⟩
      case measure => simp [intOf]; omega
    · go_wp2
      go_ret
      exact ⟨rfl, Below.refl _ _⟩
end Go.Proofs.Ythbobooiedcofaa
namespace Go.Proofs.Ythbobooiedcofaa
open Go.RowKit
attribute [local go_sem] cell_set
attribute [local go_sem high] run_eql_wire
set_option maxRecDepth 100000
set_option linter.unusedVariables false

def zW : Pt × Pt := ((0, 0), (0, 0))
theorem wrvals_set (l : List (Pt × Pt)) (s : Nat) (x : Pt × Pt) : ((((wrvals l).set (s * 4) (.int .i64 x.1.1)).set (s * 4 + 1) (.int .i64 x.1.2)).set (s * 4 + 2) (.int .i64 x.2.1)).set (s * 4 + 3) (.int .i64 x.2.2) = wrvals (l.set s x) := by
  induction l generalizing s with
  | nil => simp [wrvals]
  | cons y r ih =>
    have hc : wrvals (y :: r) = .int .i64 y.1.1 :: .int .i64 y.1.2 :: .int .i64 y.2.1 :: .int .i64 y.2.2 :: wrvals r := rfl
    cases s with
    | zero => rw [hc]; rfl
    | succ s =>
      rw [hc, show (s + 1) * 4 = s * 4 + 1 + 1 + 1 + 1 by omega]
      simp only [List.set_cons_succ]
      rw [ih s]
      rfl
theorem wrvals_rep (M : Nat) : wrvals (List.replicate M zW) = List.replicate (M * 4) (.int .i64 0) := by
  induction M with
  | zero => rfl
  | succ M ih =>
    rw [List.replicate_succ, show (M + 1) * 4 = M * 4 + 1 + 1 + 1 + 1 by omega, List.replicate_succ, List.replicate_succ, List.replicate_succ, List.replicate_succ, ← ih]
    rfl
theorem made4 (z : Value) (n : Nat) : (madeCells #[z, z, z, z] n).toList = List.replicate n z := by
  refine List.ext_getElem (by simp [size_madeCells]) fun i h1 h2 => ?_
  simp only [List.getElem_replicate]
  have hi : i < n := by simpa [size_madeCells] using h1
  simp only [madeCells, Array.toList_map, List.getElem_map, Array.toList_range, List.getElem_range]
  rcases (by omega : i % 4 = 0 ∨ i % 4 = 1 ∨ i % 4 = 2 ∨ i % 4 = 3) with h | h | h | h <;> simp [h]
theorem row_wires {X : World} {F M : Nat} (h : X.heap[F]? = some (.cells (madeCells #[.int .i64 0, .int .i64 0, .int .i64 0, .int .i64 0] (M * 4)) 55 (0, 0))) (hM : M ≤ maxLen) : Row X 55 4 (.slice (some ⟨F, 0, none⟩) M M) M (wrvals (List.replicate M zW)) :=
  ⟨by rw [wrvals_rep]; simp, .inr ⟨F, M, _, rfl, h, Nat.le_refl _, hM, by simp [size_madeCells], by rw [made4, wrvals_rep]; simp⟩⟩
theorem make_wires (n : Nat) (hn : n ≤ 1000000) (w : World) : (Instr.makeSlice 65 (.int .i64 (n : Int)) (.int .i64 (n : Int))).run Try.prog w = .ok (.slice (some ⟨w.heap.size, 0, none⟩) n n) (w.alloc (.cells (madeCells #[.int .i64 0, .int .i64 0, .int .i64 0, .int .i64 0] (n * 4)) 55)) := by
  obtain ⟨i, hi, hz, hs, hb⟩ := info_parts wire_info
  have hb' : (i.bytes : Int) * (n : Int) ≤ 281474976710656 := by rw [hb]; omega
  have hr := run_make (P := Try.prog) w 65 55 i _ Try.underlying65 hi hz .i64 .i64 n n (by omega) (Int.le_refl _) hb' (by omega)
  simp only [Int.toNat_natCast, hs] at hr
  exact hr
/-- A list that is written from its head on. -/
def partW (l : List (Pt × Pt)) (k : Nat) : List (Pt × Pt) := l.take k ++ List.replicate (l.length - k) zW
theorem partW_0 (l : List (Pt × Pt)) : partW l 0 = List.replicate l.length zW := by simp [partW]
theorem partW_alln {l : List (Pt × Pt)} {n : Nat} (h : l.length = n) : partW l n = l := by subst h; simp [partW]
theorem partW_succ {l : List (Pt × Pt)} {k : Nat} (h : k < l.length) : partW l (k + 1) = (partW l k).set k (l.getD k default) := by
  have e : l.length - k = (l.length - (k + 1)) + 1 := by omega
  unfold partW
  rw [e, List.replicate_succ, List.set_append_right _ _ (by simp; omega)]
  simp only [List.length_take]
  rw [show k - min k l.length = 0 by omega, List.set_cons_zero, List.take_add_one, List.getElem?_eq_getElem h]
  simp only [List.getD_eq_getElem?_getD, List.getElem?_eq_getElem h, Option.toList_some, Option.getD_some, List.append_assoc, List.singleton_append]
def wideW (l : List (Pt × Pt)) : List (Pt × Pt) := l ++ (List.range 64).map fun (i : Nat) => (((0 : Int), (0 : Int)), ((0 : Int), markN 9 (l.length + i)))
theorem wideW_len (l : List (Pt × Pt)) : (wideW l).length = l.length + 64 := by simp [wideW]
theorem wideW_lo {l : List (Pt × Pt)} {i : Nat} (h : i < l.length) : (wideW l).getD i default = l.getD i default := by simp [wideW, List.getD_eq_getElem?_getD, List.getElem?_append_left h]
theorem wideW_hi {l : List (Pt × Pt)} {i : Nat} (h : l.length ≤ i) (h2 : i < l.length + 64) : (wideW l).getD i default = ((0, 0), (0, markN 9 i)) := by
  have : i - l.length < 64 := by omega
  simp [wideW, List.getD_eq_getElem?_getD, List.getElem?_append_right h, this]
  congr 1
  omega
theorem Row.set4 {w : World} {e : TypeId} {g n cap : Nat} {xs : List Value} (h : Row w e 4 (.slice (some ⟨g, 0, none⟩) n cap) n xs) (j : Nat) (a b c d : Value) :
    Row ((((w.setCell ⟨g, j, none⟩ a).setCell ⟨g, j + 1, none⟩ b).setCell ⟨g, j + 2, none⟩ c).setCell ⟨g, j + 3, none⟩ d) e 4 (.slice (some ⟨g, 0, none⟩) n cap) n ((((xs.set j a).set (j + 1) b).set (j + 2) c).set (j + 3) d) := (((h.set j a).set (j + 1) b).set (j + 2) c).set (j + 3) d
set_option maxHeartbeats 1000000 in
theorem wide_wires (A : Option Addr) (n cap : Nat) (l : List (Pt × Pt)) (w : World) (hn : n = l.length) (hl : l.length ≤ 100000) (HA : Hid (WrRd w A l)) :
    Calls Try.prog 88 #[.slice A n cap] w fun e w' => ∃ g, e = .returned (.slice (some ⟨g, 0, none⟩) n (n + 64)) ∧ w.heap.size ≤ g ∧ Row w' 55 4 (.slice (some ⟨g, 0, none⟩) (n + 64) (n + 64)) (n + 64) (wrvals (wideW l)) ∧ Below w.heap.size w w' := by
  subst hn
  obtain ⟨N, hN⟩ : ∃ N, N = l.length + 64 := ⟨_, rfl⟩
  have hsum : IntKind.i64.wrap ((l.length : Int) + 64) = (N : Int) := by rw [IntWalk.i64_in _ (by omega)]; omega
  have hN1 : N ≤ 100064 := by omega
  have hlN : l.length ≤ N := by omega
  have HN := Lib.hid hN
  have hw := wideW_len l
  rw [← hN] at hw ⊢
  have HW := Lib.hid hw
  have hmk : ∀ w : World, (Instr.makeSlice 65 (.int .i64 (N : Int)) (.int .i64 (N : Int))).run Try.prog w = .ok (.slice (some ⟨w.heap.size, 0, none⟩) N N) (w.alloc (.cells (madeCells #[.int .i64 0, .int .i64 0, .int .i64 0, .int .i64 0] (N * 4)) 55)) := fun w => make_wires N (by omega) w
  clear hN hw
  go_enter Try.func88, Try.ntmps88
  go_upto_region 2 with fail
  refine absW (fun X => Row X 55 4 (.slice (some ⟨w.heap.size, 0, none⟩) N N) N (wrvals (partW (wideW l) 0)) ∧ Below w.heap.size w X)
    ⟨by rw [partW_0, HW.out]; exact row_wires (heap_alloc_new w _) (by unfold maxLen; omega), (Below.refl _ _).alloc (Nat.le_refl _) _⟩ ?_
  rintro X ⟨hrx, hbx⟩
  have HX := Lib.hid (And.intro hrx hbx)
  clear hrx hbx hmk
  go_wp2_with fail
  go_loopw [4] (fun i wr => ∃ k : Nat, i = .int .i64 k ∧ k ≤ N ∧ Hid (Row wr 55 4 (.slice (some ⟨w.heap.size, 0, none⟩) N N) N (wrvals (partW (wideW l) k)) ∧ Below w.heap.size w wr)) (fun i _ => N - (intOf i).toNat)
  case atStart => exact ⟨0, rfl, by omega, HX⟩
  case round =>
    obtain ⟨k, rfl, hk, HR⟩ := hrel
    clear HX
    by_cases hlt : k < N
    · have hrl : (wrvals (partW (wideW l) k)).length = N * 4 := HR.out.1.1
      have s0 : wr.frozen? ⟨w.heap.size, k * 4, none⟩ = false := HR.out.1.frozenAt _
      have s1 : wr.frozen? ⟨w.heap.size, k * 4 + 1, none⟩ = false := HR.out.1.frozenAt _
      have s2 : wr.frozen? ⟨w.heap.size, k * 4 + 2, none⟩ = false := HR.out.1.frozenAt _
      have s3 : wr.frozen? ⟨w.heap.size, k * 4 + 3, none⟩ = false := HR.out.1.frozenAt _
      obtain ⟨u0, t0⟩ : ∃ u, wr.cell? ⟨w.heap.size, k * 4, none⟩ = some u := ⟨_, (HR.out.1.cellAt (k * 4) (by omega)).trans (List.getElem?_eq_getElem (by omega))⟩
      obtain ⟨u1, t1⟩ : ∃ u, wr.cell? ⟨w.heap.size, k * 4 + 1, none⟩ = some u := ⟨_, (HR.out.1.cellAt (k * 4 + 1) (by omega)).trans (List.getElem?_eq_getElem (by omega))⟩
      obtain ⟨u2, t2⟩ : ∃ u, wr.cell? ⟨w.heap.size, k * 4 + 2, none⟩ = some u := ⟨_, (HR.out.1.cellAt (k * 4 + 2) (by omega)).trans (List.getElem?_eq_getElem (by omega))⟩
      obtain ⟨u3, t3⟩ : ∃ u, wr.cell? ⟨w.heap.size, k * 4 + 3, none⟩ = some u := ⟨_, (HR.out.1.cellAt (k * 4 + 3) (by omega)).trans (List.getElem?_eq_getElem (by omega))⟩
      have HE : Hid (partW (wideW l) (k + 1) = (partW (wideW l) k).set k ((wideW l).getD k default)) := partW_succ (by rw [HW.out]; exact hlt)
      clear hrl
      by_cases hlo : k < l.length
      · obtain ⟨b, off, rfl, hb, e0, e1, e2, e3⟩ := HA.out k hlo
        have c0 := (HR.out.2.cell (p := ⟨b, off + k * 4, none⟩) hb).trans e0
        have c1 := (HR.out.2.cell (p := ⟨b, off + k * 4 + 1, none⟩) hb).trans e1
        have c2 := (HR.out.2.cell (p := ⟨b, off + k * 4 + 2, none⟩) hb).trans e2
        have c3 := (HR.out.2.cell (p := ⟨b, off + k * 4 + 3, none⟩) hb).trans e3
        have hbr : b < wr.heap.size := Nat.lt_of_lt_of_le hb HR.out.2.size
        have HV := Lib.hid (wideW_lo hlo)
        have hbne : ¬ w.heap.size = b := by omega
        clear e0 e1 e2 e3
        generalize l.getD k default = x at c0 c1 c2 c3 HV
        obtain ⟨⟨x0, x1⟩, x2, x3⟩ := x
        go_wp2
        go_roundw
        case rel =>
          have hR8 := HR.out.1.set4 (k * 4) (.int .i64 x0) (.int .i64 x1) (.int .i64 x2) (.int .i64 x3)
          have e := HE.out
          rw [HV.out] at e
          have e2 := wrvals_set (partW (wideW l) k) k ((x0, x1), (x2, x3))
          rw [e2, ← e] at hR8
          exact ⟨k + 1, by go_num, by omega, hR8, ((((HR.out.2.setCell (p := ⟨w.heap.size, _, none⟩) (Nat.le_refl _) _).setCell (p := ⟨w.heap.size, _, none⟩) (Nat.le_refl _) _).setCell (p := ⟨w.heap.size, _, none⟩) (Nat.le_refl _) _).setCell (p := ⟨w.heap.size, _, none⟩) (Nat.le_refl _) _)⟩
        case measure => simp [intOf]; omega
      · have HV : Hid ((wideW l).getD k default = ((0, 0), (0, markN 9 k))) := wideW_hi (by omega) (by have := HN.out; omega)
        go_wp2_with (go_at_call 123; refine (num9 k (by omega) _).mono ?_; rintro e w5 ⟨rfl, rfl⟩)
        go_roundw
        case rel =>
          have hR8 := HR.out.1.set4 (k * 4) (.int .i64 0) (.int .i64 0) (.int .i64 0) (.int .i64 (markN 9 k))
          have e := HE.out
          rw [HV.out] at e
          have e2 := wrvals_set (partW (wideW l) k) k ((0, 0), (0, markN 9 k))
          rw [e2, ← e] at hR8
          exact ⟨k + 1, by go_num, by omega, hR8, ((((HR.out.2.setCell (p := ⟨w.heap.size, _, none⟩) (Nat.le_refl _) _).setCell (p := ⟨w.heap.size, _, none⟩) (Nat.le_refl _) _).setCell (p := ⟨w.heap.size, _, none⟩) (Nat.le_refl _) _).setCell (p := ⟨w.heap.size, _, none⟩) (Nat.le_refl _) _)⟩
        case measure => simp [intOf]; omega
    · obtain rfl : N = k := by omega
      have HL2 : Hid (partW (wideW l) N = wideW l) := partW_alln HW.out
      go_wp2
      exact bodyPost_ret (v := .slice (some ⟨w.heap.size, 0, none⟩) l.length N) (by simp only [results, Try.results88]; go_simp) rfl ⟨w.heap.size, rfl, Nat.le_refl _, by rw [← HL2.out]; exact HR.out.1, HR.out.2⟩
theorem Row.wide {w : World} {g m : Nat} {l : List (Pt × Pt)} (hR : Row w 55 4 (.slice (some ⟨g, 0, none⟩) m m) m (wrvals (wideW l))) (hm : m = l.length + 64) {k : Nat} (h1 : l.length ≤ k) (h2 : k < m) :
    w.cell? ⟨g, k * 4, none⟩ = some (.int .i64 0) ∧ w.cell? ⟨g, k * 4 + 1, none⟩ = some (.int .i64 0) ∧ w.cell? ⟨g, k * 4 + 2, none⟩ = some (.int .i64 0) ∧ w.cell? ⟨g, k * 4 + 3, none⟩ = some (.int .i64 (markN 9 k)) := by
  have hk : k < (wideW l).length := by rw [wideW_len]; omega
  obtain ⟨a0, a1, a2, a3⟩ := wrvals_at (wideW l) hk
  rw [wideW_hi h1 (by omega)] at a0 a1 a2 a3
  exact ⟨(hR.cellAt _ (by omega)).trans a0, (hR.cellAt _ (by omega)).trans a1, (hR.cellAt _ (by omega)).trans a2, (hR.cellAt _ (by omega)).trans a3⟩
set_option maxHeartbeats 1000000 in
theorem spare_wires (g : Nat) (n m : Nat) (l : List (Pt × Pt)) (w : World) (hn : n = l.length) (hm : m = l.length + 64) (hl : l.length ≤ 100000) (HR : Hid (Row w 55 4 (.slice (some ⟨g, 0, none⟩) m m) m (wrvals (wideW l)))) :
    Calls Try.prog 90 #[.slice (some ⟨g, 0, none⟩) n m] w fun e w' => e = .returned (.bool true) ∧ Below w.heap.size w w' := by
  subst hn
  have hsum : IntKind.i64.wrap ((l.length : Int) + 64) = (m : Int) := by rw [IntWalk.i64_in _ (by omega)]; omega
  have hN1 : m ≤ 100064 := by omega
  have hlN : l.length ≤ m := by omega
  have HN := Lib.hid hm
  have hgl : g < w.heap.size := HR.out.lt g (by simp [ownB])
  clear hm
  go_enter Try.func90, Try.ntmps90
  go_wp2
  go_loopw [4, 5] (fun i _ wr => ∃ k : Nat, i = .int .i64 k ∧ l.length ≤ k ∧ k ≤ m ∧ Hid (Below w.heap.size w wr)) (fun i _ _ => m - (intOf i).toNat)
  case atStart => exact ⟨l.length, rfl, by omega, by omega, Below.refl _ _⟩
  case round =>
    obtain ⟨k, rfl, hk, hk2, HW⟩ := hrel
    by_cases hlt : k < m
    · obtain ⟨c0, c1, c2, c3⟩ := Row.wide (HR.out.keep fun b hb => HW.out.block b (HR.out.lt b hb)) HN.out hk hlt
      have hgr : g < wr.heap.size := by have := HW.out.size; omega
      have hE : eqW ((0, 0), (0, markN 9 k)) ((0, 0), (0, markN 9 k)) = true := by unfold eqW; simp
      go_upto_region 6 with fail
      refine absW (fun X => Below w.heap.size w X ∧ X.heap[wr.heap.size]? = some (.cells #[.int .i64 0, .int .i64 0, .int .i64 0, .int .i64 (markN 9 k)] 55 (0, 0))) ⟨HW.out.alloc HW.out.size _, heap_alloc_new wr _⟩ ?_
      rintro X ⟨hbX, hX⟩
      have HX := Lib.hid hbX
      have x0 : X.cell? ⟨wr.heap.size, 0, none⟩ = some (.int .i64 0) := by simp [World.cell?, hX]
      have x1 : X.cell? ⟨wr.heap.size, 1, none⟩ = some (.int .i64 0) := by simp [World.cell?, hX]
      have x2 : X.cell? ⟨wr.heap.size, 2, none⟩ = some (.int .i64 0) := by simp [World.cell?, hX]
      have x3 : X.cell? ⟨wr.heap.size, 3, none⟩ = some (.int .i64 (markN 9 k)) := by simp [World.cell?, hX]
      clear c0 c1 c2 c3 hX hbX
      go_quiet ((go_at_call 123; exact Calls.quiet_of_same ((num9 k (by omega) _).mono fun e w' h => ⟨h.1, h.2.symm⟩)))
      go_wp2_with fail
      go_roundw
      case rel => exact ⟨k + 1, by go_num, by omega, by omega, below_drewN HX.out _⟩
      case measure => simp [intOf]; omega
    · go_wp2
      go_ret
      exact ⟨rfl, HW.out⟩
/-- A net with marks behind its lists. -/
def WideN (w : World) (g1 g2 : Nat) (cells : List Int) (W : List (Pt × Pt)) : Prop := Row w 3 1 (.slice (some ⟨g1, 0, none⟩) (cells.length + 64) (cells.length + 64)) (cells.length + 64) (ivals (wideL cells)) ∧ Row w 55 4 (.slice (some ⟨g2, 0, none⟩) (W.length + 64) (W.length + 64)) (W.length + 64) (wrvals (wideW W))
theorem WideN.below {w w' : World} {g1 g2 : Nat} {cells : List Int} {W : List (Pt × Pt)} (h : WideN w g1 g2 cells W) (hb : Below w.heap.size w w') : WideN w' g1 g2 cells W := ⟨h.1.keep fun b hm => hb.block b (h.1.lt b hm), h.2.keep fun b hm => hb.block b (h.2.lt b hm)⟩
theorem WideN.ints {w : World} {g1 g2 : Nat} {cells : List Int} {W : List (Pt × Pt)} (h : WideN w g1 g2 cells W) : IntsRd w (some ⟨g1, 0, none⟩) cells := fun i hi => by
  refine ⟨g1, 0, rfl, h.1.lt g1 (by simp [ownB]), ?_⟩
  rw [Nat.zero_add, h.1.cellAt i (by omega)]
  have h2 := wideL_lo hi
  have h3 : i < (wideL cells).length := by rw [wideL_len]; omega
  simp only [List.getD_eq_getElem?_getD, List.getElem?_eq_getElem h3, Option.getD_some] at h2
  simp [ivals, h3, h2, List.getD_eq_getElem?_getD]
theorem WideN.wires {w : World} {g1 g2 : Nat} {cells : List Int} {W : List (Pt × Pt)} (h : WideN w g1 g2 cells W) : WrRd w (some ⟨g2, 0, none⟩) W := fun i hi => by
  have h3 : i < (wideW W).length := by rw [wideW_len]; omega
  obtain ⟨a0, a1, a2, a3⟩ := wrvals_at (wideW W) h3
  rw [wideW_lo hi] at a0 a1 a2 a3
  refine ⟨g2, 0, rfl, h.2.lt g2 (by simp [ownB]), ?_, ?_, ?_, ?_⟩
  · rw [Nat.zero_add, h.2.cellAt _ (by omega)]; exact a0
  · rw [Nat.zero_add, h.2.cellAt _ (by omega)]; exact a1
  · rw [Nat.zero_add, h.2.cellAt _ (by omega)]; exact a2
  · rw [Nat.zero_add, h.2.cellAt _ (by omega)]; exact a3
set_option maxHeartbeats 1000000 in
theorem wide_net (VA VB : Option Addr) (ca cb : Nat) (cells : List Int) (free : Int) (W : List (Pt × Pt)) (w : World) (hc : cells.length ≤ 100000) (hw : W.length ≤ 100000) (HC : Hid (IntsRd w VA cells)) (HW : Hid (WrRd w VB W)) :
    Calls Try.prog 36 #[netV VA ca cells free VB cb W] w fun e w' => ∃ g1 g2, e = .returned (netV (some ⟨g1, 0, none⟩) (cells.length + 64) cells free (some ⟨g2, 0, none⟩) (W.length + 64) W) ∧ w.heap.size ≤ g1 ∧ w.heap.size ≤ g2 ∧ WideN w' g1 g2 cells W ∧ Below w.heap.size w w' := by
  unfold netV
  go_enter Try.func36, Try.ntmps36
  go_upto_region 1 with fail
  refine absW (fun X => Below w.heap.size w X ∧ X.heap[w.heap.size]? = some (.cells #[.slice VA cells.length ca, .int .i64 free, .slice VB W.length cb] 67 (0, 0)) ∧ X.heap[w.heap.size + 1]? = some (.cells #[.slice none 0 0, .int .i64 0, .slice none 0 0] 67 (0, 0)))
    ⟨by (repeat (first | exact Below.refl _ _ | (with_reducible refine Below.drew ?_) | (with_reducible refine Below.alloc ?_ (by (try simp); (try omega)) _) | (with_reducible refine Below.setCell ?_ (by (try simp); (try omega)) _) | (with_reducible refine Below.trans ?_ (Below.mono (by assumption) (by (try simp); (try omega)))))), (Below.heap_alloc _ _ _ (by simp)).trans (heap_alloc_new w _), by have := heap_alloc_new (w.alloc (.cells #[.slice VA cells.length ca, .int .i64 free, .slice VB W.length cb] 67)) (.cells #[.slice none 0 0, .int .i64 0, .slice none 0 0] 67); rwa [World.size_alloc] at this⟩ ?_
  rintro X ⟨hbX, h0, h1⟩
  have x0 : X.cell? ⟨w.heap.size, 0, none⟩ = some (.slice VA cells.length ca) := by simp [World.cell?, h0]
  have HX := Lib.hid (And.intro hbX (And.intro h0 h1))
  clear hbX h0 h1
  go_wp2_with fail
  refine (wide_ints VA _ ca cells X rfl hc (Lib.hid (HC.out.below HX.out.1))).mono ?_
  rintro e w1 ⟨g1, rfl, hg1, hr1, hb1⟩
  have h0 := (hb1.block _ (heap_lt HX.out.2.1)).trans HX.out.2.1
  have h1 := (hb1.block _ (heap_lt HX.out.2.2)).trans HX.out.2.2
  have hsz := heap_lt HX.out.2.2
  have y0 : w1.cell? ⟨w.heap.size, 0, none⟩ = some (.slice VA cells.length ca) := by simp [World.cell?, h0]
  have y1 : w1.frozen? ⟨w.heap.size, 0, none⟩ = false := by simp [World.frozen?, h0]
  have hl1 := heap_lt h0
  have hq0 : (w1.setCell ⟨w.heap.size, 0, none⟩ (.slice (some ⟨g1, 0, none⟩) cells.length (cells.length + 64))).heap[w.heap.size]? = some (.cells #[.slice (some ⟨g1, 0, none⟩) cells.length (cells.length + 64), .int .i64 free, .slice VB W.length cb] 67 (0, 0)) := by simp [World.setCell, Array.getElem?_modify, h0]
  have hq1 := (Below.heap_setCell w1 ⟨w.heap.size, 0, none⟩ (.slice (some ⟨g1, 0, none⟩) cells.length (cells.length + 64)) (w.heap.size + 1) (by simp)).trans h1
  have HY : Hid (Below w.heap.size w (w1.setCell ⟨w.heap.size, 0, none⟩ (.slice (some ⟨g1, 0, none⟩) cells.length (cells.length + 64))) ∧ Row (w1.setCell ⟨w.heap.size, 0, none⟩ (.slice (some ⟨g1, 0, none⟩) cells.length (cells.length + 64))) 3 1 (.slice (some ⟨g1, 0, none⟩) (cells.length + 64) (cells.length + 64)) (cells.length + 64) (ivals (wideL cells))) :=
    ⟨(HX.out.1.trans (hb1.mono HX.out.1.size)).setCell (p := ⟨w.heap.size, 0, none⟩) (Nat.le_refl _) _, hr1.keep fun b hb => Below.heap_setCell _ _ _ b (by simp [ownB] at hb; subst hb; have := HX.out.1.size; simp; omega)⟩
  have HQ := Lib.hid (And.intro hq0 hq1)
  have hg1' : w.heap.size + 1 < g1 := by omega
  clear hr1 hb1 h0 h1 x0 hq0 hq1
  simp only []
  go_upto_region 2 with fail
  refine absW (fun Z => Hid ((Below w.heap.size w Z ∧ Row Z 3 1 (.slice (some ⟨g1, 0, none⟩) (cells.length + 64) (cells.length + 64)) (cells.length + 64) (ivals (wideL cells))) ∧ Z.heap[w.heap.size]? = some (.cells #[.slice (some ⟨g1, 0, none⟩) cells.length (cells.length + 64), .int .i64 free, .slice VB W.length cb] 67 (0, 0)) ∧ Z.heap[w.heap.size + 1]? = some (.cells #[.slice none 0 0, .int .i64 0, .slice none 0 0] 67 (0, 0)))) (Lib.hid ⟨HY.out, HQ.out⟩) ?_
  intro Z HZ
  clear HY HQ y0 y1 hl1 hsz
  have z2 : Z.cell? ⟨w.heap.size, 2, none⟩ = some (.slice VB W.length cb) := by simp [World.cell?, HZ.out.2.1]
  go_wp2_with fail
  refine (wide_wires VB _ cb W Z rfl hw (Lib.hid (HW.out.below HZ.out.1.1))).mono ?_
  rintro e w2 ⟨g2, rfl, hg2, hr2, hb2⟩
  have h0 := (hb2.block _ (heap_lt HZ.out.2.1)).trans HZ.out.2.1
  have h1 := (hb2.block _ (heap_lt HZ.out.2.2)).trans HZ.out.2.2
  have hsz := heap_lt HZ.out.2.2
  have y0 : w2.cell? ⟨w.heap.size, 0, none⟩ = some (.slice (some ⟨g1, 0, none⟩) cells.length (cells.length + 64)) := by simp [World.cell?, h0]
  have y1 : w2.cell? ⟨w.heap.size, 1, none⟩ = some (.int .i64 free) := by simp [World.cell?, h0]
  have y2 : w2.cell? ⟨w.heap.size, 2, none⟩ = some (.slice VB W.length cb) := by simp [World.cell?, h0]
  have y3 : w2.frozen? ⟨w.heap.size, 2, none⟩ = false := by simp [World.frozen?, h0]
  have k0 : w2.cell? ⟨w.heap.size + 1, 0, none⟩ = some (.slice none 0 0) := by simp [World.cell?, h1]
  have k1 : w2.cell? ⟨w.heap.size + 1, 1, none⟩ = some (.int .i64 0) := by simp [World.cell?, h1]
  have k2 : w2.cell? ⟨w.heap.size + 1, 2, none⟩ = some (.slice none 0 0) := by simp [World.cell?, h1]
  have k3 : w2.frozen? ⟨w.heap.size + 1, 0, none⟩ = false := by simp [World.frozen?, h1]
  have k4 : w2.frozen? ⟨w.heap.size + 1, 1, none⟩ = false := by simp [World.frozen?, h1]
  have k5 : w2.frozen? ⟨w.heap.size + 1, 2, none⟩ = false := by simp [World.frozen?, h1]
  have hl1 := heap_lt h1
  have hl0 := heap_lt h0
  have HE := Lib.hid (And.intro (HZ.out.1.1.trans (hb2.mono HZ.out.1.1.size)) (And.intro (HZ.out.1.2.keep fun b hb => hb2.block b (HZ.out.1.2.lt b hb)) hr2))
  have HG : Hid (w.heap.size ≤ g1 ∧ w.heap.size ≤ g2 ∧ w.heap.size + 1 < g2 ∧ w.heap.size + 1 < g1) := ⟨by omega, by omega, by omega, hg1'⟩
  clear hr2 hb2 h0 h1 z2 hg1 hg2 hg1'
  simp only []
  go_wp2_with fail
  refine bodyPost_ret (v := .agg #[.slice (some ⟨g1, 0, none⟩) cells.length (cells.length + 64), .int .i64 free, .slice (some ⟨g2, 0, none⟩) W.length (W.length + 64)]) (by simp only [results, Try.results36]; go_simp) rfl ⟨g1, g2, rfl, HG.out.1, HG.out.2.1, ⟨HE.out.2.1.keep fun b hb => ?_, HE.out.2.2.keep fun b hb => ?_⟩, ?_⟩
  · have hbe : b = g1 := by simpa [ownB] using hb
    have := HG.out.2.2.2
    iterate 4 (refine (Below.heap_setCell _ _ _ b (by simp; omega)).trans ?_)
    rfl
  · have hbe : b = g2 := by simpa [ownB] using hb
    have := HG.out.2.2.1
    iterate 4 (refine (Below.heap_setCell _ _ _ b (by simp; omega)).trans ?_)
    rfl
  · have := HE.out.1
    iterate 4 (refine Below.setCell ?_ (by simp) _)
    exact this
theorem spare_net (g1 g2 : Nat) (cells : List Int) (free : Int) (W : List (Pt × Pt)) (w : World) (hc : cells.length ≤ 100000) (hw : W.length ≤ 100000) (H : Hid (WideN w g1 g2 cells W)) :
    Calls Try.prog 38 #[netV (some ⟨g1, 0, none⟩) (cells.length + 64) cells free (some ⟨g2, 0, none⟩) (W.length + 64) W] w fun e w' => e = .returned (.bool true) ∧ Below w.heap.size w w' := by
  have hbA : ∀ o : Obj, Below w.heap.size w (w.alloc o) := fun o => (Below.refl _ _).alloc (Nat.le_refl _) o
  unfold netV
  obtain ⟨m1, h1⟩ : ∃ m, m = cells.length + 64 := ⟨_, rfl⟩
  obtain ⟨m2, h2⟩ : ∃ m, m = W.length + 64 := ⟨_, rfl⟩
  have HH : Hid (∀ X, Below w.heap.size w X → Row X 3 1 (.slice (some ⟨g1, 0, none⟩) m1 m1) m1 (ivals (wideL cells)) ∧ Row X 55 4 (.slice (some ⟨g2, 0, none⟩) m2 m2) m2 (wrvals (wideW W))) := fun X hX => by
    have := H.out.below hX
    unfold WideN at this
    rw [← h1, ← h2] at this
    exact this
  have HM := Lib.hid (And.intro h1 h2)
  rw [← h1, ← h2]
  clear h1 h2
  go_enter Try.func38, Try.ntmps38
  go_wp2_with fail
  refine (spare_ints g1 _ m1 cells _ rfl HM.out.1 hc (Lib.hid (HH.out _ (hbA _)).1)).mono ?_
  rintro e w1 ⟨rfl, hb1⟩
  have HB := Lib.hid ((hbA (.cells #[.slice (some ⟨g1, 0, none⟩) cells.length m1, .int .i64 free, .slice (some ⟨g2, 0, none⟩) W.length m2] 67)).trans (hb1.mono (hbA _).size))
  have y2 : w1.cell? ⟨w.heap.size, 2, none⟩ = some (.slice (some ⟨g2, 0, none⟩) W.length m2) := (hb1.cell (p := ⟨w.heap.size, 2, none⟩) (by simp)).trans (by go_simp)
  clear hb1
  simp only []
  go_wp2_with fail
  refine (spare_wires g2 _ m2 W w1 rfl HM.out.2 hw (Lib.hid (HH.out _ HB.out).2)).mono ?_
  rintro e w2 ⟨rfl, hb2⟩
  have HB2 := Lib.hid (HB.out.trans (hb2.mono HB.out.size))
  clear y2 hb2
  simp only []
  go_wp2_with fail
  go_ret
  exact ⟨rfl, HB2.out⟩
end Go.Proofs.Ythbobooiedcofaa
/-
  The document's wiring: All.
-/
namespace Go.Proofs.Ythbobooiedcofaa
open Go.RowKit
attribute [local go_sem] cell_set
set_option maxRecDepth 100000
set_option linter.unusedVariables false

theorem portW_info : (Try.prog.info? 39).map (fun i => (i.zero, i.size, i.bytes)) = some (some (.agg #[.int .i64 0, .int .i64 0]), 2, 16) := by kernel_rfl
def ptvals (l : List Pt) : List Value := l.flatMap fun p => [.int .i64 p.1, .int .i64 p.2]
theorem ptvals_snoc (l : List Pt) (p : Pt) : ptvals (l ++ [p]) = ptvals l ++ [.int .i64 p.1, .int .i64 p.2] := by simp [ptvals]
theorem ptvals_at (J : List Pt) (i : Nat) (hi : i < J.length) : (ptvals J)[i * 2]? = some (.int .i64 (J.getD i default).1) ∧ (ptvals J)[i * 2 + 1]? = some (.int .i64 (J.getD i default).2) := by
  unfold ptvals
  induction J generalizing i with
  | nil => simp at hi
  | cons a r ih =>
    cases i with
    | zero => simp
    | succ i =>
      have := ih i (by simpa using hi)
      rw [List.flatMap_cons, show (i + 1) * 2 = 2 + i * 2 by omega]
      constructor
      · rw [List.getElem?_append_right (by simp)]
        simpa using this.1
      · rw [List.getElem?_append_right (by simp; omega)]
        have e : 2 + i * 2 + 1 - [Value.int IntKind.i64 a.1, .int .i64 a.2].length = i * 2 + 1 := by simp; omega
        rw [e]
        simpa using this.2
/-- A list of ports that is being gathered. -/
structure AL (w : World) (l : List Pt) (V : Option Addr) (c : Nat) (W : World) : Prop where
  row : Row W 39 2 (.slice V l.length c) l.length (ptvals l)
  own : ∀ b ∈ ownB (.slice V l.length c), w.heap.size ≤ b
  below : Below w.heap.size w W
theorem AL.app {w W w7 : World} {l : List Pt} {V V5 : Option Addr} {c c5 : Nat} {p : Pt} {o : Obj} (h : AL w l V c W) (k5 : Kp (ownB (.slice V l.length c)) (W.alloc o) w7) (o5 : ownB (.slice V5 (l.length + 1) c5) = ownB (.slice V l.length c) ∨ ownB (.slice V5 (l.length + 1) c5) = [(W.alloc o).heap.size])
    (r5 : Row w7 39 2 (.slice V5 (l.length + 1) c5) (l.length + 1) (ptvals l ++ [.int .i64 p.1, .int .i64 p.2])) : AL w (l ++ [p]) V5 c5 w7 := by
  have hba : Below w.heap.size w (W.alloc o) := h.below.alloc h.below.size _
  refine ⟨?_, fun y hy => ?_, hba.trans (k5.below hba.size (fun y hy => h.own y hy))⟩
  · rw [ptvals_snoc, List.length_append]; exact r5
  · rw [List.length_append] at hy
    rcases o5 with o5 | o5
    · rw [show l.length + [p].length = l.length + 1 from rfl, o5] at hy; exact h.own y hy
    · rw [show l.length + [p].length = l.length + 1 from rfl, o5] at hy
      simp at hy
      have := h.below.size
      omega
theorem ptsK_le {S : Wir} (h : S.Ok) {k : Nat} (hk : k ≤ S.A.cells.length) : (Wir.ptsK S k).length ≤ 64 + 7 * k := by
  have h1 := Wir.cellPts_le 0 (S.A.cells.take k) (fun x hx ag ws e => by
    obtain ⟨i, hi, rfl⟩ := List.mem_iff_getElem.1 (List.mem_of_mem_take hx)
    exact (h.a.cell i ag ws (by rw [List.getElem?_eq_getElem hi, e])).2.2.2.1)
  have h4 := h.p
  unfold Wir.ptsK
  rw [List.length_append, Wir.slotsOf_len]
  rw [List.length_take, Nat.min_eq_left hk] at h1
  omega
/-- What the document's arena holds at a cell's place: how many words. -/
theorem RA.words_at {w : World} {A : Nat} {S : Ars} {FR : List Nat} (h : RA w A S FR) {k : Nat} (hk : k < S.cells.length) : ∃ (g cc : Nat) (D : Option Addr) (m cw : Nat), w.cell? ⟨A, 1, none⟩ = some (.slice (some ⟨g, 0, none⟩) S.cells.length cc) ∧ g < w.heap.size ∧ w.cell? ⟨g, k * 3 + 2, none⟩ = some (.slice D m cw) ∧ m ≤ 7 ∧
    ∀ x, S.cells[k]? = some x → Wir.cellPt1 k x = Wir.slotsOf (k : Int) m := by
  obtain ⟨x, hx⟩ : ∃ x, S.cells[k]? = some x := ⟨_, List.getElem?_eq_getElem hk⟩
  obtain ⟨g, cc, r, k1, hgl, ha, hr, hf, hlt⟩ := h.at_ hx
  have h2 := hr 2 (by omega)
  have hok := h.ok
  cases x with
  | none =>
    cases r with
    | none => exact ⟨g, cc, none, 0, 0, k1, hgl, h2, by omega, fun y hy => by rw [hx] at hy; injection hy with hy; subst hy; rfl⟩
    | some r => exact ha.elim
  | some x =>
    obtain ⟨ag, ws⟩ := x
    cases r with
    | none => exact ha.elim
    | some r =>
      obtain ⟨ag', v⟩ := r
      obtain ⟨V, cw, hv, _⟩ := ha.2.len
      have hc := hok.cell _ _ _ hx
      refine ⟨g, cc, V, ws.length, cw, k1, hgl, ?_, hc.2.2.2.1, fun y hy => by rw [hx] at hy; injection hy with hy; subst hy; rfl⟩
      rw [h2, ← hv]; rfl
section
variable (B A : Nat) (S : Wir) (FA : List Nat) (w : World)
set_option maxHeartbeats 4000000 in
theorem rw_all (h : RG w B A S FA) :
    Calls Try.prog 42 #[.pointer (some ⟨B, 0, none⟩)] w fun e w' => ∃ V c, e = .returned (.slice V S.pts.length c) ∧ AL w S.pts V c w' := by
  have HG := Lib.hid h
  obtain ⟨j0, hj0, hj1, hj2, hj3⟩ := info_parts portW_info
  have hP := h.ok.p
  have hcl := h.ok.a.len
  have hm2 := h.ok.a.most2
  have hpt := Wir.ptsK_zero S
  have H0 : Hid (AL w (Wir.slotsOf (-1) 0) none 0 w) := ⟨Row.nil _ _ _, by simp [ownB], Below.refl _ _⟩
  obtain ⟨f, hf⟩ : ∃ f, S.P.length = f := ⟨_, rfl⟩
  obtain ⟨n, hn⟩ : ∃ n, S.A.cells.length = n := ⟨_, rfl⟩
  rw [hf] at hP
  rw [hn] at hcl
  have HFE := Lib.hid hf
  have HNE := Lib.hid hn
  have HPT := Lib.hid hpt
  clear hpt hf hn
  go_enter Try.func42, Try.ntmps42
  go_wp2_with fail
  go_loopw [3, 4] (fun x i wr => ∃ (k : Nat) (V : Option Addr) (c : Nat), i = .int .i64 k ∧ k ≤ f ∧ x = .slice V k c ∧ Hid (AL w (Wir.slotsOf (-1) k) V c wr)) (fun _ i _ => f - (intOf i).toNat)
  case atStart => exact ⟨0, none, 0, rfl, Nat.zero_le _, rfl, H0⟩
  case round =>
    obtain ⟨k, V, c, rfl, hk, rfl, HL⟩ := hrel
    clear H0
    obtain ⟨c0, VP, cP, c1⟩ := (HG.out.below HL.out.below).cells
    rw [HFE.out] at c1
    by_cases hlt : k < f
    · obtain ⟨l, hl⟩ : ∃ l, Wir.slotsOf (-1) k = l := ⟨_, rfl⟩
      have hll : l.length = k := by rw [← hl, Wir.slotsOf_len]
      have hsn := Wir.slotsOf_succ (-1) k
      rw [hl] at HL hsn
      have HSN := Lib.hid hsn
      subst hll
      clear hl hsn
      have HRw : Hid (Row (wr.alloc (.cells #[.int .i64 (-1), .int .i64 ((l.length : Int))] 39)) 39 2 (.slice V l.length c) l.length (ptvals l)) := HL.out.row.alloc _
      have HSr : Hid (Src (wr.alloc (.cells #[.int .i64 (-1), .int .i64 ((l.length : Int))] 39)) (some ⟨wr.heap.size, 0, none⟩) 1 2 [.int .i64 (-1), .int .i64 ((l.length : Int))]) :=
        Src.block (cs := #[.int .i64 (-1), .int .i64 ((l.length : Int))]) (t := 39) (fr := (0, 0)) (heap_alloc_new wr _) rfl (by simp [Value.oneCell'])
      have hg63 : l.length + 1 ≤ maxLen := by simp only [maxLen]; omega
      have hg47 : (l.length + 1) * 16 ≤ 140737488355328 := by omega
      go_wp2_with (at_builtin; go_loud (refine inPlain rfl (wpo_row_append _ _ _ rfl j0 _ 16 Try.underlying84 hj0 hj1 hj2 hj3 rfl rfl HRw.out _ 1 1 rfl [.int .i64 (-1), .int .i64 ((l.length : Int))] HSr.out hg63 hg47 ?_)); intro sv5 w7 r5 k5 o5; obtain ⟨V5, cp5, rfl, hc5⟩ := r5.len
                   have HA5 := Lib.hid (AL.app (p := ((-1), ((l.length : Int)))) HL.out k5 o5 r5)
                   clear k5 o5 r5)
      go_roundw
      case measure => simp [intOf]; omega
      case rel => exact ⟨l.length + 1, V5, cp5, by go_num, by omega, rfl, by rw [HSN.out]; exact HA5⟩
    · obtain rfl : k = f := by omega
      have HL0 : Hid (AL w (Wir.ptsK S 0) V c wr) := by rw [HPT.out, HFE.out]; exact HL.out
      have hlen0 : k = (Wir.ptsK S 0).length := by rw [HPT.out, HFE.out, Wir.slotsOf_len]
      obtain ⟨P0, FR, _, hra, _⟩ := HG.out.split
      have HRA := Lib.hid hra
      have hAl : A < w.heap.size := hra.lt A (by obtain ⟨_, _, _, _, _, _, _, rfl, _⟩ := hra; simp)
      have hBl := HG.out.lt
      have HB0 := Lib.hid HG.out.cells.1
      have HLEN := Lib.hid hlen0
      clear hra hlen0
      go_wp2_with fail
      clear c0 c1 HL
      go_loopw [3, 5] (fun x i wr => ∃ (q : Nat) (V : Option Addr) (c : Nat), i = .int .i64 q ∧ q ≤ n ∧ x = .slice V (Wir.ptsK S q).length c ∧ Hid (AL w (Wir.ptsK S q) V c wr)) (fun _ i _ => n - (intOf i).toNat)
      case atStart => exact ⟨0, V, c, rfl, Nat.zero_le _, by rw [← HLEN.out], HL0⟩
      case round =>
        obtain ⟨q, V, c, rfl, hq, rfl, HL⟩ := hrel
        clear HL0
        have c0 := (HL.out.below.cell (p := ⟨B, 0, none⟩) hBl).trans HB0.out
        by_cases hqn : q < n
        · obtain ⟨g, cc, D, m, cw, a1, hg, g2, hm7, hpt⟩ := HRA.out.words_at (k := q) (by rw [HNE.out]; exact hqn)
          rw [HNE.out] at a1
          obtain ⟨x, hx⟩ : ∃ x, S.A.cells[q]? = some x := ⟨_, List.getElem?_eq_getElem (by rw [HNE.out]; exact hqn)⟩
          have hsucc := Wir.ptsK_succ S hx
          rw [hpt x hx] at hsucc
          have hle := ptsK_le HG.out.ok (k := q) (by rw [HNE.out]; omega)
          have HA1 := Lib.hid a1
          have HG2 := Lib.hid g2
          have h5 : (q : Int) < (n : Int) := by omega
          have h7 : (0 : Int) ≤ (q : Int) := by omega
          obtain ⟨l0, hl0⟩ : ∃ l, Wir.ptsK S q = l := ⟨_, rfl⟩
          rw [hl0] at hsucc hle HL ⊢
          have HSUC := Lib.hid hsucc
          have HL1 : Hid (AL w (l0 ++ Wir.slotsOf (q : Int) 0) V c wr) := by rw [show l0 ++ Wir.slotsOf (q : Int) 0 = l0 by simp [Wir.slotsOf]]; exact HL.out
          have hlen1 : l0.length = (l0 ++ Wir.slotsOf (q : Int) 0).length := by simp [Wir.slotsOf]
          have HLEN1 := Lib.hid hlen1
          have a1r := (HL.out.below.cell (p := ⟨A, 1, none⟩) hAl).trans a1
          clear a1 g2 hpt hx hsucc hl0 hlen1
          go_wp2_with fail
          clear c0 a1r HL
          go_loopw [3, 6] (fun x i wr => ∃ (s : Nat) (V : Option Addr) (c : Nat), i = .int .i64 s ∧ s ≤ m ∧ x = .slice V (l0 ++ Wir.slotsOf (q : Int) s).length c ∧ Hid (AL w (l0 ++ Wir.slotsOf (q : Int) s) V c wr)) (fun _ i _ => m - (intOf i).toNat)
          case atStart => exact ⟨0, V, c, rfl, Nat.zero_le _, by rw [← HLEN1.out], HL1⟩
          case round =>
            obtain ⟨s, V, c, rfl, hs, rfl, HL⟩ := hrel
            clear HL1
            have c0 := (HL.out.below.cell (p := ⟨B, 0, none⟩) hBl).trans HB0.out
            have a1r := (HL.out.below.cell (p := ⟨A, 1, none⟩) hAl).trans HA1.out
            have g2r := (HL.out.below.cell (p := ⟨g, q * 3 + 2, none⟩) hg).trans HG2.out
            by_cases hsm : s < m
            · obtain ⟨l, hl⟩ : ∃ l, l0 ++ Wir.slotsOf (q : Int) s = l := ⟨_, rfl⟩
              have hll : l.length ≤ 100000 := by rw [← hl, List.length_append, Wir.slotsOf_len]; omega
              have hsn : l0 ++ Wir.slotsOf (q : Int) (s + 1) = l ++ [((q : Int), (s : Int))] := by rw [Wir.slotsOf_succ, ← List.append_assoc, hl]
              rw [hl] at HL ⊢
              have HSN := Lib.hid hsn
              clear hl hsn
              have HRw : Hid (Row (wr.alloc (.cells #[.int .i64 ((q : Int)), .int .i64 ((s : Int))] 39)) 39 2 (.slice V l.length c) l.length (ptvals l)) := HL.out.row.alloc _
              have HSr : Hid (Src (wr.alloc (.cells #[.int .i64 ((q : Int)), .int .i64 ((s : Int))] 39)) (some ⟨wr.heap.size, 0, none⟩) 1 2 [.int .i64 ((q : Int)), .int .i64 ((s : Int))]) :=
                Src.block (cs := #[.int .i64 ((q : Int)), .int .i64 ((s : Int))]) (t := 39) (fr := (0, 0)) (heap_alloc_new wr _) rfl (by simp [Value.oneCell'])
              have hg63 : l.length + 1 ≤ maxLen := by simp only [maxLen]; omega
              have hg47 : (l.length + 1) * 16 ≤ 140737488355328 := by omega
              go_wp2_with (at_builtin; go_loud (refine inPlain rfl (wpo_row_append _ _ _ rfl j0 _ 16 Try.underlying84 hj0 hj1 hj2 hj3 rfl rfl HRw.out _ 1 1 rfl [.int .i64 ((q : Int)), .int .i64 ((s : Int))] HSr.out hg63 hg47 ?_)); intro sv5 w7 r5 k5 o5; obtain ⟨V5, cp5, rfl, hc5⟩ := r5.len
                           have HA5 := Lib.hid (AL.app (p := (((q : Int)), ((s : Int)))) HL.out k5 o5 r5)
                           clear k5 o5 r5)
              go_roundw
              case measure => simp [intOf]; omega
              case rel => exact ⟨s + 1, V5, cp5, by go_num, by omega, by rw [HSN.out, List.length_append]; rfl, by rw [HSN.out]; exact HA5⟩
            · obtain rfl : s = m := by omega
              rw [← HSUC.out] at HL ⊢
              have hwL := HL
              clear HL
              go_wp2_with fail
              go_roundw
              case measure => simp [intOf]; omega
              case rel => exact ⟨q + 1, V, c, by go_num, by omega, rfl, hwL⟩
        · obtain rfl : q = n := by omega
          have hpa : Wir.ptsK S q = S.pts := by rw [← HNE.out]; exact Wir.ptsK_all S
          rw [hpa] at HL ⊢
          obtain ⟨P1, FR1, _, hra1, _⟩ := (HG.out.below HL.out.below).split
          obtain ⟨VC, VB, cc, cb, k0, k1, _⟩ := hra1.head
          rw [HNE.out] at k1
          clear hra1
          go_wp2_with fail
          go_ret
          exact ⟨V, c, rfl, HL.out⟩
end
end Go.Proofs.Ythbobooiedcofaa
namespace Go.Proofs.Ythbobooiedcofaa
open Go.RowKit
attribute [local go_sem] cell_set
attribute [local go_sem high] run_neq_port
set_option maxRecDepth 100000
set_option linter.unusedVariables false

theorem put_most (S : Wir) (p : Pt) (v : Int) : (S.put p v).A.most = S.A.most := by
  unfold Wir.put
  by_cases e : p.1 = -1
  · rw [if_pos e]
  · rw [if_neg e]
    show (S.A.put p.1 p.2 v).most = _
    unfold Ars.put
    cases S.A.cell p.1 with
    | none => rfl
    | some x => simp only; split <;> rfl
theorem link_most (S : Wir) (p q : Pt) : (S.link p q).A.most = S.A.most := by
  unfold Wir.link
  split
  · unfold Wir.join; rw [put_most, put_most]
  · rfl
theorem linkAll_most : ∀ (W : List (Pt × Pt)) (S : Wir), (S.linkAll W).A.most = S.A.most
  | [], _ => rfl
  | x :: r, S => by
    show ((S.link x.1 x.2).linkAll r).A.most = _
    rw [linkAll_most r, link_most]
theorem openN_zero {S : Wir} : ∀ {l : List Pt}, (∀ p ∈ l, S.toE p = 0) → S.openN l = 0
  | [], _ => rfl
  | p :: r, h => by
    have h1 := openN_zero (l := r) fun q hq => h q (by simp [hq])
    unfold Wir.openN at h1 ⊢
    rw [List.filter_cons, if_neg (by simp [h p])]
    exact h1
/-- What LoadNets keeps. -/
structure LK (w : World) (VA VB : Option Addr) (na ca nW cb : Nat) (fr : Int) (B A : Nat) (S1 : Wir) (R RA' : Nat) (S2 : Wir) (X : World) : Prop where
  b : Below w.heap.size w X
  n : NBox X w.heap.size VA na ca fr VB nW cb
  p : OW w B A S1 X
  r : OX w R RA' S2 X
theorem LK.kept {w : World} {VA VB : Option Addr} {na ca nW cb : Nat} {fr : Int} {B A : Nat} {S1 : Wir} {R RA' : Nat} {S2 : Wir} {X X' : World} (h : LK w VA VB na ca nW cb fr B A S1 R RA' S2 X) (hb : Below X.heap.size X X') : LK w VA VB na ca nW cb fr B A S1 R RA' S2 X' :=
  ⟨h.b.trans (hb.mono h.b.size), h.n.below hb, h.p.kept hb, h.r.kept hb⟩
theorem OW.from {w0 w W : World} {B A : Nat} {S : Wir} (h : OW w B A S W) (hb : Below w0.heap.size w0 w) : OW w0 B A S W := by
  obtain ⟨⟨FA, hg, hf⟩, hw⟩ := h
  exact ⟨⟨FA, hg, fun b hb' => Nat.le_trans hb.size (hf b hb')⟩, hb.trans (hw.mono hb.size)⟩
theorem OX.from {w0 w W : World} {B A : Nat} {S : Wir} (h : OX w B A S W) (hb : Below w0.heap.size w0 w) : OX w0 B A S W := by
  obtain ⟨⟨FA, hg, hf⟩, hw⟩ := h
  exact ⟨⟨FA, hg, fun b hb' => Nat.le_trans hb.size (hf b hb')⟩, hb.trans (hw.mono hb.size)⟩
/-- What the law compares, of a net that may be. -/
structure LSame (L : List (ByteArray × Int)) (cells : List Int) (f m : Nat) (S1 S2 : Wir) : Prop where
  n1 : LN (pnL L) cells f S1
  n2 : LN (pnL L) cells f S2
  most : S1.A.most = m
  opens : S1.openN S1.pts = 0
  lead : ∀ p ∈ S2.pts, S1.toE p = 0 ∧ S2.toE p = 0 ∧ S1.toP p = S2.toP p
theorem lsame_of {L : List (ByteArray × Int)} {cells : List Int} {f m : Nat} {W : List (Pt × Pt)} (hs : SigOk L) (hag : ∀ j, j < cells.length → 0 ≤ cells.getD j 0 ∧ cells.getD j 0 < L.length) (hok : NetOk (pnL L) cells f W) (h1 : 1 ≤ m) (h2 : m ≤ 4096) (hl : cells.length ≤ m) (hf : f ≤ 64) :
    LSame L cells f m ((Wir.new (tookA m (arL L) cells) f).linkAll (tidyW (allPs (pnL L) cells f) W)) ((Wir.new (tookA m (arL L) cells) f).linkAll W) := by
  obtain ⟨a1, a2, a3⟩ := loaded hs hag hok.tidy h1 h2 hl hf
  obtain ⟨b1, b2, b3⟩ := loaded hs hag hok h1 h2 hl hf
  have l1 := loaded_leads hok.tidy a2 a3
  have l2 := loaded_leads hok b2 b3
  refine ⟨a1, b1, by rw [linkAll_most]; rfl, openN_zero fun p hp => ?_, fun p hp => ?_⟩
  · rw [a1.pts] at hp
    obtain ⟨q, _, _, h3, _⟩ := l1 p hp
    exact h3
  · rw [b1.pts] at hp
    obtain ⟨q, x1, _, x3, x4, _⟩ := l1 p hp
    obtain ⟨r, y1, _, y3, y4, _⟩ := l2 p hp
    rw [hok.tidy_lnk hp] at x1
    rw [x1] at y1
    injection y1 with y1
    exact ⟨x3, y3, by rw [x4, y4, y1]⟩
theorem loadE_ok {L : List (ByteArray × Int)} {cells : List Int} {fr : Int} {W : List (Pt × Pt)} {most : Int} (h : loadE L cells fr W most = 0) : (netChk (pnL L) L.length (chk L) cells fr W).1 = 0 ∧ 1 ≤ most ∧ most ≤ 4096 ∧ (cells.length : Int) ≤ most := by
  unfold loadE at h
  by_cases h1 : (netChk (pnL L) L.length (chk L) cells fr W).1 ≠ 0
  · rw [if_pos h1] at h; exact absurd h h1
  · rw [if_neg h1] at h
    by_cases h2 : most < 1 ∨ 4096 < most
    · rw [if_pos h2] at h; exact absurd h (by decide)
    · rw [if_neg h2] at h
      by_cases h3 : most < cells.length
      · rw [if_pos h3] at h; exact absurd h (by decide)
      · exact ⟨by simpa using h1, by omega, by omega, by omega⟩
section
variable (A : Option Addr) (n cap : Nat) (L : List (ByteArray × Int)) (VA VB : Option Addr) (ca cb : Nat) (cells : List Int) (fr : Int) (W : List (Pt × Pt)) (most : Int) (w : World)
set_option maxHeartbeats 4000000 in
theorem nets_law (hn : n = L.length) (hcap : L.length ≤ cap) (HL : Hid (AgRd w A L)) (hl : L.length ≤ maxLen) (HC : Hid (IntsRd w VA cells)) (HW : Hid (WrRd w VB W)) (hc : cells.length ≤ maxLen) (hw : W.length ≤ maxLen) :
    Calls Try.prog 7 #[.slice A n cap, netV VA ca cells fr VB cb W, .int .i64 most] w fun e w' => e = .returned (.bool true) ∧ Below w.heap.size w w' := by
  subst hn
  unfold netV
  have hbA : ∀ o : Obj, Below w.heap.size w (w.alloc o) := fun o => (Below.refl _ _).alloc (Nat.le_refl _) o
  go_enter Try.func7, Try.ntmps7
  go_wp2_with fail
  refine (much09 A _ cap L VA VB cells.length W.length ca cb fr _ rfl hl (Lib.hid (HL.out.below (hbA _))) hc hw).mono ?_
  rintro e w1 ⟨r, rfl, hr, hb1⟩
  have HB1 := Lib.hid ((hbA _).trans (hb1.mono (hbA _).size))
  have HN1 := Lib.hid ((nbox_at w VA cells.length ca fr VB W.length cb).below hb1)
  clear hb1
  cases r with
  | true =>
    clear hr
    go_wp2_with fail
    refine (works09 w1).mono ?_
    rintro e w2 ⟨rfl, hb2⟩
    have HB2 := Lib.hid (HB1.out.trans (hb2.mono HB1.out.size))
    clear hb2
    go_wp2_with fail
    go_ret
    exact ⟨rfl, HB2.out⟩
  | false =>
    obtain ⟨l1, l2, l3⟩ := hr rfl
    clear hr
    obtain ⟨hnl, n0, n1, n2⟩ := HN1.out
    have HLz : Hid (∀ X, Below w.heap.size w X → AgRd X A L) := fun X h => HL.out.below h
    have HCz : Hid (∀ X, Below w.heap.size w X → IntsRd X VA cells) := fun X h => HC.out.below h
    have HWz : Hid (∀ X, Below w.heap.size w X → WrRd X VB W) := fun X h => HW.out.below h
    go_wp2_with fail
    refine (wide_net VA VB ca cb cells fr W w1 (by omega) (by omega) (Lib.hid (HCz.out _ HB1.out)) (Lib.hid (HWz.out _ HB1.out))).mono ?_
    rintro e w2 ⟨g1, g2, rfl, hg1, hg2, hwn, hb2⟩
    unfold netV
    have H2 : Hid (Below w.heap.size w w2 ∧ NBox w2 w.heap.size VA cells.length ca fr VB W.length cb ∧ WideN w2 g1 g2 cells W) := ⟨HB1.out.trans (hb2.mono HB1.out.size), HN1.out.below hb2, hwn⟩
    clear hwn hb2 n0 n1 n2 hnl hg1 hg2
    simp only []
    go_upto_region 4 with fail
    refine absW (fun X => Below w2.heap.size w2 X ∧ NBox X w2.heap.size (some ⟨g1, 0, none⟩) cells.length (cells.length + 64) fr (some ⟨g2, 0, none⟩) W.length (W.length + 64)) ⟨by (repeat (first | exact Below.refl _ _ | (with_reducible refine Below.drew ?_) | (with_reducible refine Below.alloc ?_ (by (try simp); (try omega)) _) | (with_reducible refine Below.setCell ?_ (by (try simp); (try omega)) _) | (with_reducible refine Below.trans ?_ (Below.mono (by assumption) (by (try simp); (try omega)))))), nbox_at w2 _ _ _ _ _ _ _⟩ ?_
    rintro X2 ⟨hb2, ht2⟩
    have H3 : Hid (Below w.heap.size w X2 ∧ NBox X2 w.heap.size VA cells.length ca fr VB W.length cb ∧ NBox X2 w2.heap.size (some ⟨g1, 0, none⟩) cells.length (cells.length + 64) fr (some ⟨g2, 0, none⟩) W.length (W.length + 64) ∧ WideN X2 g1 g2 cells W) := ⟨H2.out.1.trans (hb2.mono H2.out.1.size), H2.out.2.1.below hb2, ht2, H2.out.2.2.below hb2⟩
    generalize w2.heap.size = bt at H3 ⊢
    clear hb2 ht2 H2
    have hkp : ∀ Y, Below X2.heap.size X2 Y → Y.cell? ⟨bt, 0, none⟩ = some (.slice (some ⟨g1, 0, none⟩) cells.length (cells.length + 64)) ∧ Y.cell? ⟨bt, 1, none⟩ = some (.int .i64 fr) ∧ Y.cell? ⟨bt, 2, none⟩ = some (.slice (some ⟨g2, 0, none⟩) W.length (W.length + 64)) := fun Y hb => by
      have h1 := H3.out.2.2.1.below hb
      exact ⟨h1.c0, h1.c1, h1.c2⟩
    have HKP := Lib.hid hkp
    have HCp : Hid (∀ Y, Below X2.heap.size X2 Y → Calls Try.prog 34 #[.slice A L.length cap] Y fun e w' => ∃ V c, e = .returned (.slice V L.length c) ∧ Fresh Y w' 89 2 L.length (.slice V L.length c) (agvals L)) := fun Y hb => copy_agents A cap L Y (HLz.out _ (H3.out.1.trans (hb.mono H3.out.1.size))) (by omega)
    have hbtl : bt < X2.heap.size := H3.out.2.2.1.lt
    clear hkp
    by_cases he : loadE L cells fr W most = 0
    · have HE := Lib.hid he
      have HLd : Hid (∀ Y V c, Below X2.heap.size X2 Y → L.length ≤ c → AgRd Y V L → Calls Try.prog 30 #[.slice V L.length c, .agg #[.slice (some ⟨g1, 0, none⟩) cells.length (cells.length + 64), .int .i64 fr, .slice (some ⟨g2, 0, none⟩) W.length (W.length + 64)], .int .i64 most] Y fun e w' => ∃ B A', e = .returned (.tuple #[.pointer (some ⟨B, 0, none⟩), .int .i64 0]) ∧ OW Y B A' (((Wir.new (tookA most.toNat (arL L) cells) fr.toNat)).linkAll (tidyW (allPs (pnL L) cells fr.toNat) W)) w') := fun Y V c hb hcl ha =>
        (load_is V _ c L (some ⟨g1, 0, none⟩) (some ⟨g2, 0, none⟩) (cells.length + 64) (W.length + 64) cells fr W most Y rfl hcl (Lib.hid ha) hl (Lib.hid (H3.out.2.2.2.below hb).ints) (Lib.hid (H3.out.2.2.2.below hb).wires) (by omega) (by omega)).mono fun e w' h => by
          rcases h with ⟨h0, _⟩ | ⟨_, h⟩
          · exact absurd he h0
          · exact h
      clear he
      go_region_held3 (fun Y => Y.cell? ⟨bt, 0, none⟩ = some (.slice (some ⟨g1, 0, none⟩) cells.length (cells.length + 64)) ∧ Y.cell? ⟨bt, 1, none⟩ = some (.int .i64 fr) ∧ Y.cell? ⟨bt, 2, none⟩ = some (.slice (some ⟨g2, 0, none⟩) W.length (W.length + 64)))
        (first | exact HKP.out _ hb4 | exact HKP.out _ hb3 | exact HKP.out _ (by (repeat (first | exact Below.refl _ _ | (with_reducible refine Below.drew ?_) | (with_reducible refine Below.alloc ?_ (by (try simp); (try omega)) _) | (with_reducible refine Below.setCell ?_ (by (try simp); (try omega)) _) | (with_reducible refine Below.trans ?_ (Below.mono (by assumption) (by (try simp); (try omega))))))))
        (first
          | ((with_reducible refine (HCp.out _ (by (repeat (first | exact Below.refl _ _ | (with_reducible refine Below.drew ?_) | (with_reducible refine Below.alloc ?_ (by (try simp); (try omega)) _) | (with_reducible refine Below.setCell ?_ (by (try simp); (try omega)) _) | (with_reducible refine Below.trans ?_ (Below.mono (by assumption) (by (try simp); (try omega)))))))).mono ?_); rintro e w3 ⟨V3, c3, rfl, hf3⟩; dsimp only
             have hb3 : Below X2.heap.size X2 w3 := (by have := hf3.2.2; (repeat (first | exact Below.refl _ _ | (with_reducible refine Below.drew ?_) | (with_reducible refine Below.alloc ?_ (by (try simp); (try omega)) _) | (with_reducible refine Below.setCell ?_ (by (try simp); (try omega)) _) | (with_reducible refine Below.trans ?_ (Below.mono (by assumption) (by (try simp); (try omega)))))))
             have HA3 := Lib.hid (And.intro (Row.agents hf3.1) (hf3.1.len)))
          | ((with_reducible refine (HLd.out _ _ _ hb3 (by obtain ⟨_, _, h, hle⟩ := HA3.out.2; injection h with _ _ h; omega) HA3.out.1).mono ?_); rintro e w4 ⟨B, A', rfl, ho4⟩; dsimp only; have hb4 : Below X2.heap.size X2 w4 := hb3.trans (ho4.b.mono hb3.size); have HO4 := Lib.hid ho4; clear ho4))
      all_goals
        have H5 : Hid (Below w.heap.size w w4 ∧ NBox w4 w.heap.size VA cells.length ca fr VB W.length cb ∧ NBox w4 bt (some ⟨g1, 0, none⟩) cells.length (cells.length + 64) fr (some ⟨g2, 0, none⟩) W.length (W.length + 64) ∧ WideN w4 g1 g2 cells W ∧ OW w B A' (((Wir.new (tookA most.toNat (arL L) cells) fr.toNat)).linkAll (tidyW (allPs (pnL L) cells fr.toNat) W)) w4) :=
          ⟨H3.out.1.trans (hb4.mono H3.out.1.size), H3.out.2.1.below hb4, H3.out.2.2.1.below hb4, H3.out.2.2.2.below hb4, HO4.out.from (H3.out.1.trans (hb3.mono H3.out.1.size))⟩
        clear hb4 hb3 HO4 HA3 hf3 HCp HLd HKP hbtl H3
        obtain ⟨hk0, hm1, hm2, hm3⟩ := loadE_ok HE.out
        obtain ⟨hz, hc4, hf0, hf64, hag, hok⟩ := netChk_ok hk0
        obtain ⟨f, rfl⟩ := Int.eq_ofNat_of_zero_le hf0
        obtain ⟨m, rfl⟩ := Int.eq_ofNat_of_zero_le (by omega : 0 ≤ most)
        have hok' : NetOk (pnL L) cells f W := hok
        have hsm := lsame_of (chk_sig hz) hag hok' (m := m) (f := f) (by omega) (by omega) (by omega) (by omega)
        have HS := Lib.hid (And.intro hsm (And.intro (chk_sig hz) hag))
        clear hz hag hok hok' hk0 hsm hf0
        obtain ⟨hnl, n0, n1, n2⟩ := H5.out.2.1
        go_wp2_with fail
        refine (rload_is A _ cap L VA VB ca cb cells (f : Int) W (m : Int) w4 rfl hcap (Lib.hid (HLz.out _ H5.out.1)) hl (Lib.hid (HCz.out _ H5.out.1)) (Lib.hid (HWz.out _ H5.out.1)) (by omega) (by omega)).mono ?_
        rintro e w5 (⟨h0, _⟩ | ⟨_, R, RA', rfl, hox⟩)
        · exact absurd HE.out h0
        have hsd := H5.out.1
        have H6 : Hid (LK w VA VB cells.length ca W.length cb (f : Int) B A' ((Wir.new (tookA m (arL L) cells) f).linkAll (tidyW (allPs (pnL L) cells f) W)) R RA' ((Wir.new (tookA m (arL L) cells) f).linkAll W) w5 ∧ NBox w5 bt (some ⟨g1, 0, none⟩) cells.length (cells.length + 64) (f : Int) (some ⟨g2, 0, none⟩) W.length (W.length + 64) ∧ WideN w5 g1 g2 cells W) :=
          ⟨⟨hsd.trans (hox.b.mono hsd.size), H5.out.2.1.below hox.b, H5.out.2.2.2.2.kept hox.b, hox.from hsd⟩, H5.out.2.2.1.below hox.b, H5.out.2.2.2.1.below hox.b⟩
        clear hox hsd n0 n1 n2 hnl H5
        obtain ⟨S1, hS1⟩ : ∃ S1, (Wir.new (tookA m (arL L) cells) f).linkAll (tidyW (allPs (pnL L) cells f) W) = S1 := ⟨_, rfl⟩
        obtain ⟨S2, hS2⟩ : ∃ S2, (Wir.new (tookA m (arL L) cells) f).linkAll W = S2 := ⟨_, rfl⟩
        rw [hS1, hS2] at H6 HS
        clear hS1 hS2
        obtain ⟨⟨hnl, n0, n1, n2⟩, ⟨htl, t0, t1, t2⟩⟩ := And.intro H6.out.1.n H6.out.2.1
        simp only []
        go_wp2_with fail
        refine (eq_net (some ⟨g1, 0, none⟩) (some ⟨g2, 0, none⟩) VA VB (cells.length + 64) (W.length + 64) ca cb cells cells (f : Int) (f : Int) W W w5 (by omega) (by omega) (by omega) (by omega) (Lib.hid H6.out.2.2.ints) (Lib.hid H6.out.2.2.wires) (Lib.hid (HCz.out _ H6.out.1.b)) (Lib.hid (HWz.out _ H6.out.1.b))).mono ?_
        rintro e w6 ⟨rfl, hb6⟩
        rw [show (decide (cells = cells ∧ (f : Int) = (f : Int) ∧ W = W)) = true by simp]
        have H7 := Lib.hid (And.intro (H6.out.1.kept hb6) (And.intro (H6.out.2.1.below hb6) (H6.out.2.2.below hb6)))
        clear hb6 n0 n1 n2 hnl t0 t1 t2 htl H6
        obtain ⟨⟨hnl, n0, n1, n2⟩, ⟨htl, t0, t1, t2⟩⟩ := And.intro H7.out.1.n H7.out.2.1
        simp only []
        go_wp2_with fail
        refine (spare_net g1 g2 cells (f : Int) W w6 (by omega) (by omega) (Lib.hid H7.out.2.2)).mono ?_
        rintro e w7 ⟨rfl, hb7⟩
        have H8 := Lib.hid (H7.out.1.kept hb7)
        clear hb7 n0 n1 n2 hnl t0 t1 t2 htl H7
        simp only []
        go_wp2_with fail
        obtain ⟨⟨FA, hg, _⟩, _⟩ := H8.out.p
        refine (wi_arena B A' S1 FA w7 hg).mono ?_
        rintro e w8 ⟨rfl, rfl⟩
        clear hg
        simp only []
        obtain ⟨hnl, n0, n1, n2⟩ := H8.out.n
        go_upto_region 11 with fail
        have hpg : ∀ Y, Below w7.heap.size w7 Y → ∃ FA, WG Y B A' S1 FA := fun Y hb => by
          obtain ⟨⟨FA, hg, _⟩, _⟩ := (H8.out.kept hb).p
          exact ⟨FA, hg⟩
        have HMo : Hid (∀ Y, Below w7.heap.size w7 Y → Calls Try.prog 39 #[.pointer (some ⟨A', 0, none⟩)] Y fun e w' => e = .returned (.int .i64 (m : Int)) ∧ Y = w') := fun Y hb => by
          obtain ⟨FA, hg⟩ := hpg Y hb
          have := ar_field A' S1.A FA Y hg.pa
          rw [HS.out.1.most] at this
          exact this
        have HLi : Hid (∀ Y, Below w7.heap.size w7 Y → Calls Try.prog 40 #[.pointer (some ⟨A', 0, none⟩)] Y fun e w' => e = .returned (.int .i64 (cells.length : Int)) ∧ Below Y.heap.size Y w') := fun Y hb => by
          obtain ⟨FA, hg⟩ := hpg Y hb
          have := ar_live A' S1.A FA Y hg.pa
          have e : S1.A.live = (cells.length : Int) := by unfold Ars.live; rw [HS.out.1.n1.n, HS.out.1.n1.b]; simp
          rw [e] at this
          exact this
        have HUs : Hid (∀ Y, Below w7.heap.size w7 Y → Calls Try.prog 41 #[.pointer (some ⟨A', 0, none⟩)] Y fun e w' => e = .returned (.int .i64 (cells.length : Int)) ∧ Y = w') := fun Y hb => by
          obtain ⟨FA, hg⟩ := hpg Y hb
          have := ar_used A' S1.A FA Y hg.pa
          rw [HS.out.1.n1.n] at this
          exact this
        have HFr : Hid (∀ Y, Below w7.heap.size w7 Y → Calls Try.prog 25 #[.pointer (some ⟨B, 0, none⟩)] Y fun e w' => e = .returned (.int .i64 (f : Int)) ∧ Y = w') := fun Y hb => by
          obtain ⟨FA, hg⟩ := hpg Y hb
          have := wi_free B A' S1 FA Y hg
          rw [HS.out.1.n1.p] at this
          exact this
        have HOp : Hid (∀ Y, Below w7.heap.size w7 Y → Calls Try.prog 26 #[.pointer (some ⟨B, 0, none⟩)] Y fun e w' => e = .returned (.int .i64 0) ∧ Below Y.heap.size Y w') := fun Y hb => by
          obtain ⟨FA, hg⟩ := hpg Y hb
          have := wi_open B A' S1 FA Y hg
          rw [HS.out.1.opens] at this
          exact this
        have hkp : ∀ Y, Below w7.heap.size w7 Y → Y.cell? ⟨w.heap.size, 0, none⟩ = some (.slice VA cells.length ca) ∧ Y.cell? ⟨w.heap.size, 1, none⟩ = some (.int .i64 (f : Int)) := fun Y hb => by
          have h1 := (H8.out.kept hb).n
          exact ⟨h1.c0, h1.c1⟩
        have HKP := Lib.hid hkp
        clear hpg hkp
        go_region_held3 (fun Y => Y.cell? ⟨w.heap.size, 0, none⟩ = some (.slice VA cells.length ca) ∧ Y.cell? ⟨w.heap.size, 1, none⟩ = some (.int .i64 (f : Int)))
          (first | exact HKP.out _ q2 | exact HKP.out _ q1 | exact HKP.out _ (by (repeat (first | exact Below.refl _ _ | (with_reducible refine Below.drew ?_) | (with_reducible refine Below.alloc ?_ (by (try simp); (try omega)) _) | (with_reducible refine Below.setCell ?_ (by (try simp); (try omega)) _) | (with_reducible refine Below.trans ?_ (Below.mono (by assumption) (by (try simp); (try omega))))))))
          (first
            | ((with_reducible refine (HMo.out _ (by (repeat (first | exact Below.refl _ _ | (with_reducible refine Below.drew ?_) | (with_reducible refine Below.alloc ?_ (by (try simp); (try omega)) _) | (with_reducible refine Below.setCell ?_ (by (try simp); (try omega)) _) | (with_reducible refine Below.trans ?_ (Below.mono (by assumption) (by (try simp); (try omega)))))))).mono ?_); rintro e w9 ⟨rfl, rfl⟩; dsimp only)
            | ((with_reducible refine (HLi.out _ (by (repeat (first | exact Below.refl _ _ | (with_reducible refine Below.drew ?_) | (with_reducible refine Below.alloc ?_ (by (try simp); (try omega)) _) | (with_reducible refine Below.setCell ?_ (by (try simp); (try omega)) _) | (with_reducible refine Below.trans ?_ (Below.mono (by assumption) (by (try simp); (try omega)))))))).mono ?_); rintro e w9 ⟨rfl, p1⟩; dsimp only; have q1 : Below w7.heap.size w7 w9 := (by (repeat (first | exact Below.refl _ _ | (with_reducible refine Below.drew ?_) | (with_reducible refine Below.alloc ?_ (by (try simp); (try omega)) _) | (with_reducible refine Below.setCell ?_ (by (try simp); (try omega)) _) | (with_reducible refine Below.trans ?_ (Below.mono (by assumption) (by (try simp); (try omega))))))); clear p1)
            | ((with_reducible refine (HUs.out _ q1).mono ?_); rintro e w10 ⟨rfl, rfl⟩; dsimp only)
            | ((with_reducible refine (HFr.out _ q1).mono ?_); rintro e w10 ⟨rfl, rfl⟩; dsimp only)
            | ((with_reducible refine (HOp.out _ q1).mono ?_); rintro e w11 ⟨rfl, p2⟩; dsimp only; have q2 : Below w7.heap.size w7 w11 := (q1.trans (p2.mono q1.size)); clear p2))
        all_goals
          have H9 := Lib.hid (H8.out.kept q2)
          clear q1 q2 n0 n1 n2 hnl H8 HMo HLi HUs HFr HOp HKP
          go_wp2_with fail
          obtain ⟨⟨FR, hrg, _⟩, _⟩ := H9.out.r
          refine (rw_all R RA' S2 FR w11 hrg).mono ?_
          rintro e w12 ⟨V, c, rfl, hal⟩
          have hpl : S2.pts.length ≤ 100000 := by
            have := opens_le hrg.ok; omega
          have H10 := Lib.hid (And.intro (H9.out.kept hal.below) hal.row)
          obtain ⟨P, hP⟩ : ∃ P, S2.pts = P := ⟨_, rfl⟩
          rw [hP] at H10 hpl ⊢
          have HPL : Hid (∀ p ∈ P, S1.toE p = 0 ∧ S2.toE p = 0 ∧ S1.toP p = S2.toP p) := hP ▸ HS.out.1.lead
          clear hal hrg hP H9
          simp only []
          go_wp2_with fail
          go_loopw [14] (fun i wr => ∃ k : Nat, i = .int .i64 k ∧ k ≤ P.length ∧ Hid (LK w VA VB cells.length ca W.length cb (f : Int) B A' S1 R RA' S2 wr ∧ Row wr 39 2 (.slice V P.length c) P.length (ptvals P))) (fun i _ => P.length - (intOf i).toNat)
          case atStart => exact ⟨0, rfl, Nat.zero_le _, H10⟩
          case round =>
            obtain ⟨k, rfl, hk, HR⟩ := hrel
            clear H10
            by_cases hlt : k < P.length
            · obtain ⟨r, cap', cur, hv, hh, _⟩ := HR.out.2.some_ (by omega)
              injection hv with hv1 _ hv3
              subst hv1
              obtain ⟨v0, v1⟩ := ptvals_at P k hlt
              have hpm : P.getD k default ∈ P := by rw [List.getD_eq_getElem?_getD, List.getElem?_eq_getElem hlt]; exact List.getElem_mem hlt
              obtain ⟨e1, e2, e3⟩ := HPL.out _ hpm
              obtain ⟨⟨p0, p1⟩, hgk⟩ : ∃ p, P.getD k default = p := ⟨_, rfl⟩
              rw [hgk] at v0 v1 hpm e1 e2 e3
              have HGK := Lib.hid hgk
              clear hgk
              obtain ⟨⟨q0, q1⟩, hq⟩ : ∃ q, S2.toP (p0, p1) = q := ⟨_, rfl⟩
              rw [hq] at e3
              have c0 : wr.cell? ⟨r, k * 2, none⟩ = some (.int .i64 p0) := (HR.out.2.cellAt _ (by omega)).trans v0
              have c1 : wr.cell? ⟨r, k * 2 + 1, none⟩ = some (.int .i64 p1) := (HR.out.2.cellAt _ (by omega)).trans v1
              have hrl := heap_lt hh
              have HE2 := Lib.hid (And.intro e1 (And.intro e2 (And.intro e3 hq)))
              have hpp : eqP (q0, q1) (q0, q1) = true := by unfold eqP; simp
              clear v0 v1 hpm e1 e2 e3 hq hh hv3
              obtain ⟨⟨FA, hg, _⟩, _⟩ := HR.out.1.p
              go_wp2_with fail
              refine (wi_to B A' S1 FA wr p0 p1 hg).mono ?_
              rintro e w13 ⟨rfl, hb13⟩
              rw [HE2.out.1, HE2.out.2.2.1]
              have H11 := Lib.hid (And.intro (HR.out.1.kept hb13) (HR.out.2.keep fun b hb => hb13.block b (HR.out.2.lt b hb)))
              clear hg hb13 c0 c1 hrl
              simp only []
              go_upto_region 18 with fail
              refine absW (fun X => Hid (LK w VA VB cells.length ca W.length cb (f : Int) B A' S1 R RA' S2 X ∧ Row X 39 2 (.slice (some ⟨r, 0, none⟩) P.length c) P.length (ptvals P)) ∧ X.heap[w13.heap.size]? = some (.cells #[.int .i64 q0, .int .i64 q1] 39 (0, 0))) ⟨Lib.hid ⟨H11.out.1.kept ((Below.refl _ _).alloc (Nat.le_refl _) _), H11.out.2.alloc _⟩, heap_alloc_new _ _⟩ ?_
              rintro X3 ⟨H12, hX3⟩
              generalize w13.heap.size = ba at hX3 ⊢
              clear H11
              have a0 : X3.cell? ⟨ba, 0, none⟩ = some (.int .i64 q0) := by simp [World.cell?, hX3]
              have a1 : X3.cell? ⟨ba, 1, none⟩ = some (.int .i64 q1) := by simp [World.cell?, hX3]
              have hba := heap_lt hX3
              obtain ⟨v0, v1⟩ := ptvals_at P k hlt
              have hgk : P.getD k default = (p0, p1) := HGK.out
              rw [hgk] at v0 v1
              have c0 : X3.cell? ⟨r, k * 2, none⟩ = some (.int .i64 p0) := (H12.out.2.cellAt _ (by omega)).trans v0
              have c1 : X3.cell? ⟨r, k * 2 + 1, none⟩ = some (.int .i64 p1) := (H12.out.2.cellAt _ (by omega)).trans v1
              have hrl : r < X3.heap.size := H12.out.2.lt r (by simp [ownB])
              clear v0 v1 hgk
              obtain ⟨⟨FR, hrg, _⟩, _⟩ := H12.out.1.r
              go_wp2_with fail
              refine (rw_to R RA' S2 FR X3 p0 p1 hrg).mono ?_
              rintro e w14 ⟨rfl, hb14⟩
              rw [HE2.out.2.1, HE2.out.2.2.2]
              have H13 := Lib.hid (And.intro (H12.out.1.kept hb14) (H12.out.2.keep fun b hb => hb14.block b (H12.out.2.lt b hb)))
              have hX4 := (hb14.block ba hba).trans hX3
              clear hrg hb14 c0 c1 hrl a0 a1 hba hX3 H12
              simp only []
              go_upto_region 19 with fail
              refine absW (fun X => Hid (LK w VA VB cells.length ca W.length cb (f : Int) B A' S1 R RA' S2 X ∧ Row X 39 2 (.slice (some ⟨r, 0, none⟩) P.length c) P.length (ptvals P)) ∧ X.heap[ba]? = some (.cells #[.int .i64 q0, .int .i64 q1] 39 (0, 0)) ∧ X.heap[w14.heap.size]? = some (.cells #[.int .i64 q0, .int .i64 q1] 39 (0, 0))) ⟨Lib.hid ⟨H13.out.1.kept ((Below.refl _ _).alloc (Nat.le_refl _) _), H13.out.2.alloc _⟩, (Below.heap_alloc _ _ _ (heap_lt hX4)).trans hX4, heap_alloc_new _ _⟩ ?_
              clear hX4
              rintro X5 ⟨H14, hX5, hX6⟩
              generalize w14.heap.size = bb at hX6 ⊢
              clear H13
              have a0 : X5.cell? ⟨ba, 0, none⟩ = some (.int .i64 q0) := by simp [World.cell?, hX5]
              have a1 : X5.cell? ⟨ba, 1, none⟩ = some (.int .i64 q1) := by simp [World.cell?, hX5]
              have b0 : X5.cell? ⟨bb, 0, none⟩ = some (.int .i64 q0) := by simp [World.cell?, hX6]
              have b1 : X5.cell? ⟨bb, 1, none⟩ = some (.int .i64 q1) := by simp [World.cell?, hX6]
              have hba := heap_lt hX5
              have hbb := heap_lt hX6
              clear hX5 hX6
              go_wp2_with fail
              go_roundw
              case measure => simp [intOf]; omega
              case rel => exact ⟨k + 1, by go_num, by omega, H14⟩
            · obtain rfl : k = P.length := by omega
              have HR2 := Lib.hid HR.out.1
              clear HR
              go_wp2_with fail
              go_loopw [19] (fun i wr => ∃ k : Nat, i = .int .i64 k ∧ k ≤ cells.length ∧ Hid (LK w VA VB cells.length ca W.length cb (f : Int) B A' S1 R RA' S2 wr)) (fun i _ => cells.length - (intOf i).toNat)
              case atStart => exact ⟨0, rfl, Nat.zero_le _, HR2⟩
              case round =>
                obtain ⟨k, rfl, hk2, HR⟩ := hrel
                clear HR2
                obtain ⟨hnl, n0, n1, n2⟩ := HR.out.n
                by_cases hlt : k < cells.length
                · obtain ⟨ws, hcs, _⟩ := HS.out.1.n1.cell hlt
                  obtain ⟨ha1, ha2⟩ := HS.out.1.n1.agA hlt
                  obtain ⟨x0, x1⟩ := HS.out.2.2 k hlt
                  obtain ⟨a, ha⟩ := Int.eq_ofNat_of_zero_le x0
                  obtain ⟨z1, z2, z3, _⟩ := arL_pn HS.out.2.1 x0 x1
                  rw [ha] at ha1 ha2 x1 z1 z2 z3
                  have hal : S1.A.agA (k : Int) = agA L a := by
                    have : arL L (a : Int) = agA L a := rfl
                    rw [this] at z1 z2
                    omega
                  have HAG := Lib.hid (And.intro ha2 (And.intro hal hcs))
                  have HGK := Lib.hid ha
                  have x2 : a < L.length := by omega
                  clear ha1 ha2 z1 z2 z3 hal hcs x0 ha
                  obtain ⟨⟨FA, hg, _⟩, _⟩ := HR.out.p
                  go_wp2_with fail
                  refine (ar_agent A' S1.A FA (k : Int) wr hg.pa).mono ?_
                  rintro e w13 ⟨rfl, hb13⟩
                  rw [HAG.out.1, HAG.out.2.1, HAG.out.2.2, if_pos (by rfl)]
                  have H11 := Lib.hid (HR.out.kept hb13)
                  clear hb13 hg n0 n1 n2 hnl
                  obtain ⟨hnl, n0, n1, n2⟩ := H11.out.n
                  obtain ⟨b, off, rfl, hb, e0⟩ := HCz.out _ H11.out.b k hlt
                  rw [HGK.out] at e0
                  obtain ⟨bs, os, rfl, hbs, d0, d1⟩ := HLz.out _ H11.out.b a x2
                  generalize agA L a = ar at d1 ⊢
                  clear d0
                  simp only []
                  go_wp2_with fail
                  go_roundw
                  case measure => simp [intOf]; omega
                  case rel => exact ⟨k + 1, by go_num, by omega, H11⟩
                · obtain rfl : k = cells.length := by omega
                  go_wp2_with fail
                  refine (works09 wr).mono ?_
                  rintro e w13 ⟨rfl, hb13⟩
                  have H11 := Lib.hid (HR.out.b.trans (hb13.mono HR.out.b.size))
                  clear hb13 n0 n1 n2 hnl
                  simp only []
                  go_wp2_with fail
                  go_ret
                  exact ⟨rfl, H11.out⟩
    · have hk : (netChk (pnL L) L.length (chk L) cells fr W).1 ≠ 0 ∨ True := .inr trivial
      have HE := Lib.hid he
      obtain ⟨k, hk⟩ : ∃ k, loadE L cells fr W most = k := ⟨_, rfl⟩
      rw [hk] at he
      have HK := Lib.hid hk
      have hkb : (k != 0) = true := by simpa using he
      have HLd : Hid (∀ Y V c, Below X2.heap.size X2 Y → L.length ≤ c → AgRd Y V L → Calls Try.prog 30 #[.slice V L.length c, .agg #[.slice (some ⟨g1, 0, none⟩) cells.length (cells.length + 64), .int .i64 fr, .slice (some ⟨g2, 0, none⟩) W.length (W.length + 64)], .int .i64 most] Y (LdBad Y k)) := fun Y V c hb hcl ha =>
        (load_is V _ c L (some ⟨g1, 0, none⟩) (some ⟨g2, 0, none⟩) (cells.length + 64) (W.length + 64) cells fr W most Y rfl hcl (Lib.hid ha) hl (Lib.hid (H3.out.2.2.2.below hb).ints) (Lib.hid (H3.out.2.2.2.below hb).wires) (by omega) (by omega)).mono fun e w' h => by
          rcases h with ⟨_, h⟩ | ⟨h0, _⟩
          · rw [hk] at h; exact h
          · exact absurd h0 HE.out
      clear he hk
      go_region_held3 (fun Y => Y.cell? ⟨bt, 0, none⟩ = some (.slice (some ⟨g1, 0, none⟩) cells.length (cells.length + 64)) ∧ Y.cell? ⟨bt, 1, none⟩ = some (.int .i64 fr) ∧ Y.cell? ⟨bt, 2, none⟩ = some (.slice (some ⟨g2, 0, none⟩) W.length (W.length + 64)))
        (first | exact HKP.out _ hb4 | exact HKP.out _ hb3 | exact HKP.out _ (by (repeat (first | exact Below.refl _ _ | (with_reducible refine Below.drew ?_) | (with_reducible refine Below.alloc ?_ (by (try simp); (try omega)) _) | (with_reducible refine Below.setCell ?_ (by (try simp); (try omega)) _) | (with_reducible refine Below.trans ?_ (Below.mono (by assumption) (by (try simp); (try omega))))))))
        (first
          | ((with_reducible refine (HCp.out _ (by (repeat (first | exact Below.refl _ _ | (with_reducible refine Below.drew ?_) | (with_reducible refine Below.alloc ?_ (by (try simp); (try omega)) _) | (with_reducible refine Below.setCell ?_ (by (try simp); (try omega)) _) | (with_reducible refine Below.trans ?_ (Below.mono (by assumption) (by (try simp); (try omega)))))))).mono ?_); rintro e w3 ⟨V3, c3, rfl, hf3⟩; dsimp only
             have hb3 : Below X2.heap.size X2 w3 := (by have := hf3.2.2; (repeat (first | exact Below.refl _ _ | (with_reducible refine Below.drew ?_) | (with_reducible refine Below.alloc ?_ (by (try simp); (try omega)) _) | (with_reducible refine Below.setCell ?_ (by (try simp); (try omega)) _) | (with_reducible refine Below.trans ?_ (Below.mono (by assumption) (by (try simp); (try omega)))))))
             have HA3 := Lib.hid (And.intro (Row.agents hf3.1) (hf3.1.len)))
          | ((with_reducible refine (HLd.out _ _ _ hb3 (by obtain ⟨_, _, h, hle⟩ := HA3.out.2; injection h with _ _ h; omega) HA3.out.1).mono ?_); rintro e w4 ⟨rfl, hb4'⟩; dsimp only; have hb4 : Below X2.heap.size X2 w4 := hb3.trans (hb4'.mono hb3.size); clear hb4'))
      all_goals
        have H5 : Hid (Below w.heap.size w w4 ∧ NBox w4 w.heap.size VA cells.length ca fr VB W.length cb ∧ NBox w4 bt (some ⟨g1, 0, none⟩) cells.length (cells.length + 64) fr (some ⟨g2, 0, none⟩) W.length (W.length + 64) ∧ WideN w4 g1 g2 cells W) :=
          ⟨H3.out.1.trans (hb4.mono H3.out.1.size), H3.out.2.1.below hb4, H3.out.2.2.1.below hb4, H3.out.2.2.2.below hb4⟩
        clear hb4 hb3 HA3 hf3 HCp HLd HKP hbtl H3
        obtain ⟨hnl, n0, n1, n2⟩ := H5.out.2.1
        go_wp2_with fail
        refine (rload_is A _ cap L VA VB ca cb cells fr W most w4 rfl hcap (Lib.hid (HLz.out _ H5.out.1)) hl (Lib.hid (HCz.out _ H5.out.1)) (Lib.hid (HWz.out _ H5.out.1)) (by omega) (by omega)).mono ?_
        rintro e w5 (⟨_, rfl, hb5⟩ | ⟨h0, _⟩)
        · rw [HK.out]
          have H6 := Lib.hid (And.intro (H5.out.1.trans (hb5.mono H5.out.1.size)) (And.intro (H5.out.2.1.below hb5) (And.intro (H5.out.2.2.1.below hb5) (H5.out.2.2.2.below hb5))))
          clear hb5 n0 n1 n2 hnl H5
          obtain ⟨⟨hnl, n0, n1, n2⟩, ⟨htl, t0, t1, t2⟩, _⟩ := H6.out.2
          simp only []
          go_wp2_with fail
          refine (eq_net (some ⟨g1, 0, none⟩) (some ⟨g2, 0, none⟩) VA VB (cells.length + 64) (W.length + 64) ca cb cells cells fr fr W W w5 (by omega) (by omega) (by omega) (by omega) (Lib.hid H6.out.2.2.2.ints) (Lib.hid H6.out.2.2.2.wires) (Lib.hid (HCz.out _ H6.out.1)) (Lib.hid (HWz.out _ H6.out.1))).mono ?_
          rintro e w6 ⟨rfl, hb6⟩
          rw [show (decide (cells = cells ∧ fr = fr ∧ W = W)) = true by simp]
          have H7 := Lib.hid (And.intro (H6.out.1.trans (hb6.mono H6.out.1.size)) (And.intro (H6.out.2.2.1.below hb6) (H6.out.2.2.2.below hb6)))
          clear hb6 n0 n1 n2 hnl t0 t1 t2 htl H6
          obtain ⟨⟨htl, t0, t1, t2⟩, _⟩ := H7.out.2
          simp only []
          go_wp2_with fail
          refine (spare_net g1 g2 cells fr W w6 (by omega) (by omega) (Lib.hid H7.out.2.2)).mono ?_
          rintro e w7 ⟨rfl, hb7⟩
          have H8 := Lib.hid (H7.out.1.trans (hb7.mono H7.out.1.size))
          clear hb7 t0 t1 t2 htl H7
          simp only []
          go_wp2_with fail
          refine (works09 w7).mono ?_
          rintro e w8 ⟨rfl, hb8⟩
          have H9 := Lib.hid (H8.out.trans (hb8.mono H8.out.size))
          clear hb8
          simp only []
          go_wp2_with fail
          go_ret
          exact ⟨rfl, H9.out⟩
        · exact absurd h0 HE.out
end
end Go.Proofs.Ythbobooiedcofaa
