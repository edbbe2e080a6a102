/-
  Contracts of skeinref00.num, WideInts, SpareInts.
-/
import Derived.Test.YtkonfogebepccaaDoorEqN
import Derived.Test.YtkonfogebepccaaDoorRef03K
import Derived.Test.YtkonfogebepccaaDoorRowPorts
namespace Go.Proofs.YtkonfogebepccaaDoor
open Go.RowKit
attribute [local go_sem] cell_set
set_option maxRecDepth 100000
set_option linter.unusedVariables false

def markN (n i : Nat) : Int := 1048576 * n + i + 1
/-- A list with marks behind it. -/
def wideL (l : List Int) : List Int := l ++ (List.range 64).map fun (i : Nat) => markN 9 (l.length + i)
theorem wideL_len (l : List Int) : (wideL l).length = l.length + 64 := by simp [wideL]
theorem wideL_lo {l : List Int} {i : Nat} (h : i < l.length) : (wideL l).getD i 0 = l.getD i 0 := by simp [wideL, List.getD_eq_getElem?_getD, List.getElem?_append_left h]
theorem wideL_hi {l : List Int} {i : Nat} (h : l.length ≤ i) (h2 : i < l.length + 64) : (wideL l).getD i 0 = markN 9 i := by
  have : i - l.length < 64 := by omega
  simp [wideL, List.getD_eq_getElem?_getD, List.getElem?_append_right h, this]
  congr 1
  omega
theorem num9 (i : Nat) (hi : i ≤ 1000000) (w : World) : Calls Tryd.prog 87 #[.int .i64 9, .int .i64 (i : Int)] w fun e w' => e = .returned (.int .i64 (markN 9 i)) ∧ w = w' := by
  have h1 : IntKind.i64.wrap (1048576 * 9 + (i : Int)) = 1048576 * 9 + (i : Int) := IntWalk.i64_in _ (by omega)
  have h2 : IntKind.i64.wrap (1048576 * 9 + (i : Int) + 1) = 1048576 * 9 + (i : Int) + 1 := IntWalk.i64_in _ (by omega)
  go_enter Tryd.func87, Tryd.ntmps87
  go_wp2
  go_ret
  exact ⟨retI (by unfold markN; first | omega | (simp; omega) | (unfold wrap64; omega)), rfl⟩
set_option maxHeartbeats 1000000 in
theorem wide_ints (A : Option Addr) (n cap : Nat) (l : List Int) (w : World) (hn : n = l.length) (hl : l.length ≤ 100000) (HA : Hid (IntsRd w A l)) :
    Calls Tryd.prog 42 #[.slice A n cap] w fun e w' => ∃ g, e = .returned (.slice (some ⟨g, 0, none⟩) n (n + 64)) ∧ w.heap.size ≤ g ∧ Row w' 3 1 (.slice (some ⟨g, 0, none⟩) (n + 64) (n + 64)) (n + 64) (ivals (wideL l)) ∧ Below w.heap.size w w' := by
  subst hn
  obtain ⟨i0, hi0, hi1, hi2, hi3⟩ := info_parts int_info
  obtain ⟨N, hN⟩ : ∃ N, N = l.length + 64 := ⟨_, rfl⟩
  have hsum : IntKind.i64.wrap ((l.length : Int) + 64) = (N : Int) := by rw [IntWalk.i64_in _ (by omega)]; omega
  have hN1 : N ≤ 100064 := by omega
  have hlN : l.length ≤ N := by omega
  have HN := Lib.hid hN
  have hw := wideL_len l
  rw [← hN] at hw ⊢
  have HW := Lib.hid hw
  clear hN hw
  go_enter Tryd.func42, Tryd.ntmps42
  go_upto_region 2 with (at_make; refine wpList_make_row _ rfl _ _ _ rfl _ i0 _ (by rfl) hi0 hi1 hi2 (by rfl) .i64 .i64 N (by rfl) (by rfl) (by rw [hi3]; omega) (by omega) ?_)
  refine absW (fun X => Row X 3 1 (.slice (some ⟨w.heap.size, 0, none⟩) N N) N (ivals (partL (wideL l) 0)) ∧ Below w.heap.size w X)
    ⟨by rw [partL_0, HW.out, ivals_replicate]; exact Row.made w _ _ N (by unfold maxLen; omega), (Below.refl _ _).alloc (Nat.le_refl _) _⟩ ?_
  rintro X ⟨hrx, hbx⟩
  have HX := Lib.hid (And.intro hrx hbx)
  clear hrx hbx
  go_wp2_with fail
  go_loopw [4] (fun i wr => ∃ k : Nat, i = .int .i64 k ∧ k ≤ N ∧ Hid (Row wr 3 1 (.slice (some ⟨w.heap.size, 0, none⟩) N N) N (ivals (partL (wideL l) k)) ∧ Below w.heap.size w wr)) (fun i _ => N - (intOf i).toNat)
  case atStart => exact ⟨0, rfl, by omega, HX⟩
  case round =>
    obtain ⟨k, rfl, hk, HR⟩ := hrel
    clear HX
    by_cases hlt : k < N
    · have s0 : wr.frozen? ⟨w.heap.size, k, none⟩ = false := HR.out.1.frozenAt k
      obtain ⟨u1, s2⟩ : ∃ u, wr.cell? ⟨w.heap.size, k, none⟩ = some u := ⟨_, (HR.out.1.cellAt k (by omega)).trans (List.getElem?_eq_getElem (by rw [HR.out.1.1]; omega))⟩
      have HE : Hid (partL (wideL l) (k + 1) = (partL (wideL l) k).set k ((wideL l).getD k 0)) := partL_succ (by rw [HW.out]; exact hlt)
      by_cases hlo : k < l.length
      · obtain ⟨b, off, rfl, hb, e0⟩ := HA.out k hlo
        have c0 := (HR.out.2.cell (p := ⟨b, off + k, none⟩) hb).trans e0
        have hbr : b < wr.heap.size := Nat.lt_of_lt_of_le hb HR.out.2.size
        have HV := Lib.hid (wideL_lo hlo)
        clear e0
        generalize l.getD k 0 = x at c0 HV
        go_wp2
        go_roundw
        case rel =>
          have hR8 := HR.out.1.set k (.int .i64 x)
          have hB8 := HR.out.2.setCell (p := ⟨w.heap.size, k, none⟩) (Nat.le_refl _) (.int .i64 x)
          have e := HE.out
          rw [HV.out] at e
          rw [ivals_set, ← e] at hR8
          exact ⟨k + 1, by go_num, by omega, hR8, hB8⟩
        case measure => simp [intOf]; omega
      · have HV : Hid ((wideL l).getD k 0 = markN 9 k) := wideL_hi (by omega) (by have := HN.out; omega)
        go_wp2_with (go_at_call 87; refine (num9 k (by omega) _).mono ?_; rintro e w5 ⟨rfl, rfl⟩)
        go_roundw
        case rel =>
          have hR8 := HR.out.1.set k (.int .i64 (markN 9 k))
          have hB8 := HR.out.2.setCell (p := ⟨w.heap.size, k, none⟩) (Nat.le_refl _) (.int .i64 (markN 9 k))
          have e := HE.out
          rw [HV.out] at e
          rw [ivals_set, ← e] at hR8
          exact ⟨k + 1, by go_num, by omega, hR8, hB8⟩
        case measure => simp [intOf]; omega
    · obtain rfl : N = k := by omega
      have HL2 : Hid (partL (wideL l) N = wideL l) := partL_alln HW.out
      go_wp2
      exact bodyPost_ret (v := .slice (some ⟨w.heap.size, 0, none⟩) l.length N) (by simp only [results, Tryd.results42]; go_simp) rfl ⟨w.heap.size, rfl, Nat.le_refl _, by rw [← HL2.out]; exact HR.out.1, HR.out.2⟩
theorem spare_ints (g : Nat) (n m : Nat) (l : List Int) (w : World) (hn : n = l.length) (hm : m = l.length + 64) (hl : l.length ≤ 100000) (HR : Hid (Row w 3 1 (.slice (some ⟨g, 0, none⟩) m m) m (ivals (wideL l)))) :
    Calls Tryd.prog 49 #[.slice (some ⟨g, 0, none⟩) n m] w fun e w' => e = .returned (.bool true) ∧ Below w.heap.size w w' := by
  subst hn
  have hsum : IntKind.i64.wrap ((l.length : Int) + 64) = (m : Int) := by rw [IntWalk.i64_in _ (by omega)]; omega
  have hN1 : m ≤ 100064 := by omega
  have hlN : l.length ≤ m := by omega
  have HN := Lib.hid hm
  have hgl : g < w.heap.size := HR.out.lt g (by simp [ownB])
  clear hm
  go_enter Tryd.func49, Tryd.ntmps49
  go_wp2
  go_loopw [4, 5] (fun i _ wr => ∃ k : Nat, i = .int .i64 k ∧ l.length ≤ k ∧ k ≤ m ∧ Hid (w = wr)) (fun i _ _ => m - (intOf i).toNat)
  case atStart => exact ⟨l.length, rfl, by omega, by omega, rfl⟩
  case round =>
    obtain ⟨k, rfl, hk, hk2, HW⟩ := hrel
    have hw := HW.out
    subst hw
    by_cases hlt : k < m
    · have c0 : w.cell? ⟨g, k, none⟩ = some (.int .i64 (markN 9 k)) := by
        have h1 := HR.out.cellAt k (by omega)
        have h2 := wideL_hi (l := l) hk (by have := HN.out; omega)
        rw [h1]
        have h3 : k < (wideL l).length := by rw [wideL_len]; have := HN.out; omega
        simp only [List.getD_eq_getElem?_getD, List.getElem?_eq_getElem h3, Option.getD_some] at h2
        simp [ivals, h3, h2]
      go_wp2_with (go_at_call 87; refine (num9 k (by omega) _).mono ?_; rintro e w5 ⟨rfl, rfl⟩)
      go_roundw
      case rel => first
        | exact ⟨k + 1, by go_num, by omega, by omega, rfl⟩
        | exact ⟨k + 1, by go_num, by omega, by omega, trivial⟩
      case measure => simp [intOf]; omega
    · go_wp2
      go_ret
      exact ⟨rfl, Below.refl _ _⟩
end Go.Proofs.YtkonfogebepccaaDoor
