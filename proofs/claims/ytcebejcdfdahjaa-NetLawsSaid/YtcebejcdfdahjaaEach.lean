/-
  Contracts of Each and of numbers: does a list have each number once?
-/
import Derived.Test.YtcebejcdfdahjaaRef03L
namespace Go.Proofs.Ytcebejcdfdahjaa
open Go.RowKit
attribute [local go_sem] cell_set
set_option maxRecDepth 100000
set_option linter.unusedVariables false

theorem bool_info : (Try.prog.info? 4).map (fun i => (i.zero, i.size, i.bytes)) = some (some (.bool false), 1, 1) := by kernel_rfl
def bvals (l : List Bool) : List Value := l.map Value.bool
theorem bvals_set (l : List Bool) (j : Nat) (x : Bool) : (bvals l).set j (.bool x) = bvals (l.set j x) := by simp [bvals, List.map_set]
theorem bvals_replicate (n : Nat) : bvals (List.replicate n false) = List.replicate n (.bool false) := by simp [bvals]
instance (l : List Int) (most : Nat) : Decidable (eachN l most) := by unfold eachN; infer_instance
def seenE (l : List Int) (most k : Nat) : List Bool := (List.range most).map fun (j : Nat) => decide ((j : Int) ∈ l.take k)
theorem seenE_len (l : List Int) (most k : Nat) : (seenE l most k).length = most := by simp [seenE]
theorem seenE_0 (l : List Int) (most : Nat) : seenE l most 0 = List.replicate most false := by
  refine List.ext_getElem (by simp [seenE]) fun i h1 h2 => ?_
  simp [seenE]
theorem take_succ_mem {l : List Int} {k : Nat} (hk : k < l.length) (x : Int) : x ∈ l.take (k + 1) ↔ x ∈ l.take k ∨ x = l.getD k 0 := by
  have e : l.take (k + 1) = l.take k ++ [l.getD k 0] := by rw [List.take_add_one, List.getElem?_eq_getElem hk, List.getD_eq_getElem?_getD, List.getElem?_eq_getElem hk]; rfl
  rw [e]; simp
theorem seenE_succ {l : List Int} {most k m : Nat} (hk : k < l.length) (hm : m < most) (e : l.getD k 0 = (m : Int)) : seenE l most (k + 1) = (seenE l most k).set m true := by
  refine List.ext_getElem (by simp [seenE]) fun i h1 h2 => ?_
  simp only [seenE, List.getElem_map, List.getElem_range, List.getElem_set]
  by_cases h : m = i
  · subst h
    rw [if_pos rfl, decide_eq_true_eq, take_succ_mem hk]
    exact .inr e.symm
  · rw [if_neg h]
    congr 1
    rw [take_succ_mem hk, e]
    simp only [eq_iff_iff, or_iff_left_iff_imp]
    intro h2; omega
theorem seenE_at {l : List Int} {most k m : Nat} (hm : m < most) : (bvals (seenE l most k))[m]? = some (.bool (decide ((m : Int) ∈ l.take k))) := by
  simp [bvals, seenE, hm]

set_option maxHeartbeats 1000000 in
theorem reach (A : Option Addr) (n cap : Nat) (l : List Int) (most : Nat) (w : World) (hn : n = l.length) (hl : l.length ≤ 100000) (hm : most ≤ 100000) (HA : Hid (IntsRd w A l)) :
    Calls Try.prog 18 #[.slice A n cap, .int .i64 (most : Int)] w fun e w' => e = .returned (.bool (decide (eachN l most))) ∧ Below w.heap.size w w' := by
  subst hn
  obtain ⟨i0, hi0, hi1, hi2, hi3⟩ := info_parts bool_info
  by_cases hlen : l.length = most
  · have hlb : ((l.length : Int) != (most : Int)) = false := by simp; omega
    have HLEN := Lib.hid hlen
    clear hlen
    go_enter Try.func18, Try.ntmps18
    go_wp2_with (at_make; refine wpList_make_row _ rfl _ _ _ rfl _ i0 _ (by rfl) hi0 hi1 hi2 (by rfl) .i64 .i64 most (by rfl) (by rfl) (by rw [hi3]; omega) (by omega) ?_)
    have HR0 : Hid (Row (w.alloc (.cells (madeCells #[.bool false] most) 4)) 4 1 (.slice (some ⟨w.heap.size, 0, none⟩) most most) most (bvals (seenE l most 0)) ∧ Below w.heap.size w (w.alloc (.cells (madeCells #[.bool false] most) 4))) :=
      ⟨by rw [seenE_0, bvals_replicate]; exact Row.made w _ _ most (by unfold maxLen; omega), (Below.refl _ _).alloc (Nat.le_refl _) _⟩
    go_loopw [6] (fun i wr => ∃ k : Nat, i = .int .i64 k ∧ k ≤ most ∧ Hid (eachK l most k) ∧ Hid (Row wr 4 1 (.slice (some ⟨w.heap.size, 0, none⟩) most most) most (bvals (seenE l most k)) ∧ Below w.heap.size w wr)) (fun i _ => most - (intOf i).toNat)
    case atStart => exact ⟨0, rfl, by omega, ⟨by simp, by simp⟩, HR0⟩
    case round =>
      obtain ⟨k, rfl, hk, HE, HR⟩ := hrel
      by_cases hlt : k < most
      · have hkl : k < l.length := by have := HLEN.out; omega
        obtain ⟨b, off, rfl, hb, e0⟩ := HA.out k hkl
        have c0 := (HR.out.2.cell (p := ⟨b, off + k, none⟩) hb).trans e0
        clear e0
        have hbad : Hid (l.getD k 0 < 0 ∨ (most : Int) ≤ l.getD k 0 ∨ l.getD k 0 ∈ l.take k → ¬ eachN l most) := eachN_not hkl
        have hgood : Hid (0 ≤ l.getD k 0 → l.getD k 0 < most → l.getD k 0 ∉ l.take k → eachK l most (k + 1)) := fun h0 h1 h2 => eachK_succ HE.out hkl h0 h1 h2
        have hnx : Hid (∀ m : Nat, m < most → l.getD k 0 = (m : Int) → seenE l most (k + 1) = (seenE l most k).set m true) := fun m h1 h2 => seenE_succ hkl h1 h2
        generalize l.getD k 0 = x at c0 hbad hgood hnx
        rcases (by omega : x < 0 ∨ (0 ≤ x ∧ (most : Int) ≤ x) ∨ (0 ≤ x ∧ x < most)) with h | ⟨h, h'⟩ | ⟨h, h'⟩
        · go_wp2
          go_ret
          exact ⟨ret_b (by have := hbad.out (.inl h); simpa using this), by have := HR.out.2; (repeat (first | exact Below.refl _ _ | (with_reducible refine Below.drew ?_) | (with_reducible refine Below.alloc ?_ (by (try simp); (try omega)) _) | (with_reducible refine Below.setCell ?_ (by (try simp); (try omega)) _) | (with_reducible refine Below.trans ?_ (Below.mono (by assumption) (by (try simp); (try omega))))))⟩
        · go_wp2
          go_ret
          exact ⟨ret_b (by have := hbad.out (.inr (.inl h')); simpa using this), by have := HR.out.2; (repeat (first | exact Below.refl _ _ | (with_reducible refine Below.drew ?_) | (with_reducible refine Below.alloc ?_ (by (try simp); (try omega)) _) | (with_reducible refine Below.setCell ?_ (by (try simp); (try omega)) _) | (with_reducible refine Below.trans ?_ (Below.mono (by assumption) (by (try simp); (try omega))))))⟩
        · obtain ⟨m, rfl⟩ := Int.eq_ofNat_of_zero_le h
          have hmm : m < most := by omega
          have s0 : wr.frozen? ⟨w.heap.size, m, none⟩ = false := HR.out.1.frozenAt m
          cases hs : decide ((m : Int) ∈ l.take k)
          · have s1 : wr.cell? ⟨w.heap.size, m, none⟩ = some (.bool false) := by rw [HR.out.1.cellAt m (by omega), seenE_at hmm, hs]
            have HS := Lib.hid hs
            clear hs
            go_wp2
            go_roundw
            case rel =>
              have hR8 := HR.out.1.set m (.bool true)
              have hB8 := HR.out.2.setCell (p := ⟨w.heap.size, m, none⟩) (Nat.le_refl _) (.bool true)
              rw [bvals_set, ← hnx.out m hmm rfl] at hR8
              exact ⟨k + 1, by go_num, by omega, hgood.out h h' (by simpa using HS.out), hR8, hB8⟩
            case measure => simp [intOf]; omega
          · have s1 : wr.cell? ⟨w.heap.size, m, none⟩ = some (.bool true) := by rw [HR.out.1.cellAt m (by omega), seenE_at hmm, hs]
            have HS := Lib.hid hs
            clear hs
            go_wp2
            go_ret
            exact ⟨ret_b (by have := hbad.out (.inr (.inr (by simpa using HS.out))); simpa using this), by have := HR.out.2; (repeat (first | exact Below.refl _ _ | (with_reducible refine Below.drew ?_) | (with_reducible refine Below.alloc ?_ (by (try simp); (try omega)) _) | (with_reducible refine Below.setCell ?_ (by (try simp); (try omega)) _) | (with_reducible refine Below.trans ?_ (Below.mono (by assumption) (by (try simp); (try omega))))))⟩
      · obtain rfl : k = most := by omega
        have hall : Hid (eachN l k) := eachK_all (by have := HE.out; rwa [← HLEN.out] at this ⊢) HLEN.out
        go_wp2
        go_ret
        exact ⟨ret_b (by simpa using hall.out), by have := HR.out.2; (repeat (first | exact Below.refl _ _ | (with_reducible refine Below.drew ?_) | (with_reducible refine Below.alloc ?_ (by (try simp); (try omega)) _) | (with_reducible refine Below.setCell ?_ (by (try simp); (try omega)) _) | (with_reducible refine Below.trans ?_ (Below.mono (by assumption) (by (try simp); (try omega))))))⟩
  · have hlb : ((l.length : Int) != (most : Int)) = true := by simp; omega
    go_enter Try.func18, Try.ntmps18
    go_wp2
    go_ret
    exact ⟨ret_b (by
      have : ¬ eachN l most := fun e => hlen e.1
      simpa using this), by (repeat (first | exact Below.refl _ _ | (with_reducible refine Below.drew ?_) | (with_reducible refine Below.alloc ?_ (by (try simp); (try omega)) _) | (with_reducible refine Below.setCell ?_ (by (try simp); (try omega)) _) | (with_reducible refine Below.trans ?_ (Below.mono (by assumption) (by (try simp); (try omega))))))⟩
end Go.Proofs.Ytcebejcdfdahjaa
