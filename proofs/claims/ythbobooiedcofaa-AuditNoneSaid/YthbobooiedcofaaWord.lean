/-
  Contracts of package word, and of the reference for it.
-/
import Derived.Test.YthbobooiedcofaaChecked
import Derived.Test.YthbobooiedcofaaBase
import Derived.Test.YthbobooiedcofaaWordSpec
import Derived.WalkKit
import Derived.Below
import Derived.Lib.Hide
import Derived.Outline
import Derived.Laws.BitsAllLaws
import Derived.Laws.BitsLemmas
import Derived.WalkLawsBesides
namespace Go.Proofs.Ythbobooiedcofaa
open Go.RowKit

attribute [local go_sem] cell_set
theorem or_high {s : Int} (h1 : 0 ≤ s) (h2 : s < 64) : bits .or .u32 2147483648 s = 2147483648 + s := by
  obtain ⟨n, rfl⟩ := Int.eq_ofNat_of_zero_le h1
  have := u32_or_nat 2147483648 n (by omega) (by omega)
  rw [nat_join 31 _ _ (by decide) (by omega)] at this
  simpa using this
theorem or_low {c s : Int} (h0 : 0 ≤ c) (hc : c < 4096) (h1 : 0 ≤ s) (h2 : s ≤ 6) : bits .or .u32 (c * 8) s = 8 * c + s := by
  obtain ⟨n, rfl⟩ := Int.eq_ofNat_of_zero_le h1
  obtain ⟨m, rfl⟩ := Int.eq_ofNat_of_zero_le h0
  have := u32_or_nat (m * 8) n (by omega) (by omega)
  rw [nat_join 3 _ _ (by omega) (by omega)] at this
  rw [show ((m : Int) * 8) = ((m * 8 : Nat) : Int) by omega, this]
  omega

theorem pack_any (c s : Int) (w : World) :
    Calls Try.prog 84 #[.agg #[.int .i64 c, .int .i64 s]] w fun e w' => e = .returned (.tuple #[.int .u32 (pkW c s), .int .i64 (pkE c s)]) ∧ Below w.heap.size w w' := by
  go_enter Try.func84, Try.ntmps84
  go_wp2
  all_goals go_ret2
  all_goals refine ⟨retI2 ?_ ?_, (Below.refl _ _).alloc (Nat.le_refl _) _⟩
  all_goals first | (rw [pkE]; repeat (first | rfl | omega | split)) | (rw [pkW]; repeat (first | rfl | omega | split | (rw [or_high] <;> omega) | (rw [or_low] <;> omega)))

theorem rpack_any (c s : Int) (w : World) :
    Calls Try.prog 114 #[.agg #[.int .i64 c, .int .i64 s]] w fun e w' => e = .returned (.tuple #[.int .u32 (pkW c s), .int .i64 (pkE c s)]) ∧ Below w.heap.size w w' := by
  go_enter Try.func114, Try.ntmps114
  go_wp2
  all_goals go_ret2
  all_goals refine ⟨retI2 ?_ ?_, (Below.refl _ _).alloc (Nat.le_refl _) _⟩
  all_goals first | (rw [pkE]; repeat (first | rfl | omega | split)) | (rw [pkW]; repeat (first | rfl | omega | split | (rw [or_high] <;> omega) | (rw [or_low] <;> omega)))

theorem and_high {v : Int} (h : 2147483648 ≤ v) (h2 : v < 4294967296) : (bits .and .u32 v 2147483648 != 0) = true := by
  obtain ⟨n, rfl⟩ := Int.eq_ofNat_of_zero_le (show 0 ≤ v by omega)
  have := u32_and_nat n 2147483648 (by omega) (by omega)
  rw [show ((2147483648 : Nat) : Int) = 2147483648 from rfl] at this
  rw [this, show (2147483648 : Nat) = 2 ^ 31 by decide, nat_bit]
  rw [bne_iff_ne]; omega
theorem and_high' {v : Int} (h : 0 ≤ v) (h2 : v < 2147483648) : (bits .and .u32 v 2147483648 != 0) = false := by
  obtain ⟨n, rfl⟩ := Int.eq_ofNat_of_zero_le h
  have := u32_and_nat n 2147483648 (by omega) (by omega)
  rw [show ((2147483648 : Nat) : Int) = 2147483648 from rfl] at this
  rw [this, show (2147483648 : Nat) = 2 ^ 31 by decide, nat_bit]
  rw [bne_eq_false_iff_eq]; omega
theorem and_seven {v : Int} (h : 0 ≤ v) (h2 : v < 4294967296) : wrap64 (bits .and .u32 v 7) = v % 8 := by
  obtain ⟨n, rfl⟩ := Int.eq_ofNat_of_zero_le h
  have := u32_and_nat n 7 (by omega) (by omega)
  rw [show ((7 : Nat) : Int) = 7 from rfl] at this
  rw [this, nat_mask3]
  unfold wrap64; omega
theorem andNot_high {v : Int} (h : 2147483648 ≤ v) (h2 : v < 4294967296) : wrap64 (bits .andNot .u32 v 2147483648) = v - 2147483648 := by
  obtain ⟨n, rfl⟩ := Int.eq_ofNat_of_zero_le (show 0 ≤ v by omega)
  have := u32_andNot_nat n 2147483648 (by omega) (by omega)
  rw [show ((2147483648 : Nat) : Int) = 2147483648 from rfl] at this
  rw [this, show (4294967295 - 2147483648 : Nat) = 2 ^ 31 - 1 by decide, Nat.and_two_pow_sub_one_eq_mod]
  unfold wrap64; omega

theorem upYes {v : Int} (h1 : pkE (unC v) (unS v) = 0) (h2 : pkW (unC v) (unS v) = v) : unC v = upC v ∧ unS v = upS v ∧ true = unOk v := by
  have : unOk v = true := by simp [unOk, h1, h2]
  simp [upC, upS, this]
theorem upNo {v : Int} (h : pkE (unC v) (unS v) = 0 → pkW (unC v) (unS v) = v → False) : 0 = upC v ∧ 0 = upS v ∧ false = unOk v := by
  have : unOk v = false := by
    simp only [unOk, decide_eq_false_iff_not]
    exact fun hh => h hh.1 hh.2
  simp [upC, upS, this]

theorem info_u32 : (Try.prog.info? 49).map (fun i => i.size) = some 1 := by kernel_rfl
theorem neq_arr (w : World) (a b : Int) : (binOp .neq 175 (.agg #[.int .u32 a]) (.agg #[.int .u32 b])).run Try.prog w = .ok (.bool (!(a == b))) w := by
  obtain ⟨i, hi, hs⟩ := Option.map_eq_some_iff.1 info_u32
  exact run_neq_array1 w a b Try.underlying175 Try.underlying49 hi hs
set_option maxRecDepth 100000 in
theorem unpack_any (v : Int) (H : Hid (0 ≤ v ∧ v < 4294967296)) (w : World) :
    Calls Try.prog 66 #[.int .u32 v] w fun e w' => e = .returned (.tuple #[.agg #[.int .i64 (upC v), .int .i64 (upS v)], .bool (unOk v)]) ∧ Below w.heap.size w w' := by
  have hcs : Hid ((2147483648 ≤ v → (-1 : Int) = unC v ∧ wrap64 (bits .andNot .u32 v 2147483648) = unS v) ∧ (v < 2147483648 → wrap64 (v / 8) = unC v ∧ wrap64 (bits .and .u32 v 7) = unS v)) := by
    have := H.out
    refine ⟨fun h => ⟨by simp [unC, h], by rw [andNot_high h this.2]; simp [unS, h]⟩, fun h => ⟨?_, ?_⟩⟩
    · unfold unC wrap64; rw [if_neg (by omega)]; omega
    · rw [and_seven (by omega) (by omega), unS, if_neg (by omega)]
  by_cases hv : 2147483648 ≤ v
  · have hbit := and_high hv H.out.2
    have hcs := Lib.hid (hcs.out.1 hv)
    clear H hv
    go_enter Try.func66, Try.ntmps66
    go_wp2_with fail
    rw [hcs.out.2, hcs.out.1]
    refine (pack_any _ _ _).mono ?_
    rintro e w' ⟨rfl, hb⟩
    obtain ⟨hc, hf⟩ := bcell hb; obtain ⟨hz, hzb, hzc⟩ : w.heap.size < w'.heap.size ∧ w.heap.size + 1 < w'.heap.size ∧ w.heap.size + 1 + 1 < w'.heap.size := (by have := hb.size; (try simp at this); omega)
    clear hbit
    have hna := neq_arr
    go_wp2
    · obtain ⟨e1, e2, e3⟩ := upNo (v := v) (fun _ h2 => by simp_all)
      exact bodyPost_ret (v := .tuple #[.agg #[.int .i64 0, .int .i64 0], .bool false]) (by simp only [results, Try.results66]; go_simp) rfl ⟨retPB e1 e2 e3, by (repeat (first | exact Below.refl _ _ | (with_reducible refine Below.drew ?_) | (with_reducible refine Below.alloc ?_ (by (try simp); (try omega)) _) | (with_reducible refine Below.setCell ?_ (by (try simp); (try omega)) _) | (with_reducible refine Below.trans ?_ (Below.mono (by assumption) (by (try simp); (try omega))))))⟩
    · obtain ⟨e1, e2, e3⟩ := upYes (v := v) (by assumption) (by simp_all)
      exact bodyPost_ret (v := .tuple #[.agg #[.int .i64 (unC v), .int .i64 (unS v)], .bool true]) (by simp only [results, Try.results66]; go_simp) rfl ⟨retPB e1 e2 e3, by (repeat (first | exact Below.refl _ _ | (with_reducible refine Below.drew ?_) | (with_reducible refine Below.alloc ?_ (by (try simp); (try omega)) _) | (with_reducible refine Below.setCell ?_ (by (try simp); (try omega)) _) | (with_reducible refine Below.trans ?_ (Below.mono (by assumption) (by (try simp); (try omega))))))⟩
    · obtain ⟨e1, e2, e3⟩ := upNo (v := v) (fun h1 _ => by simp_all)
      exact bodyPost_ret (v := .tuple #[.agg #[.int .i64 0, .int .i64 0], .bool false]) (by simp only [results, Try.results66]; go_simp) rfl ⟨retPB e1 e2 e3, by (repeat (first | exact Below.refl _ _ | (with_reducible refine Below.drew ?_) | (with_reducible refine Below.alloc ?_ (by (try simp); (try omega)) _) | (with_reducible refine Below.setCell ?_ (by (try simp); (try omega)) _) | (with_reducible refine Below.trans ?_ (Below.mono (by assumption) (by (try simp); (try omega))))))⟩
  · have hbit := and_high' H.out.1 (Int.lt_of_not_ge hv)
    have hcs := Lib.hid (hcs.out.2 (Int.lt_of_not_ge hv))
    clear H hv
    go_enter Try.func66, Try.ntmps66
    go_wp2_with fail
    rw [hcs.out.2, hcs.out.1]
    refine (pack_any _ _ _).mono ?_
    rintro e w' ⟨rfl, hb⟩
    obtain ⟨hc, hf⟩ := bcell hb; obtain ⟨hz, hzb, hzc⟩ : w.heap.size < w'.heap.size ∧ w.heap.size + 1 < w'.heap.size ∧ w.heap.size + 1 + 1 < w'.heap.size := (by have := hb.size; (try simp at this); omega)
    clear hbit
    have hna := neq_arr
    go_wp2
    · obtain ⟨e1, e2, e3⟩ := upNo (v := v) (fun _ h2 => by simp_all)
      exact bodyPost_ret (v := .tuple #[.agg #[.int .i64 0, .int .i64 0], .bool false]) (by simp only [results, Try.results66]; go_simp) rfl ⟨retPB e1 e2 e3, by (repeat (first | exact Below.refl _ _ | (with_reducible refine Below.drew ?_) | (with_reducible refine Below.alloc ?_ (by (try simp); (try omega)) _) | (with_reducible refine Below.setCell ?_ (by (try simp); (try omega)) _) | (with_reducible refine Below.trans ?_ (Below.mono (by assumption) (by (try simp); (try omega))))))⟩
    · obtain ⟨e1, e2, e3⟩ := upYes (v := v) (by assumption) (by simp_all)
      exact bodyPost_ret (v := .tuple #[.agg #[.int .i64 (unC v), .int .i64 (unS v)], .bool true]) (by simp only [results, Try.results66]; go_simp) rfl ⟨retPB e1 e2 e3, by (repeat (first | exact Below.refl _ _ | (with_reducible refine Below.drew ?_) | (with_reducible refine Below.alloc ?_ (by (try simp); (try omega)) _) | (with_reducible refine Below.setCell ?_ (by (try simp); (try omega)) _) | (with_reducible refine Below.trans ?_ (Below.mono (by assumption) (by (try simp); (try omega))))))⟩
    · obtain ⟨e1, e2, e3⟩ := upNo (v := v) (fun h1 _ => by simp_all)
      exact bodyPost_ret (v := .tuple #[.agg #[.int .i64 0, .int .i64 0], .bool false]) (by simp only [results, Try.results66]; go_simp) rfl ⟨retPB e1 e2 e3, by (repeat (first | exact Below.refl _ _ | (with_reducible refine Below.drew ?_) | (with_reducible refine Below.alloc ?_ (by (try simp); (try omega)) _) | (with_reducible refine Below.setCell ?_ (by (try simp); (try omega)) _) | (with_reducible refine Below.trans ?_ (Below.mono (by assumption) (by (try simp); (try omega))))))⟩
end Go.Proofs.Ythbobooiedcofaa
