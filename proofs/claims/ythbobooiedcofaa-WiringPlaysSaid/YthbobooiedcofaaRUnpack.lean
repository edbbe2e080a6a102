/-
  skeinref06.Unpack.
-/
import Derived.Test.YthbobooiedcofaaWord
namespace Go.Proofs.Ythbobooiedcofaa
open Go.RowKit
attribute [local go_sem] cell_set
set_option maxRecDepth 100000
set_option linter.unusedVariables false

theorem pack_anyR (c s : Int) (w : World) : Calls Try.prog 114 #[.agg #[.int .i64 c, .int .i64 s]] w fun e w' => e = .returned (.tuple #[.int .u32 (pkW c s), .int .i64 (pkE c s)]) ∧ Below w.heap.size w w' := rpack_any c s w
set_option maxHeartbeats 2000000 in
theorem runpack_any (v : Int) (H : Hid (0 ≤ v ∧ v < 4294967296)) (w : World) :
    Calls Try.prog 68 #[.int .u32 v] w fun e w' => e = .returned (.tuple #[.agg #[.int .i64 (upC v), .int .i64 (upS v)], .bool (unOk v)]) ∧ Below w.heap.size w w' := by
  by_cases hv : 2147483648 ≤ v
  · have HC : Hid (unC v = -1) := by show _ = _; unfold unC; rw [if_pos hv]
    have HS : Hid ((v - 2147483648) % 4294967296 = unS v) := by show _ = _; have := H.out; unfold unS; rw [if_pos hv]; omega
    have HV : Hid (2147483648 ≤ v) := hv
    have k0 : 2147483648 ≤ v := hv
    by_cases h1 : pkE (-1) (unS v) = 0
    · by_cases h2 : pkW (-1) (unS v) = v
      · have hu : unOk v = true := by unfold unOk; rw [HC.out]; exact decide_eq_true ⟨h1, h2⟩
        have hc1 : upC v = -1 := by unfold upC; rw [if_pos hu, HC.out]
        have hc2 : upS v = unS v := by unfold upS; rw [if_pos hu]
        rw [hu, hc1, hc2]
        have H1 := Lib.hid h1
        have H2 := Lib.hid h2
        clear h1 h2 hu hc1 hc2 H hv
        go_enter Try.func68, Try.ntmps68
        go_wp2_with fail
        rw [HS.out]; clear k0
        refine (pack_anyR _ _ _).mono ?_
        rintro e w1 ⟨rfl, hb1⟩
        obtain ⟨hc1, hf1⟩ := bcell hb1; have hz1 := hb1.size; (try simp at hz1); have hz1a : w.heap.size < w1.heap.size := (by omega); have hz1b : w.heap.size + 1 < w1.heap.size := (by omega)
        rw [H1.out, H2.out]
        simp only []
        go_wp2_with fail
        exact bodyPost_ret (v := .tuple #[.agg #[.int .i64 (-1), .int .i64 (unS v)], .bool true]) (by simp only [results, Try.results68]; go_simp) rfl ⟨rfl, by (repeat (first | exact Below.refl _ _ | (with_reducible refine Below.drew ?_) | (with_reducible refine Below.alloc ?_ (by (try simp); (try omega)) _) | (with_reducible refine Below.setCell ?_ (by (try simp); (try omega)) _) | (with_reducible refine Below.trans ?_ (Below.mono (by assumption) (by (try simp); (try omega))))))⟩
      · have hu : unOk v = false := by unfold unOk; rw [HC.out]; exact decide_eq_false fun h => h2 h.2
        have hc1 : upC v = 0 := by unfold upC; rw [hu]; rfl
        have hc2 : upS v = 0 := by unfold upS; rw [hu]; rfl
        rw [hu, hc1, hc2]
        have k2 : (pkW (-1) (unS v) != v) = true := bne_iff_ne.2 h2
        have H1 := Lib.hid h1
        clear h1 h2 hu hc1 hc2 H hv
        go_enter Try.func68, Try.ntmps68
        go_wp2_with fail
        rw [HS.out]; clear k0
        refine (pack_anyR _ _ _).mono ?_
        rintro e w1 ⟨rfl, hb1⟩
        obtain ⟨hc1, hf1⟩ := bcell hb1; have hz1 := hb1.size; (try simp at hz1); have hz1a : w.heap.size < w1.heap.size := (by omega); have hz1b : w.heap.size + 1 < w1.heap.size := (by omega)
        rw [H1.out]
        simp only []
        go_wp2_with fail
        exact bodyPost_ret (v := .tuple #[.agg #[.int .i64 0, .int .i64 0], .bool false]) (by simp only [results, Try.results68]; go_simp) rfl ⟨rfl, by (repeat (first | exact Below.refl _ _ | (with_reducible refine Below.drew ?_) | (with_reducible refine Below.alloc ?_ (by (try simp); (try omega)) _) | (with_reducible refine Below.setCell ?_ (by (try simp); (try omega)) _) | (with_reducible refine Below.trans ?_ (Below.mono (by assumption) (by (try simp); (try omega))))))⟩
    · have hu : unOk v = false := by unfold unOk; rw [HC.out]; exact decide_eq_false fun h => h1 h.1
      have hc1 : upC v = 0 := by unfold upC; rw [hu]; rfl
      have hc2 : upS v = 0 := by unfold upS; rw [hu]; rfl
      rw [hu, hc1, hc2]
      have k1 : (pkE (-1) (unS v) != 0) = true := bne_iff_ne.2 h1
      clear h1 hu hc1 hc2 H hv
      go_enter Try.func68, Try.ntmps68
      go_wp2_with fail
      rw [HS.out]; clear k0
      refine (pack_anyR _ _ _).mono ?_
      rintro e w1 ⟨rfl, hb1⟩
      obtain ⟨hc1, hf1⟩ := bcell hb1; have hz1 := hb1.size; (try simp at hz1); have hz1a : w.heap.size < w1.heap.size := (by omega); have hz1b : w.heap.size + 1 < w1.heap.size := (by omega)
      skip
      simp only []
      go_wp2_with fail
      exact bodyPost_ret (v := .tuple #[.agg #[.int .i64 0, .int .i64 0], .bool false]) (by simp only [results, Try.results68]; go_simp) rfl ⟨rfl, by (repeat (first | exact Below.refl _ _ | (with_reducible refine Below.drew ?_) | (with_reducible refine Below.alloc ?_ (by (try simp); (try omega)) _) | (with_reducible refine Below.setCell ?_ (by (try simp); (try omega)) _) | (with_reducible refine Below.trans ?_ (Below.mono (by assumption) (by (try simp); (try omega))))))⟩
  · have HC0 : Hid (unC v = v / 8) := by show _ = _; unfold unC; rw [if_neg hv]
    have hS : v % 8 = unS v := by unfold unS; rw [if_neg hv]
    have hd : v.tdiv 8 % 4294967296 = v / 8 := by have := H.out; rw [Int.tdiv_eq_ediv_of_nonneg (by omega)]; omega
    have hm : wrap64 (v.tmod 8) = unS v := by have := H.out; rw [← hS, Int.tmod_eq_emod_of_nonneg (by omega)]; unfold wrap64; omega
    have HD := Lib.hid hd
    have HM := Lib.hid hm
    have k0 : ¬ 2147483648 ≤ v := hv
    obtain ⟨d, hdd⟩ : ∃ d, v / 8 = d := ⟨_, rfl⟩
    rw [hdd] at HC0 HD
    have HC := HC0
    clear hS hd hm hdd HC0
    by_cases h1 : pkE (d) (unS v) = 0
    · by_cases h2 : pkW (d) (unS v) = v
      · have hu : unOk v = true := by unfold unOk; rw [HC.out]; exact decide_eq_true ⟨h1, h2⟩
        have hc1 : upC v = d := by unfold upC; rw [if_pos hu, HC.out]
        have hc2 : upS v = unS v := by unfold upS; rw [if_pos hu]
        rw [hu, hc1, hc2]
        have H1 := Lib.hid h1
        have H2 := Lib.hid h2
        clear h1 h2 hu hc1 hc2 H hv
        go_enter Try.func68, Try.ntmps68
        go_wp2_with fail
        rw [HD.out, HM.out]; clear k0
        refine (pack_anyR _ _ _).mono ?_
        rintro e w1 ⟨rfl, hb1⟩
        obtain ⟨hc1, hf1⟩ := bcell hb1; have hz1 := hb1.size; (try simp at hz1); have hz1a : w.heap.size < w1.heap.size := (by omega); have hz1b : w.heap.size + 1 < w1.heap.size := (by omega)
        rw [H1.out, H2.out]
        simp only []
        go_wp2_with fail
        exact bodyPost_ret (v := .tuple #[.agg #[.int .i64 (d), .int .i64 (unS v)], .bool true]) (by simp only [results, Try.results68]; go_simp) rfl ⟨rfl, by (repeat (first | exact Below.refl _ _ | (with_reducible refine Below.drew ?_) | (with_reducible refine Below.alloc ?_ (by (try simp); (try omega)) _) | (with_reducible refine Below.setCell ?_ (by (try simp); (try omega)) _) | (with_reducible refine Below.trans ?_ (Below.mono (by assumption) (by (try simp); (try omega))))))⟩
      · have hu : unOk v = false := by unfold unOk; rw [HC.out]; exact decide_eq_false fun h => h2 h.2
        have hc1 : upC v = 0 := by unfold upC; rw [hu]; rfl
        have hc2 : upS v = 0 := by unfold upS; rw [hu]; rfl
        rw [hu, hc1, hc2]
        have k2 : (pkW (d) (unS v) != v) = true := bne_iff_ne.2 h2
        have H1 := Lib.hid h1
        clear h1 h2 hu hc1 hc2 H hv
        go_enter Try.func68, Try.ntmps68
        go_wp2_with fail
        rw [HD.out, HM.out]; clear k0
        refine (pack_anyR _ _ _).mono ?_
        rintro e w1 ⟨rfl, hb1⟩
        obtain ⟨hc1, hf1⟩ := bcell hb1; have hz1 := hb1.size; (try simp at hz1); have hz1a : w.heap.size < w1.heap.size := (by omega); have hz1b : w.heap.size + 1 < w1.heap.size := (by omega)
        rw [H1.out]
        simp only []
        go_wp2_with fail
        exact bodyPost_ret (v := .tuple #[.agg #[.int .i64 0, .int .i64 0], .bool false]) (by simp only [results, Try.results68]; go_simp) rfl ⟨rfl, by (repeat (first | exact Below.refl _ _ | (with_reducible refine Below.drew ?_) | (with_reducible refine Below.alloc ?_ (by (try simp); (try omega)) _) | (with_reducible refine Below.setCell ?_ (by (try simp); (try omega)) _) | (with_reducible refine Below.trans ?_ (Below.mono (by assumption) (by (try simp); (try omega))))))⟩
    · have hu : unOk v = false := by unfold unOk; rw [HC.out]; exact decide_eq_false fun h => h1 h.1
      have hc1 : upC v = 0 := by unfold upC; rw [hu]; rfl
      have hc2 : upS v = 0 := by unfold upS; rw [hu]; rfl
      rw [hu, hc1, hc2]
      have k1 : (pkE (d) (unS v) != 0) = true := bne_iff_ne.2 h1
      clear h1 hu hc1 hc2 H hv
      go_enter Try.func68, Try.ntmps68
      go_wp2_with fail
      rw [HD.out, HM.out]; clear k0
      refine (pack_anyR _ _ _).mono ?_
      rintro e w1 ⟨rfl, hb1⟩
      obtain ⟨hc1, hf1⟩ := bcell hb1; have hz1 := hb1.size; (try simp at hz1); have hz1a : w.heap.size < w1.heap.size := (by omega); have hz1b : w.heap.size + 1 < w1.heap.size := (by omega)
      skip
      simp only []
      go_wp2_with fail
      exact bodyPost_ret (v := .tuple #[.agg #[.int .i64 0, .int .i64 0], .bool false]) (by simp only [results, Try.results68]; go_simp) rfl ⟨rfl, by (repeat (first | exact Below.refl _ _ | (with_reducible refine Below.drew ?_) | (with_reducible refine Below.alloc ?_ (by (try simp); (try omega)) _) | (with_reducible refine Below.setCell ?_ (by (try simp); (try omega)) _) | (with_reducible refine Below.trans ?_ (Below.mono (by assumption) (by (try simp); (try omega))))))⟩
end Go.Proofs.Ythbobooiedcofaa
