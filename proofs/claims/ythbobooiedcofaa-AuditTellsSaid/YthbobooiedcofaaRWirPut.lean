/-
  The document's wiring: put.
-/
import Derived.Test.YthbobooiedcofaaWirMem
import Derived.Test.YthbobooiedcofaaRWirMem
import Derived.Test.YthbobooiedcofaaRArenaOps
/-
  skeinref06.Unpack.
-/
namespace Go.Proofs.Ythbobooiedcofaa
open Go.RowKit
attribute [local go_sem] cell_set
set_option maxRecDepth 100000
set_option linter.unusedVariables false

theorem pack_anyR (c s : Int) (w : World) : Calls Try.prog 114 #[.agg #[.int .i64 c, .int .i64 s]] w fun e w' => e = .returned (.tuple #[.int .u32 (pkW c s), .int .i64 (pkE c s)]) ∧ Below w.heap.size w w' := rpack_any c s w
set_option maxHeartbeats 2000000 in
theorem runpack_any (v : Int) (H : Hid (0 ≤ v ∧ v < 4294967296)) (w : World) :
    Calls Try.prog 68 #[.int .u32 v] w fun e w' => e = .returned (.tuple #[.agg #[.int .i64 (upC v), .int .i64 (upS v)], .bool (unOk v)]) ∧ Below w.heap.size w w' := by
  by_cases hv : 2147483648 ≤ v
  · have HC : Hid (unC v = -1) := by show _ = _; unfold unC; rw [if_pos hv]
    have HS : Hid ((v - 2147483648) % 4294967296 = unS v) := by show _ = _; have := H.out; unfold unS; rw [if_pos hv]; omega
    have HV : Hid (2147483648 ≤ v) := hv
    have k0 : 2147483648 ≤ v := hv
    by_cases h1 : pkE (-1) (unS v) = 0
    · by_cases h2 : pkW (-1) (unS v) = v
      · have hu : unOk v = true := by unfold unOk; rw [HC.out]; exact decide_eq_true ⟨h1, h2⟩
        have hc1 : upC v = -1 := by unfold upC; rw [if_pos hu, HC.out]
        have hc2 : upS v = unS v := by unfold upS; rw [if_pos hu]
        rw [hu, hc1, hc2]
        have H1 := Lib.hid h1
        have H2 := Lib.hid h2
        clear h1 h2 hu hc1 hc2 H hv
        go_enter Try.func68, Try.ntmps68
        go_wp2_with fail
        rw [HS.out]; clear k0
        refine (pack_anyR _ _ _).mono ?_
        rintro e w1 ⟨rfl, hb1⟩
        obtain ⟨hc1, hf1⟩ := bcell hb1; have hz1 := hb1.size; (try simp at hz1); have hz1a : w.heap.size < w1.heap.size := (by omega); have hz1b : w.heap.size + 1 < w1.heap.size := (by omega)
        rw [H1.out, H2.out]
        simp only []
        go_wp2_with fail
        exact bodyPost_ret (v := .tuple #[.agg #[.int .i64 (-1), .int .i64 (unS v)], .bool true]) (by simp only [results, Try.results68]; go_simp) rfl ⟨rfl, by (repeat (first | exact Below.refl _ _ | (with_reducible refine Below.drew ?_) | (with_reducible refine Below.alloc ?_ (by (try simp); (try omega)) _) | (with_reducible refine Below.setCell ?_ (by (try simp); (try omega)) _) | (with_reducible refine Below.trans ?_ (Below.mono (by assumption) (by (try simp); (try omega))))))⟩
      · have hu : unOk v = false := by unfold unOk; rw [HC.out]; exact decide_eq_false fun h => h2 h.2
        have hc1 : upC v = 0 := by unfold upC; rw [hu]; rfl
        have hc2 : upS v = 0 := by unfold upS; rw [hu]; rfl
        rw [hu, hc1, hc2]
        have k2 : (pkW (-1) (unS v) != v) = true := bne_iff_ne.2 h2
        have H1 := Lib.hid h1
        clear h1 h2 hu hc1 hc2 H hv
        go_enter Try.func68, Try.ntmps68
        go_wp2_with fail
        rw [HS.out]; clear k0
        refine (pack_anyR _ _ _).mono ?_
        rintro e w1 ⟨rfl, hb1⟩
        obtain ⟨hc1, hf1⟩ := bcell hb1; have hz1 := hb1.size; (try simp at hz1); have hz1a : w.heap.size < w1.heap.size := (by omega); have hz1b : w.heap.size + 1 < w1.heap.size := (by omega)
        rw [H1.out]
        simp only []
        go_wp2_with fail
        exact bodyPost_ret (v := .tuple #[.agg #[.int .i64 0, .int .i64 0], .bool false]) (by simp only [results, Try.results68]; go_simp) rfl ⟨rfl, by (repeat (first | exact Below.refl _ _ | (with_reducible refine Below.drew ?_) | (with_reducible refine Below.alloc ?_ (by (try simp); (try omega)) _) | (with_reducible refine Below.setCell ?_ (by (try simp); (try omega)) _) | (with_reducible refine Below.trans ?_ (Below.mono (by assumption) (by (try simp); (try omega))))))⟩
    · have hu : unOk v = false := by unfold unOk; rw [HC.out]; exact decide_eq_false fun h => h1 h.1
      have hc1 : upC v = 0 := by unfold upC; rw [hu]; rfl
      have hc2 : upS v = 0 := by unfold upS; rw [hu]; rfl
      rw [hu, hc1, hc2]
      have k1 : (pkE (-1) (unS v) != 0) = true := bne_iff_ne.2 h1
      clear h1 hu hc1 hc2 H hv
      go_enter Try.func68, Try.ntmps68
      go_wp2_with fail
      rw [HS.out]; clear k0
      refine (pack_anyR _ _ _).mono ?_
      rintro e w1 ⟨rfl, hb1⟩
      obtain ⟨hc1, hf1⟩ := bcell hb1; have hz1 := hb1.size; (try simp at hz1); have hz1a : w.heap.size < w1.heap.size := (by omega); have hz1b : w.heap.size + 1 < w1.heap.size := (by omega)
      skip
      simp only []
      go_wp2_with fail
      exact bodyPost_ret (v := .tuple #[.agg #[.int .i64 0, .int .i64 0], .bool false]) (by simp only [results, Try.results68]; go_simp) rfl ⟨rfl, by (repeat (first | exact Below.refl _ _ | (with_reducible refine Below.drew ?_) | (with_reducible refine Below.alloc ?_ (by (try simp); (try omega)) _) | (with_reducible refine Below.setCell ?_ (by (try simp); (try omega)) _) | (with_reducible refine Below.trans ?_ (Below.mono (by assumption) (by (try simp); (try omega))))))⟩
  · have HC0 : Hid (unC v = v / 8) := by show _ = _; unfold unC; rw [if_neg hv]
    have hS : v % 8 = unS v := by unfold unS; rw [if_neg hv]
    have hd : v.tdiv 8 % 4294967296 = v / 8 := by have := H.out; rw [Int.tdiv_eq_ediv_of_nonneg (by omega)]; omega
    have hm : wrap64 (v.tmod 8) = unS v := by have := H.out; rw [← hS, Int.tmod_eq_emod_of_nonneg (by omega)]; unfold wrap64; omega
    have HD := Lib.hid hd
    have HM := Lib.hid hm
    have k0 : ¬ 2147483648 ≤ v := hv
    obtain ⟨d, hdd⟩ : ∃ d, v / 8 = d := ⟨_, rfl⟩
    rw [hdd] at HC0 HD
    have HC := HC0
    clear hS hd hm hdd HC0
    by_cases h1 : pkE (d) (unS v) = 0
    · by_cases h2 : pkW (d) (unS v) = v
      · have hu : unOk v = true := by unfold unOk; rw [HC.out]; exact decide_eq_true ⟨h1, h2⟩
        have hc1 : upC v = d := by unfold upC; rw [if_pos hu, HC.out]
        have hc2 : upS v = unS v := by unfold upS; rw [if_pos hu]
        rw [hu, hc1, hc2]
        have H1 := Lib.hid h1
        have H2 := Lib.hid h2
        clear h1 h2 hu hc1 hc2 H hv
        go_enter Try.func68, Try.ntmps68
        go_wp2_with fail
        rw [HD.out, HM.out]; clear k0
        refine (pack_anyR _ _ _).mono ?_
        rintro e w1 ⟨rfl, hb1⟩
        obtain ⟨hc1, hf1⟩ := bcell hb1; have hz1 := hb1.size; (try simp at hz1); have hz1a : w.heap.size < w1.heap.size := (by omega); have hz1b : w.heap.size + 1 < w1.heap.size := (by omega)
        rw [H1.out, H2.out]
        simp only []
        go_wp2_with fail
        exact bodyPost_ret (v := .tuple #[.agg #[.int .i64 (d), .int .i64 (unS v)], .bool true]) (by simp only [results, Try.results68]; go_simp) rfl ⟨rfl, by (repeat (first | exact Below.refl _ _ | (with_reducible refine Below.drew ?_) | (with_reducible refine Below.alloc ?_ (by (try simp); (try omega)) _) | (with_reducible refine Below.setCell ?_ (by (try simp); (try omega)) _) | (with_reducible refine Below.trans ?_ (Below.mono (by assumption) (by (try simp); (try omega))))))⟩
      · have hu : unOk v = false := by unfold unOk; rw [HC.out]; exact decide_eq_false fun h => h2 h.2
        have hc1 : upC v = 0 := by unfold upC; rw [hu]; rfl
        have hc2 : upS v = 0 := by unfold upS; rw [hu]; rfl
        rw [hu, hc1, hc2]
        have k2 : (pkW (d) (unS v) != v) = true := bne_iff_ne.2 h2
        have H1 := Lib.hid h1
        clear h1 h2 hu hc1 hc2 H hv
        go_enter Try.func68, Try.ntmps68
        go_wp2_with fail
        rw [HD.out, HM.out]; clear k0
        refine (pack_anyR _ _ _).mono ?_
        rintro e w1 ⟨rfl, hb1⟩
        obtain ⟨hc1, hf1⟩ := bcell hb1; have hz1 := hb1.size; (try simp at hz1); have hz1a : w.heap.size < w1.heap.size := (by omega); have hz1b : w.heap.size + 1 < w1.heap.size := (by omega)
        rw [H1.out]
        simp only []
        go_wp2_with fail
        exact bodyPost_ret (v := .tuple #[.agg #[.int .i64 0, .int .i64 0], .bool false]) (by simp only [results, Try.results68]; go_simp) rfl ⟨rfl, by (repeat (first | exact Below.refl _ _ | (with_reducible refine Below.drew ?_) | (with_reducible refine Below.alloc ?_ (by (try simp); (try omega)) _) | (with_reducible refine Below.setCell ?_ (by (try simp); (try omega)) _) | (with_reducible refine Below.trans ?_ (Below.mono (by assumption) (by (try simp); (try omega))))))⟩
    · have hu : unOk v = false := by unfold unOk; rw [HC.out]; exact decide_eq_false fun h => h1 h.1
      have hc1 : upC v = 0 := by unfold upC; rw [hu]; rfl
      have hc2 : upS v = 0 := by unfold upS; rw [hu]; rfl
      rw [hu, hc1, hc2]
      have k1 : (pkE (d) (unS v) != 0) = true := bne_iff_ne.2 h1
      clear h1 hu hc1 hc2 H hv
      go_enter Try.func68, Try.ntmps68
      go_wp2_with fail
      rw [HD.out, HM.out]; clear k0
      refine (pack_anyR _ _ _).mono ?_
      rintro e w1 ⟨rfl, hb1⟩
      obtain ⟨hc1, hf1⟩ := bcell hb1; have hz1 := hb1.size; (try simp at hz1); have hz1a : w.heap.size < w1.heap.size := (by omega); have hz1b : w.heap.size + 1 < w1.heap.size := (by omega)
      skip
      simp only []
      go_wp2_with fail
      exact bodyPost_ret (v := .tuple #[.agg #[.int .i64 0, .int .i64 0], .bool false]) (by simp only [results, Try.results68]; go_simp) rfl ⟨rfl, by (repeat (first | exact Below.refl _ _ | (with_reducible refine Below.drew ?_) | (with_reducible refine Below.alloc ?_ (by (try simp); (try omega)) _) | (with_reducible refine Below.setCell ?_ (by (try simp); (try omega)) _) | (with_reducible refine Below.trans ?_ (Below.mono (by assumption) (by (try simp); (try omega))))))⟩
end Go.Proofs.Ythbobooiedcofaa
/-
  The document's wiring: To.
-/
namespace Go.Proofs.Ythbobooiedcofaa
open Go.RowKit
attribute [local go_sem] cell_set
set_option maxRecDepth 100000
set_option linter.unusedVariables false

section
variable (B A : Nat) (S : Wir) (FA : List Nat) (w : World)
set_option maxHeartbeats 1000000 in
theorem rw_to (c s : Int) (h : RG w B A S FA) : Calls Try.prog 18 #[.pointer (some ⟨B, 0, none⟩), .agg #[.int .i64 c, .int .i64 s]] w fun e w' => e = .returned (.tuple #[.agg #[.int .i64 (S.toP (c, s)).1, .int .i64 (S.toP (c, s)).2], .int .i64 (S.toE (c, s))]) ∧ Below w.heap.size w w' := by
  have HG := Lib.hid h
  have hlt := h.lt
  by_cases hw : S.wE (c, s) = 0
  · have HV := Lib.hid (h.ok.val hw)
    have hdf : S.toE (c, s) = if unOk (S.wV (c, s)) = true ∧ S.wE (nxP (S.wV (c, s))) = 0 then 0 else 32 := by unfold Wir.toE; rw [if_neg (by omega)]
    have hpf : S.toP (c, s) = if S.toE (c, s) = 0 then nxP (S.wV (c, s)) else (0, 0) := rfl
    have HW := Lib.hid hw
    obtain ⟨v, hv⟩ : ∃ v, S.wV (c, s) = v := ⟨_, rfl⟩
    rw [hv] at HV hdf hpf
    have HVv := Lib.hid hv
    clear hv hw
    cases hu : unOk v with
    | false =>
      have e1 : S.toE (c, s) = 32 := by rw [hdf, if_neg (by rw [hu]; simp)]
      have e2 : S.toP (c, s) = (0, 0) := by rw [hpf, e1, if_neg (by decide)]
      rw [e1, e2]
      clear hdf hpf e1 e2
      go_enter Try.func18, Try.ntmps18
      go_wp2_with (first
        | (go_at_call 67; refine (rw_word B A S FA _ _ _ (HG.out.below (by (repeat (first | exact Below.refl _ _ | (with_reducible refine Below.drew ?_) | (with_reducible refine Below.alloc ?_ (by (try simp); (try omega)) _) | (with_reducible refine Below.setCell ?_ (by (try simp); (try omega)) _) | (with_reducible refine Below.trans ?_ (Below.mono (by assumption) (by (try simp); (try omega))))))))).mono ?_; rintro e w1 ⟨rfl, hb1⟩
           obtain ⟨hc1, hf1⟩ := bcell hb1; have hz1 := hb1.size; (try simp at hz1); have hz1a : w.heap.size < w1.heap.size := (by omega); have hz1b : w.heap.size + 1 < w1.heap.size := (by omega)
           first | rw [HW.out, HVv.out] | rw [HVv.out] | rw [HW.out])
        | (go_at_call 68; refine (runpack_any v HV _).mono ?_; rintro e w2 ⟨rfl, hb2⟩
           obtain ⟨hc2, hf2⟩ := bcell hb2; have hz2 := hb2.size; (try simp at hz2); have hz2a : w.heap.size < w2.heap.size := (by omega); have hz2b : w.heap.size + 1 < w2.heap.size := (by omega)
           rw [hu]))
      exact bodyPost_ret (v := .tuple #[.agg #[.int .i64 0, .int .i64 0], .int .i64 32]) (by simp only [results, Try.results18]; go_simp) rfl ⟨rfl, by (repeat (first | exact Below.refl _ _ | (with_reducible refine Below.drew ?_) | (with_reducible refine Below.alloc ?_ (by (try simp); (try omega)) _) | (with_reducible refine Below.setCell ?_ (by (try simp); (try omega)) _) | (with_reducible refine Below.trans ?_ (Below.mono (by assumption) (by (try simp); (try omega))))))⟩
    | true =>
      have hn : upC v = (nxP v).1 ∧ upS v = (nxP v).2 := by unfold upC upS nxP; rw [if_pos hu, if_pos hu]; exact ⟨rfl, rfl⟩
      obtain ⟨⟨q1, q2⟩, hq⟩ : ∃ q, nxP v = q := ⟨_, rfl⟩
      rw [hq] at hn hdf hpf
      obtain ⟨n1, n2⟩ := hn
      by_cases hx : S.wE (q1, q2) = 0
      · have e1 : S.toE (c, s) = 0 := by rw [hdf, if_pos ⟨hu, hx⟩]
        have e2 : S.toP (c, s) = (q1, q2) := by rw [hpf, e1, if_pos rfl]
        rw [e1, e2]
        have HQ := Lib.hid hx
        clear hdf hpf e1 e2 hx hq
        go_enter Try.func18, Try.ntmps18
        go_wp2_with (first
          | (go_at_call 67; refine (rw_word B A S FA _ _ _ (HG.out.below (by (repeat (first | exact Below.refl _ _ | (with_reducible refine Below.drew ?_) | (with_reducible refine Below.alloc ?_ (by (try simp); (try omega)) _) | (with_reducible refine Below.setCell ?_ (by (try simp); (try omega)) _) | (with_reducible refine Below.trans ?_ (Below.mono (by assumption) (by (try simp); (try omega))))))))).mono ?_; rintro e w1 ⟨rfl, hb1⟩
             obtain ⟨hc1, hf1⟩ := bcell hb1; have hz1 := hb1.size; (try simp at hz1); have hz1a : w.heap.size < w1.heap.size := (by omega); have hz1b : w.heap.size + 1 < w1.heap.size := (by omega)
             first | rw [HW.out, HVv.out] | rw [HVv.out] | rw [HW.out])
          | (go_at_call 68; refine (runpack_any v HV _).mono ?_; rintro e w2 ⟨rfl, hb2⟩
             obtain ⟨hc2, hf2⟩ := bcell hb2; have hz2 := hb2.size; (try simp at hz2); have hz2a : w.heap.size < w2.heap.size := (by omega); have hz2b : w.heap.size + 1 < w2.heap.size := (by omega)
             rw [hu, n1, n2])
          | (go_at_call 67; refine (rw_word B A S FA _ _ _ (HG.out.below (by (repeat (first | exact Below.refl _ _ | (with_reducible refine Below.drew ?_) | (with_reducible refine Below.alloc ?_ (by (try simp); (try omega)) _) | (with_reducible refine Below.setCell ?_ (by (try simp); (try omega)) _) | (with_reducible refine Below.trans ?_ (Below.mono (by assumption) (by (try simp); (try omega))))))))).mono ?_; rintro e w3 ⟨rfl, hb3⟩
             obtain ⟨hc3, hf3⟩ := bcell hb3; have hz3 := hb3.size; (try simp at hz3); have hz3a : w.heap.size < w3.heap.size := (by omega); have hz3b : w.heap.size + 1 < w3.heap.size := (by omega); have hz3c : w2.heap.size < w3.heap.size := (by omega)
             rw [HQ.out]))
        exact bodyPost_ret (v := .tuple #[.agg #[.int .i64 q1, .int .i64 q2], .int .i64 0]) (by simp only [results, Try.results18]; go_simp) rfl ⟨rfl, by (repeat (first | exact Below.refl _ _ | (with_reducible refine Below.drew ?_) | (with_reducible refine Below.alloc ?_ (by (try simp); (try omega)) _) | (with_reducible refine Below.setCell ?_ (by (try simp); (try omega)) _) | (with_reducible refine Below.trans ?_ (Below.mono (by assumption) (by (try simp); (try omega))))))⟩
      · have e1 : S.toE (c, s) = 32 := by rw [hdf, if_neg (fun hh => hx hh.2)]
        have e2 : S.toP (c, s) = (0, 0) := by rw [hpf, e1, if_neg (by decide)]
        rw [e1, e2]
        have hk : (S.wE (q1, q2) != 0) = true := bne_iff_ne.2 hx
        clear hdf hpf e1 e2 hx hq
        go_enter Try.func18, Try.ntmps18
        go_wp2_with (first
          | (go_at_call 67; refine (rw_word B A S FA _ _ _ (HG.out.below (by (repeat (first | exact Below.refl _ _ | (with_reducible refine Below.drew ?_) | (with_reducible refine Below.alloc ?_ (by (try simp); (try omega)) _) | (with_reducible refine Below.setCell ?_ (by (try simp); (try omega)) _) | (with_reducible refine Below.trans ?_ (Below.mono (by assumption) (by (try simp); (try omega))))))))).mono ?_; rintro e w1 ⟨rfl, hb1⟩
             obtain ⟨hc1, hf1⟩ := bcell hb1; have hz1 := hb1.size; (try simp at hz1); have hz1a : w.heap.size < w1.heap.size := (by omega); have hz1b : w.heap.size + 1 < w1.heap.size := (by omega)
             first | rw [HW.out, HVv.out] | rw [HVv.out] | rw [HW.out])
          | (go_at_call 68; refine (runpack_any v HV _).mono ?_; rintro e w2 ⟨rfl, hb2⟩
             obtain ⟨hc2, hf2⟩ := bcell hb2; have hz2 := hb2.size; (try simp at hz2); have hz2a : w.heap.size < w2.heap.size := (by omega); have hz2b : w.heap.size + 1 < w2.heap.size := (by omega)
             rw [hu, n1, n2])
          | (go_at_call 67; refine (rw_word B A S FA _ _ _ (HG.out.below (by (repeat (first | exact Below.refl _ _ | (with_reducible refine Below.drew ?_) | (with_reducible refine Below.alloc ?_ (by (try simp); (try omega)) _) | (with_reducible refine Below.setCell ?_ (by (try simp); (try omega)) _) | (with_reducible refine Below.trans ?_ (Below.mono (by assumption) (by (try simp); (try omega))))))))).mono ?_; rintro e w3 ⟨rfl, hb3⟩
             obtain ⟨hc3, hf3⟩ := bcell hb3; have hz3 := hb3.size; (try simp at hz3); have hz3a : w.heap.size < w3.heap.size := (by omega); have hz3b : w.heap.size + 1 < w3.heap.size := (by omega); have hz3c : w2.heap.size < w3.heap.size := (by omega)))
        exact bodyPost_ret (v := .tuple #[.agg #[.int .i64 0, .int .i64 0], .int .i64 32]) (by simp only [results, Try.results18]; go_simp) rfl ⟨rfl, by (repeat (first | exact Below.refl _ _ | (with_reducible refine Below.drew ?_) | (with_reducible refine Below.alloc ?_ (by (try simp); (try omega)) _) | (with_reducible refine Below.setCell ?_ (by (try simp); (try omega)) _) | (with_reducible refine Below.trans ?_ (Below.mono (by assumption) (by (try simp); (try omega))))))⟩
  · have h30 : S.wE (c, s) = 30 := (Wir.wE_01 _).resolve_left hw
    have e1 : S.toE (c, s) = 30 := (Wir.toE_30 _).2 hw
    have e2 : S.toP (c, s) = (0, 0) := by unfold Wir.toP; rw [e1, if_neg (by decide)]
    rw [e1, e2]
    have H30 := Lib.hid h30
    clear hw h30 e1 e2
    go_enter Try.func18, Try.ntmps18
    go_wp2_with (go_at_call 67; refine (rw_word B A S FA _ _ _ (HG.out.below (by (repeat (first | exact Below.refl _ _ | (with_reducible refine Below.drew ?_) | (with_reducible refine Below.alloc ?_ (by (try simp); (try omega)) _) | (with_reducible refine Below.setCell ?_ (by (try simp); (try omega)) _) | (with_reducible refine Below.trans ?_ (Below.mono (by assumption) (by (try simp); (try omega))))))))).mono ?_; rintro e w1 ⟨rfl, hb1⟩
                 obtain ⟨hc1, hf1⟩ := bcell hb1; have hz1 := hb1.size; (try simp at hz1); have hz1a : w.heap.size < w1.heap.size := (by omega); have hz1b : w.heap.size + 1 < w1.heap.size := (by omega)
                 rw [H30.out])
    exact bodyPost_ret (v := .tuple #[.agg #[.int .i64 0, .int .i64 0], .int .i64 30]) (by simp only [results, Try.results18]; go_simp) rfl ⟨rfl, by (repeat (first | exact Below.refl _ _ | (with_reducible refine Below.drew ?_) | (with_reducible refine Below.alloc ?_ (by (try simp); (try omega)) _) | (with_reducible refine Below.setCell ?_ (by (try simp); (try omega)) _) | (with_reducible refine Below.trans ?_ (Below.mono (by assumption) (by (try simp); (try omega))))))⟩
end
end Go.Proofs.Ythbobooiedcofaa
namespace Go.Proofs.Ythbobooiedcofaa
open Go.RowKit
attribute [local go_sem] cell_set
set_option maxRecDepth 100000
set_option linter.unusedVariables false

section
variable (B A : Nat) (S : Wir) (FA : List Nat) (w : World)
set_option maxHeartbeats 1000000 in
theorem rw_put (c s v : Int) (hv : 0 ≤ v ∧ v < 4294967296) (hp : S.wE (c, s) = 0) (h : RG w B A S FA) :
    Calls Try.prog 101 #[.pointer (some ⟨B, 0, none⟩), .agg #[.int .i64 c, .int .i64 s], .int .u32 v] w fun e w' => (∃ r, e = .returned r) ∧ RG w' B A (S.put (c, s) v) FA ∧ Kp (B :: FA) w w' := by
  have HG := Lib.hid h
  have HV := Lib.hid hv
  have hlt := h.lt
  obtain ⟨c0, V, cV, c1⟩ := h.cells
  clear hv
  by_cases hc : c = -1
  · subst hc
    have h1 : ¬ (s < 0 ∨ (S.P.length : Int) ≤ s) := by
      intro h2; unfold Wir.wE at hp; rw [if_pos rfl, if_pos h2] at hp; exact absurd hp (by decide)
    obtain ⟨i, rfl⟩ := Int.eq_ofNat_of_zero_le (by omega : 0 ≤ s)
    have hi : i < S.P.length := by omega
    obtain ⟨g, cg, k1, k0, k2, hgF, hg⟩ := h.word hi
    have h5 : (i : Int) < (S.P.length : Int) := by omega
    have h7 : (0 : Int) ≤ (i : Int) := by omega
    have hS : S.put (-1, (i : Int)) v = { S with P := S.P.set i v } := by unfold Wir.put; rw [if_pos rfl]; rfl
    rw [hS]
    have HR := Lib.hid (h.putP k1 hi HV.out)
    generalize S.P.getD i 0 = x at k0
    clear hp h1 hS c1
    go_enter Try.func101, Try.ntmps101
    go_wp2_with fail
    (refine region_tail 8 (by kernel_rfl) (by kernel_rfl) ?_; simp only [List.take_succ_cons, List.take_zero, List.drop_succ_cons, List.drop_zero]; repeat still_step; try refine wpStill_nil ?_)
    go_wp2_with fail
    refine bodyPost_ret (results_none rfl _ _ _) rfl ⟨⟨_, rfl⟩, ?_, ?_⟩
    · exact HR.out.below (by (repeat (first | exact Below.refl _ _ | (with_reducible refine Below.drew ?_) | (with_reducible refine Below.alloc ?_ (by (try simp); (try omega)) _) | (with_reducible refine Below.setCell ?_ (by (try simp); (try omega)) _) | (with_reducible refine Below.trans ?_ (Below.mono (by assumption) (by (try simp); (try omega)))))))
    · exact (((Kp.refl _ _).setCell (p := ⟨g, i, none⟩) (.inl (by simp [hgF])) _).alloc _).drew
  · have hcb : (c == -1) = false := by rw [beq_eq_false_iff_ne]; exact hc
    have hS : S.put (c, s) v = { S with A := S.A.put c s v } := by unfold Wir.put; rw [if_neg hc]
    rw [hS]
    have hse : S.A.slotE c s = 0 := by
      unfold Wir.wE at hp
      rw [if_neg hc] at hp
      by_cases he : S.A.slotE c s = 0
      · exact he
      · rw [if_neg he] at hp; exact absurd hp (by decide)
    rcases slotE_cases S.A c s with ⟨h1, _⟩ | ⟨h1, _⟩ | ⟨h1, ag, ws, hcc, hs0, hs⟩
    · omega
    · omega
    obtain ⟨h0, hl⟩ := Ars.cell_some hcc
    obtain ⟨i, rfl⟩ := Int.eq_ofNat_of_zero_le h0
    obtain ⟨k, rfl⟩ := Int.eq_ofNat_of_zero_le hs0
    have hk : k < ws.length := by omega
    obtain ⟨P, FR, hFA, hra, hput⟩ := h.split
    obtain ⟨g, cc, d, cw, k1, hli, z1, z2, hrow, hdF, hgF, hn1, hn7⟩ := hra.live hcc
    have z3 : w.cell? ⟨d, k, none⟩ = some (.int .u32 (ws.getD k 0)) := (hrow.cellAt k (by omega)).trans (by simp [wvals, hk])
    have z3f := hrow.frozenAt k
    have hdd : d < w.heap.size := hra.lt d hdF
    have hgg : g < w.heap.size := hra.lt g hgF
    have hAA := (hra.head).choose_spec.choose_spec.choose_spec.choose_spec.2.2.2.2.2.2
    have HR := Lib.hid (hput _ _ FR (hra.putw hcc hk k1 z2 HV.out) ((Kp.refl _ _).setCell (p := ⟨d, k, none⟩) (.inl hdF) _) (fun b hb => .inl hb))
    rw [← hFA] at HR
    have hdFA : d ∈ FA := by rw [hFA]; exact List.mem_append_right _ hdF
    have h5 : (i : Int) < (S.A.cells.length : Int) := by omega
    have h7 : (0 : Int) ≤ (i : Int) := by omega
    have h8 : (k : Int) < (ws.length : Int) := by omega
    have h9 : (0 : Int) ≤ (k : Int) := by omega
    clear hp hS hse h1 hcc hs0 hs h0 hl hra hput hrow hdF hgF c1 hFA
    go_enter Try.func101, Try.ntmps101
    go_wp2_with fail
    (refine region_tail 16 (by kernel_rfl) (by kernel_rfl) ?_; simp only [List.take_succ_cons, List.take_zero, List.drop_succ_cons, List.drop_zero]; repeat still_step; try refine wpStill_nil ?_)
    go_wp2_with fail
    refine bodyPost_end (results_none rfl _ _ _) rfl ⟨⟨_, rfl⟩, ?_, ?_⟩
    · exact HR.out.below (by (repeat (first | exact Below.refl _ _ | (with_reducible refine Below.drew ?_) | (with_reducible refine Below.alloc ?_ (by (try simp); (try omega)) _) | (with_reducible refine Below.setCell ?_ (by (try simp); (try omega)) _) | (with_reducible refine Below.trans ?_ (Below.mono (by assumption) (by (try simp); (try omega)))))))
    · exact (((Kp.refl _ _).setCell (p := ⟨d, k, none⟩) (.inl (by simp [hdFA])) _).alloc _).drew
end
end Go.Proofs.Ythbobooiedcofaa
