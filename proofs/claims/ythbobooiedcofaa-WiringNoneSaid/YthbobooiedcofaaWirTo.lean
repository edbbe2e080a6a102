/-
  A wiring: To, put, link, Link, Cut.
-/
import Derived.Test.YthbobooiedcofaaWirMem
namespace Go.Proofs.Ythbobooiedcofaa
open Go.RowKit
attribute [local go_sem] cell_set
set_option maxRecDepth 100000
set_option linter.unusedVariables false

section
variable (B A : Nat) (S : Wir) (FA : List Nat) (w : World)
set_option maxHeartbeats 1000000 in
theorem wi_to (c s : Int) (h : WG w B A S FA) : Calls Try.prog 17 #[.pointer (some ⟨B, 0, none⟩), .agg #[.int .i64 c, .int .i64 s]] w fun e w' => e = .returned (.tuple #[.agg #[.int .i64 (S.toP (c, s)).1, .int .i64 (S.toP (c, s)).2], .int .i64 (S.toE (c, s))]) ∧ Below w.heap.size w w' := by
  have HG := Lib.hid h
  have hlt := h.lt
  by_cases hw : S.wE (c, s) = 0
  · have HV := Lib.hid (h.ok.val hw)
    have hdf : S.toE (c, s) = if unOk (S.wV (c, s)) = true ∧ S.wE (nxP (S.wV (c, s))) = 0 then 0 else 32 := by unfold Wir.toE; rw [if_neg (by omega)]
    have hpf : S.toP (c, s) = if S.toE (c, s) = 0 then nxP (S.wV (c, s)) else (0, 0) := rfl
    have HW := Lib.hid hw
    obtain ⟨v, hv⟩ : ∃ v, S.wV (c, s) = v := ⟨_, rfl⟩
    rw [hv] at HV hdf hpf
    have HVv := Lib.hid hv
    clear hv hw
    cases hu : unOk v with
    | false =>
      have e1 : S.toE (c, s) = 32 := by rw [hdf, if_neg (by rw [hu]; simp)]
      have e2 : S.toP (c, s) = (0, 0) := by rw [hpf, e1, if_neg (by decide)]
      rw [e1, e2]
      clear hdf hpf e1 e2
      go_enter Try.func17, Try.ntmps17
      go_wp2_with (first
        | (go_at_call 24; refine (wi_word B A S FA _ _ _ (HG.out.below (by (repeat (first | exact Below.refl _ _ | (with_reducible refine Below.drew ?_) | (with_reducible refine Below.alloc ?_ (by (try simp); (try omega)) _) | (with_reducible refine Below.setCell ?_ (by (try simp); (try omega)) _) | (with_reducible refine Below.trans ?_ (Below.mono (by assumption) (by (try simp); (try omega))))))))).mono ?_; rintro e w1 ⟨rfl, hb1⟩
           obtain ⟨hc1, hf1⟩ := bcell hb1; have hz1 := hb1.size; (try simp at hz1); have hz1a : w.heap.size < w1.heap.size := (by omega); have hz1b : w.heap.size + 1 < w1.heap.size := (by omega)
           first | rw [HW.out, HVv.out] | rw [HVv.out] | rw [HW.out])
        | (go_at_call 66; refine (unpack_any v HV _).mono ?_; rintro e w2 ⟨rfl, hb2⟩
           obtain ⟨hc2, hf2⟩ := bcell hb2; have hz2 := hb2.size; (try simp at hz2); have hz2a : w.heap.size < w2.heap.size := (by omega); have hz2b : w.heap.size + 1 < w2.heap.size := (by omega)
           rw [hu]))
      exact bodyPost_ret (v := .tuple #[.agg #[.int .i64 0, .int .i64 0], .int .i64 32]) (by simp only [results, Try.results17]; go_simp) rfl ⟨rfl, by (repeat (first | exact Below.refl _ _ | (with_reducible refine Below.drew ?_) | (with_reducible refine Below.alloc ?_ (by (try simp); (try omega)) _) | (with_reducible refine Below.setCell ?_ (by (try simp); (try omega)) _) | (with_reducible refine Below.trans ?_ (Below.mono (by assumption) (by (try simp); (try omega))))))⟩
    | true =>
      have hn : upC v = (nxP v).1 ∧ upS v = (nxP v).2 := by unfold upC upS nxP; rw [if_pos hu, if_pos hu]; exact ⟨rfl, rfl⟩
      obtain ⟨⟨q1, q2⟩, hq⟩ : ∃ q, nxP v = q := ⟨_, rfl⟩
      rw [hq] at hn hdf hpf
      obtain ⟨n1, n2⟩ := hn
      by_cases hx : S.wE (q1, q2) = 0
      · have e1 : S.toE (c, s) = 0 := by rw [hdf, if_pos ⟨hu, hx⟩]
        have e2 : S.toP (c, s) = (q1, q2) := by rw [hpf, e1, if_pos rfl]
        rw [e1, e2]
        have HQ := Lib.hid hx
        clear hdf hpf e1 e2 hx hq
        go_enter Try.func17, Try.ntmps17
        go_wp2_with (first
          | (go_at_call 24; refine (wi_word B A S FA _ _ _ (HG.out.below (by (repeat (first | exact Below.refl _ _ | (with_reducible refine Below.drew ?_) | (with_reducible refine Below.alloc ?_ (by (try simp); (try omega)) _) | (with_reducible refine Below.setCell ?_ (by (try simp); (try omega)) _) | (with_reducible refine Below.trans ?_ (Below.mono (by assumption) (by (try simp); (try omega))))))))).mono ?_; rintro e w1 ⟨rfl, hb1⟩
             obtain ⟨hc1, hf1⟩ := bcell hb1; have hz1 := hb1.size; (try simp at hz1); have hz1a : w.heap.size < w1.heap.size := (by omega); have hz1b : w.heap.size + 1 < w1.heap.size := (by omega)
             first | rw [HW.out, HVv.out] | rw [HVv.out] | rw [HW.out])
          | (go_at_call 66; refine (unpack_any v HV _).mono ?_; rintro e w2 ⟨rfl, hb2⟩
             obtain ⟨hc2, hf2⟩ := bcell hb2; have hz2 := hb2.size; (try simp at hz2); have hz2a : w.heap.size < w2.heap.size := (by omega); have hz2b : w.heap.size + 1 < w2.heap.size := (by omega)
             rw [hu, n1, n2])
          | (go_at_call 24; refine (wi_word B A S FA _ _ _ (HG.out.below (by (repeat (first | exact Below.refl _ _ | (with_reducible refine Below.drew ?_) | (with_reducible refine Below.alloc ?_ (by (try simp); (try omega)) _) | (with_reducible refine Below.setCell ?_ (by (try simp); (try omega)) _) | (with_reducible refine Below.trans ?_ (Below.mono (by assumption) (by (try simp); (try omega))))))))).mono ?_; rintro e w3 ⟨rfl, hb3⟩
             obtain ⟨hc3, hf3⟩ := bcell hb3; have hz3 := hb3.size; (try simp at hz3); have hz3a : w.heap.size < w3.heap.size := (by omega); have hz3b : w.heap.size + 1 < w3.heap.size := (by omega); have hz3c : w2.heap.size < w3.heap.size := (by omega)
             rw [HQ.out]))
        exact bodyPost_ret (v := .tuple #[.agg #[.int .i64 q1, .int .i64 q2], .int .i64 0]) (by simp only [results, Try.results17]; go_simp) rfl ⟨rfl, by (repeat (first | exact Below.refl _ _ | (with_reducible refine Below.drew ?_) | (with_reducible refine Below.alloc ?_ (by (try simp); (try omega)) _) | (with_reducible refine Below.setCell ?_ (by (try simp); (try omega)) _) | (with_reducible refine Below.trans ?_ (Below.mono (by assumption) (by (try simp); (try omega))))))⟩
      · have e1 : S.toE (c, s) = 32 := by rw [hdf, if_neg (fun hh => hx hh.2)]
        have e2 : S.toP (c, s) = (0, 0) := by rw [hpf, e1, if_neg (by decide)]
        rw [e1, e2]
        have hk : (S.wE (q1, q2) != 0) = true := bne_iff_ne.2 hx
        clear hdf hpf e1 e2 hx hq
        go_enter Try.func17, Try.ntmps17
        go_wp2_with (first
          | (go_at_call 24; refine (wi_word B A S FA _ _ _ (HG.out.below (by (repeat (first | exact Below.refl _ _ | (with_reducible refine Below.drew ?_) | (with_reducible refine Below.alloc ?_ (by (try simp); (try omega)) _) | (with_reducible refine Below.setCell ?_ (by (try simp); (try omega)) _) | (with_reducible refine Below.trans ?_ (Below.mono (by assumption) (by (try simp); (try omega))))))))).mono ?_; rintro e w1 ⟨rfl, hb1⟩
             obtain ⟨hc1, hf1⟩ := bcell hb1; have hz1 := hb1.size; (try simp at hz1); have hz1a : w.heap.size < w1.heap.size := (by omega); have hz1b : w.heap.size + 1 < w1.heap.size := (by omega)
             first | rw [HW.out, HVv.out] | rw [HVv.out] | rw [HW.out])
          | (go_at_call 66; refine (unpack_any v HV _).mono ?_; rintro e w2 ⟨rfl, hb2⟩
             obtain ⟨hc2, hf2⟩ := bcell hb2; have hz2 := hb2.size; (try simp at hz2); have hz2a : w.heap.size < w2.heap.size := (by omega); have hz2b : w.heap.size + 1 < w2.heap.size := (by omega)
             rw [hu, n1, n2])
          | (go_at_call 24; refine (wi_word B A S FA _ _ _ (HG.out.below (by (repeat (first | exact Below.refl _ _ | (with_reducible refine Below.drew ?_) | (with_reducible refine Below.alloc ?_ (by (try simp); (try omega)) _) | (with_reducible refine Below.setCell ?_ (by (try simp); (try omega)) _) | (with_reducible refine Below.trans ?_ (Below.mono (by assumption) (by (try simp); (try omega))))))))).mono ?_; rintro e w3 ⟨rfl, hb3⟩
             obtain ⟨hc3, hf3⟩ := bcell hb3; have hz3 := hb3.size; (try simp at hz3); have hz3a : w.heap.size < w3.heap.size := (by omega); have hz3b : w.heap.size + 1 < w3.heap.size := (by omega); have hz3c : w2.heap.size < w3.heap.size := (by omega)))
        exact bodyPost_ret (v := .tuple #[.agg #[.int .i64 0, .int .i64 0], .int .i64 32]) (by simp only [results, Try.results17]; go_simp) rfl ⟨rfl, by (repeat (first | exact Below.refl _ _ | (with_reducible refine Below.drew ?_) | (with_reducible refine Below.alloc ?_ (by (try simp); (try omega)) _) | (with_reducible refine Below.setCell ?_ (by (try simp); (try omega)) _) | (with_reducible refine Below.trans ?_ (Below.mono (by assumption) (by (try simp); (try omega))))))⟩
  · have h30 : S.wE (c, s) = 30 := (Wir.wE_01 _).resolve_left hw
    have e1 : S.toE (c, s) = 30 := (Wir.toE_30 _).2 hw
    have e2 : S.toP (c, s) = (0, 0) := by unfold Wir.toP; rw [e1, if_neg (by decide)]
    rw [e1, e2]
    have H30 := Lib.hid h30
    clear hw h30 e1 e2
    go_enter Try.func17, Try.ntmps17
    go_wp2_with (go_at_call 24; refine (wi_word B A S FA _ _ _ (HG.out.below (by (repeat (first | exact Below.refl _ _ | (with_reducible refine Below.drew ?_) | (with_reducible refine Below.alloc ?_ (by (try simp); (try omega)) _) | (with_reducible refine Below.setCell ?_ (by (try simp); (try omega)) _) | (with_reducible refine Below.trans ?_ (Below.mono (by assumption) (by (try simp); (try omega))))))))).mono ?_; rintro e w1 ⟨rfl, hb1⟩
                 obtain ⟨hc1, hf1⟩ := bcell hb1; have hz1 := hb1.size; (try simp at hz1); have hz1a : w.heap.size < w1.heap.size := (by omega); have hz1b : w.heap.size + 1 < w1.heap.size := (by omega)
                 rw [H30.out])
    exact bodyPost_ret (v := .tuple #[.agg #[.int .i64 0, .int .i64 0], .int .i64 30]) (by simp only [results, Try.results17]; go_simp) rfl ⟨rfl, by (repeat (first | exact Below.refl _ _ | (with_reducible refine Below.drew ?_) | (with_reducible refine Below.alloc ?_ (by (try simp); (try omega)) _) | (with_reducible refine Below.setCell ?_ (by (try simp); (try omega)) _) | (with_reducible refine Below.trans ?_ (Below.mono (by assumption) (by (try simp); (try omega))))))⟩
end
end Go.Proofs.Ythbobooiedcofaa
