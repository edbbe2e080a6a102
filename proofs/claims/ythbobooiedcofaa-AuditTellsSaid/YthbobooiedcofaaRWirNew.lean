/-
  The document's wiring: New.
-/
import Derived.Test.YthbobooiedcofaaRWirPut
import Derived.Test.YthbobooiedcofaaWirCut
import Derived.Laws.StructEq
import Derived.Deep.DeepCutAuto
/-
  The document's wiring: Link.
-/
namespace Go.Proofs.Ythbobooiedcofaa
open Go.RowKit
attribute [local go_sem] cell_set
set_option maxRecDepth 100000
set_option linter.unusedVariables false

section
variable (B A : Nat) (S : Wir) (FA : List Nat) (w : World)
set_option maxHeartbeats 2000000 in
theorem rw_link (c s d t : Int) (h : RG w B A S FA) :
    Calls Try.prog 63 #[.pointer (some ⟨B, 0, none⟩), .agg #[.int .i64 c, .int .i64 s], .agg #[.int .i64 d, .int .i64 t]] w fun e w' => e = .returned (.int .i64 (S.linkE (c, s) (d, t))) ∧ RG w' B A (S.link (c, s) (d, t)) FA ∧ Kp (B :: FA) w w' := by
  have HG := Lib.hid h
  have hlt := h.lt
  obtain ⟨a, ha⟩ : ∃ a, S.toE (c, s) = a := ⟨_, rfl⟩
  obtain ⟨b, hb⟩ : ∃ b, S.toE (d, t) = b := ⟨_, rfl⟩
  have hE := linkE_is ha hb
  have ca : a = 0 ∨ a = 30 ∨ a = 32 := ha ▸ Wir.toE_cases S (c, s)
  have cb : b = 0 ∨ b = 30 ∨ b = 32 := hb ▸ Wir.toE_cases S (d, t)
  by_cases h1 : a = 30
  · subst h1
    rw [if_pos (.inl rfl)] at hE
    rw [link_no hE (by decide), hE]
    clear hE ca cb
    have HA := Lib.hid ha
    have HB := Lib.hid hb
    clear ha hb
    go_enter Try.func63, Try.ntmps63
    go_wp2_with fail
    refine (rw_to B A S FA _ c s (HG.out.below (by (repeat (first | exact Below.refl _ _ | (with_reducible refine Below.drew ?_) | (with_reducible refine Below.alloc ?_ (by (try simp); (try omega)) _) | (with_reducible refine Below.setCell ?_ (by (try simp); (try omega)) _) | (with_reducible refine Below.trans ?_ (Below.mono (by assumption) (by (try simp); (try omega))))))))).mono ?_
    rintro e w1 ⟨rfl, hb1⟩
    obtain ⟨hc1, hf1⟩ := bcell hb1; have hz1 := hb1.size; (try simp at hz1); have hz1a : w.heap.size < w1.heap.size := (by omega); have hz1b : w.heap.size + 1 < w1.heap.size := (by omega)
    rw [HA.out]
    simp only []
    go_wp2_with fail
    refine (rw_to B A S FA _ d t (HG.out.below (by (repeat (first | exact Below.refl _ _ | (with_reducible refine Below.drew ?_) | (with_reducible refine Below.alloc ?_ (by (try simp); (try omega)) _) | (with_reducible refine Below.setCell ?_ (by (try simp); (try omega)) _) | (with_reducible refine Below.trans ?_ (Below.mono (by assumption) (by (try simp); (try omega))))))))).mono ?_
    rintro e w2 ⟨rfl, hb2⟩
    obtain ⟨hc2, hf2⟩ := bcell hb2; have hz2 := hb2.size; (try simp at hz2); have hz2a : w.heap.size < w2.heap.size := (by omega); have hz2b : w.heap.size + 1 < w2.heap.size := (by omega); have hz2c : w1.heap.size < w2.heap.size := (by omega)
    rw [HB.out]
    simp only []
    go_wp2_with fail
    go_ret
    exact ⟨rfl, HG.out.below (by (repeat (first | exact Below.refl _ _ | (with_reducible refine Below.drew ?_) | (with_reducible refine Below.alloc ?_ (by (try simp); (try omega)) _) | (with_reducible refine Below.setCell ?_ (by (try simp); (try omega)) _) | (with_reducible refine Below.trans ?_ (Below.mono (by assumption) (by (try simp); (try omega))))))), Kp.of_below (by (repeat (first | exact Below.refl _ _ | (with_reducible refine Below.drew ?_) | (with_reducible refine Below.alloc ?_ (by (try simp); (try omega)) _) | (with_reducible refine Below.setCell ?_ (by (try simp); (try omega)) _) | (with_reducible refine Below.trans ?_ (Below.mono (by assumption) (by (try simp); (try omega)))))))⟩
  have k1 : (a == 30) = false := by rw [beq_eq_false_iff_ne]; exact h1
  by_cases h2 : b = 30
  · subst h2
    rw [if_pos (.inr rfl)] at hE
    rw [link_no hE (by decide), hE]
    clear hE ca cb
    have HA := Lib.hid ha
    have HB := Lib.hid hb
    clear ha hb
    go_enter Try.func63, Try.ntmps63
    go_wp2_with fail
    refine (rw_to B A S FA _ c s (HG.out.below (by (repeat (first | exact Below.refl _ _ | (with_reducible refine Below.drew ?_) | (with_reducible refine Below.alloc ?_ (by (try simp); (try omega)) _) | (with_reducible refine Below.setCell ?_ (by (try simp); (try omega)) _) | (with_reducible refine Below.trans ?_ (Below.mono (by assumption) (by (try simp); (try omega))))))))).mono ?_
    rintro e w1 ⟨rfl, hb1⟩
    obtain ⟨hc1, hf1⟩ := bcell hb1; have hz1 := hb1.size; (try simp at hz1); have hz1a : w.heap.size < w1.heap.size := (by omega); have hz1b : w.heap.size + 1 < w1.heap.size := (by omega)
    rw [HA.out]
    simp only []
    go_wp2_with fail
    refine (rw_to B A S FA _ d t (HG.out.below (by (repeat (first | exact Below.refl _ _ | (with_reducible refine Below.drew ?_) | (with_reducible refine Below.alloc ?_ (by (try simp); (try omega)) _) | (with_reducible refine Below.setCell ?_ (by (try simp); (try omega)) _) | (with_reducible refine Below.trans ?_ (Below.mono (by assumption) (by (try simp); (try omega))))))))).mono ?_
    rintro e w2 ⟨rfl, hb2⟩
    obtain ⟨hc2, hf2⟩ := bcell hb2; have hz2 := hb2.size; (try simp at hz2); have hz2a : w.heap.size < w2.heap.size := (by omega); have hz2b : w.heap.size + 1 < w2.heap.size := (by omega); have hz2c : w1.heap.size < w2.heap.size := (by omega)
    rw [HB.out]
    simp only []
    go_wp2_with fail
    go_ret
    exact ⟨rfl, HG.out.below (by (repeat (first | exact Below.refl _ _ | (with_reducible refine Below.drew ?_) | (with_reducible refine Below.alloc ?_ (by (try simp); (try omega)) _) | (with_reducible refine Below.setCell ?_ (by (try simp); (try omega)) _) | (with_reducible refine Below.trans ?_ (Below.mono (by assumption) (by (try simp); (try omega))))))), Kp.of_below (by (repeat (first | exact Below.refl _ _ | (with_reducible refine Below.drew ?_) | (with_reducible refine Below.alloc ?_ (by (try simp); (try omega)) _) | (with_reducible refine Below.setCell ?_ (by (try simp); (try omega)) _) | (with_reducible refine Below.trans ?_ (Below.mono (by assumption) (by (try simp); (try omega)))))))⟩
  have k2 : (b == 30) = false := by rw [beq_eq_false_iff_ne]; exact h2
  rw [if_neg (by omega)] at hE
  by_cases h3 : (c, s) = ((d, t) : Pt)
  · rw [if_pos (.inl h3)] at hE
    rw [link_no hE (by decide), hE]
    simp only [Prod.mk.injEq] at h3
    obtain ⟨rfl, rfl⟩ := h3
    clear hE ca cb h1 h2
    have HA := Lib.hid ha
    have HB := Lib.hid hb
    clear ha hb
    go_enter Try.func63, Try.ntmps63
    go_wp2_with fail
    refine (rw_to B A S FA _ c s (HG.out.below (by (repeat (first | exact Below.refl _ _ | (with_reducible refine Below.drew ?_) | (with_reducible refine Below.alloc ?_ (by (try simp); (try omega)) _) | (with_reducible refine Below.setCell ?_ (by (try simp); (try omega)) _) | (with_reducible refine Below.trans ?_ (Below.mono (by assumption) (by (try simp); (try omega))))))))).mono ?_
    rintro e w1 ⟨rfl, hb1⟩
    obtain ⟨hc1, hf1⟩ := bcell hb1; have hz1 := hb1.size; (try simp at hz1); have hz1a : w.heap.size < w1.heap.size := (by omega); have hz1b : w.heap.size + 1 < w1.heap.size := (by omega)
    rw [HA.out]
    simp only []
    go_wp2_with fail
    refine (rw_to B A S FA _ c s (HG.out.below (by (repeat (first | exact Below.refl _ _ | (with_reducible refine Below.drew ?_) | (with_reducible refine Below.alloc ?_ (by (try simp); (try omega)) _) | (with_reducible refine Below.setCell ?_ (by (try simp); (try omega)) _) | (with_reducible refine Below.trans ?_ (Below.mono (by assumption) (by (try simp); (try omega))))))))).mono ?_
    rintro e w2 ⟨rfl, hb2⟩
    obtain ⟨hc2, hf2⟩ := bcell hb2; have hz2 := hb2.size; (try simp at hz2); have hz2a : w.heap.size < w2.heap.size := (by omega); have hz2b : w.heap.size + 1 < w2.heap.size := (by omega); have hz2c : w1.heap.size < w2.heap.size := (by omega)
    rw [HB.out]
    simp only []
    go_wp2_with fail
    go_ret
    exact ⟨rfl, HG.out.below (by (repeat (first | exact Below.refl _ _ | (with_reducible refine Below.drew ?_) | (with_reducible refine Below.alloc ?_ (by (try simp); (try omega)) _) | (with_reducible refine Below.setCell ?_ (by (try simp); (try omega)) _) | (with_reducible refine Below.trans ?_ (Below.mono (by assumption) (by (try simp); (try omega))))))), Kp.of_below (by (repeat (first | exact Below.refl _ _ | (with_reducible refine Below.drew ?_) | (with_reducible refine Below.alloc ?_ (by (try simp); (try omega)) _) | (with_reducible refine Below.setCell ?_ (by (try simp); (try omega)) _) | (with_reducible refine Below.trans ?_ (Below.mono (by assumption) (by (try simp); (try omega)))))))⟩
  have h3' := port_ne h3
  by_cases h4 : a = 0
  · subst h4
    rw [if_pos (.inr (.inl rfl))] at hE
    rw [link_no hE (by decide), hE]
    clear hE ca cb h1 h2 h3
    rcases h3' with k3 | ⟨rfl, k3⟩
    · have HA := Lib.hid ha
      have HB := Lib.hid hb
      clear ha hb
      go_enter Try.func63, Try.ntmps63
      go_wp2_with fail
      refine (rw_to B A S FA _ c s (HG.out.below (by (repeat (first | exact Below.refl _ _ | (with_reducible refine Below.drew ?_) | (with_reducible refine Below.alloc ?_ (by (try simp); (try omega)) _) | (with_reducible refine Below.setCell ?_ (by (try simp); (try omega)) _) | (with_reducible refine Below.trans ?_ (Below.mono (by assumption) (by (try simp); (try omega))))))))).mono ?_
      rintro e w1 ⟨rfl, hb1⟩
      obtain ⟨hc1, hf1⟩ := bcell hb1; have hz1 := hb1.size; (try simp at hz1); have hz1a : w.heap.size < w1.heap.size := (by omega); have hz1b : w.heap.size + 1 < w1.heap.size := (by omega)
      rw [HA.out]
      simp only []
      go_wp2_with fail
      refine (rw_to B A S FA _ d t (HG.out.below (by (repeat (first | exact Below.refl _ _ | (with_reducible refine Below.drew ?_) | (with_reducible refine Below.alloc ?_ (by (try simp); (try omega)) _) | (with_reducible refine Below.setCell ?_ (by (try simp); (try omega)) _) | (with_reducible refine Below.trans ?_ (Below.mono (by assumption) (by (try simp); (try omega))))))))).mono ?_
      rintro e w2 ⟨rfl, hb2⟩
      obtain ⟨hc2, hf2⟩ := bcell hb2; have hz2 := hb2.size; (try simp at hz2); have hz2a : w.heap.size < w2.heap.size := (by omega); have hz2b : w.heap.size + 1 < w2.heap.size := (by omega); have hz2c : w1.heap.size < w2.heap.size := (by omega)
      rw [HB.out]
      simp only []
      go_wp2_with fail
      go_ret
      exact ⟨rfl, HG.out.below (by (repeat (first | exact Below.refl _ _ | (with_reducible refine Below.drew ?_) | (with_reducible refine Below.alloc ?_ (by (try simp); (try omega)) _) | (with_reducible refine Below.setCell ?_ (by (try simp); (try omega)) _) | (with_reducible refine Below.trans ?_ (Below.mono (by assumption) (by (try simp); (try omega))))))), Kp.of_below (by (repeat (first | exact Below.refl _ _ | (with_reducible refine Below.drew ?_) | (with_reducible refine Below.alloc ?_ (by (try simp); (try omega)) _) | (with_reducible refine Below.setCell ?_ (by (try simp); (try omega)) _) | (with_reducible refine Below.trans ?_ (Below.mono (by assumption) (by (try simp); (try omega)))))))⟩
    · have HA := Lib.hid ha
      have HB := Lib.hid hb
      clear ha hb
      go_enter Try.func63, Try.ntmps63
      go_wp2_with fail
      refine (rw_to B A S FA _ c s (HG.out.below (by (repeat (first | exact Below.refl _ _ | (with_reducible refine Below.drew ?_) | (with_reducible refine Below.alloc ?_ (by (try simp); (try omega)) _) | (with_reducible refine Below.setCell ?_ (by (try simp); (try omega)) _) | (with_reducible refine Below.trans ?_ (Below.mono (by assumption) (by (try simp); (try omega))))))))).mono ?_
      rintro e w1 ⟨rfl, hb1⟩
      obtain ⟨hc1, hf1⟩ := bcell hb1; have hz1 := hb1.size; (try simp at hz1); have hz1a : w.heap.size < w1.heap.size := (by omega); have hz1b : w.heap.size + 1 < w1.heap.size := (by omega)
      rw [HA.out]
      simp only []
      go_wp2_with fail
      refine (rw_to B A S FA _ c t (HG.out.below (by (repeat (first | exact Below.refl _ _ | (with_reducible refine Below.drew ?_) | (with_reducible refine Below.alloc ?_ (by (try simp); (try omega)) _) | (with_reducible refine Below.setCell ?_ (by (try simp); (try omega)) _) | (with_reducible refine Below.trans ?_ (Below.mono (by assumption) (by (try simp); (try omega))))))))).mono ?_
      rintro e w2 ⟨rfl, hb2⟩
      obtain ⟨hc2, hf2⟩ := bcell hb2; have hz2 := hb2.size; (try simp at hz2); have hz2a : w.heap.size < w2.heap.size := (by omega); have hz2b : w.heap.size + 1 < w2.heap.size := (by omega); have hz2c : w1.heap.size < w2.heap.size := (by omega)
      rw [HB.out]
      simp only []
      go_wp2_with fail
      go_ret
      exact ⟨rfl, HG.out.below (by (repeat (first | exact Below.refl _ _ | (with_reducible refine Below.drew ?_) | (with_reducible refine Below.alloc ?_ (by (try simp); (try omega)) _) | (with_reducible refine Below.setCell ?_ (by (try simp); (try omega)) _) | (with_reducible refine Below.trans ?_ (Below.mono (by assumption) (by (try simp); (try omega))))))), Kp.of_below (by (repeat (first | exact Below.refl _ _ | (with_reducible refine Below.drew ?_) | (with_reducible refine Below.alloc ?_ (by (try simp); (try omega)) _) | (with_reducible refine Below.setCell ?_ (by (try simp); (try omega)) _) | (with_reducible refine Below.trans ?_ (Below.mono (by assumption) (by (try simp); (try omega)))))))⟩
  have k4 : (a == 0) = false := by rw [beq_eq_false_iff_ne]; exact h4
  by_cases h5 : b = 0
  · subst h5
    rw [if_pos (.inr (.inr rfl))] at hE
    rw [link_no hE (by decide), hE]
    clear hE ca cb h1 h2 h3 h4
    rcases h3' with k3 | ⟨rfl, k3⟩
    · have HA := Lib.hid ha
      have HB := Lib.hid hb
      clear ha hb
      go_enter Try.func63, Try.ntmps63
      go_wp2_with fail
      refine (rw_to B A S FA _ c s (HG.out.below (by (repeat (first | exact Below.refl _ _ | (with_reducible refine Below.drew ?_) | (with_reducible refine Below.alloc ?_ (by (try simp); (try omega)) _) | (with_reducible refine Below.setCell ?_ (by (try simp); (try omega)) _) | (with_reducible refine Below.trans ?_ (Below.mono (by assumption) (by (try simp); (try omega))))))))).mono ?_
      rintro e w1 ⟨rfl, hb1⟩
      obtain ⟨hc1, hf1⟩ := bcell hb1; have hz1 := hb1.size; (try simp at hz1); have hz1a : w.heap.size < w1.heap.size := (by omega); have hz1b : w.heap.size + 1 < w1.heap.size := (by omega)
      rw [HA.out]
      simp only []
      go_wp2_with fail
      refine (rw_to B A S FA _ d t (HG.out.below (by (repeat (first | exact Below.refl _ _ | (with_reducible refine Below.drew ?_) | (with_reducible refine Below.alloc ?_ (by (try simp); (try omega)) _) | (with_reducible refine Below.setCell ?_ (by (try simp); (try omega)) _) | (with_reducible refine Below.trans ?_ (Below.mono (by assumption) (by (try simp); (try omega))))))))).mono ?_
      rintro e w2 ⟨rfl, hb2⟩
      obtain ⟨hc2, hf2⟩ := bcell hb2; have hz2 := hb2.size; (try simp at hz2); have hz2a : w.heap.size < w2.heap.size := (by omega); have hz2b : w.heap.size + 1 < w2.heap.size := (by omega); have hz2c : w1.heap.size < w2.heap.size := (by omega)
      rw [HB.out]
      simp only []
      go_wp2_with fail
      go_ret
      exact ⟨rfl, HG.out.below (by (repeat (first | exact Below.refl _ _ | (with_reducible refine Below.drew ?_) | (with_reducible refine Below.alloc ?_ (by (try simp); (try omega)) _) | (with_reducible refine Below.setCell ?_ (by (try simp); (try omega)) _) | (with_reducible refine Below.trans ?_ (Below.mono (by assumption) (by (try simp); (try omega))))))), Kp.of_below (by (repeat (first | exact Below.refl _ _ | (with_reducible refine Below.drew ?_) | (with_reducible refine Below.alloc ?_ (by (try simp); (try omega)) _) | (with_reducible refine Below.setCell ?_ (by (try simp); (try omega)) _) | (with_reducible refine Below.trans ?_ (Below.mono (by assumption) (by (try simp); (try omega)))))))⟩
    · have HA := Lib.hid ha
      have HB := Lib.hid hb
      clear ha hb
      go_enter Try.func63, Try.ntmps63
      go_wp2_with fail
      refine (rw_to B A S FA _ c s (HG.out.below (by (repeat (first | exact Below.refl _ _ | (with_reducible refine Below.drew ?_) | (with_reducible refine Below.alloc ?_ (by (try simp); (try omega)) _) | (with_reducible refine Below.setCell ?_ (by (try simp); (try omega)) _) | (with_reducible refine Below.trans ?_ (Below.mono (by assumption) (by (try simp); (try omega))))))))).mono ?_
      rintro e w1 ⟨rfl, hb1⟩
      obtain ⟨hc1, hf1⟩ := bcell hb1; have hz1 := hb1.size; (try simp at hz1); have hz1a : w.heap.size < w1.heap.size := (by omega); have hz1b : w.heap.size + 1 < w1.heap.size := (by omega)
      rw [HA.out]
      simp only []
      go_wp2_with fail
      refine (rw_to B A S FA _ c t (HG.out.below (by (repeat (first | exact Below.refl _ _ | (with_reducible refine Below.drew ?_) | (with_reducible refine Below.alloc ?_ (by (try simp); (try omega)) _) | (with_reducible refine Below.setCell ?_ (by (try simp); (try omega)) _) | (with_reducible refine Below.trans ?_ (Below.mono (by assumption) (by (try simp); (try omega))))))))).mono ?_
      rintro e w2 ⟨rfl, hb2⟩
      obtain ⟨hc2, hf2⟩ := bcell hb2; have hz2 := hb2.size; (try simp at hz2); have hz2a : w.heap.size < w2.heap.size := (by omega); have hz2b : w.heap.size + 1 < w2.heap.size := (by omega); have hz2c : w1.heap.size < w2.heap.size := (by omega)
      rw [HB.out]
      simp only []
      go_wp2_with fail
      go_ret
      exact ⟨rfl, HG.out.below (by (repeat (first | exact Below.refl _ _ | (with_reducible refine Below.drew ?_) | (with_reducible refine Below.alloc ?_ (by (try simp); (try omega)) _) | (with_reducible refine Below.setCell ?_ (by (try simp); (try omega)) _) | (with_reducible refine Below.trans ?_ (Below.mono (by assumption) (by (try simp); (try omega))))))), Kp.of_below (by (repeat (first | exact Below.refl _ _ | (with_reducible refine Below.drew ?_) | (with_reducible refine Below.alloc ?_ (by (try simp); (try omega)) _) | (with_reducible refine Below.setCell ?_ (by (try simp); (try omega)) _) | (with_reducible refine Below.trans ?_ (Below.mono (by assumption) (by (try simp); (try omega)))))))⟩
  have k5 : (b == 0) = false := by rw [beq_eq_false_iff_ne]; exact h5
  rw [if_neg (fun e => e.elim h3 fun e => e.elim h4 h5)] at hE
  have hL : S.link (c, s) (d, t) = S.join (c, s) (d, t) := by unfold Wir.link; rw [if_pos hE]
  rw [hL, hE]
  have hp : S.wE (c, s) = 0 := (Wir.wE_01 _).resolve_right fun e => h1 (ha ▸ (Wir.toE_30 _).2 (by omega))
  have hq : S.wE (d, t) = 0 := (Wir.wE_01 _).resolve_right fun e => h2 (hb ▸ (Wir.toE_30 _).2 (by omega))
  have H1 := Lib.hid (Wir.pkP_rng h.ok hp)
  have H2 := Lib.hid (Wir.pkP_rng h.ok hq)
  have HF := Lib.hid h.blt
  have HP := Lib.hid hp
  have HQ := Lib.hid hq
  clear hE ca cb h1 h2 h3 h4 h5 hL hp hq
  have HA := Lib.hid ha
  have HB := Lib.hid hb
  clear ha hb
  rcases h3' with k3 | ⟨rfl, k3⟩
  · go_enter Try.func63, Try.ntmps63
    go_wp2_with fail
    refine (rw_to B A S FA _ c s (HG.out.below (by (repeat (first | exact Below.refl _ _ | (with_reducible refine Below.drew ?_) | (with_reducible refine Below.alloc ?_ (by (try simp); (try omega)) _) | (with_reducible refine Below.setCell ?_ (by (try simp); (try omega)) _) | (with_reducible refine Below.trans ?_ (Below.mono (by assumption) (by (try simp); (try omega))))))))).mono ?_
    rintro e w1 ⟨rfl, hb1⟩
    obtain ⟨hc1, hf1⟩ := bcell hb1; have hz1 := hb1.size; (try simp at hz1); have hz1a : w.heap.size < w1.heap.size := (by omega); have hz1b : w.heap.size + 1 < w1.heap.size := (by omega)
    rw [HA.out]
    simp only []
    go_wp2_with fail
    refine (rw_to B A S FA _ d t (HG.out.below (by (repeat (first | exact Below.refl _ _ | (with_reducible refine Below.drew ?_) | (with_reducible refine Below.alloc ?_ (by (try simp); (try omega)) _) | (with_reducible refine Below.setCell ?_ (by (try simp); (try omega)) _) | (with_reducible refine Below.trans ?_ (Below.mono (by assumption) (by (try simp); (try omega))))))))).mono ?_
    rintro e w2 ⟨rfl, hb2⟩
    obtain ⟨hc2, hf2⟩ := bcell hb2; have hz2 := hb2.size; (try simp at hz2); have hz2a : w.heap.size < w2.heap.size := (by omega); have hz2b : w.heap.size + 1 < w2.heap.size := (by omega); have hz2c : w1.heap.size < w2.heap.size := (by omega)
    rw [HB.out]
    simp only []
    go_wp2_with fail
    refine (pack_anyR c s _).mono ?_
    rintro e w3 ⟨rfl, hb3⟩
    obtain ⟨hc3, hf3⟩ := bcell hb3; have hz3 := hb3.size; (try simp at hz3); have hz3a : w.heap.size < w3.heap.size := (by omega); have hz3b : w.heap.size + 1 < w3.heap.size := (by omega); have hz3c : w1.heap.size < w3.heap.size := (by omega); have hz3d : w2.heap.size < w3.heap.size := (by omega)
    simp only []
    go_wp2_with fail
    refine (pack_anyR d t _).mono ?_
    rintro e w4 ⟨rfl, hb4⟩
    obtain ⟨hc4, hf4⟩ := bcell hb4; have hz4 := hb4.size; (try simp at hz4); have hz4a : w.heap.size < w4.heap.size := (by omega); have hz4b : w.heap.size + 1 < w4.heap.size := (by omega); have hz4c : w1.heap.size < w4.heap.size := (by omega); have hz4d : w2.heap.size < w4.heap.size := (by omega)
    simp only []
    go_wp2_with fail
    refine (rw_put B A S FA _ c s (pkW d t) H2.out HP.out (HG.out.below (by (repeat (first | exact Below.refl _ _ | (with_reducible refine Below.drew ?_) | (with_reducible refine Below.alloc ?_ (by (try simp); (try omega)) _) | (with_reducible refine Below.setCell ?_ (by (try simp); (try omega)) _) | (with_reducible refine Below.trans ?_ (Below.mono (by assumption) (by (try simp); (try omega))))))))).mono ?_
    rintro e w5 ⟨⟨r5, rfl⟩, hg5, hk5⟩
    have HG5 := Lib.hid hg5
    have HK5 := Lib.hid hk5
    have n1 : w.heap.size + 1 ∉ B :: FA := fun hm => by have := HF.out _ hm; omega
    obtain ⟨m0, f0⟩ := hk5.box (b := w.heap.size + 1) (by omega) n1
    have hz5 := hk5.size
    have hX : Below w.heap.size w w4 := by (repeat (first | exact Below.refl _ _ | (with_reducible refine Below.drew ?_) | (with_reducible refine Below.alloc ?_ (by (try simp); (try omega)) _) | (with_reducible refine Below.setCell ?_ (by (try simp); (try omega)) _) | (with_reducible refine Below.trans ?_ (Below.mono (by assumption) (by (try simp); (try omega))))))
    have HX := Lib.hid hX
    clear hg5 hk5 hX
    simp only []
    go_wp2_with fail
    refine (rw_put B A (S.put (c, s) (pkW d t)) FA _ d t (pkW c s) H1.out (by rw [Wir.put_wE]; exact HQ.out) HG5.out).mono ?_
    rintro e w6 ⟨⟨r6, rfl⟩, hg6, hk6⟩
    have HG6 := Lib.hid hg6
    have HK6 := Lib.hid hk6
    clear hg6 hk6
    simp only []
    go_wp2_with fail
    go_ret
    exact ⟨rfl, HG6.out, (Kp.of_below HX.out).tr (HK5.out.tr HK6.out)⟩
  · go_enter Try.func63, Try.ntmps63
    go_wp2_with fail
    refine (rw_to B A S FA _ c s (HG.out.below (by (repeat (first | exact Below.refl _ _ | (with_reducible refine Below.drew ?_) | (with_reducible refine Below.alloc ?_ (by (try simp); (try omega)) _) | (with_reducible refine Below.setCell ?_ (by (try simp); (try omega)) _) | (with_reducible refine Below.trans ?_ (Below.mono (by assumption) (by (try simp); (try omega))))))))).mono ?_
    rintro e w1 ⟨rfl, hb1⟩
    obtain ⟨hc1, hf1⟩ := bcell hb1; have hz1 := hb1.size; (try simp at hz1); have hz1a : w.heap.size < w1.heap.size := (by omega); have hz1b : w.heap.size + 1 < w1.heap.size := (by omega)
    rw [HA.out]
    simp only []
    go_wp2_with fail
    refine (rw_to B A S FA _ c t (HG.out.below (by (repeat (first | exact Below.refl _ _ | (with_reducible refine Below.drew ?_) | (with_reducible refine Below.alloc ?_ (by (try simp); (try omega)) _) | (with_reducible refine Below.setCell ?_ (by (try simp); (try omega)) _) | (with_reducible refine Below.trans ?_ (Below.mono (by assumption) (by (try simp); (try omega))))))))).mono ?_
    rintro e w2 ⟨rfl, hb2⟩
    obtain ⟨hc2, hf2⟩ := bcell hb2; have hz2 := hb2.size; (try simp at hz2); have hz2a : w.heap.size < w2.heap.size := (by omega); have hz2b : w.heap.size + 1 < w2.heap.size := (by omega); have hz2c : w1.heap.size < w2.heap.size := (by omega)
    rw [HB.out]
    simp only []
    go_wp2_with fail
    refine (pack_anyR c s _).mono ?_
    rintro e w3 ⟨rfl, hb3⟩
    obtain ⟨hc3, hf3⟩ := bcell hb3; have hz3 := hb3.size; (try simp at hz3); have hz3a : w.heap.size < w3.heap.size := (by omega); have hz3b : w.heap.size + 1 < w3.heap.size := (by omega); have hz3c : w1.heap.size < w3.heap.size := (by omega); have hz3d : w2.heap.size < w3.heap.size := (by omega)
    simp only []
    go_wp2_with fail
    refine (pack_anyR c t _).mono ?_
    rintro e w4 ⟨rfl, hb4⟩
    obtain ⟨hc4, hf4⟩ := bcell hb4; have hz4 := hb4.size; (try simp at hz4); have hz4a : w.heap.size < w4.heap.size := (by omega); have hz4b : w.heap.size + 1 < w4.heap.size := (by omega); have hz4c : w1.heap.size < w4.heap.size := (by omega); have hz4d : w2.heap.size < w4.heap.size := (by omega)
    simp only []
    go_wp2_with fail
    refine (rw_put B A S FA _ c s (pkW c t) H2.out HP.out (HG.out.below (by (repeat (first | exact Below.refl _ _ | (with_reducible refine Below.drew ?_) | (with_reducible refine Below.alloc ?_ (by (try simp); (try omega)) _) | (with_reducible refine Below.setCell ?_ (by (try simp); (try omega)) _) | (with_reducible refine Below.trans ?_ (Below.mono (by assumption) (by (try simp); (try omega))))))))).mono ?_
    rintro e w5 ⟨⟨r5, rfl⟩, hg5, hk5⟩
    have HG5 := Lib.hid hg5
    have HK5 := Lib.hid hk5
    have n1 : w.heap.size + 1 ∉ B :: FA := fun hm => by have := HF.out _ hm; omega
    obtain ⟨m0, f0⟩ := hk5.box (b := w.heap.size + 1) (by omega) n1
    have hz5 := hk5.size
    have hX : Below w.heap.size w w4 := by (repeat (first | exact Below.refl _ _ | (with_reducible refine Below.drew ?_) | (with_reducible refine Below.alloc ?_ (by (try simp); (try omega)) _) | (with_reducible refine Below.setCell ?_ (by (try simp); (try omega)) _) | (with_reducible refine Below.trans ?_ (Below.mono (by assumption) (by (try simp); (try omega))))))
    have HX := Lib.hid hX
    clear hg5 hk5 hX
    simp only []
    go_wp2_with fail
    refine (rw_put B A (S.put (c, s) (pkW c t)) FA _ c t (pkW c s) H1.out (by rw [Wir.put_wE]; exact HQ.out) HG5.out).mono ?_
    rintro e w6 ⟨⟨r6, rfl⟩, hg6, hk6⟩
    have HG6 := Lib.hid hg6
    have HK6 := Lib.hid hk6
    clear hg6 hk6
    simp only []
    go_wp2_with fail
    go_ret
    exact ⟨rfl, HG6.out, (Kp.of_below HX.out).tr (HK5.out.tr HK6.out)⟩
end
end Go.Proofs.Ythbobooiedcofaa
namespace Go.Proofs.Ythbobooiedcofaa
open Go.RowKit
attribute [local go_sem] cell_set
set_option maxRecDepth 100000
set_option linter.unusedVariables false

theorem u32_infoW : (Try.prog.info? 49).map (fun i => (i.zero, i.size, i.bytes)) = some (some (.int .u32 0), 1, 4) := by kernel_rfl
theorem wvals_snoc (l : List Int) (x : Int) : wvals (l ++ [x]) = wvals l ++ [.int .u32 x] := by simp [wvals]
section
variable (A : Nat) (S : Ars) (FA : List Nat) (w : World)
/-- The document's wiring, being laid. -/
def NR (w : World) (A k : Nat) (W : World) : Prop := Below w.heap.size w W ∧ ∃ (V : Option Addr) (c : Nat), W.heap[w.heap.size]? = some (.cells #[.pointer (some ⟨A, 0, none⟩), .slice V k c] 99 (0, 0)) ∧ Row W 49 1 (.slice V k c) k (wvals (List.replicate k 4294967295)) ∧ ∀ b ∈ ownB (.slice V k c), w.heap.size ≤ b
set_option maxHeartbeats 2000000 in
theorem rw_new_ok (f : Nat) (hf : f ≤ 64) (h : RA w A S FA) :
    Calls Try.prog 14 #[.pointer (some ⟨A, 0, none⟩), .int .i64 (f : Int)] w fun e w' => e = .returned (.tuple #[.pointer (some ⟨w.heap.size, 0, none⟩), .int .i64 0]) ∧ (∃ F', RG w' w.heap.size A (Wir.new S f) F' ∧ ∀ b ∈ F', b ∈ FA ∨ w.heap.size ≤ b) ∧ Below w.heap.size w w' := by
  have HG := Lib.hid h
  obtain ⟨j0, hj0, hj1, hj2, hj3⟩ := info_parts u32_infoW
  have h1 : ¬ (f : Int) < 0 := by omega
  have h2 : ¬ (64 : Int) < (f : Int) := by omega
  go_enter Try.func14, Try.ntmps14
  go_upto_region 4 with fail
  refine absW (fun X => NR w A 0 X) ⟨by (repeat (first | exact Below.refl _ _ | (with_reducible refine Below.drew ?_) | (with_reducible refine Below.alloc ?_ (by (try simp); (try omega)) _) | (with_reducible refine Below.setCell ?_ (by (try simp); (try omega)) _) | (with_reducible refine Below.trans ?_ (Below.mono (by assumption) (by (try simp); (try omega)))))), none, 0, heap_alloc_new _ _, Row.nil _ _ _, by simp [ownB]⟩ ?_
  intro X hX
  have HN0 := Lib.hid hX
  clear hX
  go_wp2_with fail
  go_loopw [7] (fun i wr => ∃ k : Nat, i = .int .i64 k ∧ k ≤ f ∧ Hid (NR w A k wr)) (fun i _ => f - (intOf i).toNat)
  case atStart => exact ⟨0, rfl, Nat.zero_le _, HN0⟩
  case round =>
    obtain ⟨k, rfl, hk, HR⟩ := hrel
    clear HN0
    by_cases hlt : k < f
    · obtain ⟨hb, V, c, hh, hrow, hown⟩ := HR.out
      have k0 : wr.cell? ⟨w.heap.size, 1, none⟩ = some (.slice V k c) := by simp [World.cell?, hh]
      have hsz := heap_lt hh
      have HRw : Hid (Row (wr.alloc (.cells #[.int .u32 4294967295] 49)) 49 1 (.slice V k c) k (wvals (List.replicate k 4294967295))) := hrow.alloc _
      have HSr : Hid (Src (wr.alloc (.cells #[.int .u32 4294967295] 49)) (some ⟨wr.heap.size, 0, none⟩) 1 1 [.int .u32 4294967295]) :=
        Src.block (cs := #[.int .u32 4294967295]) (t := 49) (fr := (0, 0)) (heap_alloc_new wr _) rfl (by simp [Value.oneCell'])
      have hg63 : k + 1 ≤ maxLen := by simp only [maxLen]; omega
      have hg47 : (k + 1) * 4 ≤ 140737488355328 := by omega
      have hbn : w.heap.size ∉ ownB (.slice V k c) := fun hm => by obtain ⟨cur, h2⟩ := hrow.ty hm; exact ty_ne hh h2 (by decide) rfl
      have HH := Lib.hid (And.intro hb (And.intro hh (And.intro hown hbn)))
      clear hb hh hrow hown hbn HR
      go_wp2_with (at_builtin; go_loud (refine inPlain rfl (wpo_row_append _ _ _ rfl j0 _ 4 Try.underlying97 hj0 hj1 hj2 hj3 rfl rfl HRw.out _ 1 1 rfl [.int .u32 4294967295] HSr.out hg63 hg47 ?_)); intro sv5 w7 r5 k5 o5; obtain ⟨V5, cp5, rfl, hc5⟩ := r5.len
                   change Kp (ownB (.slice V k c)) _ w7 at k5
                   have hh7 : w7.heap[w.heap.size]? = some (.cells #[.pointer (some ⟨A, 0, none⟩), .slice V k c] 99 (0, 0)) := (k5.block _ (by simp; omega) HH.out.2.2.2).trans ((Below.heap_alloc _ _ _ hsz).trans HH.out.2.1)
                   have z0 : w7.cell? ⟨w.heap.size, 1, none⟩ = some (.slice V k c) := by simp [World.cell?, hh7]
                   have z1 : w7.frozen? ⟨w.heap.size, 1, none⟩ = false := by simp [World.frozen?, hh7]
                   have HA5 : Hid (NR w A (k + 1) (w7.setCell ⟨w.heap.size, 1, none⟩ (.slice V5 (k + 1) cp5))) := by
                     have hba : Below w.heap.size w (wr.alloc (.cells #[.int .u32 4294967295] 49)) := HH.out.1.alloc HH.out.1.size _
                     have hb7 : Below w.heap.size w w7 := hba.trans (k5.below hba.size (fun b hb => HH.out.2.2.1 b hb))
                     have hown5 : ∀ b ∈ ownB (.slice V5 (k + 1) cp5), w.heap.size ≤ b := fun b hb => by
                       rcases o5 with o5 | o5
                       · rw [o5] at hb; exact HH.out.2.2.1 b hb
                       · rw [o5] at hb; simp at hb; omega
                     refine ⟨hb7.setCell (p := ⟨w.heap.size, 1, none⟩) (Nat.le_refl _) _, V5, cp5, ?_, ?_, hown5⟩
                     · simp [World.setCell, Array.getElem?_modify, hh7]
                     · rw [List.replicate_succ', wvals_snoc]
                       exact r5.keep fun b hb => Below.heap_setCell _ _ _ b (fun e => by
                         obtain ⟨cur, h9⟩ := r5.ty hb
                         exact ty_ne hh7 h9 (by decide) e.symm)
                   clear k5 o5 r5 hh7)
      go_roundw
      case measure => simp [intOf]; omega
      case rel => exact ⟨k + 1, by go_num, by omega, HA5⟩
    · obtain rfl : k = f := by omega
      go_wp2_with fail
      go_ret2
      obtain ⟨hb, V, c, hh, hrow, hown⟩ := HR.out
      have hP : (Wir.new S k).P = List.replicate k 4294967295 := rfl
      refine ⟨rfl, ⟨ownB (.slice V k c) ++ FA, ⟨⟨FA, .slice V k c, hh, ?_, HG.out.below hb, fun b hb2 hm => ?_, rfl⟩, Wir.Ok.new HG.out.ok hf⟩, fun b hb2 => ?_⟩, hb⟩
      · rw [hP, List.length_replicate]; exact hrow
      · have h8 := hown b hb2
        have h9 := HG.out.lt b hm
        omega
      · rcases List.mem_append.1 hb2 with hb2 | hb2
        · exact .inr (hown b hb2)
        · exact .inl hb2
end
end Go.Proofs.Ythbobooiedcofaa
