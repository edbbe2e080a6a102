/-
  skeinref08.Load.
-/
import Derived.Test.YthbobooiedcofaaRWirPut
import Derived.Test.YthbobooiedcofaaWirCut
import Derived.Laws.StructEq
import Derived.Deep.DeepCutAuto
import Derived.Test.YthbobooiedcofaaRWirPut
import Derived.Test.YthbobooiedcofaaLoadC
import Derived.Test.YthbobooiedcofaaRef03C
/-
  The document's wiring: New.
-/
/-
  The document's wiring: Link.
-/
namespace Go.Proofs.Ythbobooiedcofaa
open Go.RowKit
attribute [local go_sem] cell_set
set_option maxRecDepth 100000
set_option linter.unusedVariables false

section
variable (B A : Nat) (S : Wir) (FA : List Nat) (w : World)
set_option maxHeartbeats 2000000 in
theorem rw_link (c s d t : Int) (h : RG w B A S FA) :
    Calls Try.prog 63 #[.pointer (some ⟨B, 0, none⟩), .agg #[.int .i64 c, .int .i64 s], .agg #[.int .i64 d, .int .i64 t]] w fun e w' => e = .returned (.int .i64 (S.linkE (c, s) (d, t))) ∧ RG w' B A (S.link (c, s) (d, t)) FA ∧ Kp (B :: FA) w w' := by
  have HG := Lib.hid h
  have hlt := h.lt
  obtain ⟨a, ha⟩ : ∃ a, S.toE (c, s) = a := ⟨_, rfl⟩
  obtain ⟨b, hb⟩ : ∃ b, S.toE (d, t) = b := ⟨_, rfl⟩
  have hE := linkE_is ha hb
  have ca : a = 0 ∨ a = 30 ∨ a = 32 := ha ▸ Wir.toE_cases S (c, s)
  have cb : b = 0 ∨ b = 30 ∨ b = 32 := hb ▸ Wir.toE_cases S (d, t)
  by_cases h1 : a = 30
  · subst h1
    rw [if_pos (.inl rfl)] at hE
    rw [link_no hE (by decide), hE]
    clear hE ca cb
    have HA := Lib.hid ha
    have HB := Lib.hid hb
    clear ha hb
    go_enter Try.func63, Try.ntmps63
    go_wp2_with fail
    refine (rw_to B A S FA _ c s (HG.out.below (by (repeat (first | exact Below.refl _ _ | (with_reducible refine Below.drew ?_) | (with_reducible refine Below.alloc ?_ (by (try simp); (try omega)) _) | (with_reducible refine Below.setCell ?_ (by (try simp); (try omega)) _) | (with_reducible refine Below.trans ?_ (Below.mono (by assumption) (by (try simp); (try omega))))))))).mono ?_
    rintro e w1 ⟨rfl, hb1⟩
    obtain ⟨hc1, hf1⟩ := bcell hb1; have hz1 := hb1.size; (try simp at hz1); have hz1a : w.heap.size < w1.heap.size := (by omega); have hz1b : w.heap.size + 1 < w1.heap.size := (by omega)
    rw [HA.out]
    simp only []
    go_wp2_with fail
    refine (rw_to B A S FA _ d t (HG.out.below (by (repeat (first | exact Below.refl _ _ | (with_reducible refine Below.drew ?_) | (with_reducible refine Below.alloc ?_ (by (try simp); (try omega)) _) | (with_reducible refine Below.setCell ?_ (by (try simp); (try omega)) _) | (with_reducible refine Below.trans ?_ (Below.mono (by assumption) (by (try simp); (try omega))))))))).mono ?_
    rintro e w2 ⟨rfl, hb2⟩
    obtain ⟨hc2, hf2⟩ := bcell hb2; have hz2 := hb2.size; (try simp at hz2); have hz2a : w.heap.size < w2.heap.size := (by omega); have hz2b : w.heap.size + 1 < w2.heap.size := (by omega); have hz2c : w1.heap.size < w2.heap.size := (by omega)
    rw [HB.out]
    simp only []
    go_wp2_with fail
    go_ret
    exact ⟨rfl, HG.out.below (by (repeat (first | exact Below.refl _ _ | (with_reducible refine Below.drew ?_) | (with_reducible refine Below.alloc ?_ (by (try simp); (try omega)) _) | (with_reducible refine Below.setCell ?_ (by (try simp); (try omega)) _) | (with_reducible refine Below.trans ?_ (Below.mono (by assumption) (by (try simp); (try omega))))))), Kp.of_below (by (repeat (first | exact Below.refl _ _ | (with_reducible refine Below.drew ?_) | (with_reducible refine Below.alloc ?_ (by (try simp); (try omega)) _) | (with_reducible refine Below.setCell ?_ (by (try simp); (try omega)) _) | (with_reducible refine Below.trans ?_ (Below.mono (by assumption) (by (try simp); (try omega)))))))⟩
  have k1 : (a == 30) = false := by rw [beq_eq_false_iff_ne]; exact h1
  by_cases h2 : b = 30
  · subst h2
    rw [if_pos (.inr rfl)] at hE
    rw [link_no hE (by decide), hE]
    clear hE ca cb
    have HA := Lib.hid ha
    have HB := Lib.hid hb
    clear ha hb
    go_enter Try.func63, Try.ntmps63
    go_wp2_with fail
    refine (rw_to B A S FA _ c s (HG.out.below (by (repeat (first | exact Below.refl _ _ | (with_reducible refine Below.drew ?_) | (with_reducible refine Below.alloc ?_ (by (try simp); (try omega)) _) | (with_reducible refine Below.setCell ?_ (by (try simp); (try omega)) _) | (with_reducible refine Below.trans ?_ (Below.mono (by assumption) (by (try simp); (try omega))))))))).mono ?_
    rintro e w1 ⟨rfl, hb1⟩
    obtain ⟨hc1, hf1⟩ := bcell hb1; have hz1 := hb1.size; (try simp at hz1); have hz1a : w.heap.size < w1.heap.size := (by omega); have hz1b : w.heap.size + 1 < w1.heap.size := (by omega)
    rw [HA.out]
    simp only []
    go_wp2_with fail
    refine (rw_to B A S FA _ d t (HG.out.below (by (repeat (first | exact Below.refl _ _ | (with_reducible refine Below.drew ?_) | (with_reducible refine Below.alloc ?_ (by (try simp); (try omega)) _) | (with_reducible refine Below.setCell ?_ (by (try simp); (try omega)) _) | (with_reducible refine Below.trans ?_ (Below.mono (by assumption) (by (try simp); (try omega))))))))).mono ?_
    rintro e w2 ⟨rfl, hb2⟩
    obtain ⟨hc2, hf2⟩ := bcell hb2; have hz2 := hb2.size; (try simp at hz2); have hz2a : w.heap.size < w2.heap.size := (by omega); have hz2b : w.heap.size + 1 < w2.heap.size := (by omega); have hz2c : w1.heap.size < w2.heap.size := (by omega)
    rw [HB.out]
    simp only []
    go_wp2_with fail
    go_ret
    exact ⟨rfl, HG.out.below (by (repeat (first | exact Below.refl _ _ | (with_reducible refine Below.drew ?_) | (with_reducible refine Below.alloc ?_ (by (try simp); (try omega)) _) | (with_reducible refine Below.setCell ?_ (by (try simp); (try omega)) _) | (with_reducible refine Below.trans ?_ (Below.mono (by assumption) (by (try simp); (try omega))))))), Kp.of_below (by (repeat (first | exact Below.refl _ _ | (with_reducible refine Below.drew ?_) | (with_reducible refine Below.alloc ?_ (by (try simp); (try omega)) _) | (with_reducible refine Below.setCell ?_ (by (try simp); (try omega)) _) | (with_reducible refine Below.trans ?_ (Below.mono (by assumption) (by (try simp); (try omega)))))))⟩
  have k2 : (b == 30) = false := by rw [beq_eq_false_iff_ne]; exact h2
  rw [if_neg (by omega)] at hE
  by_cases h3 : (c, s) = ((d, t) : Pt)
  · rw [if_pos (.inl h3)] at hE
    rw [link_no hE (by decide), hE]
    simp only [Prod.mk.injEq] at h3
    obtain ⟨rfl, rfl⟩ := h3
    clear hE ca cb h1 h2
    have HA := Lib.hid ha
    have HB := Lib.hid hb
    clear ha hb
    go_enter Try.func63, Try.ntmps63
    go_wp2_with fail
    refine (rw_to B A S FA _ c s (HG.out.below (by (repeat (first | exact Below.refl _ _ | (with_reducible refine Below.drew ?_) | (with_reducible refine Below.alloc ?_ (by (try simp); (try omega)) _) | (with_reducible refine Below.setCell ?_ (by (try simp); (try omega)) _) | (with_reducible refine Below.trans ?_ (Below.mono (by assumption) (by (try simp); (try omega))))))))).mono ?_
    rintro e w1 ⟨rfl, hb1⟩
    obtain ⟨hc1, hf1⟩ := bcell hb1; have hz1 := hb1.size; (try simp at hz1); have hz1a : w.heap.size < w1.heap.size := (by omega); have hz1b : w.heap.size + 1 < w1.heap.size := (by omega)
    rw [HA.out]
    simp only []
    go_wp2_with fail
    refine (rw_to B A S FA _ c s (HG.out.below (by (repeat (first | exact Below.refl _ _ | (with_reducible refine Below.drew ?_) | (with_reducible refine Below.alloc ?_ (by (try simp); (try omega)) _) | (with_reducible refine Below.setCell ?_ (by (try simp); (try omega)) _) | (with_reducible refine Below.trans ?_ (Below.mono (by assumption) (by (try simp); (try omega))))))))).mono ?_
    rintro e w2 ⟨rfl, hb2⟩
    obtain ⟨hc2, hf2⟩ := bcell hb2; have hz2 := hb2.size; (try simp at hz2); have hz2a : w.heap.size < w2.heap.size := (by omega); have hz2b : w.heap.size + 1 < w2.heap.size := (by omega); have hz2c : w1.heap.size < w2.heap.size := (by omega)
    rw [HB.out]
    simp only []
    go_wp2_with fail
    go_ret
    exact ⟨rfl, HG.out.below (by (repeat (first | exact Below.refl _ _ | (with_reducible refine Below.drew ?_) | (with_reducible refine Below.alloc ?_ (by (try simp); (try omega)) _) | (with_reducible refine Below.setCell ?_ (by (try simp); (try omega)) _) | (with_reducible refine Below.trans ?_ (Below.mono (by assumption) (by (try simp); (try omega))))))), Kp.of_below (by (repeat (first | exact Below.refl _ _ | (with_reducible refine Below.drew ?_) | (with_reducible refine Below.alloc ?_ (by (try simp); (try omega)) _) | (with_reducible refine Below.setCell ?_ (by (try simp); (try omega)) _) | (with_reducible refine Below.trans ?_ (Below.mono (by assumption) (by (try simp); (try omega)))))))⟩
  have h3' := port_ne h3
  by_cases h4 : a = 0
  · subst h4
    rw [if_pos (.inr (.inl rfl))] at hE
    rw [link_no hE (by decide), hE]
    clear hE ca cb h1 h2 h3
    rcases h3' with k3 | ⟨rfl, k3⟩
    · have HA := Lib.hid ha
      have HB := Lib.hid hb
      clear ha hb
      go_enter Try.func63, Try.ntmps63
      go_wp2_with fail
      refine (rw_to B A S FA _ c s (HG.out.below (by (repeat (first | exact Below.refl _ _ | (with_reducible refine Below.drew ?_) | (with_reducible refine Below.alloc ?_ (by (try simp); (try omega)) _) | (with_reducible refine Below.setCell ?_ (by (try simp); (try omega)) _) | (with_reducible refine Below.trans ?_ (Below.mono (by assumption) (by (try simp); (try omega))))))))).mono ?_
      rintro e w1 ⟨rfl, hb1⟩
      obtain ⟨hc1, hf1⟩ := bcell hb1; have hz1 := hb1.size; (try simp at hz1); have hz1a : w.heap.size < w1.heap.size := (by omega); have hz1b : w.heap.size + 1 < w1.heap.size := (by omega)
      rw [HA.out]
      simp only []
      go_wp2_with fail
      refine (rw_to B A S FA _ d t (HG.out.below (by (repeat (first | exact Below.refl _ _ | (with_reducible refine Below.drew ?_) | (with_reducible refine Below.alloc ?_ (by (try simp); (try omega)) _) | (with_reducible refine Below.setCell ?_ (by (try simp); (try omega)) _) | (with_reducible refine Below.trans ?_ (Below.mono (by assumption) (by (try simp); (try omega))))))))).mono ?_
      rintro e w2 ⟨rfl, hb2⟩
      obtain ⟨hc2, hf2⟩ := bcell hb2; have hz2 := hb2.size; (try simp at hz2); have hz2a : w.heap.size < w2.heap.size := (by omega); have hz2b : w.heap.size + 1 < w2.heap.size := (by omega); have hz2c : w1.heap.size < w2.heap.size := (by omega)
      rw [HB.out]
      simp only []
      go_wp2_with fail
      go_ret
      exact ⟨rfl, HG.out.below (by (repeat (first | exact Below.refl _ _ | (with_reducible refine Below.drew ?_) | (with_reducible refine Below.alloc ?_ (by (try simp); (try omega)) _) | (with_reducible refine Below.setCell ?_ (by (try simp); (try omega)) _) | (with_reducible refine Below.trans ?_ (Below.mono (by assumption) (by (try simp); (try omega))))))), Kp.of_below (by (repeat (first | exact Below.refl _ _ | (with_reducible refine Below.drew ?_) | (with_reducible refine Below.alloc ?_ (by (try simp); (try omega)) _) | (with_reducible refine Below.setCell ?_ (by (try simp); (try omega)) _) | (with_reducible refine Below.trans ?_ (Below.mono (by assumption) (by (try simp); (try omega)))))))⟩
    · have HA := Lib.hid ha
      have HB := Lib.hid hb
      clear ha hb
      go_enter Try.func63, Try.ntmps63
      go_wp2_with fail
      refine (rw_to B A S FA _ c s (HG.out.below (by (repeat (first | exact Below.refl _ _ | (with_reducible refine Below.drew ?_) | (with_reducible refine Below.alloc ?_ (by (try simp); (try omega)) _) | (with_reducible refine Below.setCell ?_ (by (try simp); (try omega)) _) | (with_reducible refine Below.trans ?_ (Below.mono (by assumption) (by (try simp); (try omega))))))))).mono ?_
      rintro e w1 ⟨rfl, hb1⟩
      obtain ⟨hc1, hf1⟩ := bcell hb1; have hz1 := hb1.size; (try simp at hz1); have hz1a : w.heap.size < w1.heap.size := (by omega); have hz1b : w.heap.size + 1 < w1.heap.size := (by omega)
      rw [HA.out]
      simp only []
      go_wp2_with fail
      refine (rw_to B A S FA _ c t (HG.out.below (by (repeat (first | exact Below.refl _ _ | (with_reducible refine Below.drew ?_) | (with_reducible refine Below.alloc ?_ (by (try simp); (try omega)) _) | (with_reducible refine Below.setCell ?_ (by (try simp); (try omega)) _) | (with_reducible refine Below.trans ?_ (Below.mono (by assumption) (by (try simp); (try omega))))))))).mono ?_
      rintro e w2 ⟨rfl, hb2⟩
      obtain ⟨hc2, hf2⟩ := bcell hb2; have hz2 := hb2.size; (try simp at hz2); have hz2a : w.heap.size < w2.heap.size := (by omega); have hz2b : w.heap.size + 1 < w2.heap.size := (by omega); have hz2c : w1.heap.size < w2.heap.size := (by omega)
      rw [HB.out]
      simp only []
      go_wp2_with fail
      go_ret
      exact ⟨rfl, HG.out.below (by (repeat (first | exact Below.refl _ _ | (with_reducible refine Below.drew ?_) | (with_reducible refine Below.alloc ?_ (by (try simp); (try omega)) _) | (with_reducible refine Below.setCell ?_ (by (try simp); (try omega)) _) | (with_reducible refine Below.trans ?_ (Below.mono (by assumption) (by (try simp); (try omega))))))), Kp.of_below (by (repeat (first | exact Below.refl _ _ | (with_reducible refine Below.drew ?_) | (with_reducible refine Below.alloc ?_ (by (try simp); (try omega)) _) | (with_reducible refine Below.setCell ?_ (by (try simp); (try omega)) _) | (with_reducible refine Below.trans ?_ (Below.mono (by assumption) (by (try simp); (try omega)))))))⟩
  have k4 : (a == 0) = false := by rw [beq_eq_false_iff_ne]; exact h4
  by_cases h5 : b = 0
  · subst h5
    rw [if_pos (.inr (.inr rfl))] at hE
    rw [link_no hE (by decide), hE]
    clear hE ca cb h1 h2 h3 h4
    rcases h3' with k3 | ⟨rfl, k3⟩
    · have HA := Lib.hid ha
      have HB := Lib.hid hb
      clear ha hb
      go_enter Try.func63, Try.ntmps63
      go_wp2_with fail
      refine (rw_to B A S FA _ c s (HG.out.below (by (repeat (first | exact Below.refl _ _ | (with_reducible refine Below.drew ?_) | (with_reducible refine Below.alloc ?_ (by (try simp); (try omega)) _) | (with_reducible refine Below.setCell ?_ (by (try simp); (try omega)) _) | (with_reducible refine Below.trans ?_ (Below.mono (by assumption) (by (try simp); (try omega))))))))).mono ?_
      rintro e w1 ⟨rfl, hb1⟩
      obtain ⟨hc1, hf1⟩ := bcell hb1; have hz1 := hb1.size; (try simp at hz1); have hz1a : w.heap.size < w1.heap.size := (by omega); have hz1b : w.heap.size + 1 < w1.heap.size := (by omega)
      rw [HA.out]
      simp only []
      go_wp2_with fail
      refine (rw_to B A S FA _ d t (HG.out.below (by (repeat (first | exact Below.refl _ _ | (with_reducible refine Below.drew ?_) | (with_reducible refine Below.alloc ?_ (by (try simp); (try omega)) _) | (with_reducible refine Below.setCell ?_ (by (try simp); (try omega)) _) | (with_reducible refine Below.trans ?_ (Below.mono (by assumption) (by (try simp); (try omega))))))))).mono ?_
      rintro e w2 ⟨rfl, hb2⟩
      obtain ⟨hc2, hf2⟩ := bcell hb2; have hz2 := hb2.size; (try simp at hz2); have hz2a : w.heap.size < w2.heap.size := (by omega); have hz2b : w.heap.size + 1 < w2.heap.size := (by omega); have hz2c : w1.heap.size < w2.heap.size := (by omega)
      rw [HB.out]
      simp only []
      go_wp2_with fail
      go_ret
      exact ⟨rfl, HG.out.below (by (repeat (first | exact Below.refl _ _ | (with_reducible refine Below.drew ?_) | (with_reducible refine Below.alloc ?_ (by (try simp); (try omega)) _) | (with_reducible refine Below.setCell ?_ (by (try simp); (try omega)) _) | (with_reducible refine Below.trans ?_ (Below.mono (by assumption) (by (try simp); (try omega))))))), Kp.of_below (by (repeat (first | exact Below.refl _ _ | (with_reducible refine Below.drew ?_) | (with_reducible refine Below.alloc ?_ (by (try simp); (try omega)) _) | (with_reducible refine Below.setCell ?_ (by (try simp); (try omega)) _) | (with_reducible refine Below.trans ?_ (Below.mono (by assumption) (by (try simp); (try omega)))))))⟩
    · have HA := Lib.hid ha
      have HB := Lib.hid hb
      clear ha hb
      go_enter Try.func63, Try.ntmps63
      go_wp2_with fail
      refine (rw_to B A S FA _ c s (HG.out.below (by (repeat (first | exact Below.refl _ _ | (with_reducible refine Below.drew ?_) | (with_reducible refine Below.alloc ?_ (by (try simp); (try omega)) _) | (with_reducible refine Below.setCell ?_ (by (try simp); (try omega)) _) | (with_reducible refine Below.trans ?_ (Below.mono (by assumption) (by (try simp); (try omega))))))))).mono ?_
      rintro e w1 ⟨rfl, hb1⟩
      obtain ⟨hc1, hf1⟩ := bcell hb1; have hz1 := hb1.size; (try simp at hz1); have hz1a : w.heap.size < w1.heap.size := (by omega); have hz1b : w.heap.size + 1 < w1.heap.size := (by omega)
      rw [HA.out]
      simp only []
      go_wp2_with fail
      refine (rw_to B A S FA _ c t (HG.out.below (by (repeat (first | exact Below.refl _ _ | (with_reducible refine Below.drew ?_) | (with_reducible refine Below.alloc ?_ (by (try simp); (try omega)) _) | (with_reducible refine Below.setCell ?_ (by (try simp); (try omega)) _) | (with_reducible refine Below.trans ?_ (Below.mono (by assumption) (by (try simp); (try omega))))))))).mono ?_
      rintro e w2 ⟨rfl, hb2⟩
      obtain ⟨hc2, hf2⟩ := bcell hb2; have hz2 := hb2.size; (try simp at hz2); have hz2a : w.heap.size < w2.heap.size := (by omega); have hz2b : w.heap.size + 1 < w2.heap.size := (by omega); have hz2c : w1.heap.size < w2.heap.size := (by omega)
      rw [HB.out]
      simp only []
      go_wp2_with fail
      go_ret
      exact ⟨rfl, HG.out.below (by (repeat (first | exact Below.refl _ _ | (with_reducible refine Below.drew ?_) | (with_reducible refine Below.alloc ?_ (by (try simp); (try omega)) _) | (with_reducible refine Below.setCell ?_ (by (try simp); (try omega)) _) | (with_reducible refine Below.trans ?_ (Below.mono (by assumption) (by (try simp); (try omega))))))), Kp.of_below (by (repeat (first | exact Below.refl _ _ | (with_reducible refine Below.drew ?_) | (with_reducible refine Below.alloc ?_ (by (try simp); (try omega)) _) | (with_reducible refine Below.setCell ?_ (by (try simp); (try omega)) _) | (with_reducible refine Below.trans ?_ (Below.mono (by assumption) (by (try simp); (try omega)))))))⟩
  have k5 : (b == 0) = false := by rw [beq_eq_false_iff_ne]; exact h5
  rw [if_neg (fun e => e.elim h3 fun e => e.elim h4 h5)] at hE
  have hL : S.link (c, s) (d, t) = S.join (c, s) (d, t) := by unfold Wir.link; rw [if_pos hE]
  rw [hL, hE]
  have hp : S.wE (c, s) = 0 := (Wir.wE_01 _).resolve_right fun e => h1 (ha ▸ (Wir.toE_30 _).2 (by omega))
  have hq : S.wE (d, t) = 0 := (Wir.wE_01 _).resolve_right fun e => h2 (hb ▸ (Wir.toE_30 _).2 (by omega))
  have H1 := Lib.hid (Wir.pkP_rng h.ok hp)
  have H2 := Lib.hid (Wir.pkP_rng h.ok hq)
  have HF := Lib.hid h.blt
  have HP := Lib.hid hp
  have HQ := Lib.hid hq
  clear hE ca cb h1 h2 h3 h4 h5 hL hp hq
  have HA := Lib.hid ha
  have HB := Lib.hid hb
  clear ha hb
  rcases h3' with k3 | ⟨rfl, k3⟩
  · go_enter Try.func63, Try.ntmps63
    go_wp2_with fail
    refine (rw_to B A S FA _ c s (HG.out.below (by (repeat (first | exact Below.refl _ _ | (with_reducible refine Below.drew ?_) | (with_reducible refine Below.alloc ?_ (by (try simp); (try omega)) _) | (with_reducible refine Below.setCell ?_ (by (try simp); (try omega)) _) | (with_reducible refine Below.trans ?_ (Below.mono (by assumption) (by (try simp); (try omega))))))))).mono ?_
    rintro e w1 ⟨rfl, hb1⟩
    obtain ⟨hc1, hf1⟩ := bcell hb1; have hz1 := hb1.size; (try simp at hz1); have hz1a : w.heap.size < w1.heap.size := (by omega); have hz1b : w.heap.size + 1 < w1.heap.size := (by omega)
    rw [HA.out]
    simp only []
    go_wp2_with fail
    refine (rw_to B A S FA _ d t (HG.out.below (by (repeat (first | exact Below.refl _ _ | (with_reducible refine Below.drew ?_) | (with_reducible refine Below.alloc ?_ (by (try simp); (try omega)) _) | (with_reducible refine Below.setCell ?_ (by (try simp); (try omega)) _) | (with_reducible refine Below.trans ?_ (Below.mono (by assumption) (by (try simp); (try omega))))))))).mono ?_
    rintro e w2 ⟨rfl, hb2⟩
    obtain ⟨hc2, hf2⟩ := bcell hb2; have hz2 := hb2.size; (try simp at hz2); have hz2a : w.heap.size < w2.heap.size := (by omega); have hz2b : w.heap.size + 1 < w2.heap.size := (by omega); have hz2c : w1.heap.size < w2.heap.size := (by omega)
    rw [HB.out]
    simp only []
    go_wp2_with fail
    refine (pack_anyR c s _).mono ?_
    rintro e w3 ⟨rfl, hb3⟩
    obtain ⟨hc3, hf3⟩ := bcell hb3; have hz3 := hb3.size; (try simp at hz3); have hz3a : w.heap.size < w3.heap.size := (by omega); have hz3b : w.heap.size + 1 < w3.heap.size := (by omega); have hz3c : w1.heap.size < w3.heap.size := (by omega); have hz3d : w2.heap.size < w3.heap.size := (by omega)
    simp only []
    go_wp2_with fail
    refine (pack_anyR d t _).mono ?_
    rintro e w4 ⟨rfl, hb4⟩
    obtain ⟨hc4, hf4⟩ := bcell hb4; have hz4 := hb4.size; (try simp at hz4); have hz4a : w.heap.size < w4.heap.size := (by omega); have hz4b : w.heap.size + 1 < w4.heap.size := (by omega); have hz4c : w1.heap.size < w4.heap.size := (by omega); have hz4d : w2.heap.size < w4.heap.size := (by omega)
    simp only []
    go_wp2_with fail
    refine (rw_put B A S FA _ c s (pkW d t) H2.out HP.out (HG.out.below (by (repeat (first | exact Below.refl _ _ | (with_reducible refine Below.drew ?_) | (with_reducible refine Below.alloc ?_ (by (try simp); (try omega)) _) | (with_reducible refine Below.setCell ?_ (by (try simp); (try omega)) _) | (with_reducible refine Below.trans ?_ (Below.mono (by assumption) (by (try simp); (try omega))))))))).mono ?_
    rintro e w5 ⟨⟨r5, rfl⟩, hg5, hk5⟩
    have HG5 := Lib.hid hg5
    have HK5 := Lib.hid hk5
    have n1 : w.heap.size + 1 ∉ B :: FA := fun hm => by have := HF.out _ hm; omega
    obtain ⟨m0, f0⟩ := hk5.box (b := w.heap.size + 1) (by omega) n1
    have hz5 := hk5.size
    have hX : Below w.heap.size w w4 := by (repeat (first | exact Below.refl _ _ | (with_reducible refine Below.drew ?_) | (with_reducible refine Below.alloc ?_ (by (try simp); (try omega)) _) | (with_reducible refine Below.setCell ?_ (by (try simp); (try omega)) _) | (with_reducible refine Below.trans ?_ (Below.mono (by assumption) (by (try simp); (try omega))))))
    have HX := Lib.hid hX
    clear hg5 hk5 hX
    simp only []
    go_wp2_with fail
    refine (rw_put B A (S.put (c, s) (pkW d t)) FA _ d t (pkW c s) H1.out (by rw [Wir.put_wE]; exact HQ.out) HG5.out).mono ?_
    rintro e w6 ⟨⟨r6, rfl⟩, hg6, hk6⟩
    have HG6 := Lib.hid hg6
    have HK6 := Lib.hid hk6
    clear hg6 hk6
    simp only []
    go_wp2_with fail
    go_ret
    exact ⟨rfl, HG6.out, (Kp.of_below HX.out).tr (HK5.out.tr HK6.out)⟩
  · go_enter Try.func63, Try.ntmps63
    go_wp2_with fail
    refine (rw_to B A S FA _ c s (HG.out.below (by (repeat (first | exact Below.refl _ _ | (with_reducible refine Below.drew ?_) | (with_reducible refine Below.alloc ?_ (by (try simp); (try omega)) _) | (with_reducible refine Below.setCell ?_ (by (try simp); (try omega)) _) | (with_reducible refine Below.trans ?_ (Below.mono (by assumption) (by (try simp); (try omega))))))))).mono ?_
    rintro e w1 ⟨rfl, hb1⟩
    obtain ⟨hc1, hf1⟩ := bcell hb1; have hz1 := hb1.size; (try simp at hz1); have hz1a : w.heap.size < w1.heap.size := (by omega); have hz1b : w.heap.size + 1 < w1.heap.size := (by omega)
    rw [HA.out]
    simp only []
    go_wp2_with fail
    refine (rw_to B A S FA _ c t (HG.out.below (by (repeat (first | exact Below.refl _ _ | (with_reducible refine Below.drew ?_) | (with_reducible refine Below.alloc ?_ (by (try simp); (try omega)) _) | (with_reducible refine Below.setCell ?_ (by (try simp); (try omega)) _) | (with_reducible refine Below.trans ?_ (Below.mono (by assumption) (by (try simp); (try omega))))))))).mono ?_
    rintro e w2 ⟨rfl, hb2⟩
    obtain ⟨hc2, hf2⟩ := bcell hb2; have hz2 := hb2.size; (try simp at hz2); have hz2a : w.heap.size < w2.heap.size := (by omega); have hz2b : w.heap.size + 1 < w2.heap.size := (by omega); have hz2c : w1.heap.size < w2.heap.size := (by omega)
    rw [HB.out]
    simp only []
    go_wp2_with fail
    refine (pack_anyR c s _).mono ?_
    rintro e w3 ⟨rfl, hb3⟩
    obtain ⟨hc3, hf3⟩ := bcell hb3; have hz3 := hb3.size; (try simp at hz3); have hz3a : w.heap.size < w3.heap.size := (by omega); have hz3b : w.heap.size + 1 < w3.heap.size := (by omega); have hz3c : w1.heap.size < w3.heap.size := (by omega); have hz3d : w2.heap.size < w3.heap.size := (by omega)
    simp only []
    go_wp2_with fail
    refine (pack_anyR c t _).mono ?_
    rintro e w4 ⟨rfl, hb4⟩
    obtain ⟨hc4, hf4⟩ := bcell hb4; have hz4 := hb4.size; (try simp at hz4); have hz4a : w.heap.size < w4.heap.size := (by omega); have hz4b : w.heap.size + 1 < w4.heap.size := (by omega); have hz4c : w1.heap.size < w4.heap.size := (by omega); have hz4d : w2.heap.size < w4.heap.size := (by omega)
    simp only []
    go_wp2_with fail
    refine (rw_put B A S FA _ c s (pkW c t) H2.out HP.out (HG.out.below (by (repeat (first | exact Below.refl _ _ | (with_reducible refine Below.drew ?_) | (with_reducible refine Below.alloc ?_ (by (try simp); (try omega)) _) | (with_reducible refine Below.setCell ?_ (by (try simp); (try omega)) _) | (with_reducible refine Below.trans ?_ (Below.mono (by assumption) (by (try simp); (try omega))))))))).mono ?_
    rintro e w5 ⟨⟨r5, rfl⟩, hg5, hk5⟩
    have HG5 := Lib.hid hg5
    have HK5 := Lib.hid hk5
    have n1 : w.heap.size + 1 ∉ B :: FA := fun hm => by have := HF.out _ hm; omega
    obtain ⟨m0, f0⟩ := hk5.box (b := w.heap.size + 1) (by omega) n1
    have hz5 := hk5.size
    have hX : Below w.heap.size w w4 := by (repeat (first | exact Below.refl _ _ | (with_reducible refine Below.drew ?_) | (with_reducible refine Below.alloc ?_ (by (try simp); (try omega)) _) | (with_reducible refine Below.setCell ?_ (by (try simp); (try omega)) _) | (with_reducible refine Below.trans ?_ (Below.mono (by assumption) (by (try simp); (try omega))))))
    have HX := Lib.hid hX
    clear hg5 hk5 hX
    simp only []
    go_wp2_with fail
    refine (rw_put B A (S.put (c, s) (pkW c t)) FA _ c t (pkW c s) H1.out (by rw [Wir.put_wE]; exact HQ.out) HG5.out).mono ?_
    rintro e w6 ⟨⟨r6, rfl⟩, hg6, hk6⟩
    have HG6 := Lib.hid hg6
    have HK6 := Lib.hid hk6
    clear hg6 hk6
    simp only []
    go_wp2_with fail
    go_ret
    exact ⟨rfl, HG6.out, (Kp.of_below HX.out).tr (HK5.out.tr HK6.out)⟩
end
end Go.Proofs.Ythbobooiedcofaa
namespace Go.Proofs.Ythbobooiedcofaa
open Go.RowKit
attribute [local go_sem] cell_set
set_option maxRecDepth 100000
set_option linter.unusedVariables false

theorem u32_infoW : (Try.prog.info? 49).map (fun i => (i.zero, i.size, i.bytes)) = some (some (.int .u32 0), 1, 4) := by kernel_rfl
theorem wvals_snoc (l : List Int) (x : Int) : wvals (l ++ [x]) = wvals l ++ [.int .u32 x] := by simp [wvals]
section
variable (A : Nat) (S : Ars) (FA : List Nat) (w : World)
theorem rw_new_bad (free : Int) (hf : free < 0 ∨ 64 < free) (p : Value) :
    Calls Try.prog 14 #[p, .int .i64 free] w fun e w' => e = .returned (.tuple #[.pointer none, .int .i64 1]) ∧ Below w.heap.size w w' := by
  rcases (by omega : free < 0 ∨ (¬ free < 0 ∧ 64 < free)) with h1 | ⟨h1, h2⟩
  all_goals
    go_enter Try.func14, Try.ntmps14
    go_wp2_with fail
    go_ret2
    exact ⟨rfl, Below.refl _ _⟩
/-- The document's wiring, being laid. -/
def NR (w : World) (A k : Nat) (W : World) : Prop := Below w.heap.size w W ∧ ∃ (V : Option Addr) (c : Nat), W.heap[w.heap.size]? = some (.cells #[.pointer (some ⟨A, 0, none⟩), .slice V k c] 99 (0, 0)) ∧ Row W 49 1 (.slice V k c) k (wvals (List.replicate k 4294967295)) ∧ ∀ b ∈ ownB (.slice V k c), w.heap.size ≤ b
set_option maxHeartbeats 2000000 in
theorem rw_new_ok (f : Nat) (hf : f ≤ 64) (h : RA w A S FA) :
    Calls Try.prog 14 #[.pointer (some ⟨A, 0, none⟩), .int .i64 (f : Int)] w fun e w' => e = .returned (.tuple #[.pointer (some ⟨w.heap.size, 0, none⟩), .int .i64 0]) ∧ (∃ F', RG w' w.heap.size A (Wir.new S f) F' ∧ ∀ b ∈ F', b ∈ FA ∨ w.heap.size ≤ b) ∧ Below w.heap.size w w' := by
  have HG := Lib.hid h
  obtain ⟨j0, hj0, hj1, hj2, hj3⟩ := info_parts u32_infoW
  have h1 : ¬ (f : Int) < 0 := by omega
  have h2 : ¬ (64 : Int) < (f : Int) := by omega
  go_enter Try.func14, Try.ntmps14
  go_upto_region 4 with fail
  refine absW (fun X => NR w A 0 X) ⟨by (repeat (first | exact Below.refl _ _ | (with_reducible refine Below.drew ?_) | (with_reducible refine Below.alloc ?_ (by (try simp); (try omega)) _) | (with_reducible refine Below.setCell ?_ (by (try simp); (try omega)) _) | (with_reducible refine Below.trans ?_ (Below.mono (by assumption) (by (try simp); (try omega)))))), none, 0, heap_alloc_new _ _, Row.nil _ _ _, by simp [ownB]⟩ ?_
  intro X hX
  have HN0 := Lib.hid hX
  clear hX
  go_wp2_with fail
  go_loopw [7] (fun i wr => ∃ k : Nat, i = .int .i64 k ∧ k ≤ f ∧ Hid (NR w A k wr)) (fun i _ => f - (intOf i).toNat)
  case atStart => exact ⟨0, rfl, Nat.zero_le _, HN0⟩
  case round =>
    obtain ⟨k, rfl, hk, HR⟩ := hrel
    clear HN0
    by_cases hlt : k < f
    · obtain ⟨hb, V, c, hh, hrow, hown⟩ := HR.out
      have k0 : wr.cell? ⟨w.heap.size, 1, none⟩ = some (.slice V k c) := by simp [World.cell?, hh]
      have hsz := heap_lt hh
      have HRw : Hid (Row (wr.alloc (.cells #[.int .u32 4294967295] 49)) 49 1 (.slice V k c) k (wvals (List.replicate k 4294967295))) := hrow.alloc _
      have HSr : Hid (Src (wr.alloc (.cells #[.int .u32 4294967295] 49)) (some ⟨wr.heap.size, 0, none⟩) 1 1 [.int .u32 4294967295]) :=
        Src.block (cs := #[.int .u32 4294967295]) (t := 49) (fr := (0, 0)) (heap_alloc_new wr _) rfl (by simp [Value.oneCell'])
      have hg63 : k + 1 ≤ maxLen := by simp only [maxLen]; omega
      have hg47 : (k + 1) * 4 ≤ 140737488355328 := by omega
      have hbn : w.heap.size ∉ ownB (.slice V k c) := fun hm => by obtain ⟨cur, h2⟩ := hrow.ty hm; exact ty_ne hh h2 (by decide) rfl
      have HH := Lib.hid (And.intro hb (And.intro hh (And.intro hown hbn)))
      clear hb hh hrow hown hbn HR
      go_wp2_with (at_builtin; go_loud (refine inPlain rfl (wpo_row_append _ _ _ rfl j0 _ 4 Try.underlying97 hj0 hj1 hj2 hj3 rfl rfl HRw.out _ 1 1 rfl [.int .u32 4294967295] HSr.out hg63 hg47 ?_)); intro sv5 w7 r5 k5 o5; obtain ⟨V5, cp5, rfl, hc5⟩ := r5.len
                   change Kp (ownB (.slice V k c)) _ w7 at k5
                   have hh7 : w7.heap[w.heap.size]? = some (.cells #[.pointer (some ⟨A, 0, none⟩), .slice V k c] 99 (0, 0)) := (k5.block _ (by simp; omega) HH.out.2.2.2).trans ((Below.heap_alloc _ _ _ hsz).trans HH.out.2.1)
                   have z0 : w7.cell? ⟨w.heap.size, 1, none⟩ = some (.slice V k c) := by simp [World.cell?, hh7]
                   have z1 : w7.frozen? ⟨w.heap.size, 1, none⟩ = false := by simp [World.frozen?, hh7]
                   have HA5 : Hid (NR w A (k + 1) (w7.setCell ⟨w.heap.size, 1, none⟩ (.slice V5 (k + 1) cp5))) := by
                     have hba : Below w.heap.size w (wr.alloc (.cells #[.int .u32 4294967295] 49)) := HH.out.1.alloc HH.out.1.size _
                     have hb7 : Below w.heap.size w w7 := hba.trans (k5.below hba.size (fun b hb => HH.out.2.2.1 b hb))
                     have hown5 : ∀ b ∈ ownB (.slice V5 (k + 1) cp5), w.heap.size ≤ b := fun b hb => by
                       rcases o5 with o5 | o5
                       · rw [o5] at hb; exact HH.out.2.2.1 b hb
                       · rw [o5] at hb; simp at hb; omega
                     refine ⟨hb7.setCell (p := ⟨w.heap.size, 1, none⟩) (Nat.le_refl _) _, V5, cp5, ?_, ?_, hown5⟩
                     · simp [World.setCell, Array.getElem?_modify, hh7]
                     · rw [List.replicate_succ', wvals_snoc]
                       exact r5.keep fun b hb => Below.heap_setCell _ _ _ b (fun e => by
                         obtain ⟨cur, h9⟩ := r5.ty hb
                         exact ty_ne hh7 h9 (by decide) e.symm)
                   clear k5 o5 r5 hh7)
      go_roundw
      case measure => simp [intOf]; omega
      case rel => exact ⟨k + 1, by go_num, by omega, HA5⟩
    · obtain rfl : k = f := by omega
      go_wp2_with fail
      go_ret2
      obtain ⟨hb, V, c, hh, hrow, hown⟩ := HR.out
      have hP : (Wir.new S k).P = List.replicate k 4294967295 := rfl
      refine ⟨rfl, ⟨ownB (.slice V k c) ++ FA, ⟨⟨FA, .slice V k c, hh, ?_, HG.out.below hb, fun b hb2 hm => ?_, rfl⟩, Wir.Ok.new HG.out.ok hf⟩, fun b hb2 => ?_⟩, hb⟩
      · rw [hP, List.length_replicate]; exact hrow
      · have h8 := hown b hb2
        have h9 := HG.out.lt b hm
        omega
      · rcases List.mem_append.1 hb2 with hb2 | hb2
        · exact .inr (hown b hb2)
        · exact .inl hb2
end
end Go.Proofs.Ythbobooiedcofaa
namespace Go.Proofs.Ythbobooiedcofaa
open Go.RowKit
attribute [local go_sem] cell_set
set_option maxRecDepth 100000
set_option linter.unusedVariables false

/-- The document's arena in new memory; its wiring. -/
structure OR (w0 : World) (A : Nat) (S : Ars) (W : World) : Prop where
  f : ∃ FA, RA W A S FA ∧ ∀ b ∈ FA, w0.heap.size ≤ b
  b : Below w0.heap.size w0 W
structure OX (w0 : World) (B A : Nat) (S : Wir) (W : World) : Prop where
  f : ∃ FA, RG W B A S FA ∧ ∀ b ∈ B :: FA, w0.heap.size ≤ b
  b : Below w0.heap.size w0 W
section
variable {w0 W W' : World} {B A : Nat} {S S' : Wir}
theorem OR.kept {S : Ars} (h : OR w0 A S W) (hb : Below W.heap.size W W') : OR w0 A S W' := by
  obtain ⟨⟨FA, hg, hf⟩, hw⟩ := h
  exact ⟨⟨FA, hg.below hb, hf⟩, hw.trans (hb.mono hw.size)⟩
theorem OX.kept (h : OX w0 B A S W) (hb : Below W.heap.size W W') : OX w0 B A S W' := by
  obtain ⟨⟨FA, hg, hf⟩, hw⟩ := h
  exact ⟨⟨FA, hg.below hb, hf⟩, hw.trans (hb.mono hw.size)⟩
theorem OX.step {FA : List Nat} (hw : Below w0.heap.size w0 W) (hf : ∀ b ∈ B :: FA, w0.heap.size ≤ b) (h1 : ∃ FA', RG W' B A S' FA' ∧ ∀ b ∈ FA', b ∈ FA ∨ W.heap.size ≤ b) (h2 : Kp (B :: FA) W W') : OX w0 B A S' W' := by
  obtain ⟨FA', hg, hn⟩ := h1
  refine ⟨⟨FA', hg, fun b hb => ?_⟩, hw.trans (h2.below hw.size hf)⟩
  rcases List.mem_cons.1 hb with rfl | hb
  · exact hf b (by simp)
  · rcases hn b hb with hb | hb
    · exact hf b (by simp [hb])
    · exact Nat.le_trans hw.size hb
theorem or_take {S : Ars} (h : OR w0 A S W) (ag ar : Int) : Calls Try.prog 52 #[.pointer (some ⟨A, 0, none⟩), .int .i64 ag, .int .i64 ar] W fun e w' => e = .returned (.tuple #[.int .i64 (S.takeC ag ar), .int .i64 (S.takeE ag ar)]) ∧ OR w0 A (S.take ag ar) w' := by
  obtain ⟨⟨FA, hg, hf⟩, hw⟩ := h
  refine (rr_take A S FA ag ar W hg).mono fun e w' ⟨he, ⟨F', h1, hn⟩, h2⟩ => ⟨he, ⟨F', h1, fun b hb => ?_⟩, hw.trans (h2.below hw.size hf)⟩
  rcases hn b hb with hb | hb
  · exact hf b hb
  · exact Nat.le_trans hw.size hb
theorem ox_link (h : OX w0 B A S W) (c s d t : Int) : Calls Try.prog 63 #[.pointer (some ⟨B, 0, none⟩), .agg #[.int .i64 c, .int .i64 s], .agg #[.int .i64 d, .int .i64 t]] W fun e w' => e = .returned (.int .i64 (S.linkE (c, s) (d, t))) ∧ OX w0 B A (S.link (c, s) (d, t)) w' := by
  obtain ⟨⟨FA, hg, hf⟩, hw⟩ := h
  exact (rw_link B A S FA W c s d t hg).mono fun e w' ⟨he, h1, h2⟩ => ⟨he, OX.step hw hf ⟨FA, h1, fun b hb => .inl hb⟩ h2⟩
end
theorem nbox_at (X : World) (V1 : Option Addr) (n1 c1 : Nat) (f : Int) (V2 : Option Addr) (n2 c2 : Nat) : NBox (X.alloc (.cells #[.slice V1 n1 c1, .int .i64 f, .slice V2 n2 c2] 67)) X.heap.size V1 n1 c1 f V2 n2 c2 := ⟨by simp, by go_simp, by go_simp, by go_simp⟩
section
variable (A : Option Addr) (n cap : Nat) (L : List (ByteArray × Int)) (VA VB : Option Addr) (ca cb : Nat) (cells : List Int) (free : Int) (W : List (Pt × Pt)) (most : Int) (w : World)
set_option maxHeartbeats 1000000 in
theorem rload_bad1 (hn : n = L.length) (hcap : L.length ≤ cap) (HL : Hid (AgRd w A L)) (hl : L.length ≤ maxLen) (HC : Hid (IntsRd w VA cells)) (HW : Hid (WrRd w VB W)) (hc : cells.length ≤ 10000) (hw : W.length ≤ 40000)
    (hk : (netChk (pnL L) L.length (chk L) cells free W).1 ≠ 0) :
    Calls Try.prog 37 #[.slice A n cap, netV VA ca cells free VB cb W, .int .i64 most] w (LdBad w (netChk (pnL L) L.length (chk L) cells free W).1) := by
  subst hn
  generalize hK : netChk (pnL L) L.length (chk L) cells free W = K at hk
  have hkb : (K.1 != 0) = true := by simpa using hk
  have HK := Lib.hid hK
  clear hK hk
  have HLz : Hid (∀ X, Below w.heap.size w X → AgRd X A L) := fun X h => HL.out.below h
  have HCz : Hid (∀ X, Below w.heap.size w X → IntsRd X VA cells) := fun X h => HC.out.below h
  have HWz : Hid (∀ X, Below w.heap.size w X → WrRd X VB W) := fun X h => HW.out.below h
  unfold netV
  go_enter Try.func37, Try.ntmps37
  go_wp2_with fail
  refine (rcheck3 A _ cap L VA VB ca cb cells free W _ rfl hcap (Lib.hid (HLz.out _ (by (repeat (first | exact Below.refl _ _ | (with_reducible refine Below.drew ?_) | (with_reducible refine Below.alloc ?_ (by (try simp); (try omega)) _) | (with_reducible refine Below.setCell ?_ (by (try simp); (try omega)) _) | (with_reducible refine Below.trans ?_ (Below.mono (by assumption) (by (try simp); (try omega))))))))) hl (Lib.hid (HCz.out _ (by (repeat (first | exact Below.refl _ _ | (with_reducible refine Below.drew ?_) | (with_reducible refine Below.alloc ?_ (by (try simp); (try omega)) _) | (with_reducible refine Below.setCell ?_ (by (try simp); (try omega)) _) | (with_reducible refine Below.trans ?_ (Below.mono (by assumption) (by (try simp); (try omega))))))))) (Lib.hid (HWz.out _ (by (repeat (first | exact Below.refl _ _ | (with_reducible refine Below.drew ?_) | (with_reducible refine Below.alloc ?_ (by (try simp); (try omega)) _) | (with_reducible refine Below.setCell ?_ (by (try simp); (try omega)) _) | (with_reducible refine Below.trans ?_ (Below.mono (by assumption) (by (try simp); (try omega))))))))) hc hw).mono ?_
  rintro e w1 ⟨rfl, hb1⟩
  have HN1 : Hid (NBox w1 w.heap.size VA cells.length ca free VB W.length cb) := (nbox_at w VA cells.length ca free VB W.length cb).below hb1
  have HB1 := Lib.hid (((Below.refl _ w).alloc (Nat.le_refl _) (.cells #[.slice VA cells.length ca, .int .i64 free, .slice VB W.length cb] 67)).trans (hb1.mono (by simp)))
  clear hb1
  rw [HK.out]
  simp only []
  go_wp2_with fail
  go_ret2
  exact ⟨rfl, HB1.out⟩
set_option maxHeartbeats 1000000 in
theorem rload_bad2 (hn : n = L.length) (hcap : L.length ≤ cap) (HL : Hid (AgRd w A L)) (hl : L.length ≤ maxLen) (HC : Hid (IntsRd w VA cells)) (HW : Hid (WrRd w VB W)) (hc : cells.length ≤ 10000) (hw : W.length ≤ 40000)
    (hk : (netChk (pnL L) L.length (chk L) cells free W).1 = 0) (h1 : most < 1 ∨ 4096 < most) :
    Calls Try.prog 37 #[.slice A n cap, netV VA ca cells free VB cb W, .int .i64 most] w (LdBad w 1) := by
  subst hn
  have H1 := Lib.hid h1
  clear h1
  have HK := Lib.hid hk
  clear hk
  have HLz : Hid (∀ X, Below w.heap.size w X → AgRd X A L) := fun X h => HL.out.below h
  have HCz : Hid (∀ X, Below w.heap.size w X → IntsRd X VA cells) := fun X h => HC.out.below h
  have HWz : Hid (∀ X, Below w.heap.size w X → WrRd X VB W) := fun X h => HW.out.below h
  unfold netV
  go_enter Try.func37, Try.ntmps37
  go_wp2_with fail
  refine (rcheck3 A _ cap L VA VB ca cb cells free W _ rfl hcap (Lib.hid (HLz.out _ (by (repeat (first | exact Below.refl _ _ | (with_reducible refine Below.drew ?_) | (with_reducible refine Below.alloc ?_ (by (try simp); (try omega)) _) | (with_reducible refine Below.setCell ?_ (by (try simp); (try omega)) _) | (with_reducible refine Below.trans ?_ (Below.mono (by assumption) (by (try simp); (try omega))))))))) hl (Lib.hid (HCz.out _ (by (repeat (first | exact Below.refl _ _ | (with_reducible refine Below.drew ?_) | (with_reducible refine Below.alloc ?_ (by (try simp); (try omega)) _) | (with_reducible refine Below.setCell ?_ (by (try simp); (try omega)) _) | (with_reducible refine Below.trans ?_ (Below.mono (by assumption) (by (try simp); (try omega))))))))) (Lib.hid (HWz.out _ (by (repeat (first | exact Below.refl _ _ | (with_reducible refine Below.drew ?_) | (with_reducible refine Below.alloc ?_ (by (try simp); (try omega)) _) | (with_reducible refine Below.setCell ?_ (by (try simp); (try omega)) _) | (with_reducible refine Below.trans ?_ (Below.mono (by assumption) (by (try simp); (try omega))))))))) hc hw).mono ?_
  rintro e w1 ⟨rfl, hb1⟩
  have HN1 : Hid (NBox w1 w.heap.size VA cells.length ca free VB W.length cb) := (nbox_at w VA cells.length ca free VB W.length cb).below hb1
  have HB1 := Lib.hid (((Below.refl _ w).alloc (Nat.le_refl _) (.cells #[.slice VA cells.length ca, .int .i64 free, .slice VB W.length cb] 67)).trans (hb1.mono (by simp)))
  clear hb1
  rw [HK.out]
  obtain ⟨hnl, n0, n1, n2⟩ := HN1.out
  simp only []
  go_wp2_with fail
  refine (rr_new_bad most H1.out _).mono ?_
  rintro e w2 ⟨rfl, rfl⟩
  clear n0 n1 n2 hnl
  simp only []
  go_wp2_with fail
  go_ret2
  exact ⟨rfl, HB1.out⟩
set_option maxHeartbeats 1000000 in
theorem rload_full (m : Nat) (hn : n = L.length) (hcap : L.length ≤ cap) (HL : Hid (AgRd w A L)) (hl : L.length ≤ maxLen) (HC : Hid (IntsRd w VA cells)) (HW : Hid (WrRd w VB W)) (hc : cells.length ≤ 10000) (hw : W.length ≤ 40000)
    (hk : (netChk (pnL L) L.length (chk L) cells free W).1 = 0) (h1 : 1 ≤ m) (h2 : m ≤ 4096) (h3 : m < cells.length) :
    Calls Try.prog 37 #[.slice A n cap, netV VA ca cells free VB cb W, .int .i64 (m : Int)] w (LdBad w 40) := by
  subst hn
  have h3' : ((m : Int) < (cells.length : Int)) := by omega
  have HK := Lib.hid hk
  clear hk
  have HLz : Hid (∀ X, Below w.heap.size w X → AgRd X A L) := fun X h => HL.out.below h
  have HCz : Hid (∀ X, Below w.heap.size w X → IntsRd X VA cells) := fun X h => HC.out.below h
  have HWz : Hid (∀ X, Below w.heap.size w X → WrRd X VB W) := fun X h => HW.out.below h
  unfold netV
  go_enter Try.func37, Try.ntmps37
  go_wp2_with fail
  refine (rcheck3 A _ cap L VA VB ca cb cells free W _ rfl hcap (Lib.hid (HLz.out _ (by (repeat (first | exact Below.refl _ _ | (with_reducible refine Below.drew ?_) | (with_reducible refine Below.alloc ?_ (by (try simp); (try omega)) _) | (with_reducible refine Below.setCell ?_ (by (try simp); (try omega)) _) | (with_reducible refine Below.trans ?_ (Below.mono (by assumption) (by (try simp); (try omega))))))))) hl (Lib.hid (HCz.out _ (by (repeat (first | exact Below.refl _ _ | (with_reducible refine Below.drew ?_) | (with_reducible refine Below.alloc ?_ (by (try simp); (try omega)) _) | (with_reducible refine Below.setCell ?_ (by (try simp); (try omega)) _) | (with_reducible refine Below.trans ?_ (Below.mono (by assumption) (by (try simp); (try omega))))))))) (Lib.hid (HWz.out _ (by (repeat (first | exact Below.refl _ _ | (with_reducible refine Below.drew ?_) | (with_reducible refine Below.alloc ?_ (by (try simp); (try omega)) _) | (with_reducible refine Below.setCell ?_ (by (try simp); (try omega)) _) | (with_reducible refine Below.trans ?_ (Below.mono (by assumption) (by (try simp); (try omega))))))))) hc hw).mono ?_
  rintro e w1 ⟨rfl, hb1⟩
  have HN1 : Hid (NBox w1 w.heap.size VA cells.length ca free VB W.length cb) := (nbox_at w VA cells.length ca free VB W.length cb).below hb1
  have HB1 := Lib.hid (((Below.refl _ w).alloc (Nat.le_refl _) (.cells #[.slice VA cells.length ca, .int .i64 free, .slice VB W.length cb] 67)).trans (hb1.mono (by simp)))
  clear hb1
  rw [HK.out]
  obtain ⟨hnl, n0, n1, n2⟩ := HN1.out
  simp only []
  go_wp2_with fail
  refine (rr_new_ok m h1 h2 w1).mono ?_
  rintro e w2 ⟨rfl, hb2, _⟩
  have HB2 := Lib.hid (HB1.out.trans (hb2.mono HB1.out.size))
  have HN2 := Lib.hid (HN1.out.below hb2)
  clear n0 n1 n2 hnl hb2
  obtain ⟨hnl, n0, n1, n2⟩ := HN2.out
  simp only []
  go_wp2_with fail
  go_ret2
  exact ⟨rfl, HB2.out⟩
set_option maxHeartbeats 4000000 in
theorem rload_good (hn : n = L.length) (hcap : L.length ≤ cap) (HL : Hid (AgRd w A L)) (hl : L.length ≤ maxLen) (HC : Hid (IntsRd w VA cells)) (HW : Hid (WrRd w VB W)) (hc : cells.length ≤ 10000) (hw : W.length ≤ 40000)
    (hk : (netChk (pnL L) L.length (chk L) cells free W).1 = 0) (h1 : 1 ≤ most) (h2 : most ≤ 4096) (h3 : (cells.length : Int) ≤ most) :
    Calls Try.prog 37 #[.slice A n cap, netV VA ca cells free VB cb W, .int .i64 most] w fun e w' => ∃ B A', e = .returned (.tuple #[.pointer (some ⟨B, 0, none⟩), .int .i64 0]) ∧ OX w B A' (((Wir.new (tookA most.toNat (arL L) cells) free.toNat)).linkAll W) w' := by
  subst hn
  obtain ⟨hz, hc4, hf0, hf64, hag, hok⟩ := netChk_ok hk
  obtain ⟨f, rfl⟩ := Int.eq_ofNat_of_zero_le hf0
  obtain ⟨m, rfl⟩ := Int.eq_ofNat_of_zero_le (by omega : 0 ≤ most)
  have hs := chk_sig hz
  have HS := Lib.hid hs
  have HAG := Lib.hid hag
  rw [show ((f : Int)).toNat = f from rfl, show ((m : Int)).toNat = m from rfl]
  clear hok hz hag hs hf0 hf64
  have h3' : ¬ ((m : Int) < (cells.length : Int)) := by omega
  have h3n : decide (m < cells.length) = false := by simp; omega
  have hf64 : f ≤ 64 := by have := (netChk_ok hk).2.2.2.1; omega
  have HK := Lib.hid hk
  clear hk
  have HLz : Hid (∀ X, Below w.heap.size w X → AgRd X A L) := fun X h => HL.out.below h
  have HCz : Hid (∀ X, Below w.heap.size w X → IntsRd X VA cells) := fun X h => HC.out.below h
  have HWz : Hid (∀ X, Below w.heap.size w X → WrRd X VB W) := fun X h => HW.out.below h
  unfold netV
  go_enter Try.func37, Try.ntmps37
  go_wp2_with fail
  refine (rcheck3 A _ cap L VA VB ca cb cells (f : Int) W _ rfl hcap (Lib.hid (HLz.out _ (by (repeat (first | exact Below.refl _ _ | (with_reducible refine Below.drew ?_) | (with_reducible refine Below.alloc ?_ (by (try simp); (try omega)) _) | (with_reducible refine Below.setCell ?_ (by (try simp); (try omega)) _) | (with_reducible refine Below.trans ?_ (Below.mono (by assumption) (by (try simp); (try omega))))))))) hl (Lib.hid (HCz.out _ (by (repeat (first | exact Below.refl _ _ | (with_reducible refine Below.drew ?_) | (with_reducible refine Below.alloc ?_ (by (try simp); (try omega)) _) | (with_reducible refine Below.setCell ?_ (by (try simp); (try omega)) _) | (with_reducible refine Below.trans ?_ (Below.mono (by assumption) (by (try simp); (try omega))))))))) (Lib.hid (HWz.out _ (by (repeat (first | exact Below.refl _ _ | (with_reducible refine Below.drew ?_) | (with_reducible refine Below.alloc ?_ (by (try simp); (try omega)) _) | (with_reducible refine Below.setCell ?_ (by (try simp); (try omega)) _) | (with_reducible refine Below.trans ?_ (Below.mono (by assumption) (by (try simp); (try omega))))))))) hc hw).mono ?_
  rintro e w1 ⟨rfl, hb1⟩
  have HN1 : Hid (NBox w1 w.heap.size VA cells.length ca (f : Int) VB W.length cb) := (nbox_at w VA cells.length ca (f : Int) VB W.length cb).below hb1
  have HB1 := Lib.hid (((Below.refl _ w).alloc (Nat.le_refl _) (.cells #[.slice VA cells.length ca, .int .i64 (f : Int), .slice VB W.length cb] 67)).trans (hb1.mono (by simp)))
  clear hb1
  rw [HK.out]
  obtain ⟨hnl, n0, n1, n2⟩ := HN1.out
  simp only []
  go_wp2_with fail
  refine (rr_new_ok m (by omega) (by omega) w1).mono ?_
  rintro e w2 ⟨rfl, hb2, hp2⟩
  have HO : Hid (OR w1 w1.heap.size (tookA m (arL L) (cells.take 0)) w2) := ⟨⟨[w1.heap.size], hp2, fun b hb => by simp at hb; omega⟩, hb2⟩
  have HN2 := Lib.hid (HN1.out.below hb2)
  clear n0 n1 n2 hnl hb2 hp2
  obtain ⟨hnl, n0, n1, n2⟩ := HN2.out
  simp only []
  go_wp2_with fail
  clear n0 n1 n2 hnl
  go_loopw [11] (fun i wr => ∃ k : Nat, i = .int .i64 k ∧ k ≤ cells.length ∧ Hid (OR w1 w1.heap.size (tookA m (arL L) (cells.take k)) wr)) (fun i _ => cells.length - (intOf i).toNat)
  case atStart => exact ⟨0, rfl, Nat.zero_le _, HO⟩
  case round =>
    obtain ⟨k, rfl, hkl, HR⟩ := hrel
    clear HO
    obtain ⟨hnl, n0, n1, n2⟩ := HN1.out.below HR.out.b
    by_cases hlt : k < cells.length
    · obtain ⟨b, off, rfl, hb, e0⟩ := HCz.out _ (HB1.out.trans (HR.out.b.mono HB1.out.size)) k hlt
      obtain ⟨x0, x1⟩ := HAG.out k hlt
      have hsn : cells.take (k + 1) = cells.take k ++ [cells.getD k 0] := by rw [List.take_add_one, List.getElem?_eq_getElem hlt, List.getD_eq_getElem?_getD, List.getElem?_eq_getElem hlt]; rfl
      have HSN := Lib.hid hsn
      clear hsn
      obtain ⟨a, ha⟩ := Int.eq_ofNat_of_zero_le x0
      rw [ha] at e0 x1 HSN
      clear ha x0
      have x2 : a < L.length := by omega
      obtain ⟨ba, oa, rfl, hba, d0, d1⟩ := HLz.out _ (HB1.out.trans (HR.out.b.mono HB1.out.size)) a x2
      obtain ⟨q1, q2, q3, q4⟩ := arL_pn HS.out (a := (a : Int)) (by omega) x1
      have hak : agA L a = arL L (a : Int) := rfl
      rw [hak] at d1
      have htk := tookA_take (most := m) (ar := arL L) (cells := cells.take k) (a := (a : Int)) (by simp; omega) q4
      rw [← HSN.out] at htk
      have HTK := Lib.hid htk
      have y0 : (0 : Int) ≤ (a : Int) := by omega
      have y1 : (0 : Int) ≤ (k : Int) := by omega
      have y2 : (k : Int) < (cells.length : Int) := by omega
      clear htk q1 q2 q3 q4 hak d0
      generalize arL L (a : Int) = r at d1 HTK
      go_wp2_with fail
      (refine region_tail 15 (by kernel_rfl) (by kernel_rfl) ?_; simp only [List.take_succ_cons, List.take_zero, List.drop_succ_cons, List.drop_zero]; repeat still_step; try refine wpStill_nil ?_)
      go_wp2_with (go_at_call 52; refine (or_take (HR.out.kept (Below.refl _ _).drew) (a : Int) r).mono ?_; rintro e w3 ⟨rfl, h5⟩; rw [HTK.out.2.2] at h5; have H5 := Lib.hid h5; clear h5)
      go_roundw
      case measure => simp [intOf]; omega
      case rel => exact ⟨k + 1, by go_num, by omega, H5⟩
    · obtain rfl : k = cells.length := by omega
      obtain ⟨wq, hwq⟩ : ∃ wq, wq = wr := ⟨_, rfl⟩
      subst hwq
      rw [List.take_length] at HR
      obtain ⟨FA, hp, hf⟩ := HR.out.f
      have HP := Lib.hid (And.intro hp hf)
      clear hp hf
      go_wp2_with (go_at_call 14; refine (rw_new_ok w1.heap.size (tookA m (arL L) cells) FA wq f hf64 HP.out.1).mono ?_; rintro e w4 ⟨rfl, ⟨F', hg4, hn4⟩, hb4⟩
                   have hO4 : OX w1 wq.heap.size w1.heap.size ((Wir.new (tookA m (arL L) cells) f).linkAll (W.take 0)) w4 := ⟨⟨F', hg4, fun b hb => by
                     rcases List.mem_cons.1 hb with rfl | hb
                     · exact HR.out.b.size
                     · rcases hn4 b hb with hb | hb
                       · exact HP.out.2 b hb
                       · exact Nat.le_trans HR.out.b.size hb⟩, HR.out.b.trans (hb4.mono HR.out.b.size)⟩
                   have HO4 := Lib.hid hO4
                   obtain ⟨hnl4, m0, m1, m2⟩ := HN1.out.below hO4.b
                   clear hg4 hb4 hO4 n0 n1 n2 hnl hn4)
      clear m0 m1 m2 hnl4
      go_loopw [14] (fun i wr => ∃ k : Nat, i = .int .i64 k ∧ k ≤ W.length ∧ Hid (OX w1 wq.heap.size w1.heap.size ((Wir.new (tookA m (arL L) cells) f).linkAll (W.take k)) wr)) (fun i _ => W.length - (intOf i).toNat)
      case atStart => exact ⟨0, rfl, Nat.zero_le _, HO4⟩
      case round =>
        obtain ⟨k, rfl, hk, HR2⟩ := hrel
        clear HO4
        obtain ⟨hnl, n0, n1, n2⟩ := HN1.out.below HR2.out.b
        by_cases hlt2 : k < W.length
        · obtain ⟨b, off, rfl, hb, e0, e1, e2, e3⟩ := HWz.out _ (HB1.out.trans (HR2.out.b.mono HB1.out.size)) k hlt2
          have hsn : W.take (k + 1) = W.take k ++ [W.getD k default] := by rw [List.take_add_one, List.getElem?_eq_getElem hlt2, List.getD_eq_getElem?_getD, List.getElem?_eq_getElem hlt2]; rfl
          have HSN := Lib.hid hsn
          clear hsn
          generalize W.getD k default = x at e0 e1 e2 e3 HSN
          obtain ⟨⟨x0, x1⟩, x2, x3⟩ := x
          have y1 : (0 : Int) ≤ (k : Int) := by omega
          have y2 : (k : Int) < (W.length : Int) := by omega
          go_wp2_with fail
          (refine region_tail 13 (by kernel_rfl) (by kernel_rfl) ?_; simp only [List.take_succ_cons, List.take_zero, List.drop_succ_cons, List.drop_zero]; repeat still_step; try refine wpStill_nil ?_)
          go_wp2_with (go_at_call 63; refine (ox_link (HR2.out.kept (Below.refl _ _).drew) x0 x1 x2 x3).mono ?_; rintro e w5 ⟨rfl, h5⟩
                       have H5 : Hid (OX w1 wq.heap.size w1.heap.size ((Wir.new (tookA m (arL L) cells) f).linkAll (W.take (k + 1))) w5) := by show OX _ _ _ _ _; rw [HSN.out, Wir.linkAll_snoc]; exact h5
                       clear h5)
          go_roundw
          case measure => simp [intOf]; omega
          case rel => exact ⟨k + 1, by go_num, by omega, H5⟩
        · obtain rfl : k = W.length := by omega
          rw [List.take_length] at HR2
          go_wp2_with fail
          go_ret2
          obtain ⟨FA, h1, h2⟩ := HR2.out.f
          exact ⟨_, _, rfl, ⟨FA, h1, fun b hb => Nat.le_trans HB1.out.size (h2 b hb)⟩, HB1.out.trans (HR2.out.b.mono HB1.out.size)⟩
/-- skeinref08.Load of any net, any size. -/
def RLdPost (w : World) (L : List (ByteArray × Int)) (cells : List Int) (free : Int) (W : List (Pt × Pt)) (most : Int) (e : Ending) (w' : World) : Prop :=
  (loadE L cells free W most ≠ 0 ∧ LdBad w (loadE L cells free W most) e w') ∨ (loadE L cells free W most = 0 ∧ ∃ B A', e = .returned (.tuple #[.pointer (some ⟨B, 0, none⟩), .int .i64 0]) ∧ OX w B A' (((Wir.new (tookA most.toNat (arL L) cells) free.toNat)).linkAll W) w')
theorem rload_is (hn : n = L.length) (hcap : L.length ≤ cap) (HL : Hid (AgRd w A L)) (hl : L.length ≤ maxLen) (HC : Hid (IntsRd w VA cells)) (HW : Hid (WrRd w VB W)) (hc : cells.length ≤ 10000) (hw : W.length ≤ 40000) :
    Calls Try.prog 37 #[.slice A n cap, netV VA ca cells free VB cb W, .int .i64 most] w (RLdPost w L cells free W most) := by
  by_cases hk : (netChk (pnL L) L.length (chk L) cells free W).1 = 0
  · by_cases h1 : most < 1 ∨ 4096 < most
    · have e : loadE L cells free W most = 1 := by unfold loadE; rw [if_neg (fun h => h hk), if_pos h1]
      refine (rload_bad2 A n cap L VA VB ca cb cells free W most w hn hcap HL hl HC HW hc hw hk h1).mono fun e' w' h => .inl ?_
      rw [e]; exact ⟨by decide, h⟩
    · obtain ⟨m, rfl⟩ := Int.eq_ofNat_of_zero_le (by omega : 0 ≤ most)
      by_cases h3 : (m : Int) < cells.length
      · have e : loadE L cells free W m = 40 := by unfold loadE; rw [if_neg (fun h => h hk), if_neg h1, if_pos h3]
        refine (rload_full A n cap L VA VB ca cb cells free W w m hn hcap HL hl HC HW hc hw hk (by omega) (by omega) (by omega)).mono fun e' w' h => .inl ?_
        rw [e]; exact ⟨by decide, h⟩
      · have e : loadE L cells free W m = 0 := by unfold loadE; rw [if_neg (fun h => h hk), if_neg h1, if_neg h3]
        exact (rload_good A n cap L VA VB ca cb cells free W m w hn hcap HL hl HC HW hc hw hk (by omega) (by omega) (by omega)).mono fun e' w' h => .inr ⟨e, h⟩
  · have e : loadE L cells free W most = (netChk (pnL L) L.length (chk L) cells free W).1 := by unfold loadE; rw [if_pos hk]
    refine (rload_bad1 A n cap L VA VB ca cb cells free W most w hn hcap HL hl HC HW hc hw hk).mono fun e' w' h => .inl ?_
    rw [e]; exact ⟨hk, h⟩
end
end Go.Proofs.Ythbobooiedcofaa
