/-
  A wiring: Link, Cut.
-/
import Derived.Test.YthbobooiedcofaaWirPut
import Derived.Laws.StructEq
namespace Go.Proofs.Ythbobooiedcofaa
open Go.RowKit
attribute [local go_sem] cell_set
set_option maxRecDepth 100000
set_option linter.unusedVariables false

section
variable (B A : Nat) (S : Wir) (FA : List Nat) (w : World)
theorem linkE_is {S : Wir} {p q : Pt} {a b : Int} (ha : S.toE p = a) (hb : S.toE q = b) : S.linkE p q = if a = 30 ∨ b = 30 then 30 else if p = q ∨ a = 0 ∨ b = 0 then 31 else 0 := by
  subst ha hb; rfl
theorem link_no {S : Wir} {p q : Pt} {k : Int} (h : S.linkE p q = k) (hk : k ≠ 0) : S.link p q = S := by
  unfold Wir.link; rw [if_neg (by rw [h]; exact hk)]
theorem port_ne {c s d t : Int} (h : (c, s) ≠ ((d, t) : Pt)) : (c == d) = false ∨ c = d ∧ (s == t) = false := by
  by_cases e : c = d
  · right; refine ⟨e, ?_⟩; rw [beq_eq_false_iff_ne]; intro e2; exact h (by rw [e, e2])
  · left; rw [beq_eq_false_iff_ne]; exact e
set_option maxHeartbeats 2000000 in
theorem wi_link (c s d t : Int) (h : WG w B A S FA) :
    Calls Try.prog 20 #[.pointer (some ⟨B, 0, none⟩), .agg #[.int .i64 c, .int .i64 s], .agg #[.int .i64 d, .int .i64 t]] w fun e w' => e = .returned (.int .i64 (S.linkE (c, s) (d, t))) ∧ WG w' B A (S.link (c, s) (d, t)) FA ∧ Kp (B :: FA) w w' := by
  have HG := Lib.hid h
  have hlt := h.lt
  obtain ⟨a, ha⟩ : ∃ a, S.toE (c, s) = a := ⟨_, rfl⟩
  obtain ⟨b, hb⟩ : ∃ b, S.toE (d, t) = b := ⟨_, rfl⟩
  have hE := linkE_is ha hb
  have ca : a = 0 ∨ a = 30 ∨ a = 32 := ha ▸ Wir.toE_cases S (c, s)
  have cb : b = 0 ∨ b = 30 ∨ b = 32 := hb ▸ Wir.toE_cases S (d, t)
  by_cases h1 : a = 30
  · subst h1
    rw [if_pos (.inl rfl)] at hE
    rw [link_no hE (by decide), hE]
    clear hE ca cb
    have HA := Lib.hid ha
    have HB := Lib.hid hb
    clear ha hb
    go_enter Try.func20, Try.ntmps20
    go_wp2_with (go_at_call 62; refine (wi_is B A _ (HG.out.below (by (repeat (first | exact Below.refl _ _ | (with_reducible refine Below.drew ?_) | (with_reducible refine Below.alloc ?_ (by (try simp); (try omega)) _) | (with_reducible refine Below.setCell ?_ (by (try simp); (try omega)) _) | (with_reducible refine Below.trans ?_ (Below.mono (by assumption) (by (try simp); (try omega)))))))).cells.1).mono ?_; rintro e w' ⟨rfl, rfl⟩)
    refine (wi_to B A S FA _ c s (HG.out.below (by (repeat (first | exact Below.refl _ _ | (with_reducible refine Below.drew ?_) | (with_reducible refine Below.alloc ?_ (by (try simp); (try omega)) _) | (with_reducible refine Below.setCell ?_ (by (try simp); (try omega)) _) | (with_reducible refine Below.trans ?_ (Below.mono (by assumption) (by (try simp); (try omega))))))))).mono ?_
    rintro e w1 ⟨rfl, hb1⟩
    obtain ⟨hc1, hf1⟩ := bcell hb1; have hz1 := hb1.size; (try simp at hz1); have hz1a : w.heap.size < w1.heap.size := (by omega); have hz1b : w.heap.size + 1 < w1.heap.size := (by omega)
    rw [HA.out]
    simp only []
    go_wp2_with fail
    refine (wi_to B A S FA _ d t (HG.out.below (by (repeat (first | exact Below.refl _ _ | (with_reducible refine Below.drew ?_) | (with_reducible refine Below.alloc ?_ (by (try simp); (try omega)) _) | (with_reducible refine Below.setCell ?_ (by (try simp); (try omega)) _) | (with_reducible refine Below.trans ?_ (Below.mono (by assumption) (by (try simp); (try omega))))))))).mono ?_
    rintro e w2 ⟨rfl, hb2⟩
    obtain ⟨hc2, hf2⟩ := bcell hb2; have hz2 := hb2.size; (try simp at hz2); have hz2a : w.heap.size < w2.heap.size := (by omega); have hz2b : w.heap.size + 1 < w2.heap.size := (by omega); have hz2c : w1.heap.size < w2.heap.size := (by omega)
    rw [HB.out]
    simp only []
    go_wp2_with fail
    go_ret
    exact ⟨rfl, HG.out.below (by (repeat (first | exact Below.refl _ _ | (with_reducible refine Below.drew ?_) | (with_reducible refine Below.alloc ?_ (by (try simp); (try omega)) _) | (with_reducible refine Below.setCell ?_ (by (try simp); (try omega)) _) | (with_reducible refine Below.trans ?_ (Below.mono (by assumption) (by (try simp); (try omega))))))), Kp.of_below (by (repeat (first | exact Below.refl _ _ | (with_reducible refine Below.drew ?_) | (with_reducible refine Below.alloc ?_ (by (try simp); (try omega)) _) | (with_reducible refine Below.setCell ?_ (by (try simp); (try omega)) _) | (with_reducible refine Below.trans ?_ (Below.mono (by assumption) (by (try simp); (try omega)))))))⟩
  have k1 : (a == 30) = false := by rw [beq_eq_false_iff_ne]; exact h1
  by_cases h2 : b = 30
  · subst h2
    rw [if_pos (.inr rfl)] at hE
    rw [link_no hE (by decide), hE]
    clear hE ca cb
    have HA := Lib.hid ha
    have HB := Lib.hid hb
    clear ha hb
    go_enter Try.func20, Try.ntmps20
    go_wp2_with (go_at_call 62; refine (wi_is B A _ (HG.out.below (by (repeat (first | exact Below.refl _ _ | (with_reducible refine Below.drew ?_) | (with_reducible refine Below.alloc ?_ (by (try simp); (try omega)) _) | (with_reducible refine Below.setCell ?_ (by (try simp); (try omega)) _) | (with_reducible refine Below.trans ?_ (Below.mono (by assumption) (by (try simp); (try omega)))))))).cells.1).mono ?_; rintro e w' ⟨rfl, rfl⟩)
    refine (wi_to B A S FA _ c s (HG.out.below (by (repeat (first | exact Below.refl _ _ | (with_reducible refine Below.drew ?_) | (with_reducible refine Below.alloc ?_ (by (try simp); (try omega)) _) | (with_reducible refine Below.setCell ?_ (by (try simp); (try omega)) _) | (with_reducible refine Below.trans ?_ (Below.mono (by assumption) (by (try simp); (try omega))))))))).mono ?_
    rintro e w1 ⟨rfl, hb1⟩
    obtain ⟨hc1, hf1⟩ := bcell hb1; have hz1 := hb1.size; (try simp at hz1); have hz1a : w.heap.size < w1.heap.size := (by omega); have hz1b : w.heap.size + 1 < w1.heap.size := (by omega)
    rw [HA.out]
    simp only []
    go_wp2_with fail
    refine (wi_to B A S FA _ d t (HG.out.below (by (repeat (first | exact Below.refl _ _ | (with_reducible refine Below.drew ?_) | (with_reducible refine Below.alloc ?_ (by (try simp); (try omega)) _) | (with_reducible refine Below.setCell ?_ (by (try simp); (try omega)) _) | (with_reducible refine Below.trans ?_ (Below.mono (by assumption) (by (try simp); (try omega))))))))).mono ?_
    rintro e w2 ⟨rfl, hb2⟩
    obtain ⟨hc2, hf2⟩ := bcell hb2; have hz2 := hb2.size; (try simp at hz2); have hz2a : w.heap.size < w2.heap.size := (by omega); have hz2b : w.heap.size + 1 < w2.heap.size := (by omega); have hz2c : w1.heap.size < w2.heap.size := (by omega)
    rw [HB.out]
    simp only []
    go_wp2_with fail
    go_ret
    exact ⟨rfl, HG.out.below (by (repeat (first | exact Below.refl _ _ | (with_reducible refine Below.drew ?_) | (with_reducible refine Below.alloc ?_ (by (try simp); (try omega)) _) | (with_reducible refine Below.setCell ?_ (by (try simp); (try omega)) _) | (with_reducible refine Below.trans ?_ (Below.mono (by assumption) (by (try simp); (try omega))))))), Kp.of_below (by (repeat (first | exact Below.refl _ _ | (with_reducible refine Below.drew ?_) | (with_reducible refine Below.alloc ?_ (by (try simp); (try omega)) _) | (with_reducible refine Below.setCell ?_ (by (try simp); (try omega)) _) | (with_reducible refine Below.trans ?_ (Below.mono (by assumption) (by (try simp); (try omega)))))))⟩
  have k2 : (b == 30) = false := by rw [beq_eq_false_iff_ne]; exact h2
  rw [if_neg (by omega)] at hE
  by_cases h3 : (c, s) = ((d, t) : Pt)
  · rw [if_pos (.inl h3)] at hE
    rw [link_no hE (by decide), hE]
    simp only [Prod.mk.injEq] at h3
    obtain ⟨rfl, rfl⟩ := h3
    clear hE ca cb h1 h2
    have HA := Lib.hid ha
    have HB := Lib.hid hb
    clear ha hb
    go_enter Try.func20, Try.ntmps20
    go_wp2_with (go_at_call 62; refine (wi_is B A _ (HG.out.below (by (repeat (first | exact Below.refl _ _ | (with_reducible refine Below.drew ?_) | (with_reducible refine Below.alloc ?_ (by (try simp); (try omega)) _) | (with_reducible refine Below.setCell ?_ (by (try simp); (try omega)) _) | (with_reducible refine Below.trans ?_ (Below.mono (by assumption) (by (try simp); (try omega)))))))).cells.1).mono ?_; rintro e w' ⟨rfl, rfl⟩)
    refine (wi_to B A S FA _ c s (HG.out.below (by (repeat (first | exact Below.refl _ _ | (with_reducible refine Below.drew ?_) | (with_reducible refine Below.alloc ?_ (by (try simp); (try omega)) _) | (with_reducible refine Below.setCell ?_ (by (try simp); (try omega)) _) | (with_reducible refine Below.trans ?_ (Below.mono (by assumption) (by (try simp); (try omega))))))))).mono ?_
    rintro e w1 ⟨rfl, hb1⟩
    obtain ⟨hc1, hf1⟩ := bcell hb1; have hz1 := hb1.size; (try simp at hz1); have hz1a : w.heap.size < w1.heap.size := (by omega); have hz1b : w.heap.size + 1 < w1.heap.size := (by omega)
    rw [HA.out]
    simp only []
    go_wp2_with fail
    refine (wi_to B A S FA _ c s (HG.out.below (by (repeat (first | exact Below.refl _ _ | (with_reducible refine Below.drew ?_) | (with_reducible refine Below.alloc ?_ (by (try simp); (try omega)) _) | (with_reducible refine Below.setCell ?_ (by (try simp); (try omega)) _) | (with_reducible refine Below.trans ?_ (Below.mono (by assumption) (by (try simp); (try omega))))))))).mono ?_
    rintro e w2 ⟨rfl, hb2⟩
    obtain ⟨hc2, hf2⟩ := bcell hb2; have hz2 := hb2.size; (try simp at hz2); have hz2a : w.heap.size < w2.heap.size := (by omega); have hz2b : w.heap.size + 1 < w2.heap.size := (by omega); have hz2c : w1.heap.size < w2.heap.size := (by omega)
    rw [HB.out]
    simp only []
    go_wp2_with fail
    go_ret
    exact ⟨rfl, HG.out.below (by (repeat (first | exact Below.refl _ _ | (with_reducible refine Below.drew ?_) | (with_reducible refine Below.alloc ?_ (by (try simp); (try omega)) _) | (with_reducible refine Below.setCell ?_ (by (try simp); (try omega)) _) | (with_reducible refine Below.trans ?_ (Below.mono (by assumption) (by (try simp); (try omega))))))), Kp.of_below (by (repeat (first | exact Below.refl _ _ | (with_reducible refine Below.drew ?_) | (with_reducible refine Below.alloc ?_ (by (try simp); (try omega)) _) | (with_reducible refine Below.setCell ?_ (by (try simp); (try omega)) _) | (with_reducible refine Below.trans ?_ (Below.mono (by assumption) (by (try simp); (try omega)))))))⟩
  have h3' := port_ne h3
  by_cases h4 : a = 0
  · subst h4
    rw [if_pos (.inr (.inl rfl))] at hE
    rw [link_no hE (by decide), hE]
    clear hE ca cb h1 h2 h3
    rcases h3' with k3 | ⟨rfl, k3⟩
    · have HA := Lib.hid ha
      have HB := Lib.hid hb
      clear ha hb
      go_enter Try.func20, Try.ntmps20
      go_wp2_with (go_at_call 62; refine (wi_is B A _ (HG.out.below (by (repeat (first | exact Below.refl _ _ | (with_reducible refine Below.drew ?_) | (with_reducible refine Below.alloc ?_ (by (try simp); (try omega)) _) | (with_reducible refine Below.setCell ?_ (by (try simp); (try omega)) _) | (with_reducible refine Below.trans ?_ (Below.mono (by assumption) (by (try simp); (try omega)))))))).cells.1).mono ?_; rintro e w' ⟨rfl, rfl⟩)
      refine (wi_to B A S FA _ c s (HG.out.below (by (repeat (first | exact Below.refl _ _ | (with_reducible refine Below.drew ?_) | (with_reducible refine Below.alloc ?_ (by (try simp); (try omega)) _) | (with_reducible refine Below.setCell ?_ (by (try simp); (try omega)) _) | (with_reducible refine Below.trans ?_ (Below.mono (by assumption) (by (try simp); (try omega))))))))).mono ?_
      rintro e w1 ⟨rfl, hb1⟩
      obtain ⟨hc1, hf1⟩ := bcell hb1; have hz1 := hb1.size; (try simp at hz1); have hz1a : w.heap.size < w1.heap.size := (by omega); have hz1b : w.heap.size + 1 < w1.heap.size := (by omega)
      rw [HA.out]
      simp only []
      go_wp2_with fail
      refine (wi_to B A S FA _ d t (HG.out.below (by (repeat (first | exact Below.refl _ _ | (with_reducible refine Below.drew ?_) | (with_reducible refine Below.alloc ?_ (by (try simp); (try omega)) _) | (with_reducible refine Below.setCell ?_ (by (try simp); (try omega)) _) | (with_reducible refine Below.trans ?_ (Below.mono (by assumption) (by (try simp); (try omega))))))))).mono ?_
      rintro e w2 ⟨rfl, hb2⟩
      obtain ⟨hc2, hf2⟩ := bcell hb2; have hz2 := hb2.size; (try simp at hz2); have hz2a : w.heap.size < w2.heap.size := (by omega); have hz2b : w.heap.size + 1 < w2.heap.size := (by omega); have hz2c : w1.heap.size < w2.heap.size := (by omega)
      rw [HB.out]
      simp only []
      go_wp2_with fail
      go_ret
      exact ⟨rfl, HG.out.below (by (repeat (first | exact Below.refl _ _ | (with_reducible refine Below.drew ?_) | (with_reducible refine Below.alloc ?_ (by (try simp); (try omega)) _) | (with_reducible refine Below.setCell ?_ (by (try simp); (try omega)) _) | (with_reducible refine Below.trans ?_ (Below.mono (by assumption) (by (try simp); (try omega))))))), Kp.of_below (by (repeat (first | exact Below.refl _ _ | (with_reducible refine Below.drew ?_) | (with_reducible refine Below.alloc ?_ (by (try simp); (try omega)) _) | (with_reducible refine Below.setCell ?_ (by (try simp); (try omega)) _) | (with_reducible refine Below.trans ?_ (Below.mono (by assumption) (by (try simp); (try omega)))))))⟩
    · have HA := Lib.hid ha
      have HB := Lib.hid hb
      clear ha hb
      go_enter Try.func20, Try.ntmps20
      go_wp2_with (go_at_call 62; refine (wi_is B A _ (HG.out.below (by (repeat (first | exact Below.refl _ _ | (with_reducible refine Below.drew ?_) | (with_reducible refine Below.alloc ?_ (by (try simp); (try omega)) _) | (with_reducible refine Below.setCell ?_ (by (try simp); (try omega)) _) | (with_reducible refine Below.trans ?_ (Below.mono (by assumption) (by (try simp); (try omega)))))))).cells.1).mono ?_; rintro e w' ⟨rfl, rfl⟩)
      refine (wi_to B A S FA _ c s (HG.out.below (by (repeat (first | exact Below.refl _ _ | (with_reducible refine Below.drew ?_) | (with_reducible refine Below.alloc ?_ (by (try simp); (try omega)) _) | (with_reducible refine Below.setCell ?_ (by (try simp); (try omega)) _) | (with_reducible refine Below.trans ?_ (Below.mono (by assumption) (by (try simp); (try omega))))))))).mono ?_
      rintro e w1 ⟨rfl, hb1⟩
      obtain ⟨hc1, hf1⟩ := bcell hb1; have hz1 := hb1.size; (try simp at hz1); have hz1a : w.heap.size < w1.heap.size := (by omega); have hz1b : w.heap.size + 1 < w1.heap.size := (by omega)
      rw [HA.out]
      simp only []
      go_wp2_with fail
      refine (wi_to B A S FA _ c t (HG.out.below (by (repeat (first | exact Below.refl _ _ | (with_reducible refine Below.drew ?_) | (with_reducible refine Below.alloc ?_ (by (try simp); (try omega)) _) | (with_reducible refine Below.setCell ?_ (by (try simp); (try omega)) _) | (with_reducible refine Below.trans ?_ (Below.mono (by assumption) (by (try simp); (try omega))))))))).mono ?_
      rintro e w2 ⟨rfl, hb2⟩
      obtain ⟨hc2, hf2⟩ := bcell hb2; have hz2 := hb2.size; (try simp at hz2); have hz2a : w.heap.size < w2.heap.size := (by omega); have hz2b : w.heap.size + 1 < w2.heap.size := (by omega); have hz2c : w1.heap.size < w2.heap.size := (by omega)
      rw [HB.out]
      simp only []
      go_wp2_with fail
      go_ret
      exact ⟨rfl, HG.out.below (by (repeat (first | exact Below.refl _ _ | (with_reducible refine Below.drew ?_) | (with_reducible refine Below.alloc ?_ (by (try simp); (try omega)) _) | (with_reducible refine Below.setCell ?_ (by (try simp); (try omega)) _) | (with_reducible refine Below.trans ?_ (Below.mono (by assumption) (by (try simp); (try omega))))))), Kp.of_below (by (repeat (first | exact Below.refl _ _ | (with_reducible refine Below.drew ?_) | (with_reducible refine Below.alloc ?_ (by (try simp); (try omega)) _) | (with_reducible refine Below.setCell ?_ (by (try simp); (try omega)) _) | (with_reducible refine Below.trans ?_ (Below.mono (by assumption) (by (try simp); (try omega)))))))⟩
  have k4 : (a == 0) = false := by rw [beq_eq_false_iff_ne]; exact h4
  by_cases h5 : b = 0
  · subst h5
    rw [if_pos (.inr (.inr rfl))] at hE
    rw [link_no hE (by decide), hE]
    clear hE ca cb h1 h2 h3 h4
    rcases h3' with k3 | ⟨rfl, k3⟩
    · have HA := Lib.hid ha
      have HB := Lib.hid hb
      clear ha hb
      go_enter Try.func20, Try.ntmps20
      go_wp2_with (go_at_call 62; refine (wi_is B A _ (HG.out.below (by (repeat (first | exact Below.refl _ _ | (with_reducible refine Below.drew ?_) | (with_reducible refine Below.alloc ?_ (by (try simp); (try omega)) _) | (with_reducible refine Below.setCell ?_ (by (try simp); (try omega)) _) | (with_reducible refine Below.trans ?_ (Below.mono (by assumption) (by (try simp); (try omega)))))))).cells.1).mono ?_; rintro e w' ⟨rfl, rfl⟩)
      refine (wi_to B A S FA _ c s (HG.out.below (by (repeat (first | exact Below.refl _ _ | (with_reducible refine Below.drew ?_) | (with_reducible refine Below.alloc ?_ (by (try simp); (try omega)) _) | (with_reducible refine Below.setCell ?_ (by (try simp); (try omega)) _) | (with_reducible refine Below.trans ?_ (Below.mono (by assumption) (by (try simp); (try omega))))))))).mono ?_
      rintro e w1 ⟨rfl, hb1⟩
      obtain ⟨hc1, hf1⟩ := bcell hb1; have hz1 := hb1.size; (try simp at hz1); have hz1a : w.heap.size < w1.heap.size := (by omega); have hz1b : w.heap.size + 1 < w1.heap.size := (by omega)
      rw [HA.out]
      simp only []
      go_wp2_with fail
      refine (wi_to B A S FA _ d t (HG.out.below (by (repeat (first | exact Below.refl _ _ | (with_reducible refine Below.drew ?_) | (with_reducible refine Below.alloc ?_ (by (try simp); (try omega)) _) | (with_reducible refine Below.setCell ?_ (by (try simp); (try omega)) _) | (with_reducible refine Below.trans ?_ (Below.mono (by assumption) (by (try simp); (try omega))))))))).mono ?_
      rintro e w2 ⟨rfl, hb2⟩
      obtain ⟨hc2, hf2⟩ := bcell hb2; have hz2 := hb2.size; (try simp at hz2); have hz2a : w.heap.size < w2.heap.size := (by omega); have hz2b : w.heap.size + 1 < w2.heap.size := (by omega); have hz2c : w1.heap.size < w2.heap.size := (by omega)
      rw [HB.out]
      simp only []
      go_wp2_with fail
      go_ret
      exact ⟨rfl, HG.out.below (by (repeat (first | exact Below.refl _ _ | (with_reducible refine Below.drew ?_) | (with_reducible refine Below.alloc ?_ (by (try simp); (try omega)) _) | (with_reducible refine Below.setCell ?_ (by (try simp); (try omega)) _) | (with_reducible refine Below.trans ?_ (Below.mono (by assumption) (by (try simp); (try omega))))))), Kp.of_below (by (repeat (first | exact Below.refl _ _ | (with_reducible refine Below.drew ?_) | (with_reducible refine Below.alloc ?_ (by (try simp); (try omega)) _) | (with_reducible refine Below.setCell ?_ (by (try simp); (try omega)) _) | (with_reducible refine Below.trans ?_ (Below.mono (by assumption) (by (try simp); (try omega)))))))⟩
    · have HA := Lib.hid ha
      have HB := Lib.hid hb
      clear ha hb
      go_enter Try.func20, Try.ntmps20
      go_wp2_with (go_at_call 62; refine (wi_is B A _ (HG.out.below (by (repeat (first | exact Below.refl _ _ | (with_reducible refine Below.drew ?_) | (with_reducible refine Below.alloc ?_ (by (try simp); (try omega)) _) | (with_reducible refine Below.setCell ?_ (by (try simp); (try omega)) _) | (with_reducible refine Below.trans ?_ (Below.mono (by assumption) (by (try simp); (try omega)))))))).cells.1).mono ?_; rintro e w' ⟨rfl, rfl⟩)
      refine (wi_to B A S FA _ c s (HG.out.below (by (repeat (first | exact Below.refl _ _ | (with_reducible refine Below.drew ?_) | (with_reducible refine Below.alloc ?_ (by (try simp); (try omega)) _) | (with_reducible refine Below.setCell ?_ (by (try simp); (try omega)) _) | (with_reducible refine Below.trans ?_ (Below.mono (by assumption) (by (try simp); (try omega))))))))).mono ?_
      rintro e w1 ⟨rfl, hb1⟩
      obtain ⟨hc1, hf1⟩ := bcell hb1; have hz1 := hb1.size; (try simp at hz1); have hz1a : w.heap.size < w1.heap.size := (by omega); have hz1b : w.heap.size + 1 < w1.heap.size := (by omega)
      rw [HA.out]
      simp only []
      go_wp2_with fail
      refine (wi_to B A S FA _ c t (HG.out.below (by (repeat (first | exact Below.refl _ _ | (with_reducible refine Below.drew ?_) | (with_reducible refine Below.alloc ?_ (by (try simp); (try omega)) _) | (with_reducible refine Below.setCell ?_ (by (try simp); (try omega)) _) | (with_reducible refine Below.trans ?_ (Below.mono (by assumption) (by (try simp); (try omega))))))))).mono ?_
      rintro e w2 ⟨rfl, hb2⟩
      obtain ⟨hc2, hf2⟩ := bcell hb2; have hz2 := hb2.size; (try simp at hz2); have hz2a : w.heap.size < w2.heap.size := (by omega); have hz2b : w.heap.size + 1 < w2.heap.size := (by omega); have hz2c : w1.heap.size < w2.heap.size := (by omega)
      rw [HB.out]
      simp only []
      go_wp2_with fail
      go_ret
      exact ⟨rfl, HG.out.below (by (repeat (first | exact Below.refl _ _ | (with_reducible refine Below.drew ?_) | (with_reducible refine Below.alloc ?_ (by (try simp); (try omega)) _) | (with_reducible refine Below.setCell ?_ (by (try simp); (try omega)) _) | (with_reducible refine Below.trans ?_ (Below.mono (by assumption) (by (try simp); (try omega))))))), Kp.of_below (by (repeat (first | exact Below.refl _ _ | (with_reducible refine Below.drew ?_) | (with_reducible refine Below.alloc ?_ (by (try simp); (try omega)) _) | (with_reducible refine Below.setCell ?_ (by (try simp); (try omega)) _) | (with_reducible refine Below.trans ?_ (Below.mono (by assumption) (by (try simp); (try omega)))))))⟩
  have k5 : (b == 0) = false := by rw [beq_eq_false_iff_ne]; exact h5
  rw [if_neg (fun e => e.elim h3 fun e => e.elim h4 h5)] at hE
  have hL : S.link (c, s) (d, t) = S.join (c, s) (d, t) := by unfold Wir.link; rw [if_pos hE]
  rw [hL, hE]
  have hp : S.wE (c, s) = 0 := (Wir.wE_01 _).resolve_right fun e => h1 (ha ▸ (Wir.toE_30 _).2 (by omega))
  have hq : S.wE (d, t) = 0 := (Wir.wE_01 _).resolve_right fun e => h2 (hb ▸ (Wir.toE_30 _).2 (by omega))
  have HP := Lib.hid hp
  have HQ := Lib.hid hq
  clear hE ca cb h1 h2 h3 h4 h5 hL hp hq
  have HA := Lib.hid ha
  have HB := Lib.hid hb
  clear ha hb
  rcases h3' with k3 | ⟨rfl, k3⟩
  · go_enter Try.func20, Try.ntmps20
    go_wp2_with (go_at_call 62; refine (wi_is B A _ (HG.out.below (by (repeat (first | exact Below.refl _ _ | (with_reducible refine Below.drew ?_) | (with_reducible refine Below.alloc ?_ (by (try simp); (try omega)) _) | (with_reducible refine Below.setCell ?_ (by (try simp); (try omega)) _) | (with_reducible refine Below.trans ?_ (Below.mono (by assumption) (by (try simp); (try omega)))))))).cells.1).mono ?_; rintro e w' ⟨rfl, rfl⟩)
    refine (wi_to B A S FA _ c s (HG.out.below (by (repeat (first | exact Below.refl _ _ | (with_reducible refine Below.drew ?_) | (with_reducible refine Below.alloc ?_ (by (try simp); (try omega)) _) | (with_reducible refine Below.setCell ?_ (by (try simp); (try omega)) _) | (with_reducible refine Below.trans ?_ (Below.mono (by assumption) (by (try simp); (try omega))))))))).mono ?_
    rintro e w1 ⟨rfl, hb1⟩
    obtain ⟨hc1, hf1⟩ := bcell hb1; have hz1 := hb1.size; (try simp at hz1); have hz1a : w.heap.size < w1.heap.size := (by omega); have hz1b : w.heap.size + 1 < w1.heap.size := (by omega)
    rw [HA.out]
    simp only []
    go_wp2_with fail
    refine (wi_to B A S FA _ d t (HG.out.below (by (repeat (first | exact Below.refl _ _ | (with_reducible refine Below.drew ?_) | (with_reducible refine Below.alloc ?_ (by (try simp); (try omega)) _) | (with_reducible refine Below.setCell ?_ (by (try simp); (try omega)) _) | (with_reducible refine Below.trans ?_ (Below.mono (by assumption) (by (try simp); (try omega))))))))).mono ?_
    rintro e w2 ⟨rfl, hb2⟩
    obtain ⟨hc2, hf2⟩ := bcell hb2; have hz2 := hb2.size; (try simp at hz2); have hz2a : w.heap.size < w2.heap.size := (by omega); have hz2b : w.heap.size + 1 < w2.heap.size := (by omega); have hz2c : w1.heap.size < w2.heap.size := (by omega)
    rw [HB.out]
    simp only []
    go_wp2_with fail
    refine (wi_link_ B A S FA _ c s d t HP.out HQ.out (HG.out.below (by (repeat (first | exact Below.refl _ _ | (with_reducible refine Below.drew ?_) | (with_reducible refine Below.alloc ?_ (by (try simp); (try omega)) _) | (with_reducible refine Below.setCell ?_ (by (try simp); (try omega)) _) | (with_reducible refine Below.trans ?_ (Below.mono (by assumption) (by (try simp); (try omega))))))))).mono ?_
    rintro e w3 ⟨⟨r3, rfl⟩, hg3, hk3⟩
    have HG3 := Lib.hid hg3
    have HK3 := Lib.hid hk3
    clear hg3 hk3
    have hX : Below w.heap.size w (w2.alloc (.cells #[.int .i64 (S.toP (d, t)).1, .int .i64 (S.toP (d, t)).2] 39)) := by (repeat (first | exact Below.refl _ _ | (with_reducible refine Below.drew ?_) | (with_reducible refine Below.alloc ?_ (by (try simp); (try omega)) _) | (with_reducible refine Below.setCell ?_ (by (try simp); (try omega)) _) | (with_reducible refine Below.trans ?_ (Below.mono (by assumption) (by (try simp); (try omega))))))
    have HX := Lib.hid hX
    clear hX
    simp only []
    go_wp2_with fail
    go_ret
    exact ⟨rfl, HG3.out, (Kp.of_below HX.out).tr HK3.out⟩
  · go_enter Try.func20, Try.ntmps20
    go_wp2_with (go_at_call 62; refine (wi_is B A _ (HG.out.below (by (repeat (first | exact Below.refl _ _ | (with_reducible refine Below.drew ?_) | (with_reducible refine Below.alloc ?_ (by (try simp); (try omega)) _) | (with_reducible refine Below.setCell ?_ (by (try simp); (try omega)) _) | (with_reducible refine Below.trans ?_ (Below.mono (by assumption) (by (try simp); (try omega)))))))).cells.1).mono ?_; rintro e w' ⟨rfl, rfl⟩)
    refine (wi_to B A S FA _ c s (HG.out.below (by (repeat (first | exact Below.refl _ _ | (with_reducible refine Below.drew ?_) | (with_reducible refine Below.alloc ?_ (by (try simp); (try omega)) _) | (with_reducible refine Below.setCell ?_ (by (try simp); (try omega)) _) | (with_reducible refine Below.trans ?_ (Below.mono (by assumption) (by (try simp); (try omega))))))))).mono ?_
    rintro e w1 ⟨rfl, hb1⟩
    obtain ⟨hc1, hf1⟩ := bcell hb1; have hz1 := hb1.size; (try simp at hz1); have hz1a : w.heap.size < w1.heap.size := (by omega); have hz1b : w.heap.size + 1 < w1.heap.size := (by omega)
    rw [HA.out]
    simp only []
    go_wp2_with fail
    refine (wi_to B A S FA _ c t (HG.out.below (by (repeat (first | exact Below.refl _ _ | (with_reducible refine Below.drew ?_) | (with_reducible refine Below.alloc ?_ (by (try simp); (try omega)) _) | (with_reducible refine Below.setCell ?_ (by (try simp); (try omega)) _) | (with_reducible refine Below.trans ?_ (Below.mono (by assumption) (by (try simp); (try omega))))))))).mono ?_
    rintro e w2 ⟨rfl, hb2⟩
    obtain ⟨hc2, hf2⟩ := bcell hb2; have hz2 := hb2.size; (try simp at hz2); have hz2a : w.heap.size < w2.heap.size := (by omega); have hz2b : w.heap.size + 1 < w2.heap.size := (by omega); have hz2c : w1.heap.size < w2.heap.size := (by omega)
    rw [HB.out]
    simp only []
    go_wp2_with fail
    refine (wi_link_ B A S FA _ c s c t HP.out HQ.out (HG.out.below (by (repeat (first | exact Below.refl _ _ | (with_reducible refine Below.drew ?_) | (with_reducible refine Below.alloc ?_ (by (try simp); (try omega)) _) | (with_reducible refine Below.setCell ?_ (by (try simp); (try omega)) _) | (with_reducible refine Below.trans ?_ (Below.mono (by assumption) (by (try simp); (try omega))))))))).mono ?_
    rintro e w3 ⟨⟨r3, rfl⟩, hg3, hk3⟩
    have HG3 := Lib.hid hg3
    have HK3 := Lib.hid hk3
    clear hg3 hk3
    have hX : Below w.heap.size w (w2.alloc (.cells #[.int .i64 (S.toP (c, t)).1, .int .i64 (S.toP (c, t)).2] 39)) := by (repeat (first | exact Below.refl _ _ | (with_reducible refine Below.drew ?_) | (with_reducible refine Below.alloc ?_ (by (try simp); (try omega)) _) | (with_reducible refine Below.setCell ?_ (by (try simp); (try omega)) _) | (with_reducible refine Below.trans ?_ (Below.mono (by assumption) (by (try simp); (try omega))))))
    have HX := Lib.hid hX
    clear hX
    simp only []
    go_wp2_with fail
    go_ret
    exact ⟨rfl, HG3.out, (Kp.of_below HX.out).tr HK3.out⟩
end
end Go.Proofs.Ythbobooiedcofaa
