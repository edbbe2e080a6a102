/-
  A wiring: Pass, where both ports are linked.
-/
import Derived.Test.YthbobooiedcofaaWirPass
namespace Go.Proofs.Ythbobooiedcofaa
open Go.RowKit
attribute [local go_sem] cell_set
set_option maxRecDepth 100000
set_option linter.unusedVariables false

theorem WG.set4 {w : World} {B A : Nat} {S : Wir} {FA : List Nat} (h : WG w B A S FA) {x : Nat} (hx : x ∉ B :: FA) (a b c d : Value) : WG ((((w.setCell ⟨x, 0, none⟩ a).setCell ⟨x, 1, none⟩ b).setCell ⟨x, 2, none⟩ c).setCell ⟨x, 3, none⟩ d) B A S FA := by
  refine h.keep fun y hy => ?_
  have hne : y ≠ x := fun e => hx (e ▸ hy)
  exact (Below.heap_setCell _ ⟨x, 3, none⟩ _ y hne).trans ((Below.heap_setCell _ ⟨x, 2, none⟩ _ y hne).trans ((Below.heap_setCell _ ⟨x, 1, none⟩ _ y hne).trans (Below.heap_setCell _ ⟨x, 0, none⟩ _ y hne)))
theorem Kp.set4 {w w1 : World} {F : List Nat} (h : Kp F w w1) {x : Nat} (hx : w.heap.size ≤ x) (a b c d : Value) : Kp F w ((((w1.setCell ⟨x, 0, none⟩ a).setCell ⟨x, 1, none⟩ b).setCell ⟨x, 2, none⟩ c).setCell ⟨x, 3, none⟩ d) :=
  (((h.setCell (p := ⟨x, 0, none⟩) (.inr hx) a).setCell (p := ⟨x, 1, none⟩) (.inr hx) b).setCell (p := ⟨x, 2, none⟩) (.inr hx) c).setCell (p := ⟨x, 3, none⟩) (.inr hx) d
section
variable (B A : Nat) (S : Wir) (FA : List Nat) (w : World)
set_option maxHeartbeats 4000000 in
theorem wi_pass_same (c s d t : Int) (hk : S.passE (c, s) (d, t) = 0) (hs : S.toP (c, s) = (d, t)) (h : WG w B A S FA) :
    Calls Try.prog 22 #[.pointer (some ⟨B, 0, none⟩), .agg #[.int .i64 c, .int .i64 s], .agg #[.int .i64 d, .int .i64 t]] w fun e w' => e = .returned (passV S (c, s) (d, t)) ∧ WG w' B A (S.pass (c, s) (d, t)) FA ∧ Kp (B :: FA) w w' := by
  have HG := Lib.hid h
  have hlt := h.lt
  have HF := Lib.hid h.blt
  obtain ⟨ha, hb, hne⟩ := Wir.passE_0 hk
  have h3' := port_ne hne
  have hI : S.passIs (c, s) (d, t) = false := by unfold Wir.passIs; exact decide_eq_false fun e => e.2 hs
  have hL : S.passL (c, s) (d, t) = ((0, 0), (0, 0)) := by unfold Wir.passL; rw [hI]; rfl
  have hS : S.pass (c, s) (d, t) = S.cut (c, s) := by unfold Wir.pass; rw [if_neg (by rw [hk]; simp), if_pos hs]
  have hV : passV S (c, s) (d, t) = .tuple #[.agg #[.int .i64 0, .int .i64 0, .int .i64 0, .int .i64 0], .bool false, .int .i64 0] := by unfold passV; rw [hI, hL, hk]
  rw [hV, hS]
  have HPE := Lib.hid hs
  have HA := Lib.hid ha
  have HB := Lib.hid hb
  obtain ⟨⟨b1, b2⟩, hq⟩ : ∃ q, S.toP (d, t) = q := ⟨_, rfl⟩
  have HQE := Lib.hid hq
  clear hk hs hne hI hL hS hV ha hb hq
  rcases h3' with k3 | ⟨rfl, k3⟩
  · go_enter Try.func22, Try.ntmps22
    go_wp2_with (go_at_call 62; refine (wi_is B A _ (HG.out.below (by (repeat (first | exact Below.refl _ _ | (with_reducible refine Below.drew ?_) | (with_reducible refine Below.alloc ?_ (by (try simp); (try omega)) _) | (with_reducible refine Below.setCell ?_ (by (try simp); (try omega)) _) | (with_reducible refine Below.trans ?_ (Below.mono (by assumption) (by (try simp); (try omega)))))))).cells.1).mono ?_; rintro e w' ⟨rfl, rfl⟩)
    refine (wi_to B A S FA _ c s (HG.out.below (by (repeat (first | exact Below.refl _ _ | (with_reducible refine Below.drew ?_) | (with_reducible refine Below.alloc ?_ (by (try simp); (try omega)) _) | (with_reducible refine Below.setCell ?_ (by (try simp); (try omega)) _) | (with_reducible refine Below.trans ?_ (Below.mono (by assumption) (by (try simp); (try omega))))))))).mono ?_
    rintro e w1 ⟨rfl, hb1⟩
    obtain ⟨hc1, hf1⟩ := bcell hb1; have hz1 := hb1.size; (try simp at hz1); have hz1a : w.heap.size < w1.heap.size := (by omega); have hz1b : w.heap.size + 1 < w1.heap.size := (by omega); have hz1c : w.heap.size + 1 + 1 < w1.heap.size := (by omega)
    rw [HA.out, HPE.out]
    simp only []
    go_wp2_with fail
    refine (wi_to B A S FA _ d t (HG.out.below (by (repeat (first | exact Below.refl _ _ | (with_reducible refine Below.drew ?_) | (with_reducible refine Below.alloc ?_ (by (try simp); (try omega)) _) | (with_reducible refine Below.setCell ?_ (by (try simp); (try omega)) _) | (with_reducible refine Below.trans ?_ (Below.mono (by assumption) (by (try simp); (try omega))))))))).mono ?_
    rintro e w2 ⟨rfl, hb2⟩
    obtain ⟨hc2, hf2⟩ := bcell hb2; have hz2 := hb2.size; (try simp at hz2); have hz2a : w.heap.size < w2.heap.size := (by omega); have hz2b : w.heap.size + 1 < w2.heap.size := (by omega); have hz2c : w.heap.size + 1 + 1 < w2.heap.size := (by omega); have hz2d : w1.heap.size < w2.heap.size := (by omega)
    rw [HB.out, HQE.out]
    simp only []
    go_wp2_with fail
    refine (wi_cut B A S FA _ c s (HG.out.below (by (repeat (first | exact Below.refl _ _ | (with_reducible refine Below.drew ?_) | (with_reducible refine Below.alloc ?_ (by (try simp); (try omega)) _) | (with_reducible refine Below.setCell ?_ (by (try simp); (try omega)) _) | (with_reducible refine Below.trans ?_ (Below.mono (by assumption) (by (try simp); (try omega))))))))).mono ?_
    rintro e w3 ⟨rfl, hg3, hk3⟩
    rw [HA.out]
    have HG3 := Lib.hid hg3
    have HK3 := Lib.hid hk3
    have n0 : w.heap.size ∉ B :: FA := fun hm => by have := HF.out _ hm; omega
    have n1 : w.heap.size + 1 ∉ B :: FA := fun hm => by have := HF.out _ hm; omega
    have n2 : w.heap.size + 1 + 1 ∉ B :: FA := fun hm => by have := HF.out _ hm; omega
    have n3 : w1.heap.size ∉ B :: FA := fun hm => by have := HF.out _ hm; omega
    have n4 : w2.heap.size ∉ B :: FA := fun hm => by have := HF.out _ hm; omega
    obtain ⟨m0, f0⟩ := hk3.box (b := w.heap.size) (by simp; omega) n0
    obtain ⟨m1, f1⟩ := hk3.box (b := w.heap.size + 1) (by simp; omega) n1
    obtain ⟨m2, f2⟩ := hk3.box (b := w.heap.size + 1 + 1) (by simp; omega) n2
    obtain ⟨m3, f3⟩ := hk3.box (b := w1.heap.size) (by simp; omega) n3
    obtain ⟨m4, f4⟩ := hk3.box (b := w2.heap.size) (by simp) n4
    have hz3 := hk3.size
    simp at hz3
    have hX : Below w.heap.size w (w2.alloc (.cells #[.int .i64 b1, .int .i64 b2] 39)) := by (repeat (first | exact Below.refl _ _ | (with_reducible refine Below.drew ?_) | (with_reducible refine Below.alloc ?_ (by (try simp); (try omega)) _) | (with_reducible refine Below.setCell ?_ (by (try simp); (try omega)) _) | (with_reducible refine Below.trans ?_ (Below.mono (by assumption) (by (try simp); (try omega))))))
    have HX := Lib.hid hX
    clear hg3 hk3 hX
    simp only []
    go_wp2_with fail
    have HKK := Lib.hid ((Kp.of_below (F := B :: FA) HX.out).tr HK3.out)
    refine bodyPost_ret (v := .tuple #[.agg #[.int .i64 0, .int .i64 0, .int .i64 0, .int .i64 0], .bool false, .int .i64 0]) (by simp only [results, Try.results22]; go_simp) rfl ⟨rfl, ?_, ?_⟩
    · exact HG3.out.set4 n2 _ _ _ _
    · exact HKK.out.set4 (by omega) _ _ _ _
  · go_enter Try.func22, Try.ntmps22
    go_wp2_with (go_at_call 62; refine (wi_is B A _ (HG.out.below (by (repeat (first | exact Below.refl _ _ | (with_reducible refine Below.drew ?_) | (with_reducible refine Below.alloc ?_ (by (try simp); (try omega)) _) | (with_reducible refine Below.setCell ?_ (by (try simp); (try omega)) _) | (with_reducible refine Below.trans ?_ (Below.mono (by assumption) (by (try simp); (try omega)))))))).cells.1).mono ?_; rintro e w' ⟨rfl, rfl⟩)
    refine (wi_to B A S FA _ c s (HG.out.below (by (repeat (first | exact Below.refl _ _ | (with_reducible refine Below.drew ?_) | (with_reducible refine Below.alloc ?_ (by (try simp); (try omega)) _) | (with_reducible refine Below.setCell ?_ (by (try simp); (try omega)) _) | (with_reducible refine Below.trans ?_ (Below.mono (by assumption) (by (try simp); (try omega))))))))).mono ?_
    rintro e w1 ⟨rfl, hb1⟩
    obtain ⟨hc1, hf1⟩ := bcell hb1; have hz1 := hb1.size; (try simp at hz1); have hz1a : w.heap.size < w1.heap.size := (by omega); have hz1b : w.heap.size + 1 < w1.heap.size := (by omega); have hz1c : w.heap.size + 1 + 1 < w1.heap.size := (by omega)
    rw [HA.out, HPE.out]
    simp only []
    go_wp2_with fail
    refine (wi_to B A S FA _ c t (HG.out.below (by (repeat (first | exact Below.refl _ _ | (with_reducible refine Below.drew ?_) | (with_reducible refine Below.alloc ?_ (by (try simp); (try omega)) _) | (with_reducible refine Below.setCell ?_ (by (try simp); (try omega)) _) | (with_reducible refine Below.trans ?_ (Below.mono (by assumption) (by (try simp); (try omega))))))))).mono ?_
    rintro e w2 ⟨rfl, hb2⟩
    obtain ⟨hc2, hf2⟩ := bcell hb2; have hz2 := hb2.size; (try simp at hz2); have hz2a : w.heap.size < w2.heap.size := (by omega); have hz2b : w.heap.size + 1 < w2.heap.size := (by omega); have hz2c : w.heap.size + 1 + 1 < w2.heap.size := (by omega); have hz2d : w1.heap.size < w2.heap.size := (by omega)
    rw [HB.out, HQE.out]
    simp only []
    go_wp2_with fail
    refine (wi_cut B A S FA _ c s (HG.out.below (by (repeat (first | exact Below.refl _ _ | (with_reducible refine Below.drew ?_) | (with_reducible refine Below.alloc ?_ (by (try simp); (try omega)) _) | (with_reducible refine Below.setCell ?_ (by (try simp); (try omega)) _) | (with_reducible refine Below.trans ?_ (Below.mono (by assumption) (by (try simp); (try omega))))))))).mono ?_
    rintro e w3 ⟨rfl, hg3, hk3⟩
    rw [HA.out]
    have HG3 := Lib.hid hg3
    have HK3 := Lib.hid hk3
    have n0 : w.heap.size ∉ B :: FA := fun hm => by have := HF.out _ hm; omega
    have n1 : w.heap.size + 1 ∉ B :: FA := fun hm => by have := HF.out _ hm; omega
    have n2 : w.heap.size + 1 + 1 ∉ B :: FA := fun hm => by have := HF.out _ hm; omega
    have n3 : w1.heap.size ∉ B :: FA := fun hm => by have := HF.out _ hm; omega
    have n4 : w2.heap.size ∉ B :: FA := fun hm => by have := HF.out _ hm; omega
    obtain ⟨m0, f0⟩ := hk3.box (b := w.heap.size) (by simp; omega) n0
    obtain ⟨m1, f1⟩ := hk3.box (b := w.heap.size + 1) (by simp; omega) n1
    obtain ⟨m2, f2⟩ := hk3.box (b := w.heap.size + 1 + 1) (by simp; omega) n2
    obtain ⟨m3, f3⟩ := hk3.box (b := w1.heap.size) (by simp; omega) n3
    obtain ⟨m4, f4⟩ := hk3.box (b := w2.heap.size) (by simp) n4
    have hz3 := hk3.size
    simp at hz3
    have hX : Below w.heap.size w (w2.alloc (.cells #[.int .i64 b1, .int .i64 b2] 39)) := by (repeat (first | exact Below.refl _ _ | (with_reducible refine Below.drew ?_) | (with_reducible refine Below.alloc ?_ (by (try simp); (try omega)) _) | (with_reducible refine Below.setCell ?_ (by (try simp); (try omega)) _) | (with_reducible refine Below.trans ?_ (Below.mono (by assumption) (by (try simp); (try omega))))))
    have HX := Lib.hid hX
    clear hg3 hk3 hX
    simp only []
    go_wp2_with fail
    have HKK := Lib.hid ((Kp.of_below (F := B :: FA) HX.out).tr HK3.out)
    refine bodyPost_ret (v := .tuple #[.agg #[.int .i64 0, .int .i64 0, .int .i64 0, .int .i64 0], .bool false, .int .i64 0]) (by simp only [results, Try.results22]; go_simp) rfl ⟨rfl, ?_, ?_⟩
    · exact HG3.out.set4 n2 _ _ _ _
    · exact HKK.out.set4 (by omega) _ _ _ _
set_option maxHeartbeats 8000000 in
theorem wi_pass_two (c s d t : Int) (hk : S.passE (c, s) (d, t) = 0) (hs : S.toP (c, s) ≠ (d, t)) (h : WG w B A S FA) :
    Calls Try.prog 22 #[.pointer (some ⟨B, 0, none⟩), .agg #[.int .i64 c, .int .i64 s], .agg #[.int .i64 d, .int .i64 t]] w fun e w' => e = .returned (passV S (c, s) (d, t)) ∧ WG w' B A (S.pass (c, s) (d, t)) FA ∧ Kp (B :: FA) w w' := by
  have HG := Lib.hid h
  have hlt := h.lt
  have HF := Lib.hid h.blt
  obtain ⟨ha, hb, hne⟩ := Wir.passE_0 hk
  have h3' := port_ne hne
  have hI : S.passIs (c, s) (d, t) = true := by unfold Wir.passIs; exact decide_eq_true ⟨hk, hs⟩
  have hL : S.passL (c, s) (d, t) = (S.toP (c, s), S.toP (d, t)) := by unfold Wir.passL; rw [hI]; rfl
  have hS : S.pass (c, s) (d, t) = ((S.cut (c, s)).cut (d, t)).join (S.toP (c, s)) (S.toP (d, t)) := by unfold Wir.pass; rw [if_neg (by rw [hk]; simp), if_neg hs]
  have hV : passV S (c, s) (d, t) = .tuple #[.agg #[.int .i64 (S.toP (c, s)).1, .int .i64 (S.toP (c, s)).2, .int .i64 (S.toP (d, t)).1, .int .i64 (S.toP (d, t)).2], .bool true, .int .i64 0] := by unfold passV; rw [hI, hL, hk]
  have hwa : ((S.cut (c, s)).cut (d, t)).wE (S.toP (c, s)) = 0 := by rw [Wir.cut_wE (h.ok.cut _), Wir.cut_wE h.ok]; exact (wE_to ha).2
  have hwb : ((S.cut (c, s)).cut (d, t)).wE (S.toP (d, t)) = 0 := by rw [Wir.cut_wE (h.ok.cut _), Wir.cut_wE h.ok]; exact (wE_to hb).2
  rw [hV, hS]
  obtain ⟨⟨a1, a2⟩, hpa⟩ : ∃ q, S.toP (c, s) = q := ⟨_, rfl⟩
  obtain ⟨⟨b1, b2⟩, hpb⟩ : ∃ q, S.toP (d, t) = q := ⟨_, rfl⟩
  rw [hpa] at hwa hs ⊢
  rw [hpb] at hwb ⊢
  have h4' := port_ne hs
  have HPE := Lib.hid hpa
  have HQE := Lib.hid hpb
  have HA := Lib.hid ha
  have HB := Lib.hid hb
  have HWA := Lib.hid hwa
  have HWB := Lib.hid hwb
  clear hk hs hne hI hL hS hV ha hb hpa hpb hwa hwb
  rcases h3' with k3 | ⟨rfl, k3⟩
  · rcases h4' with k4 | ⟨e4, k4⟩
    · go_enter Try.func22, Try.ntmps22
      go_wp2_with (go_at_call 62; refine (wi_is B A _ (HG.out.below (by (repeat (first | exact Below.refl _ _ | (with_reducible refine Below.drew ?_) | (with_reducible refine Below.alloc ?_ (by (try simp); (try omega)) _) | (with_reducible refine Below.setCell ?_ (by (try simp); (try omega)) _) | (with_reducible refine Below.trans ?_ (Below.mono (by assumption) (by (try simp); (try omega)))))))).cells.1).mono ?_; rintro e w' ⟨rfl, rfl⟩)
      refine (wi_to B A S FA _ c s (HG.out.below (by (repeat (first | exact Below.refl _ _ | (with_reducible refine Below.drew ?_) | (with_reducible refine Below.alloc ?_ (by (try simp); (try omega)) _) | (with_reducible refine Below.setCell ?_ (by (try simp); (try omega)) _) | (with_reducible refine Below.trans ?_ (Below.mono (by assumption) (by (try simp); (try omega))))))))).mono ?_
      rintro e w1 ⟨rfl, hb1⟩
      obtain ⟨hc1, hf1⟩ := bcell hb1; have hz1 := hb1.size; (try simp at hz1); have hz1a : w.heap.size < w1.heap.size := (by omega); have hz1b : w.heap.size + 1 < w1.heap.size := (by omega); have hz1c : w.heap.size + 1 + 1 < w1.heap.size := (by omega)
      rw [HA.out, HPE.out]
      simp only []
      go_wp2_with fail
      refine (wi_to B A S FA _ d t (HG.out.below (by (repeat (first | exact Below.refl _ _ | (with_reducible refine Below.drew ?_) | (with_reducible refine Below.alloc ?_ (by (try simp); (try omega)) _) | (with_reducible refine Below.setCell ?_ (by (try simp); (try omega)) _) | (with_reducible refine Below.trans ?_ (Below.mono (by assumption) (by (try simp); (try omega))))))))).mono ?_
      rintro e w2 ⟨rfl, hb2⟩
      obtain ⟨hc2, hf2⟩ := bcell hb2; have hz2 := hb2.size; (try simp at hz2); have hz2a : w.heap.size < w2.heap.size := (by omega); have hz2b : w.heap.size + 1 < w2.heap.size := (by omega); have hz2c : w.heap.size + 1 + 1 < w2.heap.size := (by omega); have hz2d : w1.heap.size < w2.heap.size := (by omega)
      rw [HB.out, HQE.out]
      simp only []
      go_wp2_with fail
      refine (wi_cut B A S FA _ c s (HG.out.below (by (repeat (first | exact Below.refl _ _ | (with_reducible refine Below.drew ?_) | (with_reducible refine Below.alloc ?_ (by (try simp); (try omega)) _) | (with_reducible refine Below.setCell ?_ (by (try simp); (try omega)) _) | (with_reducible refine Below.trans ?_ (Below.mono (by assumption) (by (try simp); (try omega))))))))).mono ?_
      rintro e w3 ⟨rfl, hg3, hk3⟩
      rw [HA.out]
      have HG3 := Lib.hid hg3
      have HK3 := Lib.hid hk3
      have n0 : w.heap.size ∉ B :: FA := fun hm => by have := HF.out _ hm; omega
      have n1 : w.heap.size + 1 ∉ B :: FA := fun hm => by have := HF.out _ hm; omega
      have n2 : w.heap.size + 1 + 1 ∉ B :: FA := fun hm => by have := HF.out _ hm; omega
      have n3 : w1.heap.size ∉ B :: FA := fun hm => by have := HF.out _ hm; omega
      have n4 : w2.heap.size ∉ B :: FA := fun hm => by have := HF.out _ hm; omega
      obtain ⟨m0, f0⟩ := hk3.box (b := w.heap.size) (by simp; omega) n0
      obtain ⟨m1, f1⟩ := hk3.box (b := w.heap.size + 1) (by simp; omega) n1
      obtain ⟨m2, f2⟩ := hk3.box (b := w.heap.size + 1 + 1) (by simp; omega) n2
      obtain ⟨m3, f3⟩ := hk3.box (b := w1.heap.size) (by simp; omega) n3
      obtain ⟨m4, f4⟩ := hk3.box (b := w2.heap.size) (by simp) n4
      have hz3 := hk3.size
      simp at hz3
      have hX : Below w.heap.size w (w2.alloc (.cells #[.int .i64 b1, .int .i64 b2] 39)) := by (repeat (first | exact Below.refl _ _ | (with_reducible refine Below.drew ?_) | (with_reducible refine Below.alloc ?_ (by (try simp); (try omega)) _) | (with_reducible refine Below.setCell ?_ (by (try simp); (try omega)) _) | (with_reducible refine Below.trans ?_ (Below.mono (by assumption) (by (try simp); (try omega))))))
      have HX := Lib.hid hX
      clear hg3 hk3 hX
      simp only []
      go_wp2_with fail
      refine (wi_cut B A (S.cut (c, s)) FA _ d t HG3.out).mono ?_
      rintro e w4 ⟨rfl, hg4, hk4⟩
      have HG4 := Lib.hid hg4
      have HK4 := Lib.hid hk4
      obtain ⟨p0, g0⟩ := hk4.box (b := w.heap.size) (by omega) n0
      obtain ⟨p1, g1⟩ := hk4.box (b := w.heap.size + 1) (by omega) n1
      obtain ⟨p2, g2⟩ := hk4.box (b := w.heap.size + 1 + 1) (by omega) n2
      obtain ⟨p3, g3⟩ := hk4.box (b := w1.heap.size) (by omega) n3
      obtain ⟨p4, g4⟩ := hk4.box (b := w2.heap.size) (by omega) n4
      have hz4 := hk4.size
      clear hg4 hk4
      simp only []
      go_wp2_with fail
      refine (wi_link_ B A ((S.cut (c, s)).cut (d, t)) FA _ a1 a2 b1 b2 HWA.out HWB.out HG4.out).mono ?_
      rintro e w5 ⟨⟨r5, rfl⟩, hg5, hk5⟩
      have HG5 := Lib.hid hg5
      have HK5 := Lib.hid hk5
      obtain ⟨q0, u0⟩ := hk5.box (b := w.heap.size) (by omega) n0
      obtain ⟨q1, u1⟩ := hk5.box (b := w.heap.size + 1) (by omega) n1
      obtain ⟨q2, u2⟩ := hk5.box (b := w.heap.size + 1 + 1) (by omega) n2
      obtain ⟨q3, u3⟩ := hk5.box (b := w1.heap.size) (by omega) n3
      obtain ⟨q4, u4⟩ := hk5.box (b := w2.heap.size) (by omega) n4
      have hz5 := hk5.size
      clear hg5 hk5
      simp only []
      go_wp2_with fail
      have HKK := Lib.hid ((Kp.of_below (F := B :: FA) HX.out).tr (HK3.out.tr (HK4.out.tr HK5.out)))
      refine bodyPost_ret (v := .tuple #[.agg #[.int .i64 a1, .int .i64 a2, .int .i64 b1, .int .i64 b2], .bool true, .int .i64 0]) (by simp only [results, Try.results22]; go_simp) rfl ⟨rfl, ?_, ?_⟩
      · exact HG5.out.set4 n2 _ _ _ _
      · exact HKK.out.set4 (by omega) _ _ _ _
    · have k5 : (a1 == d) = true := by rw [e4]; simp
      clear e4
      go_enter Try.func22, Try.ntmps22
      go_wp2_with (go_at_call 62; refine (wi_is B A _ (HG.out.below (by (repeat (first | exact Below.refl _ _ | (with_reducible refine Below.drew ?_) | (with_reducible refine Below.alloc ?_ (by (try simp); (try omega)) _) | (with_reducible refine Below.setCell ?_ (by (try simp); (try omega)) _) | (with_reducible refine Below.trans ?_ (Below.mono (by assumption) (by (try simp); (try omega)))))))).cells.1).mono ?_; rintro e w' ⟨rfl, rfl⟩)
      refine (wi_to B A S FA _ c s (HG.out.below (by (repeat (first | exact Below.refl _ _ | (with_reducible refine Below.drew ?_) | (with_reducible refine Below.alloc ?_ (by (try simp); (try omega)) _) | (with_reducible refine Below.setCell ?_ (by (try simp); (try omega)) _) | (with_reducible refine Below.trans ?_ (Below.mono (by assumption) (by (try simp); (try omega))))))))).mono ?_
      rintro e w1 ⟨rfl, hb1⟩
      obtain ⟨hc1, hf1⟩ := bcell hb1; have hz1 := hb1.size; (try simp at hz1); have hz1a : w.heap.size < w1.heap.size := (by omega); have hz1b : w.heap.size + 1 < w1.heap.size := (by omega); have hz1c : w.heap.size + 1 + 1 < w1.heap.size := (by omega)
      rw [HA.out, HPE.out]
      simp only []
      go_wp2_with fail
      refine (wi_to B A S FA _ d t (HG.out.below (by (repeat (first | exact Below.refl _ _ | (with_reducible refine Below.drew ?_) | (with_reducible refine Below.alloc ?_ (by (try simp); (try omega)) _) | (with_reducible refine Below.setCell ?_ (by (try simp); (try omega)) _) | (with_reducible refine Below.trans ?_ (Below.mono (by assumption) (by (try simp); (try omega))))))))).mono ?_
      rintro e w2 ⟨rfl, hb2⟩
      obtain ⟨hc2, hf2⟩ := bcell hb2; have hz2 := hb2.size; (try simp at hz2); have hz2a : w.heap.size < w2.heap.size := (by omega); have hz2b : w.heap.size + 1 < w2.heap.size := (by omega); have hz2c : w.heap.size + 1 + 1 < w2.heap.size := (by omega); have hz2d : w1.heap.size < w2.heap.size := (by omega)
      rw [HB.out, HQE.out]
      simp only []
      go_wp2_with fail
      refine (wi_cut B A S FA _ c s (HG.out.below (by (repeat (first | exact Below.refl _ _ | (with_reducible refine Below.drew ?_) | (with_reducible refine Below.alloc ?_ (by (try simp); (try omega)) _) | (with_reducible refine Below.setCell ?_ (by (try simp); (try omega)) _) | (with_reducible refine Below.trans ?_ (Below.mono (by assumption) (by (try simp); (try omega))))))))).mono ?_
      rintro e w3 ⟨rfl, hg3, hk3⟩
      rw [HA.out]
      have HG3 := Lib.hid hg3
      have HK3 := Lib.hid hk3
      have n0 : w.heap.size ∉ B :: FA := fun hm => by have := HF.out _ hm; omega
      have n1 : w.heap.size + 1 ∉ B :: FA := fun hm => by have := HF.out _ hm; omega
      have n2 : w.heap.size + 1 + 1 ∉ B :: FA := fun hm => by have := HF.out _ hm; omega
      have n3 : w1.heap.size ∉ B :: FA := fun hm => by have := HF.out _ hm; omega
      have n4 : w2.heap.size ∉ B :: FA := fun hm => by have := HF.out _ hm; omega
      obtain ⟨m0, f0⟩ := hk3.box (b := w.heap.size) (by simp; omega) n0
      obtain ⟨m1, f1⟩ := hk3.box (b := w.heap.size + 1) (by simp; omega) n1
      obtain ⟨m2, f2⟩ := hk3.box (b := w.heap.size + 1 + 1) (by simp; omega) n2
      obtain ⟨m3, f3⟩ := hk3.box (b := w1.heap.size) (by simp; omega) n3
      obtain ⟨m4, f4⟩ := hk3.box (b := w2.heap.size) (by simp) n4
      have hz3 := hk3.size
      simp at hz3
      have hX : Below w.heap.size w (w2.alloc (.cells #[.int .i64 b1, .int .i64 b2] 39)) := by (repeat (first | exact Below.refl _ _ | (with_reducible refine Below.drew ?_) | (with_reducible refine Below.alloc ?_ (by (try simp); (try omega)) _) | (with_reducible refine Below.setCell ?_ (by (try simp); (try omega)) _) | (with_reducible refine Below.trans ?_ (Below.mono (by assumption) (by (try simp); (try omega))))))
      have HX := Lib.hid hX
      clear hg3 hk3 hX
      simp only []
      go_wp2_with fail
      refine (wi_cut B A (S.cut (c, s)) FA _ d t HG3.out).mono ?_
      rintro e w4 ⟨rfl, hg4, hk4⟩
      have HG4 := Lib.hid hg4
      have HK4 := Lib.hid hk4
      obtain ⟨p0, g0⟩ := hk4.box (b := w.heap.size) (by omega) n0
      obtain ⟨p1, g1⟩ := hk4.box (b := w.heap.size + 1) (by omega) n1
      obtain ⟨p2, g2⟩ := hk4.box (b := w.heap.size + 1 + 1) (by omega) n2
      obtain ⟨p3, g3⟩ := hk4.box (b := w1.heap.size) (by omega) n3
      obtain ⟨p4, g4⟩ := hk4.box (b := w2.heap.size) (by omega) n4
      have hz4 := hk4.size
      clear hg4 hk4
      simp only []
      go_wp2_with fail
      refine (wi_link_ B A ((S.cut (c, s)).cut (d, t)) FA _ a1 a2 b1 b2 HWA.out HWB.out HG4.out).mono ?_
      rintro e w5 ⟨⟨r5, rfl⟩, hg5, hk5⟩
      have HG5 := Lib.hid hg5
      have HK5 := Lib.hid hk5
      obtain ⟨q0, u0⟩ := hk5.box (b := w.heap.size) (by omega) n0
      obtain ⟨q1, u1⟩ := hk5.box (b := w.heap.size + 1) (by omega) n1
      obtain ⟨q2, u2⟩ := hk5.box (b := w.heap.size + 1 + 1) (by omega) n2
      obtain ⟨q3, u3⟩ := hk5.box (b := w1.heap.size) (by omega) n3
      obtain ⟨q4, u4⟩ := hk5.box (b := w2.heap.size) (by omega) n4
      have hz5 := hk5.size
      clear hg5 hk5
      simp only []
      go_wp2_with fail
      have HKK := Lib.hid ((Kp.of_below (F := B :: FA) HX.out).tr (HK3.out.tr (HK4.out.tr HK5.out)))
      refine bodyPost_ret (v := .tuple #[.agg #[.int .i64 a1, .int .i64 a2, .int .i64 b1, .int .i64 b2], .bool true, .int .i64 0]) (by simp only [results, Try.results22]; go_simp) rfl ⟨rfl, ?_, ?_⟩
      · exact HG5.out.set4 n2 _ _ _ _
      · exact HKK.out.set4 (by omega) _ _ _ _
  · rcases h4' with k4 | ⟨e4, k4⟩
    · go_enter Try.func22, Try.ntmps22
      go_wp2_with (go_at_call 62; refine (wi_is B A _ (HG.out.below (by (repeat (first | exact Below.refl _ _ | (with_reducible refine Below.drew ?_) | (with_reducible refine Below.alloc ?_ (by (try simp); (try omega)) _) | (with_reducible refine Below.setCell ?_ (by (try simp); (try omega)) _) | (with_reducible refine Below.trans ?_ (Below.mono (by assumption) (by (try simp); (try omega)))))))).cells.1).mono ?_; rintro e w' ⟨rfl, rfl⟩)
      refine (wi_to B A S FA _ c s (HG.out.below (by (repeat (first | exact Below.refl _ _ | (with_reducible refine Below.drew ?_) | (with_reducible refine Below.alloc ?_ (by (try simp); (try omega)) _) | (with_reducible refine Below.setCell ?_ (by (try simp); (try omega)) _) | (with_reducible refine Below.trans ?_ (Below.mono (by assumption) (by (try simp); (try omega))))))))).mono ?_
      rintro e w1 ⟨rfl, hb1⟩
      obtain ⟨hc1, hf1⟩ := bcell hb1; have hz1 := hb1.size; (try simp at hz1); have hz1a : w.heap.size < w1.heap.size := (by omega); have hz1b : w.heap.size + 1 < w1.heap.size := (by omega); have hz1c : w.heap.size + 1 + 1 < w1.heap.size := (by omega)
      rw [HA.out, HPE.out]
      simp only []
      go_wp2_with fail
      refine (wi_to B A S FA _ c t (HG.out.below (by (repeat (first | exact Below.refl _ _ | (with_reducible refine Below.drew ?_) | (with_reducible refine Below.alloc ?_ (by (try simp); (try omega)) _) | (with_reducible refine Below.setCell ?_ (by (try simp); (try omega)) _) | (with_reducible refine Below.trans ?_ (Below.mono (by assumption) (by (try simp); (try omega))))))))).mono ?_
      rintro e w2 ⟨rfl, hb2⟩
      obtain ⟨hc2, hf2⟩ := bcell hb2; have hz2 := hb2.size; (try simp at hz2); have hz2a : w.heap.size < w2.heap.size := (by omega); have hz2b : w.heap.size + 1 < w2.heap.size := (by omega); have hz2c : w.heap.size + 1 + 1 < w2.heap.size := (by omega); have hz2d : w1.heap.size < w2.heap.size := (by omega)
      rw [HB.out, HQE.out]
      simp only []
      go_wp2_with fail
      refine (wi_cut B A S FA _ c s (HG.out.below (by (repeat (first | exact Below.refl _ _ | (with_reducible refine Below.drew ?_) | (with_reducible refine Below.alloc ?_ (by (try simp); (try omega)) _) | (with_reducible refine Below.setCell ?_ (by (try simp); (try omega)) _) | (with_reducible refine Below.trans ?_ (Below.mono (by assumption) (by (try simp); (try omega))))))))).mono ?_
      rintro e w3 ⟨rfl, hg3, hk3⟩
      rw [HA.out]
      have HG3 := Lib.hid hg3
      have HK3 := Lib.hid hk3
      have n0 : w.heap.size ∉ B :: FA := fun hm => by have := HF.out _ hm; omega
      have n1 : w.heap.size + 1 ∉ B :: FA := fun hm => by have := HF.out _ hm; omega
      have n2 : w.heap.size + 1 + 1 ∉ B :: FA := fun hm => by have := HF.out _ hm; omega
      have n3 : w1.heap.size ∉ B :: FA := fun hm => by have := HF.out _ hm; omega
      have n4 : w2.heap.size ∉ B :: FA := fun hm => by have := HF.out _ hm; omega
      obtain ⟨m0, f0⟩ := hk3.box (b := w.heap.size) (by simp; omega) n0
      obtain ⟨m1, f1⟩ := hk3.box (b := w.heap.size + 1) (by simp; omega) n1
      obtain ⟨m2, f2⟩ := hk3.box (b := w.heap.size + 1 + 1) (by simp; omega) n2
      obtain ⟨m3, f3⟩ := hk3.box (b := w1.heap.size) (by simp; omega) n3
      obtain ⟨m4, f4⟩ := hk3.box (b := w2.heap.size) (by simp) n4
      have hz3 := hk3.size
      simp at hz3
      have hX : Below w.heap.size w (w2.alloc (.cells #[.int .i64 b1, .int .i64 b2] 39)) := by (repeat (first | exact Below.refl _ _ | (with_reducible refine Below.drew ?_) | (with_reducible refine Below.alloc ?_ (by (try simp); (try omega)) _) | (with_reducible refine Below.setCell ?_ (by (try simp); (try omega)) _) | (with_reducible refine Below.trans ?_ (Below.mono (by assumption) (by (try simp); (try omega))))))
      have HX := Lib.hid hX
      clear hg3 hk3 hX
      simp only []
      go_wp2_with fail
      refine (wi_cut B A (S.cut (c, s)) FA _ c t HG3.out).mono ?_
      rintro e w4 ⟨rfl, hg4, hk4⟩
      have HG4 := Lib.hid hg4
      have HK4 := Lib.hid hk4
      obtain ⟨p0, g0⟩ := hk4.box (b := w.heap.size) (by omega) n0
      obtain ⟨p1, g1⟩ := hk4.box (b := w.heap.size + 1) (by omega) n1
      obtain ⟨p2, g2⟩ := hk4.box (b := w.heap.size + 1 + 1) (by omega) n2
      obtain ⟨p3, g3⟩ := hk4.box (b := w1.heap.size) (by omega) n3
      obtain ⟨p4, g4⟩ := hk4.box (b := w2.heap.size) (by omega) n4
      have hz4 := hk4.size
      clear hg4 hk4
      simp only []
      go_wp2_with fail
      refine (wi_link_ B A ((S.cut (c, s)).cut (c, t)) FA _ a1 a2 b1 b2 HWA.out HWB.out HG4.out).mono ?_
      rintro e w5 ⟨⟨r5, rfl⟩, hg5, hk5⟩
      have HG5 := Lib.hid hg5
      have HK5 := Lib.hid hk5
      obtain ⟨q0, u0⟩ := hk5.box (b := w.heap.size) (by omega) n0
      obtain ⟨q1, u1⟩ := hk5.box (b := w.heap.size + 1) (by omega) n1
      obtain ⟨q2, u2⟩ := hk5.box (b := w.heap.size + 1 + 1) (by omega) n2
      obtain ⟨q3, u3⟩ := hk5.box (b := w1.heap.size) (by omega) n3
      obtain ⟨q4, u4⟩ := hk5.box (b := w2.heap.size) (by omega) n4
      have hz5 := hk5.size
      clear hg5 hk5
      simp only []
      go_wp2_with fail
      have HKK := Lib.hid ((Kp.of_below (F := B :: FA) HX.out).tr (HK3.out.tr (HK4.out.tr HK5.out)))
      refine bodyPost_ret (v := .tuple #[.agg #[.int .i64 a1, .int .i64 a2, .int .i64 b1, .int .i64 b2], .bool true, .int .i64 0]) (by simp only [results, Try.results22]; go_simp) rfl ⟨rfl, ?_, ?_⟩
      · exact HG5.out.set4 n2 _ _ _ _
      · exact HKK.out.set4 (by omega) _ _ _ _
    · have k5 : (a1 == c) = true := by rw [e4]; simp
      clear e4
      go_enter Try.func22, Try.ntmps22
      go_wp2_with (go_at_call 62; refine (wi_is B A _ (HG.out.below (by (repeat (first | exact Below.refl _ _ | (with_reducible refine Below.drew ?_) | (with_reducible refine Below.alloc ?_ (by (try simp); (try omega)) _) | (with_reducible refine Below.setCell ?_ (by (try simp); (try omega)) _) | (with_reducible refine Below.trans ?_ (Below.mono (by assumption) (by (try simp); (try omega)))))))).cells.1).mono ?_; rintro e w' ⟨rfl, rfl⟩)
      refine (wi_to B A S FA _ c s (HG.out.below (by (repeat (first | exact Below.refl _ _ | (with_reducible refine Below.drew ?_) | (with_reducible refine Below.alloc ?_ (by (try simp); (try omega)) _) | (with_reducible refine Below.setCell ?_ (by (try simp); (try omega)) _) | (with_reducible refine Below.trans ?_ (Below.mono (by assumption) (by (try simp); (try omega))))))))).mono ?_
      rintro e w1 ⟨rfl, hb1⟩
      obtain ⟨hc1, hf1⟩ := bcell hb1; have hz1 := hb1.size; (try simp at hz1); have hz1a : w.heap.size < w1.heap.size := (by omega); have hz1b : w.heap.size + 1 < w1.heap.size := (by omega); have hz1c : w.heap.size + 1 + 1 < w1.heap.size := (by omega)
      rw [HA.out, HPE.out]
      simp only []
      go_wp2_with fail
      refine (wi_to B A S FA _ c t (HG.out.below (by (repeat (first | exact Below.refl _ _ | (with_reducible refine Below.drew ?_) | (with_reducible refine Below.alloc ?_ (by (try simp); (try omega)) _) | (with_reducible refine Below.setCell ?_ (by (try simp); (try omega)) _) | (with_reducible refine Below.trans ?_ (Below.mono (by assumption) (by (try simp); (try omega))))))))).mono ?_
      rintro e w2 ⟨rfl, hb2⟩
      obtain ⟨hc2, hf2⟩ := bcell hb2; have hz2 := hb2.size; (try simp at hz2); have hz2a : w.heap.size < w2.heap.size := (by omega); have hz2b : w.heap.size + 1 < w2.heap.size := (by omega); have hz2c : w.heap.size + 1 + 1 < w2.heap.size := (by omega); have hz2d : w1.heap.size < w2.heap.size := (by omega)
      rw [HB.out, HQE.out]
      simp only []
      go_wp2_with fail
      refine (wi_cut B A S FA _ c s (HG.out.below (by (repeat (first | exact Below.refl _ _ | (with_reducible refine Below.drew ?_) | (with_reducible refine Below.alloc ?_ (by (try simp); (try omega)) _) | (with_reducible refine Below.setCell ?_ (by (try simp); (try omega)) _) | (with_reducible refine Below.trans ?_ (Below.mono (by assumption) (by (try simp); (try omega))))))))).mono ?_
      rintro e w3 ⟨rfl, hg3, hk3⟩
      rw [HA.out]
      have HG3 := Lib.hid hg3
      have HK3 := Lib.hid hk3
      have n0 : w.heap.size ∉ B :: FA := fun hm => by have := HF.out _ hm; omega
      have n1 : w.heap.size + 1 ∉ B :: FA := fun hm => by have := HF.out _ hm; omega
      have n2 : w.heap.size + 1 + 1 ∉ B :: FA := fun hm => by have := HF.out _ hm; omega
      have n3 : w1.heap.size ∉ B :: FA := fun hm => by have := HF.out _ hm; omega
      have n4 : w2.heap.size ∉ B :: FA := fun hm => by have := HF.out _ hm; omega
      obtain ⟨m0, f0⟩ := hk3.box (b := w.heap.size) (by simp; omega) n0
      obtain ⟨m1, f1⟩ := hk3.box (b := w.heap.size + 1) (by simp; omega) n1
      obtain ⟨m2, f2⟩ := hk3.box (b := w.heap.size + 1 + 1) (by simp; omega) n2
      obtain ⟨m3, f3⟩ := hk3.box (b := w1.heap.size) (by simp; omega) n3
      obtain ⟨m4, f4⟩ := hk3.box (b := w2.heap.size) (by simp) n4
      have hz3 := hk3.size
      simp at hz3
      have hX : Below w.heap.size w (w2.alloc (.cells #[.int .i64 b1, .int .i64 b2] 39)) := by (repeat (first | exact Below.refl _ _ | (with_reducible refine Below.drew ?_) | (with_reducible refine Below.alloc ?_ (by (try simp); (try omega)) _) | (with_reducible refine Below.setCell ?_ (by (try simp); (try omega)) _) | (with_reducible refine Below.trans ?_ (Below.mono (by assumption) (by (try simp); (try omega))))))
      have HX := Lib.hid hX
      clear hg3 hk3 hX
      simp only []
      go_wp2_with fail
      refine (wi_cut B A (S.cut (c, s)) FA _ c t HG3.out).mono ?_
      rintro e w4 ⟨rfl, hg4, hk4⟩
      have HG4 := Lib.hid hg4
      have HK4 := Lib.hid hk4
      obtain ⟨p0, g0⟩ := hk4.box (b := w.heap.size) (by omega) n0
      obtain ⟨p1, g1⟩ := hk4.box (b := w.heap.size + 1) (by omega) n1
      obtain ⟨p2, g2⟩ := hk4.box (b := w.heap.size + 1 + 1) (by omega) n2
      obtain ⟨p3, g3⟩ := hk4.box (b := w1.heap.size) (by omega) n3
      obtain ⟨p4, g4⟩ := hk4.box (b := w2.heap.size) (by omega) n4
      have hz4 := hk4.size
      clear hg4 hk4
      simp only []
      go_wp2_with fail
      refine (wi_link_ B A ((S.cut (c, s)).cut (c, t)) FA _ a1 a2 b1 b2 HWA.out HWB.out HG4.out).mono ?_
      rintro e w5 ⟨⟨r5, rfl⟩, hg5, hk5⟩
      have HG5 := Lib.hid hg5
      have HK5 := Lib.hid hk5
      obtain ⟨q0, u0⟩ := hk5.box (b := w.heap.size) (by omega) n0
      obtain ⟨q1, u1⟩ := hk5.box (b := w.heap.size + 1) (by omega) n1
      obtain ⟨q2, u2⟩ := hk5.box (b := w.heap.size + 1 + 1) (by omega) n2
      obtain ⟨q3, u3⟩ := hk5.box (b := w1.heap.size) (by omega) n3
      obtain ⟨q4, u4⟩ := hk5.box (b := w2.heap.size) (by omega) n4
      have hz5 := hk5.size
      clear hg5 hk5
      simp only []
      go_wp2_with fail
      have HKK := Lib.hid ((Kp.of_below (F := B :: FA) HX.out).tr (HK3.out.tr (HK4.out.tr HK5.out)))
      refine bodyPost_ret (v := .tuple #[.agg #[.int .i64 a1, .int .i64 a2, .int .i64 b1, .int .i64 b2], .bool true, .int .i64 0]) (by simp only [results, Try.results22]; go_simp) rfl ⟨rfl, ?_, ?_⟩
      · exact HG5.out.set4 n2 _ _ _ _
      · exact HKK.out.set4 (by omega) _ _ _ _
theorem wi_pass (c s d t : Int) (h : WG w B A S FA) :
    Calls Try.prog 22 #[.pointer (some ⟨B, 0, none⟩), .agg #[.int .i64 c, .int .i64 s], .agg #[.int .i64 d, .int .i64 t]] w fun e w' => e = .returned (passV S (c, s) (d, t)) ∧ WG w' B A (S.pass (c, s) (d, t)) FA ∧ Kp (B :: FA) w w' := by
  by_cases hk : S.passE (c, s) (d, t) = 0
  · by_cases hs : S.toP (c, s) = (d, t)
    · exact wi_pass_same B A S FA w c s d t hk hs h
    · exact wi_pass_two B A S FA w c s d t hk hs h
  · exact wi_pass_no B A S FA w c s d t _ rfl hk h
end
end Go.Proofs.Ythbobooiedcofaa
