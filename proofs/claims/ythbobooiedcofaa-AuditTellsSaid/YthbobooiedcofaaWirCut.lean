/-
  A wiring: Cut.
-/
import Derived.Test.YthbobooiedcofaaWirLink
namespace Go.Proofs.Ythbobooiedcofaa
open Go.RowKit
attribute [local go_sem] cell_set
set_option maxRecDepth 100000
set_option linter.unusedVariables false

theorem wE_to {S : Wir} {p : Pt} (h : S.toE p = 0) : S.wE p = 0 ∧ S.wE (S.toP p) = 0 := by
  have h0 := h
  unfold Wir.toE at h
  by_cases h1 : S.wE p = 0
  · rw [if_neg (by omega)] at h
    by_cases h2 : unOk (S.wV p) = true ∧ S.wE (nxP (S.wV p)) = 0
    · refine ⟨h1, ?_⟩
      unfold Wir.toP
      rw [if_pos h0]
      exact h2.2
    · rw [if_neg h2] at h; exact absurd h (by decide)
  · rw [if_pos h1] at h; exact absurd h (by decide)
/-- After a call that keeps all but F: the cells of a block that is not in F. -/
theorem Kp.box {F : List Nat} {w w' : World} (h : Kp F w w') {b : Nat} (hb : b < w.heap.size) (hn : b ∉ F) : (∀ j, w'.cell? ⟨b, j, none⟩ = w.cell? ⟨b, j, none⟩) ∧ ∀ j, w'.frozen? ⟨b, j, none⟩ = w.frozen? ⟨b, j, none⟩ :=
  ⟨fun j => World.cell?_of_block (h.block b hb hn), fun j => World.frozen?_of_block (h.block b hb hn)⟩
section
variable (B A : Nat) (S : Wir) (FA : List Nat) (w : World)
set_option maxHeartbeats 2000000 in
theorem wi_cut (c s : Int) (h : WG w B A S FA) :
    Calls Try.prog 21 #[.pointer (some ⟨B, 0, none⟩), .agg #[.int .i64 c, .int .i64 s]] w fun e w' => e = .returned (.tuple #[.agg #[.int .i64 (S.toP (c, s)).1, .int .i64 (S.toP (c, s)).2], .int .i64 (S.toE (c, s))]) ∧ WG w' B A (S.cut (c, s)) FA ∧ Kp (B :: FA) w w' := by
  have HG := Lib.hid h
  have hlt := h.lt
  have HF := Lib.hid h.blt
  by_cases he : S.toE (c, s) = 0
  · obtain ⟨hp, hq⟩ := wE_to he
    have HE := Lib.hid he
    have hC : S.cut (c, s) = (S.put (c, s) 4294967295).put (S.toP (c, s)) 4294967295 := Wir.cut_eq he
    rw [hC, he]
    obtain ⟨⟨q1, q2⟩, hqq⟩ : ∃ q, S.toP (c, s) = q := ⟨_, rfl⟩
    have HQQ := Lib.hid hqq
    rw [hqq] at hq ⊢
    have HP := Lib.hid hp
    have HQ := Lib.hid hq
    clear hp hq hqq hC he
    go_enter Try.func21, Try.ntmps21
    go_wp2_with fail
    refine (wi_to B A S FA _ c s (HG.out.below (by (repeat (first | exact Below.refl _ _ | (with_reducible refine Below.drew ?_) | (with_reducible refine Below.alloc ?_ (by (try simp); (try omega)) _) | (with_reducible refine Below.setCell ?_ (by (try simp); (try omega)) _) | (with_reducible refine Below.trans ?_ (Below.mono (by assumption) (by (try simp); (try omega))))))))).mono ?_
    rintro e w1 ⟨rfl, hb1⟩
    obtain ⟨hc1, hf1⟩ := bcell hb1; have hz1 := hb1.size; (try simp at hz1); have hz1a : w.heap.size < w1.heap.size := (by omega); have hz1b : w.heap.size + 1 < w1.heap.size := (by omega)
    rw [HE.out, HQQ.out]
    simp only []
    go_wp2_with fail
    refine (wi_put B A S FA _ c s 4294967295 (by decide) HP.out (HG.out.below (by (repeat (first | exact Below.refl _ _ | (with_reducible refine Below.drew ?_) | (with_reducible refine Below.alloc ?_ (by (try simp); (try omega)) _) | (with_reducible refine Below.setCell ?_ (by (try simp); (try omega)) _) | (with_reducible refine Below.trans ?_ (Below.mono (by assumption) (by (try simp); (try omega))))))))).mono ?_
    rintro e w2 ⟨⟨r2, rfl⟩, hg2, hk2⟩
    have HG2 := Lib.hid hg2
    have HK2 := Lib.hid hk2
    have n0 : w.heap.size ∉ B :: FA := fun hm => by have := HF.out _ hm; omega
    have n1 : w.heap.size + 1 ∉ B :: FA := fun hm => by have := HF.out _ hm; omega
    have n2 : w1.heap.size ∉ B :: FA := fun hm => by have := HF.out _ hm; omega
    obtain ⟨m0, f0⟩ := hk2.box (b := w.heap.size) (by simp; omega) n0
    obtain ⟨m1, f1⟩ := hk2.box (b := w.heap.size + 1) (by simp; omega) n1
    obtain ⟨m2, f2⟩ := hk2.box (b := w1.heap.size) (by simp) n2
    have hz2 := hk2.size
    simp at hz2
    have hX : Below w.heap.size w (w1.alloc (.cells #[.int .i64 q1, .int .i64 q2] 39)) := by (repeat (first | exact Below.refl _ _ | (with_reducible refine Below.drew ?_) | (with_reducible refine Below.alloc ?_ (by (try simp); (try omega)) _) | (with_reducible refine Below.setCell ?_ (by (try simp); (try omega)) _) | (with_reducible refine Below.trans ?_ (Below.mono (by assumption) (by (try simp); (try omega))))))
    have HX := Lib.hid hX
    clear hg2 hk2 hX
    simp only []
    go_wp2_with fail
    refine (wi_put B A (S.put (c, s) 4294967295) FA _ q1 q2 4294967295 (by decide) (by rw [Wir.put_wE]; exact HQ.out) HG2.out).mono ?_
    rintro e w3 ⟨⟨r3, rfl⟩, hg3, hk3⟩
    have HG3 := Lib.hid hg3
    have HK3 := Lib.hid hk3
    obtain ⟨l0, g0⟩ := hk3.box (b := w.heap.size) (by omega) n0
    obtain ⟨l1, g1⟩ := hk3.box (b := w.heap.size + 1) (by omega) n1
    obtain ⟨l2, g2⟩ := hk3.box (b := w1.heap.size) (by omega) n2
    have hz3 := hk3.size
    have t0 : w.heap.size < w3.heap.size := by omega
    have t1 : w.heap.size + 1 < w3.heap.size := by omega
    have t2 : w1.heap.size < w3.heap.size := by omega
    clear hg3 hk3
    simp only []
    go_wp2_with fail
    have hkk : Kp (B :: FA) w w3 := (Kp.of_below HX.out).tr (HK2.out.tr HK3.out)
    refine bodyPost_ret (v := .tuple #[.agg #[.int .i64 q1, .int .i64 q2], .int .i64 0]) (by simp only [results, Try.results21]; go_simp) rfl ⟨rfl, ?_, ?_⟩
    · refine HG3.out.keep fun b hb => ?_
      have hbl := HF.out b hb
      exact (Below.heap_setCell _ _ _ b (by show b ≠ w.heap.size + 1; omega)).trans (Below.heap_setCell _ _ _ b (by show b ≠ w.heap.size + 1; omega))
    · exact (hkk.setCell (p := ⟨w.heap.size + 1, 0, none⟩) (.inr (by show w.heap.size ≤ w.heap.size + 1; omega)) _).setCell (p := ⟨w.heap.size + 1, 1, none⟩) (.inr (by show w.heap.size ≤ w.heap.size + 1; omega)) _
  · have hC : S.cut (c, s) = S := by unfold Wir.cut; rw [if_neg he]
    have hP : S.toP (c, s) = (0, 0) := by unfold Wir.toP; rw [if_neg he]
    rw [hC, hP]
    obtain ⟨k, hk⟩ : ∃ k, S.toE (c, s) = k := ⟨_, rfl⟩
    rw [hk] at he ⊢
    have HKE := Lib.hid hk
    have HPE := Lib.hid hP
    have k1 : (k != 0) = true := bne_iff_ne.2 he
    clear hk hC hP he
    go_enter Try.func21, Try.ntmps21
    go_wp2_with fail
    refine (wi_to B A S FA _ c s (HG.out.below (by (repeat (first | exact Below.refl _ _ | (with_reducible refine Below.drew ?_) | (with_reducible refine Below.alloc ?_ (by (try simp); (try omega)) _) | (with_reducible refine Below.setCell ?_ (by (try simp); (try omega)) _) | (with_reducible refine Below.trans ?_ (Below.mono (by assumption) (by (try simp); (try omega))))))))).mono ?_
    rintro e w1 ⟨rfl, hb1⟩
    obtain ⟨hc1, hf1⟩ := bcell hb1; have hz1 := hb1.size; (try simp at hz1); have hz1a : w.heap.size < w1.heap.size := (by omega); have hz1b : w.heap.size + 1 < w1.heap.size := (by omega)
    rw [HKE.out, HPE.out]
    simp only []
    go_wp2_with fail
    exact bodyPost_ret (v := .tuple #[.agg #[.int .i64 0, .int .i64 0], .int .i64 k]) (by simp only [results, Try.results21]; go_simp) rfl ⟨rfl, HG.out.below (by (repeat (first | exact Below.refl _ _ | (with_reducible refine Below.drew ?_) | (with_reducible refine Below.alloc ?_ (by (try simp); (try omega)) _) | (with_reducible refine Below.setCell ?_ (by (try simp); (try omega)) _) | (with_reducible refine Below.trans ?_ (Below.mono (by assumption) (by (try simp); (try omega))))))), Kp.of_below (by (repeat (first | exact Below.refl _ _ | (with_reducible refine Below.drew ?_) | (with_reducible refine Below.alloc ?_ (by (try simp); (try omega)) _) | (with_reducible refine Below.setCell ?_ (by (try simp); (try omega)) _) | (with_reducible refine Below.trans ?_ (Below.mono (by assumption) (by (try simp); (try omega)))))))⟩
end
end Go.Proofs.Ythbobooiedcofaa
