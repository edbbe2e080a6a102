/-
  A wiring: put, link, Link, Cut.
-/
import Derived.Test.YthbobooiedcofaaWirTo
namespace Go.Proofs.Ythbobooiedcofaa
open Go.RowKit
attribute [local go_sem] cell_set
set_option maxRecDepth 100000
set_option linter.unusedVariables false

theorem Kp.tr {G : List Nat} {w w1 w2 : World} (h : Kp G w w1) (k : Kp G w1 w2) : Kp G w w2 := h.trans k fun b hb => .inl hb
section
variable (B A : Nat) (S : Wir) (FA : List Nat) (w : World)
set_option maxHeartbeats 1000000 in
theorem wi_put (c s v : Int) (hv : 0 ≤ v ∧ v < 4294967296) (hp : S.wE (c, s) = 0) (h : WG w B A S FA) :
    Calls Try.prog 71 #[.pointer (some ⟨B, 0, none⟩), .agg #[.int .i64 c, .int .i64 s], .int .u32 v] w fun e w' => (∃ r, e = .returned r) ∧ WG w' B A (S.put (c, s) v) FA ∧ Kp (B :: FA) w w' := by
  have HG := Lib.hid h
  have HV := Lib.hid hv
  have hlt := h.lt
  obtain ⟨c0, c1⟩ := h.cells
  have hX : Kp (B :: FA) w (w.alloc (.cells #[.int .i64 c, .int .i64 s] 39)) := (Kp.refl _ _).alloc _
  have HX := Lib.hid hX
  clear hX hv
  by_cases hc : c = -1
  · subst hc
    have h1 : ¬ (s < 0 ∨ (S.P.length : Int) ≤ s) := by
      intro h2; unfold Wir.wE at hp; rw [if_pos rfl, if_pos h2] at hp; exact absurd hp (by decide)
    obtain ⟨i, rfl⟩ := Int.eq_ofNat_of_zero_le (by omega : 0 ≤ s)
    have hi : i < S.P.length := by omega
    have k0 := h.word hi
    have k1 := h.frozen (2 + i)
    have h5 : (i : Int) < 64 := by have := h.ok.p; omega
    have h6 : i < 64 := by omega
    have h7 : (0 : Int) ≤ (i : Int) := by omega
    generalize S.P.getD i 0 = x at k0
    have hS : S.put (-1, (i : Int)) v = { S with P := S.P.set i v } := by unfold Wir.put; rw [if_pos rfl]; rfl
    rw [hS]
    clear hp h1 hS
    go_enter Try.func71, Try.ntmps71
    go_wp2_with fail
    (refine region_tail 7 (by kernel_rfl) (by kernel_rfl) ?_; simp only [List.take_succ_cons, List.take_zero, List.drop_succ_cons, List.drop_zero]; repeat still_step; try refine wpStill_nil ?_)
    go_wp2_with fail
    refine bodyPost_ret (results_none rfl _ _ _) rfl ⟨⟨_, rfl⟩, ?_, ?_⟩
    · exact (HG.out.putP hi HV.out).below (by (repeat (first | exact Below.refl _ _ | (with_reducible refine Below.drew ?_) | (with_reducible refine Below.alloc ?_ (by (try simp); (try omega)) _) | (with_reducible refine Below.setCell ?_ (by (try simp); (try omega)) _) | (with_reducible refine Below.trans ?_ (Below.mono (by assumption) (by (try simp); (try omega)))))))
    · exact (((Kp.refl _ _).setCell (p := ⟨B, 2 + i, none⟩) (.inl (by simp)) _).alloc _).drew
  · have hcb : (c == -1) = false := by rw [beq_eq_false_iff_ne]; exact hc
    have hS : S.put (c, s) v = { S with A := S.A.put c s v } := by unfold Wir.put; rw [if_neg hc]
    rw [hS]
    clear hp hS
    go_enter Try.func71, Try.ntmps71
    go_wp2_with fail
    (refine region_tail 10 (by kernel_rfl) (by kernel_rfl) ?_; simp only [List.take_succ_cons, List.take_zero, List.drop_succ_cons, List.drop_zero]; repeat still_step; try refine wpStill_nil ?_)
    go_wp2_with fail
    refine (ar_put A S.A FA c s v HV.out _ (HG.out.pa.below (by (repeat (first | exact Below.refl _ _ | (with_reducible refine Below.drew ?_) | (with_reducible refine Below.alloc ?_ (by (try simp); (try omega)) _) | (with_reducible refine Below.setCell ?_ (by (try simp); (try omega)) _) | (with_reducible refine Below.trans ?_ (Below.mono (by assumption) (by (try simp); (try omega))))))))).mono ?_
    rintro e w1 ⟨rfl, hp1, hk1, hz1⟩
    have HP := Lib.hid (And.intro hp1 hk1)
    clear hp1 hk1
    simp only []
    go_wp2_with fail
    refine bodyPost_end (results_none rfl _ _ _) rfl ⟨⟨_, rfl⟩, ?_, ?_⟩
    · exact (HG.out.below (by (repeat (first | exact Below.refl _ _ | (with_reducible refine Below.drew ?_) | (with_reducible refine Below.alloc ?_ (by (try simp); (try omega)) _) | (with_reducible refine Below.setCell ?_ (by (try simp); (try omega)) _) | (with_reducible refine Below.trans ?_ (Below.mono (by assumption) (by (try simp); (try omega)))))))).ofA HP.out.1 HP.out.2
    · exact HX.out.drew.tr (HP.out.2.mono fun b hb => List.mem_cons_of_mem _ hb)
/-- Where two ports are linked, or cut. -/
def W2 (S : Wir) (p q : Pt) (a b : Int) : Wir := (S.put p a).put q b
set_option maxHeartbeats 1000000 in
theorem wi_link_ (c s d t : Int) (hp : S.wE (c, s) = 0) (hq : S.wE (d, t) = 0) (h : WG w B A S FA) :
    Calls Try.prog 70 #[.pointer (some ⟨B, 0, none⟩), .agg #[.int .i64 c, .int .i64 s], .agg #[.int .i64 d, .int .i64 t]] w fun e w' => (∃ r, e = .returned r) ∧ WG w' B A (S.join (c, s) (d, t)) FA ∧ Kp (B :: FA) w w' := by
  have HG := Lib.hid h
  have hlt := h.lt
  have HF := Lib.hid h.blt
  have h1 := Lib.hid (Wir.pkP_rng h.ok hp)
  have h2 := Lib.hid (Wir.pkP_rng h.ok hq)
  have HP := Lib.hid hp
  have HQ := Lib.hid hq
  clear hp hq
  go_enter Try.func70, Try.ntmps70
  go_wp2_with fail
  refine (pack_any c s _).mono ?_
  rintro e w1 ⟨rfl, hb1⟩
  obtain ⟨hc1, hf1⟩ := bcell hb1; have hz1 := hb1.size; (try simp at hz1); have hz1a : w.heap.size < w1.heap.size := (by omega); have hz1b : w.heap.size + 1 < w1.heap.size := (by omega)
  simp only []
  go_wp2_with fail
  refine (pack_any d t _).mono ?_
  rintro e w2 ⟨rfl, hb2⟩
  obtain ⟨hc2, hf2⟩ := bcell hb2; have hz2 := hb2.size; (try simp at hz2); have hz2a : w.heap.size < w2.heap.size := (by omega); have hz2b : w.heap.size + 1 < w2.heap.size := (by omega)
  simp only []
  go_wp2_with fail
  refine (wi_put B A S FA _ c s (pkW d t) h2.out HP.out (HG.out.below (by (repeat (first | exact Below.refl _ _ | (with_reducible refine Below.drew ?_) | (with_reducible refine Below.alloc ?_ (by (try simp); (try omega)) _) | (with_reducible refine Below.setCell ?_ (by (try simp); (try omega)) _) | (with_reducible refine Below.trans ?_ (Below.mono (by assumption) (by (try simp); (try omega))))))))).mono ?_
  rintro e w3 ⟨⟨r3, rfl⟩, hg3, hk3⟩
  have HG3 := Lib.hid hg3
  have HK3 := Lib.hid hk3
  have n1 : w.heap.size ∉ B :: FA := fun hm => by have := HF.out _ hm; omega
  have n2 : w.heap.size + 1 ∉ B :: FA := fun hm => by have := HF.out _ hm; omega
  have m0 : ∀ j, w3.cell? ⟨w.heap.size + 1, j, none⟩ = w2.cell? ⟨w.heap.size + 1, j, none⟩ := fun j => World.cell?_of_block (hk3.block _ (by omega) n2)
  have hz3 := hk3.size
  clear hg3 hk3
  simp only []
  go_wp2_with fail
  refine (wi_put B A (S.put (c, s) (pkW d t)) FA _ d t (pkW c s) h1.out (by rw [Wir.put_wE]; exact HQ.out) HG3.out).mono ?_
  rintro e w4 ⟨⟨r4, rfl⟩, hg4, hk4⟩
  have HG4 := Lib.hid hg4
  have HK4 := Lib.hid hk4
  clear hg4 hk4
  simp only []
  go_wp2_with fail
  refine bodyPost_end (results_none rfl _ _ _) rfl ⟨⟨_, rfl⟩, HG4.out, ?_⟩
  have h02 : Below w.heap.size w w2 := by (repeat (first | exact Below.refl _ _ | (with_reducible refine Below.drew ?_) | (with_reducible refine Below.alloc ?_ (by (try simp); (try omega)) _) | (with_reducible refine Below.setCell ?_ (by (try simp); (try omega)) _) | (with_reducible refine Below.trans ?_ (Below.mono (by assumption) (by (try simp); (try omega))))))
  exact (Kp.of_below h02).tr (HK3.out.tr HK4.out)
end
end Go.Proofs.Ythbobooiedcofaa
