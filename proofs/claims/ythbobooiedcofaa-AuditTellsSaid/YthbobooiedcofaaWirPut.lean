/-
  A wiring: put, link, Link, Cut.
-/
import Derived.Test.YthbobooiedcofaaWirMem
/-
  A wiring: To, put, link, Link, Cut.
-/
namespace Go.Proofs.Ythbobooiedcofaa
open Go.RowKit
attribute [local go_sem] cell_set
set_option maxRecDepth 100000
set_option linter.unusedVariables false

section
variable (B A : Nat) (S : Wir) (FA : List Nat) (w : World)
set_option maxHeartbeats 1000000 in
theorem wi_to (c s : Int) (h : WG w B A S FA) : Calls Try.prog 17 #[.pointer (some ⟨B, 0, none⟩), .agg #[.int .i64 c, .int .i64 s]] w fun e w' => e = .returned (.tuple #[.agg #[.int .i64 (S.toP (c, s)).1, .int .i64 (S.toP (c, s)).2], .int .i64 (S.toE (c, s))]) ∧ Below w.heap.size w w' := by
  have HG := Lib.hid h
  have hlt := h.lt
  by_cases hw : S.wE (c, s) = 0
  · have HV := Lib.hid (h.ok.val hw)
    have hdf : S.toE (c, s) = if unOk (S.wV (c, s)) = true ∧ S.wE (nxP (S.wV (c, s))) = 0 then 0 else 32 := by unfold Wir.toE; rw [if_neg (by omega)]
    have hpf : S.toP (c, s) = if S.toE (c, s) = 0 then nxP (S.wV (c, s)) else (0, 0) := rfl
    have HW := Lib.hid hw
    obtain ⟨v, hv⟩ : ∃ v, S.wV (c, s) = v := ⟨_, rfl⟩
    rw [hv] at HV hdf hpf
    have HVv := Lib.hid hv
    clear hv hw
    cases hu : unOk v with
    | false =>
      have e1 : S.toE (c, s) = 32 := by rw [hdf, if_neg (by rw [hu]; simp)]
      have e2 : S.toP (c, s) = (0, 0) := by rw [hpf, e1, if_neg (by decide)]
      rw [e1, e2]
      clear hdf hpf e1 e2
      go_enter Try.func17, Try.ntmps17
      go_wp2_with (first
        | (go_at_call 24; refine (wi_word B A S FA _ _ _ (HG.out.below (by (repeat (first | exact Below.refl _ _ | (with_reducible refine Below.drew ?_) | (with_reducible refine Below.alloc ?_ (by (try simp); (try omega)) _) | (with_reducible refine Below.setCell ?_ (by (try simp); (try omega)) _) | (with_reducible refine Below.trans ?_ (Below.mono (by assumption) (by (try simp); (try omega))))))))).mono ?_; rintro e w1 ⟨rfl, hb1⟩
           obtain ⟨hc1, hf1⟩ := bcell hb1; have hz1 := hb1.size; (try simp at hz1); have hz1a : w.heap.size < w1.heap.size := (by omega); have hz1b : w.heap.size + 1 < w1.heap.size := (by omega)
           first | rw [HW.out, HVv.out] | rw [HVv.out] | rw [HW.out])
        | (go_at_call 66; refine (unpack_any v HV _).mono ?_; rintro e w2 ⟨rfl, hb2⟩
           obtain ⟨hc2, hf2⟩ := bcell hb2; have hz2 := hb2.size; (try simp at hz2); have hz2a : w.heap.size < w2.heap.size := (by omega); have hz2b : w.heap.size + 1 < w2.heap.size := (by omega)
           rw [hu]))
      exact bodyPost_ret (v := .tuple #[.agg #[.int .i64 0, .int .i64 0], .int .i64 32]) (by simp only [results, Try.results17]; go_simp) rfl ⟨rfl, by (repeat (first | exact Below.refl _ _ | (with_reducible refine Below.drew ?_) | (with_reducible refine Below.alloc ?_ (by (try simp); (try omega)) _) | (with_reducible refine Below.setCell ?_ (by (try simp); (try omega)) _) | (with_reducible refine Below.trans ?_ (Below.mono (by assumption) (by (try simp); (try omega))))))⟩
    | true =>
      have hn : upC v = (nxP v).1 ∧ upS v = (nxP v).2 := by unfold upC upS nxP; rw [if_pos hu, if_pos hu]; exact ⟨rfl, rfl⟩
      obtain ⟨⟨q1, q2⟩, hq⟩ : ∃ q, nxP v = q := ⟨_, rfl⟩
      rw [hq] at hn hdf hpf
      obtain ⟨n1, n2⟩ := hn
      by_cases hx : S.wE (q1, q2) = 0
      · have e1 : S.toE (c, s) = 0 := by rw [hdf, if_pos ⟨hu, hx⟩]
        have e2 : S.toP (c, s) = (q1, q2) := by rw [hpf, e1, if_pos rfl]
        rw [e1, e2]
        have HQ := Lib.hid hx
        clear hdf hpf e1 e2 hx hq
        go_enter Try.func17, Try.ntmps17
        go_wp2_with (first
          | (go_at_call 24; refine (wi_word B A S FA _ _ _ (HG.out.below (by (repeat (first | exact Below.refl _ _ | (with_reducible refine Below.drew ?_) | (with_reducible refine Below.alloc ?_ (by (try simp); (try omega)) _) | (with_reducible refine Below.setCell ?_ (by (try simp); (try omega)) _) | (with_reducible refine Below.trans ?_ (Below.mono (by assumption) (by (try simp); (try omega))))))))).mono ?_; rintro e w1 ⟨rfl, hb1⟩
             obtain ⟨hc1, hf1⟩ := bcell hb1; have hz1 := hb1.size; (try simp at hz1); have hz1a : w.heap.size < w1.heap.size := (by omega); have hz1b : w.heap.size + 1 < w1.heap.size := (by omega)
             first | rw [HW.out, HVv.out] | rw [HVv.out] | rw [HW.out])
          | (go_at_call 66; refine (unpack_any v HV _).mono ?_; rintro e w2 ⟨rfl, hb2⟩
             obtain ⟨hc2, hf2⟩ := bcell hb2; have hz2 := hb2.size; (try simp at hz2); have hz2a : w.heap.size < w2.heap.size := (by omega); have hz2b : w.heap.size + 1 < w2.heap.size := (by omega)
             rw [hu, n1, n2])
          | (go_at_call 24; refine (wi_word B A S FA _ _ _ (HG.out.below (by (repeat (first | exact Below.refl _ _ | (with_reducible refine Below.drew ?_) | (with_reducible refine Below.alloc ?_ (by (try simp); (try omega)) _) | (with_reducible refine Below.setCell ?_ (by (try simp); (try omega)) _) | (with_reducible refine Below.trans ?_ (Below.mono (by assumption) (by (try simp); (try omega))))))))).mono ?_; rintro e w3 ⟨rfl, hb3⟩
             obtain ⟨hc3, hf3⟩ := bcell hb3; have hz3 := hb3.size; (try simp at hz3); have hz3a : w.heap.size < w3.heap.size := (by omega); have hz3b : w.heap.size + 1 < w3.heap.size := (by omega); have hz3c : w2.heap.size < w3.heap.size := (by omega)
             rw [HQ.out]))
        exact bodyPost_ret (v := .tuple #[.agg #[.int .i64 q1, .int .i64 q2], .int .i64 0]) (by simp only [results, Try.results17]; go_simp) rfl ⟨rfl, by (repeat (first | exact Below.refl _ _ | (with_reducible refine Below.drew ?_) | (with_reducible refine Below.alloc ?_ (by (try simp); (try omega)) _) | (with_reducible refine Below.setCell ?_ (by (try simp); (try omega)) _) | (with_reducible refine Below.trans ?_ (Below.mono (by assumption) (by (try simp); (try omega))))))⟩
      · have e1 : S.toE (c, s) = 32 := by rw [hdf, if_neg (fun hh => hx hh.2)]
        have e2 : S.toP (c, s) = (0, 0) := by rw [hpf, e1, if_neg (by decide)]
        rw [e1, e2]
        have hk : (S.wE (q1, q2) != 0) = true := bne_iff_ne.2 hx
        clear hdf hpf e1 e2 hx hq
        go_enter Try.func17, Try.ntmps17
        go_wp2_with (first
          | (go_at_call 24; refine (wi_word B A S FA _ _ _ (HG.out.below (by (repeat (first | exact Below.refl _ _ | (with_reducible refine Below.drew ?_) | (with_reducible refine Below.alloc ?_ (by (try simp); (try omega)) _) | (with_reducible refine Below.setCell ?_ (by (try simp); (try omega)) _) | (with_reducible refine Below.trans ?_ (Below.mono (by assumption) (by (try simp); (try omega))))))))).mono ?_; rintro e w1 ⟨rfl, hb1⟩
             obtain ⟨hc1, hf1⟩ := bcell hb1; have hz1 := hb1.size; (try simp at hz1); have hz1a : w.heap.size < w1.heap.size := (by omega); have hz1b : w.heap.size + 1 < w1.heap.size := (by omega)
             first | rw [HW.out, HVv.out] | rw [HVv.out] | rw [HW.out])
          | (go_at_call 66; refine (unpack_any v HV _).mono ?_; rintro e w2 ⟨rfl, hb2⟩
             obtain ⟨hc2, hf2⟩ := bcell hb2; have hz2 := hb2.size; (try simp at hz2); have hz2a : w.heap.size < w2.heap.size := (by omega); have hz2b : w.heap.size + 1 < w2.heap.size := (by omega)
             rw [hu, n1, n2])
          | (go_at_call 24; refine (wi_word B A S FA _ _ _ (HG.out.below (by (repeat (first | exact Below.refl _ _ | (with_reducible refine Below.drew ?_) | (with_reducible refine Below.alloc ?_ (by (try simp); (try omega)) _) | (with_reducible refine Below.setCell ?_ (by (try simp); (try omega)) _) | (with_reducible refine Below.trans ?_ (Below.mono (by assumption) (by (try simp); (try omega))))))))).mono ?_; rintro e w3 ⟨rfl, hb3⟩
             obtain ⟨hc3, hf3⟩ := bcell hb3; have hz3 := hb3.size; (try simp at hz3); have hz3a : w.heap.size < w3.heap.size := (by omega); have hz3b : w.heap.size + 1 < w3.heap.size := (by omega); have hz3c : w2.heap.size < w3.heap.size := (by omega)))
        exact bodyPost_ret (v := .tuple #[.agg #[.int .i64 0, .int .i64 0], .int .i64 32]) (by simp only [results, Try.results17]; go_simp) rfl ⟨rfl, by (repeat (first | exact Below.refl _ _ | (with_reducible refine Below.drew ?_) | (with_reducible refine Below.alloc ?_ (by (try simp); (try omega)) _) | (with_reducible refine Below.setCell ?_ (by (try simp); (try omega)) _) | (with_reducible refine Below.trans ?_ (Below.mono (by assumption) (by (try simp); (try omega))))))⟩
  · have h30 : S.wE (c, s) = 30 := (Wir.wE_01 _).resolve_left hw
    have e1 : S.toE (c, s) = 30 := (Wir.toE_30 _).2 hw
    have e2 : S.toP (c, s) = (0, 0) := by unfold Wir.toP; rw [e1, if_neg (by decide)]
    rw [e1, e2]
    have H30 := Lib.hid h30
    clear hw h30 e1 e2
    go_enter Try.func17, Try.ntmps17
    go_wp2_with (go_at_call 24; refine (wi_word B A S FA _ _ _ (HG.out.below (by (repeat (first | exact Below.refl _ _ | (with_reducible refine Below.drew ?_) | (with_reducible refine Below.alloc ?_ (by (try simp); (try omega)) _) | (with_reducible refine Below.setCell ?_ (by (try simp); (try omega)) _) | (with_reducible refine Below.trans ?_ (Below.mono (by assumption) (by (try simp); (try omega))))))))).mono ?_; rintro e w1 ⟨rfl, hb1⟩
                 obtain ⟨hc1, hf1⟩ := bcell hb1; have hz1 := hb1.size; (try simp at hz1); have hz1a : w.heap.size < w1.heap.size := (by omega); have hz1b : w.heap.size + 1 < w1.heap.size := (by omega)
                 rw [H30.out])
    exact bodyPost_ret (v := .tuple #[.agg #[.int .i64 0, .int .i64 0], .int .i64 30]) (by simp only [results, Try.results17]; go_simp) rfl ⟨rfl, by (repeat (first | exact Below.refl _ _ | (with_reducible refine Below.drew ?_) | (with_reducible refine Below.alloc ?_ (by (try simp); (try omega)) _) | (with_reducible refine Below.setCell ?_ (by (try simp); (try omega)) _) | (with_reducible refine Below.trans ?_ (Below.mono (by assumption) (by (try simp); (try omega))))))⟩
end
end Go.Proofs.Ythbobooiedcofaa
namespace Go.Proofs.Ythbobooiedcofaa
open Go.RowKit
attribute [local go_sem] cell_set
set_option maxRecDepth 100000
set_option linter.unusedVariables false

theorem Kp.tr {G : List Nat} {w w1 w2 : World} (h : Kp G w w1) (k : Kp G w1 w2) : Kp G w w2 := h.trans k fun b hb => .inl hb
section
variable (B A : Nat) (S : Wir) (FA : List Nat) (w : World)
set_option maxHeartbeats 1000000 in
theorem wi_put (c s v : Int) (hv : 0 ≤ v ∧ v < 4294967296) (hp : S.wE (c, s) = 0) (h : WG w B A S FA) :
    Calls Try.prog 71 #[.pointer (some ⟨B, 0, none⟩), .agg #[.int .i64 c, .int .i64 s], .int .u32 v] w fun e w' => (∃ r, e = .returned r) ∧ WG w' B A (S.put (c, s) v) FA ∧ Kp (B :: FA) w w' := by
  have HG := Lib.hid h
  have HV := Lib.hid hv
  have hlt := h.lt
  obtain ⟨c0, c1⟩ := h.cells
  have hX : Kp (B :: FA) w (w.alloc (.cells #[.int .i64 c, .int .i64 s] 39)) := (Kp.refl _ _).alloc _
  have HX := Lib.hid hX
  clear hX hv
  by_cases hc : c = -1
  · subst hc
    have h1 : ¬ (s < 0 ∨ (S.P.length : Int) ≤ s) := by
      intro h2; unfold Wir.wE at hp; rw [if_pos rfl, if_pos h2] at hp; exact absurd hp (by decide)
    obtain ⟨i, rfl⟩ := Int.eq_ofNat_of_zero_le (by omega : 0 ≤ s)
    have hi : i < S.P.length := by omega
    have k0 := h.word hi
    have k1 := h.frozen (2 + i)
    have h5 : (i : Int) < 64 := by have := h.ok.p; omega
    have h6 : i < 64 := by omega
    have h7 : (0 : Int) ≤ (i : Int) := by omega
    generalize S.P.getD i 0 = x at k0
    have hS : S.put (-1, (i : Int)) v = { S with P := S.P.set i v } := by unfold Wir.put; rw [if_pos rfl]; rfl
    rw [hS]
    clear hp h1 hS
    go_enter Try.func71, Try.ntmps71
    go_wp2_with fail
    (refine region_tail 7 (by kernel_rfl) (by kernel_rfl) ?_; simp only [List.take_succ_cons, List.take_zero, List.drop_succ_cons, List.drop_zero]; repeat still_step; try refine wpStill_nil ?_)
    go_wp2_with fail
    refine bodyPost_ret (results_none rfl _ _ _) rfl ⟨⟨_, rfl⟩, ?_, ?_⟩
    · exact (HG.out.putP hi HV.out).below (by (repeat (first | exact Below.refl _ _ | (with_reducible refine Below.drew ?_) | (with_reducible refine Below.alloc ?_ (by (try simp); (try omega)) _) | (with_reducible refine Below.setCell ?_ (by (try simp); (try omega)) _) | (with_reducible refine Below.trans ?_ (Below.mono (by assumption) (by (try simp); (try omega)))))))
    · exact (((Kp.refl _ _).setCell (p := ⟨B, 2 + i, none⟩) (.inl (by simp)) _).alloc _).drew
  · have hcb : (c == -1) = false := by rw [beq_eq_false_iff_ne]; exact hc
    have hS : S.put (c, s) v = { S with A := S.A.put c s v } := by unfold Wir.put; rw [if_neg hc]
    rw [hS]
    clear hp hS
    go_enter Try.func71, Try.ntmps71
    go_wp2_with fail
    (refine region_tail 10 (by kernel_rfl) (by kernel_rfl) ?_; simp only [List.take_succ_cons, List.take_zero, List.drop_succ_cons, List.drop_zero]; repeat still_step; try refine wpStill_nil ?_)
    go_wp2_with fail
    refine (ar_put A S.A FA c s v HV.out _ (HG.out.pa.below (by (repeat (first | exact Below.refl _ _ | (with_reducible refine Below.drew ?_) | (with_reducible refine Below.alloc ?_ (by (try simp); (try omega)) _) | (with_reducible refine Below.setCell ?_ (by (try simp); (try omega)) _) | (with_reducible refine Below.trans ?_ (Below.mono (by assumption) (by (try simp); (try omega))))))))).mono ?_
    rintro e w1 ⟨rfl, hp1, hk1, hz1⟩
    have HP := Lib.hid (And.intro hp1 hk1)
    clear hp1 hk1
    simp only []
    go_wp2_with fail
    refine bodyPost_end (results_none rfl _ _ _) rfl ⟨⟨_, rfl⟩, ?_, ?_⟩
    · exact (HG.out.below (by (repeat (first | exact Below.refl _ _ | (with_reducible refine Below.drew ?_) | (with_reducible refine Below.alloc ?_ (by (try simp); (try omega)) _) | (with_reducible refine Below.setCell ?_ (by (try simp); (try omega)) _) | (with_reducible refine Below.trans ?_ (Below.mono (by assumption) (by (try simp); (try omega)))))))).ofA HP.out.1 HP.out.2
    · exact HX.out.drew.tr (HP.out.2.mono fun b hb => List.mem_cons_of_mem _ hb)
/-- Where two ports are linked, or cut. -/
def W2 (S : Wir) (p q : Pt) (a b : Int) : Wir := (S.put p a).put q b
set_option maxHeartbeats 1000000 in
theorem wi_link_ (c s d t : Int) (hp : S.wE (c, s) = 0) (hq : S.wE (d, t) = 0) (h : WG w B A S FA) :
    Calls Try.prog 70 #[.pointer (some ⟨B, 0, none⟩), .agg #[.int .i64 c, .int .i64 s], .agg #[.int .i64 d, .int .i64 t]] w fun e w' => (∃ r, e = .returned r) ∧ WG w' B A (S.join (c, s) (d, t)) FA ∧ Kp (B :: FA) w w' := by
  have HG := Lib.hid h
  have hlt := h.lt
  have HF := Lib.hid h.blt
  have h1 := Lib.hid (Wir.pkP_rng h.ok hp)
  have h2 := Lib.hid (Wir.pkP_rng h.ok hq)
  have HP := Lib.hid hp
  have HQ := Lib.hid hq
  clear hp hq
  go_enter Try.func70, Try.ntmps70
  go_wp2_with fail
  refine (pack_any c s _).mono ?_
  rintro e w1 ⟨rfl, hb1⟩
  obtain ⟨hc1, hf1⟩ := bcell hb1; have hz1 := hb1.size; (try simp at hz1); have hz1a : w.heap.size < w1.heap.size := (by omega); have hz1b : w.heap.size + 1 < w1.heap.size := (by omega)
  simp only []
  go_wp2_with fail
  refine (pack_any d t _).mono ?_
  rintro e w2 ⟨rfl, hb2⟩
  obtain ⟨hc2, hf2⟩ := bcell hb2; have hz2 := hb2.size; (try simp at hz2); have hz2a : w.heap.size < w2.heap.size := (by omega); have hz2b : w.heap.size + 1 < w2.heap.size := (by omega)
  simp only []
  go_wp2_with fail
  refine (wi_put B A S FA _ c s (pkW d t) h2.out HP.out (HG.out.below (by (repeat (first | exact Below.refl _ _ | (with_reducible refine Below.drew ?_) | (with_reducible refine Below.alloc ?_ (by (try simp); (try omega)) _) | (with_reducible refine Below.setCell ?_ (by (try simp); (try omega)) _) | (with_reducible refine Below.trans ?_ (Below.mono (by assumption) (by (try simp); (try omega))))))))).mono ?_
  rintro e w3 ⟨⟨r3, rfl⟩, hg3, hk3⟩
  have HG3 := Lib.hid hg3
  have HK3 := Lib.hid hk3
  have n1 : w.heap.size ∉ B :: FA := fun hm => by have := HF.out _ hm; omega
  have n2 : w.heap.size + 1 ∉ B :: FA := fun hm => by have := HF.out _ hm; omega
  have m0 : ∀ j, w3.cell? ⟨w.heap.size + 1, j, none⟩ = w2.cell? ⟨w.heap.size + 1, j, none⟩ := fun j => World.cell?_of_block (hk3.block _ (by omega) n2)
  have hz3 := hk3.size
  clear hg3 hk3
  simp only []
  go_wp2_with fail
  refine (wi_put B A (S.put (c, s) (pkW d t)) FA _ d t (pkW c s) h1.out (by rw [Wir.put_wE]; exact HQ.out) HG3.out).mono ?_
  rintro e w4 ⟨⟨r4, rfl⟩, hg4, hk4⟩
  have HG4 := Lib.hid hg4
  have HK4 := Lib.hid hk4
  clear hg4 hk4
  simp only []
  go_wp2_with fail
  refine bodyPost_end (results_none rfl _ _ _) rfl ⟨⟨_, rfl⟩, HG4.out, ?_⟩
  have h02 : Below w.heap.size w w2 := by (repeat (first | exact Below.refl _ _ | (with_reducible refine Below.drew ?_) | (with_reducible refine Below.alloc ?_ (by (try simp); (try omega)) _) | (with_reducible refine Below.setCell ?_ (by (try simp); (try omega)) _) | (with_reducible refine Below.trans ?_ (Below.mono (by assumption) (by (try simp); (try omega))))))
  exact (Kp.of_below h02).tr (HK3.out.tr HK4.out)
end
end Go.Proofs.Ythbobooiedcofaa
