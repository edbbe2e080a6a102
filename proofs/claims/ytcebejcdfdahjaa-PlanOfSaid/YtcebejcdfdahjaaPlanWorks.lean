/-
  The contracts of plans, of a rule that may be; skeinlaw18.works.
-/
import Derived.Test.YtcebejcdfdahjaaRef18Of
import Derived.Test.YtcebejcdfdahjaaPlanRuleC
namespace Go.Proofs.Ytcebejcdfdahjaa
open Go.RowKit
attribute [local go_sem] cell_set
attribute [local go_sem high] run_eql_port
set_option maxRecDepth 100000
set_option linter.unusedVariables false

theorem outer_steps {pn : Int → Nat} {cells : List Int} {M : Nat} {W : List (Pt × Pt)} (h : NetOk pn cells M W) : ∀ k, k < (outerT pn M (lnk W)).length → ∃ s q, s < M ∧ (outerT pn M (lnk W)).getD k default = ((-1, (s : Int)), q) ∧ (q.1 < 0 → ∃ j : Nat, j < M ∧ q = (-1, (j : Int)) ∧ j ≠ s) ∧
    facesL ((outerT pn M (lnk W)).take (k + 1)) M = stepF (facesL ((outerT pn M (lnk W)).take k) M) ((-1, (s : Int)), q) := fun k hk => by
  have hm : (outerT pn M (lnk W)).getD k default ∈ outerT pn M (lnk W) := by
    have : (outerT pn M (lnk W)).getD k default = (outerT pn M (lnk W))[k] := by simp [List.getD_eq_getElem?_getD, hk]
    rw [this]; exact List.getElem_mem hk
  have hnd : (ends (outerT pn M (lnk W))).Nodup := by
    have := tidy_all_nodup h
    rw [tidyW_F, tidy_parts, ends_append, List.nodup_append] at this
    exact this.1
  obtain ⟨⟨p, q⟩, hx⟩ : ∃ x, x = (outerT pn M (lnk W)).getD k default := ⟨_, rfl⟩
  rw [← hx] at hm
  obtain ⟨s, hs, rfl, hq⟩ := outer_at h hm
  have hne := fun z hz => ends_new hnd hk (p := z) hz
  rw [← hx] at hne
  refine ⟨s, q, hs, hx.symm, hq, ?_⟩
  rw [take_succ_getD hk, ← hx]
  exact facesL_step hs (fun hm2 => (hne _ hm2).1 rfl) (fun hm2 => (hne _ hm2).2 rfl) hq
theorem inner_steps {pn : Int → Nat} {cells : List Int} {W : List (Pt × Pt)} : ∀ k, k < (innerT pn cells (lnk W)).length → 0 ≤ ((innerT pn cells (lnk W)).getD k default).1.1 := fun k hk => by
  have hm : (innerT pn cells (lnk W)).getD k default ∈ innerT pn cells (lnk W) := by
    have : (innerT pn cells (lnk W)).getD k default = (innerT pn cells (lnk W))[k] := by simp [List.getD_eq_getElem?_getD, hk]
    rw [this]; exact List.getElem_mem hk
  obtain ⟨⟨p, q⟩, hx⟩ : ∃ x, x = (innerT pn cells (lnk W)).getD k default := ⟨_, rfl⟩
  rw [← hx] at hm ⊢
  exact (inner_at hm).1
/-- The contracts of plans. -/
structure PlanC (L : List (ByteArray × Int)) (a b : Int) (cells : List Int) (M : Nat) (W T : List (Pt × Pt)) (F : List Pt) (I : List (Pt × Pt)) : Prop where
  of : ∀ A cap VA ca VB cb Z, L.length ≤ cap → AgRd Z A L → IntsRd Z VA cells → WrRd Z VB W → Calls Try.prog 24 #[.slice A L.length cap, ruleV a b VA ca cells M VB cb W] Z fun e w' => ∃ V1 c1 V2 c2 V3 c3, e = .returned (.tuple #[planV a b V1 cells.length c1 V2 F.length c2 V3 I.length c3, .int .i64 0]) ∧ PLsF Z V1 V2 V3 cells F I w' ∧ Below Z.heap.size Z w'
  rof : ∀ A cap VA ca VB cb Z, L.length ≤ cap → AgRd Z A L → IntsRd Z VA cells → WrRd Z VB W → Calls Try.prog 28 #[.slice A L.length cap, ruleV a b VA ca cells M VB cb W] Z fun e w' => ∃ V1 c1 V2 c2 V3 c3, e = .returned (planV a b V1 cells.length c1 V2 F.length c2 V3 I.length c3) ∧ PLs V1 V2 V3 cells F I w' ∧ Below Z.heap.size Z w'
  rl : ∀ A cap V1 c1 V2 c2 V3 c3 Z, L.length ≤ cap → AgRd Z A L → PLs V1 V2 V3 cells F I Z → Calls Try.prog 29 #[.slice A L.length cap, planV a b V1 cells.length c1 V2 F.length c2 V3 I.length c3] Z fun e w' => ∃ U1 d1 U2 d2, e = .returned (.tuple #[ruleV a b U1 d1 cells M U2 d2 T, .int .i64 0]) ∧ NetFresh Z w' U1 d1 cells U2 d2 T
theorem RuleK.plan {L : List (ByteArray × Int)} {ka kb na nb M : Nat} {cells : List Int} {W : List (Pt × Pt)} (h : RuleK L ka kb na nb M cells W) (hl : L.length ≤ maxLen) (hw : W.length ≤ 40000) :
    PlanC L ka kb cells M W (tidyW (allPs (pnL L) cells M) W) (facesL W M) (innerT (pnL L) cells (lnk W)) := by
  have hc := h.calls L hl hw
  have hm := h.m
  have ha6 := h.a6
  have hb6 := h.b6
  have hc32 := h.c32
  have hp : tidyW (allPs (pnL L) cells M) W = outerT (pnL L) M (lnk W) ++ innerT (pnL L) cells (lnk W) := by rw [tidyW_F, tidy_parts]
  have hlen := h.len W
  have hfo := facesL_outer h.ok
  have hfl := facesL_len W M
  refine ⟨fun A cap VA ca VB cb Z h1 h2 h3 h4 => ?_, fun A cap VA ca VB cb Z h1 h2 h3 h4 => ?_, fun A cap V1 c1 V2 c2 V3 c3 Z h1 h2 h3 => ?_⟩
  · have := plan_of_ok A L.length cap L ka kb VA VB ca cb cells W Z M (outerT (pnL L) M (lnk W)) (innerT (pnL L) cells (lnk W)) rfl (Lib.hid h2) (Lib.hid h3) (Lib.hid h4) (by omega) (by omega) (by rw [← hp]; omega)
      (Lib.hid fun Z' hz => by rw [← hp]; exact hc.td A cap VA ca VB cb Z' h1 (h2.below hz) (h3.below hz) (h4.below hz)) (Lib.hid (outer_steps h.ok)) (Lib.hid inner_steps)
    rw [hfo] at this
    rw [hfl]
    exact this
  · have := rplan_of A L.length cap L ka kb VA VB ca cb cells W Z M (outerT (pnL L) M (lnk W)) (innerT (pnL L) cells (lnk W)) rfl (Lib.hid h2) (Lib.hid h3) (Lib.hid h4) (by omega) (by omega) (by rw [← hp]; omega)
      (Lib.hid fun Z' hz => by rw [← hp]; exact hc.rtd A cap VA ca VB cb Z' h1 (h2.below hz) (h3.below hz) (h4.below hz)) (Lib.hid (outer_steps h.ok)) (Lib.hid inner_steps)
    rw [hfo] at this
    rw [hfl]
    exact this
  · have hb : faceW (facesL W M) (facesL W M).length ++ innerT (pnL L) cells (lnk W) = tidyW (allPs (pnL L) cells M) W := by rw [hfl]; exact plan_back h.ok
    have hil : (innerT (pnL L) cells (lnk W)).length ≤ 1000 := by
      have := congrArg List.length hp
      rw [List.length_append] at this
      omega
    have h2t := h.tidy.calls L hl (by omega)
    rw [h.ok.tidy_tidy] at h2t
    have := plan_rule A L.length cap L ka kb V1 V2 V3 c1 c2 c3 cells (facesL W M) (innerT (pnL L) cells (lnk W)) Z (tidyW (allPs (pnL L) cells M) W) rfl (Lib.hid h2) (Lib.hid h3) (by omega) hil
      (Lib.hid fun Z' VB cb hz hwr => by
        rw [hb] at hwr ⊢
        rw [hfl]
        exact h2t.td A cap V1 c1 VB cb Z' h1 (h2.below hz) (h3.1.below hz) hwr)
    rw [hfl] at this ⊢
    exact this
theorem ok15 : okB (pnL L15) [] 2 W15 = true := by decide +kernel
theorem k15 : RuleK L15 1 0 2 0 2 [] W15 := ⟨by rw [chk15], by decide, by decide, by decide, by decide, rfl, by decide, by decide, by decide, fun i hi => by simp at hi, okB_ok ok15⟩
theorem f15 : facesL W15 2 = [(-1, 1), (-1, 0)] := by decide +kernel
theorem i15 : innerT (pnL L15) [] (lnk W15) = [] := by decide +kernel
theorem t15 : tidyW (allPs (pnL L15) [] 2) W15 = [((-1, 0), (-1, 1))] := by decide +kernel
theorem p15 : PlanC L15 1 0 [] 2 W15 [((-1, 0), (-1, 1))] [(-1, 1), (-1, 0)] [] := by
  have h := k15.plan (by decide) (by decide)
  rw [f15, i15, t15] at h
  exact h
theorem of15 {b : Nat} {X : World} (h : Lit15 b X) : Calls Try.prog 24 #[.slice (some ⟨b, 0, none⟩) 2 2, .agg #[.int .i64 1, .int .i64 0, .slice none 0 0, .int .i64 2, .slice (some ⟨b + 1, 0, none⟩) 1 1]] X fun e w' => ∃ V1 c1 V2 c2 V3 c3, e = .returned (.tuple #[.agg #[.int .i64 1, .int .i64 0, .slice V1 0 c1, .slice V2 2 c2, .slice V3 0 c3], .int .i64 0]) ∧ PLs V1 V2 V3 [] [(-1, 1), (-1, 0)] [] w' ∧ Below X.heap.size X w' :=
  (p15.of (some ⟨b, 0, none⟩) 2 none 0 (some ⟨b + 1, 0, none⟩) 1 X (by decide) (ag15 h.1) (IntsRd.nil2 _ _) (wr15 h.2.1)).mono fun e w' ⟨V1, c1, V2, c2, V3, c3, he, hp, hb⟩ => ⟨V1, c1, V2, c2, V3, c3, he, hp.ls, hb⟩
theorem rl15 {b : Nat} {X : World} (h : Lit15 b X) {V1 V2 V3 : Option Addr} {c1 c2 c3 : Nat} (hp : PLs V1 V2 V3 [] [(-1, 1), (-1, 0)] [] X) : Calls Try.prog 29 #[.slice (some ⟨b, 0, none⟩) 2 2, .agg #[.int .i64 1, .int .i64 0, .slice V1 0 c1, .slice V2 2 c2, .slice V3 0 c3]] X fun e w' => ∃ U1 d1 U2 d2, e = .returned (.tuple #[.agg #[.int .i64 1, .int .i64 0, .slice U1 0 d1, .int .i64 2, .slice U2 1 d2], .int .i64 0]) ∧ Below X.heap.size X w' := by
  refine (p15.rl (some ⟨b, 0, none⟩) 2 V1 c1 V2 c2 V3 c3 X (by decide) (ag15 h.1) hp).mono ?_
  rintro e w' ⟨U1, d1, U2, d2, rfl, hnf⟩
  exact ⟨U1, d1, U2, d2, rfl, hnf.1.2.2⟩
set_option maxHeartbeats 2000000 in
theorem works18 (w : World) : Calls Try.prog 23 #[] w fun e w' => e = .returned (.bool true) ∧ Below w.heap.size w w' := by
  go_enter Try.func23, Try.ntmps23
  go_upto_region 3 with fail
  refine absW (fun X => Lit15 w.heap.size X ∧ Below w.heap.size w X) ⟨heap3 w _ _ _, by (repeat (first | exact Below.refl _ _ | (with_reducible refine Below.drew ?_) | (with_reducible refine Below.alloc ?_ (by (try simp); (try omega)) _) | (with_reducible refine Below.setCell ?_ (by (try simp); (try omega)) _) | (with_reducible refine Below.trans ?_ (Below.mono (by assumption) (by (try simp); (try omega))))))⟩ ?_
  rintro X ⟨hlit, hbx⟩
  have HL := Lib.hid hlit
  have HB := Lib.hid hbx
  clear hlit hbx
  have n0 : X.cell? ⟨w.heap.size + 2, 0, none⟩ = some (.int .i64 1) := by simp [World.cell?, HL.out.2.2]
  have n1 : X.cell? ⟨w.heap.size + 2, 1, none⟩ = some (.int .i64 0) := by simp [World.cell?, HL.out.2.2]
  have n2 : X.cell? ⟨w.heap.size + 2, 2, none⟩ = some (.slice none 0 0) := by simp [World.cell?, HL.out.2.2]
  have n3 : X.cell? ⟨w.heap.size + 2, 3, none⟩ = some (.int .i64 2) := by simp [World.cell?, HL.out.2.2]
  have n4 : X.cell? ⟨w.heap.size + 2, 4, none⟩ = some (.slice (some ⟨w.heap.size + 1, 0, none⟩) 1 1) := by simp [World.cell?, HL.out.2.2]
  go_wp2_with fail
  refine (of15 HL.out).mono ?_
  rintro e w1 ⟨V1, c1, V2, c2, V3, c3, rfl, hp1, hb1⟩
  have HB1 := Lib.hid (HB.out.trans (hb1.mono HB.out.size))
  have HL1 := Lib.hid (HL.out.below hb1)
  have HP1 := Lib.hid hp1
  clear n0 n1 n2 n3 n4 hb1 hp1
  go_wp2_with fail
  refine (rl15 (HL1.out.below (alB _ _)) (HP1.out.below (alB _ _))).mono ?_
  rintro e w2 ⟨U1, d1, U2, d2, rfl, hb2⟩
  have q0 : w2.cell? ⟨w1.heap.size, 0, none⟩ = some (.int .i64 1) := (hb2.cell (p := ⟨w1.heap.size, 0, none⟩) (by simp)).trans (by go_simp)
  have q1 : w2.cell? ⟨w1.heap.size, 1, none⟩ = some (.int .i64 0) := (hb2.cell (p := ⟨w1.heap.size, 1, none⟩) (by simp)).trans (by go_simp)
  have q2 : w2.cell? ⟨w1.heap.size, 2, none⟩ = some (.slice V1 0 c1) := (hb2.cell (p := ⟨w1.heap.size, 2, none⟩) (by simp)).trans (by go_simp)
  have q3 : w2.cell? ⟨w1.heap.size, 3, none⟩ = some (.slice V2 2 c2) := (hb2.cell (p := ⟨w1.heap.size, 3, none⟩) (by simp)).trans (by go_simp)
  have q4 : w2.cell? ⟨w1.heap.size, 4, none⟩ = some (.slice V3 0 c3) := (hb2.cell (p := ⟨w1.heap.size, 4, none⟩) (by simp)).trans (by go_simp)
  have hb12 : Below w1.heap.size w1 w2 := (alB _ _).trans (hb2.mono (by simp))
  have HB2 := Lib.hid (HB1.out.trans (hb12.mono HB1.out.size))
  have hz2 : w1.heap.size < w2.heap.size := by have := hb2.size; simp only [World.size_alloc] at this; omega
  obtain ⟨b, off, rfl, hb, e0, e1⟩ := (HP1.out.below hb12).2.1 0 (by decide)
  have hE : eqP (-1, 1) (-1, 1) = true := by decide
  simp only [List.getD_cons_zero, Nat.zero_mul, Nat.add_zero] at e0 e1
  clear hb2 hb12
  go_wp2
  go_ret
  exact ⟨rfl, by have := HB2.out; have hz9 := this.size; (repeat (first | (with_reducible exact Below.refl _ _) | (with_reducible assumption) | (with_reducible refine Below.drew ?_) | (with_reducible refine Below.alloc ?_ (by (try simp); (try omega)) _) | (with_reducible refine Below.setCell ?_ (by (try simp); (try omega)) _)))⟩
end Go.Proofs.Ytcebejcdfdahjaa
