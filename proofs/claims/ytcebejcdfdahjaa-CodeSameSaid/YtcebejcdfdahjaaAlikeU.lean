/-
  skeinlaw12.alike: a round of its loop, further parts.
-/
import Derived.Test.YtcebejcdfdahjaaAlikeT
namespace Go.Proofs.Ytcebejcdfdahjaa
open Go.RowKit
attribute [local go_sem] cell_set
attribute [local go_sem high] run_neq_port
set_option maxRecDepth 100000
set_option linter.unusedVariables false
section
variable (L : List (ByteArray × Int)) (VA VB UA UB : Option Addr) (ca cb da db : Nat) (csA csB : List Int) (fA fB : Nat) (WA WB : List (Pt × Pt)) (w : World)
variable (ka kd : List Value) (k8 k9 : Value) (p1 o1 p2 o2 p3 o3 p4 o4 p5 o5 p6 o6 c1 c2 c3 M B d1 d2 d3 N C : Nat) (Z : World) (r : Bool) (k : Nat) (Qp : Exit → Act → World → Prop)
section
variable (Q : List (Pt × Pt)) (dA dB : List Int) (vq : Value) (wc : World) (t1 t2 c d : Nat) (u2 v2 x1 tc : Int)
theorem alk_T20a (H : Hid (AlC L VA VB UA UB ca cb da db csA csB fA fB WA WB w p1 o1 p2 o2 p3 o3 p4 o4 p5 o5 p6 o6 c1 c2 c3 M B d1 d2 d3 N C Z)) (HQp : Hid (AlQ L csA csB fA fB WA WB w ka kd k8 k9 B C Z r k Qp))
    (HS3 : Hid (AlS (pnL L) csA csB fA fB Z Q dA dB vq wc)) (HX1 : Hid (PtBx wc t1 ((c : Int), u2))) (HX2 : Hid (PtBx wc t2 ((d : Int), v2))) (hc : c < csA.length) (hd : d < csB.length)
    (HM2 : Hid (Q.length + 8 * (csA.length - dA.length) ≤ k ∧ k ≤ 100000)) (HXa : Hid (csA.getD c 0 = x1)) (HXb : Hid (csB.getD d 0 = x1)) (Htc : Hid ((toL csA.length dA dB).getD c 0 = tc))
    (HK : Hid (alk (labC csA) (labC csB) (rowP (pnL L) csA (lkM WA)) (rowP (pnL L) csB (lkM WB)) (k + 1) ((((c : Int), u2), ((d : Int), v2)) :: Q) dA dB = r))
    (HNb : Hid (¬ (u2 ≠ v2 ∨ labC csA (c : Int) ≠ labC csB (d : Int) ∨ dA.idxOf (c : Int) ≠ dB.idxOf (d : Int)))) (a : Act) (hF : FrA ka kd k8 k9 w.heap.size (w.heap.size + 1) B C Z.heap.size csA.length csB.length vq a)
    (h16 : a.tmps[16]? = some (.pointer (some ⟨t1, 0, none⟩))) (h17 : a.tmps[17]? = some (.pointer (some ⟨t2, 0, none⟩))) : alkT20.wp Try.prog Qp a wc := by
  obtain ⟨U, rfl, hV⟩ := hF.lit h16 h17
  exact alk_T20 L VA VB UA UB ca cb da db csA csB fA fB WA WB w ka kd k8 k9 p1 o1 p2 o2 p3 o3 p4 o4 p5 o5 p6 o6 c1 c2 c3 M B d1 d2 d3 N C Z r k Qp Q dA dB vq wc t1 t2 c d u2 v2 x1 tc H HQp HS3 HX1 HX2 hc hd HM2 HXa HXb Htc HK HNb U hV
theorem AlS.drew {pn : Int → Nat} {csA csB : List Int} {fA fB : Nat} {Y X : World} {Q : List (Pt × Pt)} {dA dB : List Int} {v : Value} (h : AlS pn csA csB fA fB Y Q dA dB v X) : AlS pn csA csB fA fB Y Q dA dB v X.drew := h.grow (Below.refl _ X).drew
set_option maxHeartbeats 8000000 in
theorem alk_T18 (H : Hid (AlC L VA VB UA UB ca cb da db csA csB fA fB WA WB w p1 o1 p2 o2 p3 o3 p4 o4 p5 o5 p6 o6 c1 c2 c3 M B d1 d2 d3 N C Z)) (HQp : Hid (AlQ L csA csB fA fB WA WB w ka kd k8 k9 B C Z r k Qp))
    (HS3 : Hid (AlS (pnL L) csA csB fA fB Z Q dA dB vq wc)) (HX1 : Hid (PtBx wc t1 ((c : Int), u2))) (HX2 : Hid (PtBx wc t2 ((d : Int), v2))) (hc : c < csA.length) (hd : d < csB.length)
    (HM2 : Hid (Q.length + 8 * (csA.length - dA.length) ≤ k ∧ k ≤ 100000))
    (HK : Hid (alk (labC csA) (labC csB) (rowP (pnL L) csA (lkM WA)) (rowP (pnL L) csB (lkM WB)) (k + 1) ((((c : Int), u2), ((d : Int), v2)) :: Q) dA dB = r)) (U : Nat → Value) (HV : Hid (KpV ka kd k8 k9 U)) :
    alkT18.wp Try.prog Qp (alkL w.heap.size (w.heap.size + 1) B C Z.heap.size csA.length csB.length vq (.pointer (some ⟨t1, 0, none⟩)) (.pointer (some ⟨t2, 0, none⟩)) U) wc := by
  have hcA := H.out.hcA
  have hcB := H.out.hcB
  have HFr : Hid (¬ ((c : Int) < 0 ∨ (d : Int) < 0)) := by rintro (h | h) <;> omega
  have HZc := Lib.hid (H.out.HZ.below HS3.out.bl)
  obtain ⟨z0, z1, zl⟩ := HX1.out.cells
  obtain ⟨y0, y1, yl⟩ := HX2.out.cells
  dsimp only at z0 z1 y0 y1
  obtain ⟨r0, r1, r2⟩ := HS3.out.toAt hc
  obtain ⟨w0, w1', w2'⟩ := HS3.out.fromAt hd
  have n0 := HZc.out.na.c0
  have m0 := HZc.out.nb.c0
  obtain ⟨l1, l2, rfl, hl1, q0⟩ := H.out.HCA.below HZc.out.bl c hc
  obtain ⟨l3, l4, rfl, hl3, q1⟩ := H.out.HCB.below HZc.out.bl d hd
  have HTest := Lib.hid (HS3.out.par.test hc hd)
  obtain ⟨x1, hx1⟩ : ∃ x, csA.getD c 0 = x := ⟨_, rfl⟩
  obtain ⟨x2, hx2⟩ : ∃ x, csB.getD d 0 = x := ⟨_, rfl⟩
  have HXa := Lib.hid hx1
  have HXb := Lib.hid hx2
  rw [hx1] at q0
  rw [hx2] at q1
  clear hx1 hx2
  obtain ⟨tc, htc⟩ : ∃ x, (toL csA.length dA dB).getD c 0 = x := ⟨_, rfl⟩
  rw [htc] at r0 HTest
  have Htc := Lib.hid htc
  clear htc
  generalize (toL csB.length dB dA).getD d 0 = fd at w0 HTest
  have s1 : IntKind.i64.wrap ((c : Int) + 1) = (c : Int) + 1 := IntWalk.i64_in _ (by omega)
  have s2 : IntKind.i64.wrap ((d : Int) + 1) = (d : Int) + 1 := IntWalk.i64_in _ (by omega)
  have hq1 : ((u2 ≠ v2 ∨ labC csA (c : Int) ≠ labC csB (d : Int) ∨ dA.idxOf (c : Int) ≠ dB.idxOf (d : Int)) ↔ (u2 ≠ v2 ∨ x1 ≠ x2 ∨ (tc ≠ 0 ∧ tc ≠ (d : Int) + 1) ∨ (fd ≠ 0 ∧ fd ≠ (c : Int) + 1))) := by
    rw [← HTest.out]
    unfold labC
    rw [Int.toNat_natCast, Int.toNat_natCast, HXa.out, HXb.out]
  have HQ1 := Lib.hid hq1
  have HX1d := Lib.hid (HX1.out.below (Below.refl _ wc).drew)
  have HX2d := Lib.hid (HX2.out.below (Below.refl _ wc).drew)
  have HS3d := Lib.hid HS3.out.drew
  clear hq1 HTest
  unfold alkL
  show (Code.seq _ _).wp _ _ _ _
  go_upto_region 18 with fail
  refine alk_18 (lA := 0) (lB := 0) z0 z1 y0 y1 n0 m0 q0 q1 r0 w0 hc hd s1 s2 ?_
  intros
  generalize hbb : decide (u2 ≠ v2 ∨ x1 ≠ x2 ∨ (tc ≠ 0 ∧ tc ≠ (d : Int) + 1) ∨ (fd ≠ 0 ∧ fd ≠ (c : Int) + 1)) = bb
  clear z0 z1 y0 y1 n0 m0 q0 q1 r0 w0 r1 r2 w1' w2' zl yl s1 s2
  cases bb
  · have HNb := Lib.hid (fun h => of_decide_eq_false hbb (HQ1.out.1 h))
    have hxx : x1 = x2 := Classical.byContradiction fun h => of_decide_eq_false hbb (.inr (.inl h))
    subst hxx
    clear hbb
    iterate 5 go_step
    exact alk_T20a L _ VB _ UB ca cb da db csA csB fA fB WA WB w ka kd k8 k9 p1 o1 p2 o2 p3 o3 p4 o4 p5 o5 p6 o6 c1 c2 c3 M B d1 d2 d3 N C Z r k Qp Q dA dB vq _ t1 t2 c d u2 v2 x1 tc H HQp HS3d HX1d HX2d hc hd HM2 HXa HXb Htc HK HNb _ (⟨rfl, rfl, rfl, rfl, rfl, rfl, rfl, rfl, rfl, HV.out.a, congrArg some HV.out.b, congrArg some HV.out.c, HV.out.d⟩) rfl rfl
  · have hr : r = false := by rw [← HK.out, alk_bad HFr.out (HQ1.out.2 (of_decide_eq_true hbb))]
    have HRt := Lib.hid hr
    clear hr hbb
    go_wp2_with fail
    exact HQp.out.ret _ _ (by rw [HRt.out]; rfl) rfl HZc.out.bl.drew
theorem alk_T18a (H : Hid (AlC L VA VB UA UB ca cb da db csA csB fA fB WA WB w p1 o1 p2 o2 p3 o3 p4 o4 p5 o5 p6 o6 c1 c2 c3 M B d1 d2 d3 N C Z)) (HQp : Hid (AlQ L csA csB fA fB WA WB w ka kd k8 k9 B C Z r k Qp))
    (HS3 : Hid (AlS (pnL L) csA csB fA fB Z Q dA dB vq wc)) (HX1 : Hid (PtBx wc t1 ((c : Int), u2))) (HX2 : Hid (PtBx wc t2 ((d : Int), v2))) (hc : c < csA.length) (hd : d < csB.length)
    (HM2 : Hid (Q.length + 8 * (csA.length - dA.length) ≤ k ∧ k ≤ 100000))
    (HK : Hid (alk (labC csA) (labC csB) (rowP (pnL L) csA (lkM WA)) (rowP (pnL L) csB (lkM WB)) (k + 1) ((((c : Int), u2), ((d : Int), v2)) :: Q) dA dB = r)) (a : Act) (hF : FrA ka kd k8 k9 w.heap.size (w.heap.size + 1) B C Z.heap.size csA.length csB.length vq a)
    (h16 : a.tmps[16]? = some (.pointer (some ⟨t1, 0, none⟩))) (h17 : a.tmps[17]? = some (.pointer (some ⟨t2, 0, none⟩))) : alkT18.wp Try.prog Qp a wc := by
  obtain ⟨U, rfl, hV⟩ := hF.lit h16 h17
  exact alk_T18 L VA VB UA UB ca cb da db csA csB fA fB WA WB w ka kd k8 k9 p1 o1 p2 o2 p3 o3 p4 o4 p5 o5 p6 o6 c1 c2 c3 M B d1 d2 d3 N C Z r k Qp Q dA dB vq wc t1 t2 c d u2 v2 H HQp HS3 HX1 HX2 hc hd HM2 HK U hV
end
section
variable (Q : List (Pt × Pt)) (dA dB : List Int) (vq : Value) (wc : World) (t1 t2 : Nat) (u1 u2 v1 v2 : Int)
set_option maxHeartbeats 8000000 in
theorem alk_T15 (H : Hid (AlC L VA VB UA UB ca cb da db csA csB fA fB WA WB w p1 o1 p2 o2 p3 o3 p4 o4 p5 o5 p6 o6 c1 c2 c3 M B d1 d2 d3 N C Z)) (HQp : Hid (AlQ L csA csB fA fB WA WB w ka kd k8 k9 B C Z r k Qp))
    (HS3 : Hid (AlS (pnL L) csA csB fA fB Z Q dA dB vq wc)) (HX1 : Hid (PtBx wc t1 (u1, u2))) (HX2 : Hid (PtBx wc t2 (v1, v2))) (HP1 : Hid (isPt (pnL L) csA fA (u1, u2) = true)) (HP2 : Hid (isPt (pnL L) csB fB (v1, v2) = true))
    (HM2 : Hid (Q.length + 8 * (csA.length - dA.length) ≤ k ∧ k ≤ 100000))
    (HK : Hid (alk (labC csA) (labC csB) (rowP (pnL L) csA (lkM WA)) (rowP (pnL L) csB (lkM WB)) (k + 1) (((u1, u2), (v1, v2)) :: Q) dA dB = r)) (U : Nat → Value) (HV : Hid (KpV ka kd k8 k9 U)) :
    alkT15.wp Try.prog Qp (alkL w.heap.size (w.heap.size + 1) B C Z.heap.size csA.length csB.length vq (.pointer (some ⟨t1, 0, none⟩)) (.pointer (some ⟨t2, 0, none⟩)) U) wc := by
  have HZc := Lib.hid (H.out.HZ.below HS3.out.bl)
  obtain ⟨z0, z1, zl⟩ := HX1.out.cells
  obtain ⟨y0, y1, yl⟩ := HX2.out.cells
  dsimp only at z0 z1 y0 y1
  unfold alkL
  show (Code.seq _ _).wp _ _ _ _
  go_upto_region 15 with fail
  go_cut [89] from 61 to 216 (fun v wx => v = .bool (decide (u1 < 0 ∨ v1 < 0)) ∧ wx = wc)
  case first =>
    by_cases hu : u1 < 0
    · go_wp2_with fail
      go_meet
      case rel => exact ⟨by simp [hu], rfl⟩
    · by_cases hv : v1 < 0
      · go_wp2_with fail
        go_meet
        case rel => exact ⟨by simp [hv], rfl⟩
      · go_wp2_with fail
        go_meet
        case rel => exact ⟨by simp [hu, hv], rfl⟩
  case rest =>
    obtain ⟨hv89, rfl⟩ := hcut
    subst hv89
    by_cases hfree : u1 < 0 ∨ v1 < 0
    · have hk := HK.out
      rw [alk_free hfree] at hk
      cases he : eqP (u1, u2) (v1, v2)
      · have hr : r = false := by rw [← hk, if_neg (by simpa [eqP] using he)]
        have HRt := Lib.hid hr
        clear hr hk HK HM2
        go_wp2_with fail
        exact HQp.out.ret _ _ (by rw [HRt.out]; rfl) rfl HZc.out.bl
      · rw [if_pos (by simpa [eqP] using he)] at hk
        have HK2 := Lib.hid hk
        clear hk HK
        go_wp2_with fail
        exact HQp.out.ex _ _ _ (⟨rfl, rfl, rfl, rfl, rfl, rfl, rfl, rfl, rfl, HV.out.a, congrArg some HV.out.b, congrArg some HV.out.c, HV.out.d⟩) ⟨Q, dA, dB, HS3.out, HM2.out, HK2.out⟩
    · have hp1 := HP1.out
      have hp2 := HP2.out
      unfold isPt at hp1 hp2
      rw [if_neg (by dsimp only; omega), decide_eq_true_eq] at hp1 hp2
      dsimp only at hp1 hp2
      obtain ⟨hc0, hc1, hu0, hu1⟩ := hp1
      obtain ⟨hd0, hd1, hv0, hv1⟩ := hp2
      obtain ⟨c, rfl⟩ := Int.eq_ofNat_of_zero_le hc0
      obtain ⟨d, rfl⟩ := Int.eq_ofNat_of_zero_le hd0
      have hc : c < csA.length := by omega
      have hd : d < csB.length := by omega
      rw [decide_eq_false hfree]
      clear z0 z1 zl y0 y1 yl
      iterate 5 go_step
      exact alk_T18a L VA VB UA UB ca cb da db csA csB fA fB WA WB w ka kd k8 k9 p1 o1 p2 o2 p3 o3 p4 o4 p5 o5 p6 o6 c1 c2 c3 M B d1 d2 d3 N C Z r k Qp Q dA dB vq _ t1 t2 c d u2 v2 H HQp HS3 HX1 HX2 hc hd HM2 HK _ (⟨rfl, rfl, rfl, rfl, rfl, rfl, rfl, rfl, rfl, HV.out.a, congrArg some HV.out.b, congrArg some HV.out.c, HV.out.d⟩) rfl rfl
theorem alk_T15a (H : Hid (AlC L VA VB UA UB ca cb da db csA csB fA fB WA WB w p1 o1 p2 o2 p3 o3 p4 o4 p5 o5 p6 o6 c1 c2 c3 M B d1 d2 d3 N C Z)) (HQp : Hid (AlQ L csA csB fA fB WA WB w ka kd k8 k9 B C Z r k Qp))
    (HS3 : Hid (AlS (pnL L) csA csB fA fB Z Q dA dB vq wc)) (HX1 : Hid (PtBx wc t1 (u1, u2))) (HX2 : Hid (PtBx wc t2 (v1, v2))) (HP1 : Hid (isPt (pnL L) csA fA (u1, u2) = true)) (HP2 : Hid (isPt (pnL L) csB fB (v1, v2) = true))
    (HM2 : Hid (Q.length + 8 * (csA.length - dA.length) ≤ k ∧ k ≤ 100000))
    (HK : Hid (alk (labC csA) (labC csB) (rowP (pnL L) csA (lkM WA)) (rowP (pnL L) csB (lkM WB)) (k + 1) (((u1, u2), (v1, v2)) :: Q) dA dB = r)) (a : Act) (hF : FrA ka kd k8 k9 w.heap.size (w.heap.size + 1) B C Z.heap.size csA.length csB.length vq a)
    (h16 : a.tmps[16]? = some (.pointer (some ⟨t1, 0, none⟩))) (h17 : a.tmps[17]? = some (.pointer (some ⟨t2, 0, none⟩))) : alkT15.wp Try.prog Qp a wc := by
  obtain ⟨U, rfl, hV⟩ := hF.lit h16 h17
  exact alk_T15 L VA VB UA UB ca cb da db csA csB fA fB WA WB w ka kd k8 k9 p1 o1 p2 o2 p3 o3 p4 o4 p5 o5 p6 o6 c1 c2 c3 M B d1 d2 d3 N C Z r k Qp Q dA dB vq wc t1 t2 u1 u2 v1 v2 H HQp HS3 HX1 HX2 HP1 HP2 HM2 HK U hV
end
end
end Go.Proofs.Ytcebejcdfdahjaa
