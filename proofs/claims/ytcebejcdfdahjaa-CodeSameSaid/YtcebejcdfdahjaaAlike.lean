/-
  skeinlaw12.alike.
-/
import Derived.Test.YtcebejcdfdahjaaAlikeU
import Derived.Deep.DeepCutAuto
import Derived.Deep.LoopGhost
namespace Go.Proofs.Ytcebejcdfdahjaa
open Go.RowKit
attribute [local go_sem] cell_set
attribute [local go_sem high] run_neq_port
set_option maxRecDepth 100000
set_option linter.unusedVariables false

section
variable (A : Option Addr) (n cap : Nat) (L : List (ByteArray × Int)) (VA VB UA UB : Option Addr) (ca cb da db : Nat) (csA csB : List Int) (fA fB : Nat) (WA WB : List (Pt × Pt)) (w : World)
set_option maxHeartbeats 8000000 in
theorem alike_is (a0 b0 : Pt) (hn : n = L.length) (HL : Hid (AgRd w A L)) (hs : SigOk L) (HCA : Hid (IntsRd w VA csA)) (HWA : Hid (WrRd w VB WA)) (HCB : Hid (IntsRd w UA csB)) (HWB : Hid (WrRd w UB WB)) (hcA : csA.length ≤ 5000) (hcB : csB.length ≤ 5000) (hfA : fA ≤ 100) (hfB : fB ≤ 100) (hwA : WA.length ≤ 40000) (hwB : WB.length ≤ 40000)
    (okA : Hid (NetOk (pnL L) csA fA WA)) (okB : Hid (NetOk (pnL L) csB fB WB)) (pa : Hid (isPt (pnL L) csA fA a0 = true)) (pb : Hid (isPt (pnL L) csB fB b0 = true)) (f0 : Nat) (hf0 : 1 + 8 * csA.length ≤ f0) (hf1 : f0 ≤ 100000) :
    Calls Try.prog 44 #[.slice A n cap, netV VA ca csA fA VB cb WA, netV UA da csB fB UB db WB, .int .i64 (plc (pnL L) csA fA a0 : Int), .int .i64 (plc (pnL L) csB fB b0 : Int)] w fun e w' =>
      e = .returned (.bool (alk (labC csA) (labC csB) (rowP (pnL L) csA (lkM WA)) (rowP (pnL L) csB (lkM WB)) f0 [(startP (lkM WA) a0, startP (lkM WB) b0)] [] [])) ∧ Below w.heap.size w w' := by
  subst hn
  obtain ⟨i2, hi0, hi1, hi2, hi3⟩ := info_parts arr2_info
  obtain ⟨r, hr⟩ : ∃ r, alk (labC csA) (labC csB) (rowP (pnL L) csA (lkM WA)) (rowP (pnL L) csB (lkM WB)) f0 [(startP (lkM WA) a0, startP (lkM WB) b0)] [] [] = r := ⟨_, rfl⟩
  rw [hr]
  have PA : Hid (isPt (pnL L) csA fA (startP (lkM WA) a0) = true) := startP_is okA.out pa.out
  have PB : Hid (isPt (pnL L) csB fB (startP (lkM WB) b0) = true) := startP_is okB.out pb.out
  obtain ⟨sA, hsA⟩ : ∃ s, startP (lkM WA) a0 = s := ⟨_, rfl⟩
  obtain ⟨sB, hsB⟩ : ∃ s, startP (lkM WB) b0 = s := ⟨_, rfl⟩
  rw [hsA] at hr PA
  rw [hsB] at hr PB
  have HR := Lib.hid hr
  have HsA := Lib.hid hsA
  have HsB := Lib.hid hsB
  clear hr hsA hsB
  have hmk1 := run_make_row' (P := Try.prog) 23 3 (.int .i64 0) 8 Try.underlying23 int_info rfl .i64 .i64 csA.length (by omega) (by omega)
  have hmk2 := run_make_row' (P := Try.prog) 23 3 (.int .i64 0) 8 Try.underlying23 int_info rfl .i64 .i64 csB.length (by omega) (by omega)
  go_enter Try.func44, Try.ntmps44
  go_upto_region 1 with fail
  refine absW (fun X => Below w.heap.size w X ∧ NBox X w.heap.size VA csA.length ca fA VB WA.length cb ∧ NBox X (w.heap.size + 1) UA csB.length da fB UB WB.length db) ⟨by (repeat (first | exact Below.refl _ _ | (with_reducible refine Below.drew ?_) | (with_reducible refine Below.alloc ?_ (by (try simp); (try omega)) _) | (with_reducible refine Below.setCell ?_ (by (try simp); (try omega)) _) | (with_reducible refine Below.trans ?_ (Below.mono (by assumption) (by (try simp); (try omega)))))), ⟨by simp <;> omega, by go_simp, by go_simp, by go_simp⟩, ⟨by simp, by go_simp, by go_simp, by go_simp⟩⟩ ?_
  rintro X ⟨hbx, hna, hnb⟩
  have n0 := hna.c0
  have n1 := hna.c1
  have n2 := hna.c2
  have hlX := hna.lt
  have HX := Lib.hid (And.intro hbx (And.intro hna hnb))
  clear hbx hna hnb
  go_upto_region 2 with (go_at_call 88
                         refine (rlook A _ cap L VA VB ca cb csA fA WA _ rfl (Lib.hid (HL.out.below HX.out.1)) hs (Lib.hid (HCA.out.below HX.out.1)) (Lib.hid (HWA.out.below HX.out.1)) hcA hfA hwA okA).mono ?_
                         rintro e w1 ⟨X1, c1, X2, c2, X3, c3, rfl, h1, h2, h3, hb1⟩
                         rw [allPs_len])
  obtain ⟨M, hM⟩ : ∃ M, firstN (pnL L) csA fA csA.length = M := ⟨_, rfl⟩
  rw [hM]
  refine absW (fun Y => Below w.heap.size w Y ∧ NBox Y w.heap.size VA csA.length ca fA VB WA.length cb ∧ NBox Y (w.heap.size + 1) UA csB.length da fB UB WB.length db ∧ NLk (pnL L) csA fA WA X1 X2 X3 c1 c2 c3 M w1.heap.size Y) ?_ ?_
  · have hA : Below w1.heap.size w1 (w1.alloc (.cells #[.slice X1 M c1, .slice X2 M c2, .slice X3 (csA.length + 1) c3, .int .i64 (csA.length : Int)] 144)) := (Below.refl _ _).alloc (Nat.le_refl _) _
    have hB := hb1.trans (hA.mono hb1.size)
    exact ⟨HX.out.1.trans (hB.mono HX.out.1.size), HX.out.2.1.below hB, HX.out.2.2.below hB, heap_alloc_new w1 _, h1.below hA, h2.below hA, h3.below hA, hM⟩
  rintro Y ⟨hy1, hy2, hy3, hy4⟩
  clear h1 h2 h3 hb1 n0 n1 n2 hM hlX
  have m0 := hy3.c0
  have m1 := hy3.c1
  have m2 := hy3.c2
  have hlY := hy3.lt
  have HY := Lib.hid (And.intro hy1 (And.intro hy2 (And.intro hy3 hy4)))
  clear hy1 hy2 hy3 hy4
  go_upto_region 3 with (go_at_call 88
                         refine (rlook A _ cap L UA UB da db csB fB WB _ rfl (Lib.hid (HL.out.below HY.out.1)) hs (Lib.hid (HCB.out.below HY.out.1)) (Lib.hid (HWB.out.below HY.out.1)) hcB hfB hwB okB).mono ?_
                         rintro e w2 ⟨Y1, d1, Y2, d2, Y3, d3, rfl, h1, h2, h3, hb1⟩
                         rw [allPs_len])
  obtain ⟨N, hN⟩ : ∃ N, firstN (pnL L) csB fB csB.length = N := ⟨_, rfl⟩
  rw [hN]
  obtain ⟨B, hB⟩ : ∃ B, w1.heap.size = B := ⟨_, rfl⟩
  rw [hB] at HY ⊢
  refine absW (fun Z => Al0 w (pnL L) csA csB fA fB WA WB VA VB UA UB ca cb da db X1 X2 X3 Y1 Y2 Y3 c1 c2 c3 M B d1 d2 d3 N w2.heap.size Z) ?_ ?_
  · have hA : Below w2.heap.size w2 (w2.alloc (.cells #[.slice Y1 N d1, .slice Y2 N d2, .slice Y3 (csB.length + 1) d3, .int .i64 (csB.length : Int)] 144)) := (Below.refl _ _).alloc (Nat.le_refl _) _
    have hB := hb1.trans (hA.mono hb1.size)
    exact ⟨HY.out.1.trans (hB.mono HY.out.1.size), HY.out.2.1.below hB, HY.out.2.2.1.below hB, HY.out.2.2.2.below hB, heap_alloc_new w2 _, h1.below hA, h2.below hA, h3.below hA, hN⟩
  intro Z hZ
  obtain ⟨C, hC⟩ : ∃ C, w2.heap.size = C := ⟨_, rfl⟩
  rw [hC] at hZ ⊢
  have HZ := Lib.hid hZ
  clear h1 h2 h3 hb1 m0 m1 m2 hlY hN hB hC hZ HX HY
  obtain ⟨a1, a2, a3, a4, a5⟩ := HZ.out.la.cells
  obtain ⟨b1, b2, b3, b4, b5⟩ := HZ.out.lb.cells
  go_upto_region 5 with fail
  refine absW (fun Y => AlS (pnL L) csA csB fA fB Z [] [] [] (.slice none 0 0) Y) ?_ ?_
  · have r1 : Row (Z.alloc (.cells (madeCells #[.int .i64 0] csA.length) 3)) 3 1 (.slice (some ⟨Z.heap.size, 0, none⟩) csA.length csA.length) csA.length (ivals (toL csA.length [] [])) := by
      rw [toL_nil, ivals_rep0]; exact row_zeros (heap_alloc_new Z _) (by unfold maxLen; omega)
    have r2 : Row ((Z.alloc (.cells (madeCells #[.int .i64 0] csA.length) 3)).alloc (.cells (madeCells #[.int .i64 0] csB.length) 3)) 3 1 (.slice (some ⟨Z.heap.size + 1, 0, none⟩) csB.length csB.length) csB.length (ivals (toL csB.length [] [])) := by
      rw [toL_nil, ivals_rep0]
      have := heap_alloc_new (Z.alloc (.cells (madeCells #[.int .i64 0] csA.length) 3)) (.cells (madeCells #[.int .i64 0] csB.length) 3)
      rw [World.size_alloc] at this
      exact row_zeros this (by unfold maxLen; omega)
    exact ⟨by (repeat (first | exact Below.refl _ _ | (with_reducible refine Below.drew ?_) | (with_reducible refine Below.alloc ?_ (by (try simp); (try omega)) _) | (with_reducible refine Below.setCell ?_ (by (try simp); (try omega)) _) | (with_reducible refine Below.trans ?_ (Below.mono (by assumption) (by (try simp); (try omega)))))), r1.alloc _, r2, Win.nil _ _, by simp [ownB], Par.nil _ _, by simp, by simp⟩
  intro Y hY
  clear a1 a2 a3 a4 a5 b1 b2 b3 b4 b5 hmk1 hmk2
  have HY := Lib.hid hY
  have HZY := Lib.hid (HZ.out.below hY.bl)
  clear hY
  obtain ⟨a1, a2, a3, a4, a5⟩ := HZY.out.la.cells
  obtain ⟨b1, b2, b3, b4, b5⟩ := HZY.out.lb.cells
  obtain ⟨ja, hja⟩ : ∃ j, plc (pnL L) csA fA sA = j := ⟨_, rfl⟩
  obtain ⟨jb, hjb⟩ : ∃ j, plc (pnL L) csB fB sB = j := ⟨_, rfl⟩
  have HJa := Lib.hid hja
  have HJb := Lib.hid hjb
  clear hja hjb
  obtain ⟨p1, o1, rfl, hp1, hl1, e0, e1⟩ := HZY.out.la.port pa.out
  obtain ⟨p2, o2, rfl, hp2, hl2, g0, g1⟩ := HZY.out.lb.port pb.out
  obtain ⟨p3, o3, rfl, hp3, hl3, e2⟩ := HZY.out.la.link okA.out pa.out
  obtain ⟨p4, o4, rfl, hp4, hl4, g2⟩ := HZY.out.lb.link okB.out pb.out
  obtain ⟨p5, o5, rfl, hp5, _⟩ := HZY.out.la.first (Nat.zero_le _)
  obtain ⟨p6, o6, rfl, hp6, _⟩ := HZY.out.lb.first (Nat.zero_le _)
  have HsA2 : Hid (a0.1 < 0 → plc (pnL L) csA fA (lkM WA a0) = ja) := Lib.hid fun h => by rw [← HJa.out, ← HsA.out, startP, if_pos h]
  have HsA3 : Hid (¬ a0.1 < 0 → plc (pnL L) csA fA a0 = ja) := Lib.hid fun h => by rw [← HJa.out, ← HsA.out, startP, if_neg h]
  have HsB2 : Hid (b0.1 < 0 → plc (pnL L) csB fB (lkM WB b0) = jb) := Lib.hid fun h => by rw [← HJb.out, ← HsB.out, startP, if_pos h]
  have HsB3 : Hid (¬ b0.1 < 0 → plc (pnL L) csB fB b0 = jb) := Lib.hid fun h => by rw [← HJb.out, ← HsB.out, startP, if_neg h]
  generalize plc (pnL L) csA fA (lkM WA a0) = ka at e2 HsA2
  generalize plc (pnL L) csB fB (lkM WB b0) = kb at g2 HsB2
  generalize plc (pnL L) csA fA a0 = ia at *
  generalize plc (pnL L) csB fB b0 = ib at *
  go_upto_if 37 with fail
  go_cut [3] (fun v wx => v = .int .i64 (ja : Int) ∧ wx = Y)
  case first =>
    by_cases h : a0.1 < 0
    · have := HsA2.out h
      subst this
      go_wp2_with fail
      go_meet
      case rel => exact ⟨rfl, rfl⟩
    · have := HsA3.out h
      subst this
      go_wp2_with fail
      go_meet
      case rel => exact ⟨rfl, rfl⟩
  case rest =>
    obtain ⟨rfl, rfl⟩ := hcut
    go_upto_if 49 with fail
    go_cut [4] (fun v wx => v = .int .i64 (jb : Int) ∧ wx = wc)
    case first =>
      by_cases h : b0.1 < 0
      · have := HsB2.out h
        subst this
        go_wp2_with fail
        go_meet
        case rel => exact ⟨rfl, rfl⟩
      · have := HsB3.out h
        subst this
        go_wp2_with fail
        go_meet
        case rel => exact ⟨rfl, rfl⟩
    case rest =>
      obtain ⟨rfl, rfl⟩ := hcut
      clear e0 e1 e2 g0 g1 g2 hl1 hl2 hl3 hl4 HsA HsA2 HsA3 HsB HsB2 HsB3 a1 a2 a3 a4 b1 b2 b3 b4
      have HWn : Hid (Win (wc.alloc (.cells #[.int .i64 (ja : Int), .int .i64 (jb : Int)] 66)) 66 (.slice none 0 0) []) := Win.nil _ _
      go_wp2_with (at_builtin; go_loud (refine inPlain rfl (wpo_win_push _ _ _ rfl i2 _ Try.underlying62 hi0 hi1 hi2 hi3 rfl rfl HWn.out _ 1 (ja : Int) (jb : Int) rfl (heap_alloc_new wc _) (by simp) ?_)); intro sv5 w5 r5 k5 o5
                   have H5 : Hid (AlS (pnL L) csA csB fA fB Z [(sA, sB)] [] [] sv5 w5) := Lib.hid (HY.out.push (x := (sA, sB)) ⟨PA.out, PB.out⟩ (by rw [HJa.out, HJb.out]; exact r5) k5 o5))
      clear r5 k5 o5 HWn
      go_loopg [15] f0 (fun k v wr => ∃ Q dA dB, Hid (AlS (pnL L) csA csB fA fB Z Q dA dB v wr) ∧ Hid (Q.length + 8 * (csA.length - dA.length) ≤ k ∧ k ≤ 100000) ∧ Hid (alk (labC csA) (labC csB) (rowP (pnL L) csA (lkM WA)) (rowP (pnL L) csB (lkM WB)) k Q dA dB = r))
      case atStart => exact ⟨[(sA, sB)], [], [], H5, Lib.hid ⟨by simpa using hf0, hf1⟩, HR⟩
      case round =>
        obtain ⟨Q, dA, dB, HS, HM, HK⟩ := hrel
        obtain ⟨wa, rfl⟩ : ∃ x : World, x = wr := ⟨_, rfl⟩
        clear H5 HY HZY HR
        cases Q with
        | nil =>
          obtain ⟨V, c, hv, _⟩ := HS.out.wn.form
          rw [placesQ_len] at hv
          subst hv
          have hr : r = true := by rw [← HK.out, alk_nil]
          have HRt := Lib.hid hr
          have HBe := Lib.hid ((HZ.out.below HS.out.bl).bl)
          clear hr HK HM HS
          go_wp2
          go_ret
          exact ⟨by rw [HRt.out]; rfl, HBe.out⟩
        | cons x Q =>
          obtain ⟨⟨u1, u2⟩, ⟨v1, v2⟩⟩ := x
          obtain ⟨hpt1, hpt2⟩ := HS.out.pt ((u1, u2), (v1, v2)) (by simp)
          dsimp only at hpt1 hpt2
          have HP1 := Lib.hid hpt1
          have HP2 := Lib.hid hpt2
          obtain ⟨g, off, cap, hv, hle, hgl, h0, h1, hwin⟩ := Win.head (p := ((plc (pnL L) csA fA (u1, u2) : Int), (plc (pnL L) csB fB (v1, v2) : Int))) (Q := placesQ (pnL L) csA csB fA fB Q) HS.out.wn
          rw [placesQ_len] at hv hle hwin
          subst hv
          have HWi := Lib.hid hwin
          have HZa := Lib.hid (HZ.out.below HS.out.bl)
          obtain ⟨a1, a2, a3, a4, a5⟩ := HZa.out.la.cells
          obtain ⟨b1, b2, b3, b4, b5⟩ := HZa.out.lb.cells
          obtain ⟨hp1, hl1, e0, e1⟩ := HZa.out.la.port2 hpt1
          obtain ⟨hp2, hl2, g0, g1⟩ := HZa.out.lb.port2 hpt2
          dsimp only at h0 h1 e0 e1 g0 g1
          clear hwin hpt1 hpt2 hp3 hp4 hp5 hp6 a2 a3 a4 b2 b3 b4
          generalize plc (pnL L) csA fA (u1, u2) = iu at h0 hl1 e0 e1
          generalize plc (pnL L) csB fB (v1, v2) = iv at h1 hl2 g0 g1
          go_upto_region 12 with fail
          refine region_hs 8 9 (fun X' => X'.cell? ⟨B, 0, none⟩ = some (.slice (some ⟨p1, o1, none⟩) M c1) ∧ X'.cell? ⟨g, off, none⟩ = some (.int .i64 (iu : Int)) ∧ X'.cell? ⟨p1, o1 + iu * 2, none⟩ = some (.int .i64 u1) ∧ X'.cell? ⟨p1, o1 + iu * 2 + 1, none⟩ = some (.int .i64 u2)) (by kernel_rfl) (by kernel_rfl) (fun _ _ d _ _ h => by cases d <;> exact h) ⟨a1, h0, e0, e1⟩ ?_
          simp only [List.take_succ_cons, List.take_zero, List.drop_succ_cons, List.drop_zero]
          iterate 8 (refine wpHead_step (v := ?_) (by rfl) ?_ ?_; rotate_left; (· intro W9 hSw; (try dsimp only at hSw); go_simp; try with_reducible rfl); (try simp only [Act.put, List.setIfInBounds_toArray, List.set_cons_zero, List.set_cons_succ]))
          refine wpHead_nil ?_
          refine wpMid_step (by rfl) (fun K9 hK9 => ?_)
          unfold Oper.wp
          go_simp
          refine hK9 _ _ (⟨by go_simp, by go_simp, by go_simp, by go_simp⟩) ?_
          (try simp only [Act.put, List.setIfInBounds_toArray, List.set_cons_zero, List.set_cons_succ])
          refine wpMid_nil ?_
          go_upto_region 13 with fail
          refine absW (fun Y1 => AlS (pnL L) csA csB fA fB Z (((u1, u2), (v1, v2)) :: Q) dA dB (.slice (some ⟨g, off, none⟩) (Q.length + 1) cap) Y1 ∧ PtBx Y1 wa.heap.size (u1, u2) ∧ Below wa.heap.size wa Y1) ?_ ?_
          · have hb : Below wa.heap.size wa (wa.drew.alloc (.cells #[.int .i64 u1, .int .i64 u2] 78)) := (Below.refl _ _).drew.alloc (Nat.le_refl _) _
            exact ⟨HS.out.grow hb, heap_alloc_new wa.drew _, hb⟩
          rintro Yb ⟨hS1, hx1, hb1⟩
          have HS1 := Lib.hid hS1
          have HX1 := Lib.hid hx1
          have h1 := (hb1.cell (p := ⟨g, off + 1, none⟩) hgl).trans h1
          have g0 := (hb1.cell (p := ⟨p2, o2 + iv * 2, none⟩) hp2).trans g0
          have g1 := (hb1.cell (p := ⟨p2, o2 + iv * 2 + 1, none⟩) hp2).trans g1
          have b1 := (hb1.cell (p := ⟨C, 0, none⟩) b5).trans b1
          have hgl := Nat.lt_of_lt_of_le hgl hb1.size
          have hp2 := Nat.lt_of_lt_of_le hp2 hb1.size
          have b5 := Nat.lt_of_lt_of_le b5 hb1.size
          have HWi := Lib.hid (HWi.out.below hb1)
          clear hS1 hx1 hb1 a1 h0 e0 e1 HS HZa hp1
          refine region_hs 8 9 (fun X' => X'.cell? ⟨C, 0, none⟩ = some (.slice (some ⟨p2, o2, none⟩) N d1) ∧ X'.cell? ⟨g, off + 1, none⟩ = some (.int .i64 (iv : Int)) ∧ X'.cell? ⟨p2, o2 + iv * 2, none⟩ = some (.int .i64 v1) ∧ X'.cell? ⟨p2, o2 + iv * 2 + 1, none⟩ = some (.int .i64 v2)) (by kernel_rfl) (by kernel_rfl) (fun _ _ d _ _ h => by cases d <;> exact h) ⟨b1, h1, g0, g1⟩ ?_
          simp only [List.take_succ_cons, List.take_zero, List.drop_succ_cons, List.drop_zero]
          iterate 8 (refine wpHead_step (v := ?_) (by rfl) ?_ ?_; rotate_left; (· intro W9 hSw; (try dsimp only at hSw); go_simp; try with_reducible rfl); (try simp only [Act.put, List.setIfInBounds_toArray, List.set_cons_zero, List.set_cons_succ]))
          refine wpHead_nil ?_
          refine wpMid_step (by rfl) (fun K9 hK9 => ?_)
          unfold Oper.wp
          go_simp
          refine hK9 _ _ (⟨by go_simp, by go_simp, by go_simp, by go_simp⟩) ?_
          (try simp only [Act.put, List.setIfInBounds_toArray, List.set_cons_zero, List.set_cons_succ])
          refine wpMid_nil ?_
          go_upto_region 14 with fail
          refine absW (fun Y2 => AlS (pnL L) csA csB fA fB Z (((u1, u2), (v1, v2)) :: Q) dA dB (.slice (some ⟨g, off, none⟩) (Q.length + 1) cap) Y2 ∧ PtBx Y2 wa.heap.size (u1, u2) ∧ PtBx Y2 Yb.heap.size (v1, v2) ∧ Below Yb.heap.size Yb Y2) ?_ ?_
          · have hb : Below Yb.heap.size Yb (Yb.drew.alloc (.cells #[.int .i64 v1, .int .i64 v2] 78)) := (Below.refl _ _).drew.alloc (Nat.le_refl _) _
            exact ⟨HS1.out.grow hb, HX1.out.below hb, heap_alloc_new Yb.drew _, hb⟩
          rintro Yc ⟨hS2, hx1, hx2, hb2⟩
          obtain ⟨t1, ht1⟩ : ∃ t, wa.heap.size = t := ⟨_, rfl⟩
          obtain ⟨t2, ht2⟩ : ∃ t, Yb.heap.size = t := ⟨_, rfl⟩
          have et2 : Yb.drew.heap.size = t2 := ht2
          have et1 : wa.drew.heap.size = t1 := ht1
          rw [ht1] at hx1
          rw [ht2] at hx2
          try simp only [ht1, ht2]
          have HX1 := Lib.hid hx1
          have HX2 := Lib.hid hx2
          have HWi := Lib.hid (HWi.out.below hb2)
          have HS2 := Lib.hid hS2
          clear h1 g0 g1 b1 b5 hp2 hl2 hl1 hx1 hx2 hb2 hS2 HS1 et1 et2 ht1 ht2 hgl
          obtain ⟨k, rfl⟩ : ∃ k, gk = k + 1 := ⟨gk - 1, by have := HM.out; simp at this; omega⟩
          go_cut [15] (fun v wx => v = .slice (if cap = 1 then some ⟨g, off, none⟩ else some ⟨g, off + 2, none⟩) Q.length (cap - 1) ∧ wx = Yc)
          case first =>
            by_cases hcap : cap = 1
            · subst hcap
              go_wp2_with fail
              go_meet
              case rel => exact ⟨by simp <;> omega, rfl⟩
            · go_wp2_with fail
              go_meet
              case rel => exact ⟨by simp [hcap], rfl⟩
          case rest =>
            obtain ⟨hv15, rfl⟩ := hcut
            subst hv15
            have HS3 : Hid (AlS (pnL L) csA csB fA fB Z Q dA dB (.slice (if cap = 1 then some ⟨g, off, none⟩ else some ⟨g, off + 2, none⟩) Q.length (cap - 1)) wc) := Lib.hid (HS2.out.pop HWi.out (by split <;> rfl))
            clear HS2 HWi hle
            generalize Value.slice (if cap = 1 then some ⟨g, off, none⟩ else some ⟨g, off + 2, none⟩) Q.length (cap - 1) = vq at HS3 ⊢
            have HM2 : Hid (Q.length + 8 * (csA.length - dA.length) ≤ k ∧ k ≤ 100000) := Lib.hid (by have := HM.out; simp at this; omega)
            have HC : Hid (AlC L VA VB UA UB ca cb da db csA csB fA fB WA WB w p1 o1 p2 o2 p3 o3 p4 o4 p5 o5 p6 o6 c1 c2 c3 M B d1 d2 d3 N C Z) := Lib.hid ⟨hs, HCA.out, HCB.out, hcA, hcB, hfA, hfB, okA.out, okB.out, HZ.out⟩
            go_step
            refine alk_T15a L VA VB UA UB ca cb da db csA csB fA fB WA WB w _ _ undef undef p1 o1 p2 o2 p3 o3 p4 o4 p5 o5 p6 o6 c1 c2 c3 M B d1 d2 d3 N C Z r k _ Q dA dB vq _ t1 t2 u1 u2 v1 v2 HC ?hq HS3 HX1 HX2 HP1 HP2 HM2 HK _ ⟨rfl, rfl, rfl, rfl, rfl, rfl, rfl, rfl, rfl, rfl, rfl, rfl, rfl⟩ rfl rfl
            case hq =>
              clear HS3 HX1 HX2 HM2 HK HC HM
              refine ⟨fun a' w' h10 hdf hb => ?_, fun a' w' v hF hI => ?_, fun c a' d v w' h => by cases d <;> exact h, fun a' w' v hF hI => ?_⟩
              · show bodyPost Try.prog Try.f44 (fun e w' => e = Ending.returned (Value.bool r) ∧ Below w.heap.size w w') .ret a' w'
                refine bodyPost_ret (results_tmp rfl _ _ _) hdf ⟨?_, hb⟩
                rw [Array.getD_eq_getD_getElem?, h10]; rfl
              all_goals
                obtain ⟨v16, h16⟩ : ∃ x, a'.tmps[16]? = some x := ⟨_, Array.getElem?_eq_getElem (by rw [hF.sz]; omega)⟩
                obtain ⟨v17, h17⟩ : ∃ x, a'.tmps[17]? = some x := ⟨_, Array.getElem?_eq_getElem (by rw [hF.sz]; omega)⟩
                obtain ⟨U, e, hV⟩ := hF.lit h16 h17
                clear h16 h17 hF
                subst e
                obtain ⟨hA, hB, hC9, hD⟩ := hV
                simp only [List.range, List.range.loop, List.map_cons, List.map_nil, List.take_succ_cons, List.take_zero, List.drop_succ_cons, List.drop_zero, Nat.reduceAdd, List.cons.injEq, and_true] at hA hD
                unfold alkL
                simp only [hA, hB, hC9, hD]
                obtain ⟨Q', dA', dB', i1, i2, i3⟩ := hI
                have I := Lib.hid (And.intro i1 (And.intro i2 i3))
                clear hA hB hC9 hD i1 i2 i3
                go_wp2_with fail
                go_roundg k
                case measure => omega
                case rel => exact ⟨Q', dA', dB', Lib.hid I.out.1, Lib.hid I.out.2.1, Lib.hid I.out.2.2⟩
end
end Go.Proofs.Ytcebejcdfdahjaa
