/-
  Contract of skeinref11.Net.Walk.
-/
import Derived.Test.YtkonfogebepccaaGreatDoorRWalk
import Derived.Deep.QuietTactic
import Derived.BigQuiet
import Derived.Deep.Cut
/-
  skeinref11.Net.Walk: its loop.
-/
namespace Go.Proofs.YtkonfogebepccaaGreatDoor
open Go.RowKit
attribute [local go_sem] cell_set
set_option maxRecDepth 100000
set_option linter.unusedVariables false

noncomputable def rwT (n : Nat) : Code := ((Tryz.f33.body).bind (tailQ n)).getD .skip
def FrRW (ds : List Deferred) (U : Nat → Value) : Act := { tmps := (U 0 :: U 1 :: U 2 :: U 3 :: U 4 :: U 5 :: U 6 :: U 7 :: U 8 :: U 9 :: U 10 :: U 11 :: U 12 :: U 13 :: U 14 :: U 15 :: U 16 :: U 17 :: U 18 :: U 19 :: U 20 :: U 21 :: U 22 :: U 23 :: U 24 :: U 25 :: U 26 :: U 27 :: U 28 :: U 29 :: U 30 :: U 31 :: U 32 :: U 33 :: U 34 :: U 35 :: U 36 :: U 37 :: U 38 :: U 39 :: U 40 :: U 41 :: U 42 :: U 43 :: U 44 :: U 45 :: U 46 :: U 47 :: U 48 :: U 49 :: U 50 :: U 51 :: U 52 :: U 53 :: U 54 :: U 55 :: U 56 :: U 57 :: U 58 :: U 59 :: U 60 :: U 61 :: U 62 :: U 63 :: U 64 :: U 65 :: U 66 :: U 67 :: U 68 :: U 69 :: U 70 :: U 71 :: U 72 :: U 73 :: U 74 :: U 75 :: U 76 :: U 77 :: U 78 :: U 79 :: U 80 :: U 81 :: U 82 :: U 83 :: U 84 :: U 85 :: U 86 :: U 87 :: U 88 :: U 89 :: U 90 :: U 91 :: U 92 :: U 93 :: U 94 :: U 95 :: U 96 :: []).toArray, defers := ds }
theorem FrN.openRW {ds : List Deferred} {L : List (Nat × Value)} {a : Act} (h : FrN 97 ds L a) : ∃ U, a = FrRW ds U ∧ Us U L := h.open_
theorem plc_cellw (pn : Int → Nat) (cs : List Int) (f c s : Nat) : plc pn cs f ((c : Int), (s : Int)) = firstN pn cs f c + s := by
  unfold plc
  rw [if_neg (by show ¬ ((c : Int) = -1); omega)]
  simp
section
variable (Q : Exit → Act → World → Prop) (w : World) (pn : Int → Nat) (cs : List Int) (f : Nat) (W : List (Pt × Pt)) (b1 o1 b2 o2 b3 o3 : Nat) (c1 c2 c3 M B g n : Nat)
set_option maxHeartbeats 4000000 in
theorem rw_9 (a : Act) (X : World) (v : Value) (l0 : List Int) (wl : List Int) (hn : n = cs.length) (hn2 : n ≤ 10000) (hM : firstN pn cs f cs.length = M) (hM2 : M ≤ 100000) (hok : Hid (NetOk pn cs f W))
    (HR1 : Hid (PtsRd w (some ⟨b1, o1, none⟩) (allPs pn cs f))) (HR2 : Hid (IntsRd w (some ⟨b2, o2, none⟩) (lkK pn cs f W W.length))) (HR3 : Hid (IntsRd w (some ⟨b3, o3, none⟩) (firstL pn cs f cs.length ++ [(firstN pn cs f cs.length : Int)])))
    (hf0 : Fnd n l0) (hwl : walkF (rowP pn cs (lkM W)) (n + 1) 0 l0 = wl)
    (hret : Hid (∀ a' X' v', FrN 97 [] [(4, v')] a' → Below w.heap.size w X' → Row X' 3 1 v' wl.length (ivals wl) → (∀ b ∈ ownB v', w.heap.size ≤ b) → Q .ret a' X'))
    (hs : Hid (RwS w X B g n M (some ⟨b1, o1, none⟩) (some ⟨b2, o2, none⟩) (some ⟨b3, o3, none⟩) c1 c2 c3 v l0 l0)) (ha : FrN 97 [] [(2, .pointer (some ⟨B, 0, none⟩)), (5, .slice (some ⟨g, 0, none⟩) n n), (6, v)] a) : (rwT 9).wp Tryz.prog Q a X := by
  obtain ⟨U, rfl, e2, e5, e6, -⟩ := ha.openRW
  unfold FrRW
  simp only [e2, e5, e6]
  clear e2 e5 e6 ha
  show (Code.seq _ _).wp _ _ _ _
  have HN : Hid (∀ Z v l s, RwS w Z B g n M (some ⟨b1, o1, none⟩) (some ⟨b2, o2, none⟩) (some ⟨b3, o3, none⟩) c1 c2 c3 v l s → NLk pn cs f W (some ⟨b1, o1, none⟩) (some ⟨b2, o2, none⟩) (some ⟨b3, o3, none⟩) c1 c2 c3 M B Z) := fun Z v l s h => ⟨by rw [← hn]; exact h.bx, HR1.out.below h.bel, HR2.out.below h.bel, HR3.out.below h.bel, hM⟩
  have HNM := Lib.hid (And.intro hn hM)
  have H0 : Hid (RwS w X B g n M (some ⟨b1, o1, none⟩) (some ⟨b2, o2, none⟩) (some ⟨b3, o3, none⟩) c1 c2 c3 v l0 l0 ∧ Fnd n l0 ∧ walkF (rowP pn cs (lkM W)) (n + 1 - 0) 0 l0 = wl) := ⟨hs.out, hf0, hwl⟩
  clear hs hf0 hwl hn hM
  obtain ⟨i0, hi0, hi1, hi2, hi3⟩ := info_parts int_info
  go_wp2_with fail
  go_loopw [6, 8] (fun l i wr => ∃ (k : Nat) (fl : List Int), i = .int .i64 k ∧ k ≤ fl.length ∧ Hid (RwS w wr B g n M (some ⟨b1, o1, none⟩) (some ⟨b2, o2, none⟩) (some ⟨b3, o3, none⟩) c1 c2 c3 l fl fl ∧ Fnd n fl ∧ walkF (rowP pn cs (lkM W)) (n + 1 - k) k fl = wl)) (fun _ i _ => n - (intOf i).toNat)
  case atStart => exact ⟨0, l0, rfl, Nat.zero_le _, H0⟩
  case round =>
    obtain ⟨k, fl, rfl, hk, HR⟩ := hrel
    clear H0
    obtain ⟨A, c, rfl, _⟩ := HR.out.1.lr.len
    have hfn := HR.out.2.1.len
    by_cases hlt : k < fl.length
    · obtain ⟨bl, cl, hle, hbl, ql⟩ := HR.out.1.found hlt
      simp only [Value.slice.injEq, true_and] at hle
      obtain ⟨rfl, rfl⟩ := hle
      have hcx := HR.out.2.1.lt (fl.getD k 0) (by rw [List.getD_eq_getElem?_getD, List.getElem?_eq_getElem hlt]; exact List.getElem_mem hlt)
      obtain ⟨cn, hcn⟩ := Int.eq_ofNat_of_zero_le hcx.1
      rw [hcn] at ql hcx
      have hcn2 : cn < n := by omega
      obtain ⟨F0, hF0⟩ : ∃ F, firstN pn cs f cn = F := ⟨_, rfl⟩
      obtain ⟨PN, hPN⟩ : ∃ P, pn (cs.getD cn 0) = P := ⟨_, rfl⟩
      have hF1 : firstN pn cs f (cn + 1) = F0 + PN := by rw [firstN_succ (by rw [← HNM.out.1]; exact hcn2), hF0, hPN]
      have HF : Hid (∀ Z v l s, RwS w Z B g n M (some ⟨b1, o1, none⟩) (some ⟨b2, o2, none⟩) (some ⟨b3, o3, none⟩) c1 c2 c3 v l s → b3 < Z.heap.size ∧ Z.cell? ⟨b3, o3 + cn, none⟩ = some (.int .i64 (F0 : Int)) ∧ Z.cell? ⟨b3, o3 + (cn + 1), none⟩ = some (.int .i64 ((F0 + PN : Nat) : Int)) ∧ Z.cell? ⟨B, 0, none⟩ = some (.slice (some ⟨b1, o1, none⟩) M c1) ∧ Z.cell? ⟨B, 1, none⟩ = some (.slice (some ⟨b2, o2, none⟩) M c2) ∧ Z.cell? ⟨B, 2, none⟩ = some (.slice (some ⟨b3, o3, none⟩) (n + 1) c3)) := fun Z v l s h => by
        have h1 := HN.out Z v l s h
        obtain ⟨e1, e2⟩ := h1.first2 (c := cn) (by rw [← HNM.out.1]; omega)
        obtain ⟨_, e3⟩ := h1.first2 (c := cn + 1) (by rw [← HNM.out.1]; omega)
        rw [hF0] at e2
        rw [hF1] at e3
        have hb := h.bx
        exact ⟨e1, e2, e3, by simp [World.cell?, hb], by simp [World.cell?, hb], by simp [World.cell?, hb]⟩
      have HL : Hid (∀ Z v l s sx, sx < PN → RwS w Z B g n M (some ⟨b1, o1, none⟩) (some ⟨b2, o2, none⟩) (some ⟨b3, o3, none⟩) c1 c2 c3 v l s → ∃ q : Pt, ∃ j : Nat, q = lkM W ((cn : Int), (sx : Int)) ∧ q.1 < n ∧ j < M ∧ F0 + sx < M ∧ b1 < Z.heap.size ∧ b2 < Z.heap.size ∧ Z.cell? ⟨b2, o2 + (F0 + sx), none⟩ = some (.int .i64 (j : Int)) ∧ Z.cell? ⟨b1, o1 + j * 2, none⟩ = some (.int .i64 q.1)) := fun Z v l s sx hsx h => by
        have h1 := HN.out Z v l s h
        have hp : isPt pn cs f ((cn : Int), (sx : Int)) = true := isPt_cell f (by rw [← HNM.out.1]; exact hcn2) (by rw [hPN]; exact hsx)
        have hq := (lkM_eq hok.out hp).2
        obtain ⟨e1, e2, e3⟩ := h1.link2 hok.out hp
        obtain ⟨e4, e5, e6, _⟩ := h1.port2 hq
        rw [plc_cellw, hF0] at e2 e3
        exact ⟨_, _, rfl, by rw [HNM.out.1]; exact isPt_lt hq, e5, e2, e4, e1, e3, e6⟩
      have HC := Lib.hid (And.intro hcn (And.intro hPN hcn2))
      have hPm : F0 + PN ≤ M := by
        have := firstN_mono pn cs f (c := cn) (d := cs.length) (by rw [← HNM.out.1]; exact hcn2) (Nat.le_refl _)
        rw [hF0, hPN, HNM.out.2] at this
        exact this
      obtain ⟨t0, t1, t2, t3, t4, t5⟩ := HF.out wr _ _ _ HR.out.1
      have hB := heap_lt HR.out.1.bx
      have hk0 : (k : Int) < (fl.length : Int) := by omega
      have hcn3 : (cn : Int) < ((n + 1 : Nat) : Int) := by omega
      have HKL := Lib.hid hlt
      clear hcn hPN hcx hF0 hF1
      go_wp2_with fail
      go_quiet (fail)
      go_wp2_with fail
      refine absW (fun Z => Below wr.heap.size wr Z) (below_drewN (Below.refl _ _) _) ?_
      intro Z hZ
      have H0 : Hid (∃ fl2, RwS w Z B g n M (some ⟨b1, o1, none⟩) (some ⟨b2, o2, none⟩) (some ⟨b3, o3, none⟩) c1 c2 c3 (.slice (some ⟨bl, 0, none⟩) fl.length c) fl2 fl2 ∧ Fnd n fl2 ∧ fl2 = visitK (rowP pn cs (lkM W) (cn : Int)) fl 0) := ⟨fl, HR.out.1.grow hZ, HR.out.2.1, (visitK_0 _ _).symm⟩
      clear t0 t1 t2 t3 t4 t5 hB hbl ql hZ
      go_loopw [6, 9] (fun l kk wr => ∃ (sx : Nat), kk = .int .i64 ((F0 + sx : Nat) : Int) ∧ sx ≤ PN ∧ Hid (∃ fl2, RwS w wr B g n M (some ⟨b1, o1, none⟩) (some ⟨b2, o2, none⟩) (some ⟨b3, o3, none⟩) c1 c2 c3 l fl2 fl2 ∧ Fnd n fl2 ∧ fl2 = visitK (rowP pn cs (lkM W) (cn : Int)) fl sx)) (fun _ kk _ => F0 + PN - (intOf kk).toNat)
      case atStart => exact ⟨0, by simp, Nat.zero_le _, H0⟩
      case round =>
        obtain ⟨sx, rfl, hsx, HJ⟩ := hrel
        clear H0
        obtain ⟨fl2, hj0⟩ := HJ.out
        clear HJ
        have HJ := Lib.hid hj0
        clear hj0
        have hpre : fl <+: fl2 := by rw [HJ.out.2.2]; exact visitK_pre _ _ _
        obtain ⟨A2, c2', rfl, _⟩ := HJ.out.1.lr.len
        have hlen2 := hpre.length_le
        have hk2 : k < fl2.length := by have := HKL.out; omega
        obtain ⟨bl2, cl2, hle, hbl, ql⟩ := HJ.out.1.found hk2
        simp only [Value.slice.injEq, true_and] at hle
        obtain ⟨rfl, rfl⟩ := hle
        have hgd : fl2.getD k 0 = fl.getD k 0 := by
          obtain ⟨r, hr⟩ := hpre
          rw [← hr, List.getD_eq_getElem?_getD, List.getD_eq_getElem?_getD, List.getElem?_append_left HKL.out]
        rw [hgd, HC.out.1] at ql
        obtain ⟨t0, t1, t2, t3, t4, t5⟩ := HF.out wr _ _ _ HJ.out.1
        have hB := heap_lt HJ.out.1.bx
        have hk1 : (k : Int) < (fl2.length : Int) := by omega
        have hfn2 := HJ.out.2.1.len
        have hw1 : IntKind.i64.wrap ((cn : Int) + 1) = ((cn + 1 : Nat) : Int) := by rw [IntWalk.i64_in _ (by omega)]; omega
        have hcn4 : ((cn + 1 : Nat) : Int) < ((n + 1 : Nat) : Int) := by omega
        clear hpre hlen2 hgd
        by_cases hs2 : sx < PN
        · obtain ⟨⟨q1, q2⟩, j, hq, hqn, hj, hfs, z1, z2, d1, d2⟩ := HL.out wr _ _ _ sx hs2 HJ.out.1
          have hvis : visitK (rowP pn cs (lkM W) (cn : Int)) fl (sx + 1) = addC fl2 q1 := by
            have h1 : sx < (rowP pn cs (lkM W) (cn : Int)).length := by rw [rowP_len, Int.toNat_natCast, HC.out.2.1]; exact hs2
            rw [visitK_succ h1, rowP_at _ (by rw [HC.out.2.1]; exact hs2), ← hq, ← HJ.out.2.2]
          have HV := Lib.hid hvis
          have hlt2 : ((F0 + sx : Nat) : Int) < ((F0 + PN : Nat) : Int) := by omega
          have hj2 : (j : Int) < (M : Int) := by omega
          have hfs2 : ((F0 + sx : Nat) : Int) < (M : Int) := by omega
          dsimp only at hqn d2
          clear hq hvis
          go_wp2_with fail
          go_quiet (fail)
          go_wp2_with fail
          go_quiet (fail)
          go_upto_region 16 with fail
          refine absW (fun Z => Below wr.heap.size wr Z) (by first | exact below_drewN (below_drewN (Below.refl _ _) _) _ | exact below_drewN (Below.refl _ _) _) ?_
          intro Z hZ
          have HJZ := Lib.hid (HJ.out.1.grow hZ)
          clear t0 t1 t2 t3 t4 t5 hB hbl ql z1 z2 d1 d2 hZ
          by_cases hq0 : q1 < 0
          · have HV2 : Hid (visitK (rowP pn cs (lkM W) (cn : Int)) fl (sx + 1) = fl2) := by show _ = _; rw [HV.out, addC_neg hq0]
            go_wp2_with fail
            go_roundw
            case rel => exact ⟨sx + 1, by go_num, by omega, Lib.hid ⟨fl2, HJZ.out, HJ.out.2.1, HV2.out.symm⟩⟩
            case measure => simp [intOf]; omega
          · obtain ⟨qn, rfl⟩ := Int.eq_ofNat_of_zero_le (show 0 ≤ q1 by omega)
            have hqn2 : qn < n := by omega
            obtain ⟨zg, qs, fz⟩ := HJZ.out.seen hqn2
            have hqn3 : (qn : Int) < (n : Int) := by omega
            by_cases hm : (qn : Int) ∈ fl2
            · have HV2 : Hid (visitK (rowP pn cs (lkM W) (cn : Int)) fl (sx + 1) = fl2) := by show _ = _; rw [HV.out]; unfold addC; rw [if_neg (fun h => h.2 hm)]
              rw [decide_eq_true hm] at qs
              clear hm
              go_wp2_with fail
              go_roundw
              case rel => exact ⟨sx + 1, by go_num, by omega, Lib.hid ⟨fl2, HJZ.out, HJ.out.2.1, HV2.out.symm⟩⟩
              case measure => simp [intOf]; omega
            · have hadd : addC fl2 (qn : Int) = fl2 ++ [(qn : Int)] := by unfold addC; rw [if_pos ⟨by omega, hm⟩]
              have HV2 : Hid (visitK (rowP pn cs (lkM W) (cn : Int)) fl (sx + 1) = fl2 ++ [(qn : Int)] ∧ Fnd n (fl2 ++ [(qn : Int)])) := ⟨by rw [HV.out, hadd], by rw [← hadd]; exact HJ.out.2.1.add hqn⟩
              rw [decide_eq_false hm] at qs
              have HST := Lib.hid (HJZ.out.store qn)
              have HRow : Hid (Row ((Z.setCell ⟨g, qn, none⟩ (.bool true)).alloc (.cells #[.int .i64 (qn : Int)] 3)) 3 1 (.slice (some ⟨bl2, 0, none⟩) fl2.length c2') fl2.length (ivals fl2)) := HST.out.lr.alloc _
              have HSrc : Hid (Src ((Z.setCell ⟨g, qn, none⟩ (.bool true)).alloc (.cells #[.int .i64 (qn : Int)] 3)) (some ⟨Z.heap.size, 0, none⟩) 1 1 [.int .i64 (qn : Int)]) :=
                Src.block (cs := #[.int .i64 (qn : Int)]) (t := 3) (fr := (0, 0)) (by have := heap_alloc_new (Z.setCell ⟨g, qn, none⟩ (.bool true)) (.cells #[.int .i64 (qn : Int)] 3); simpa using this) rfl (by simp [Value.oneCell'])
              have HB63 : fl2.length + 1 ≤ maxLen := by simp only [maxLen]; omega
              have HB47 : (fl2.length + 1) * 8 ≤ 140737488355328 := by omega
              clear hm hadd
              go_wp2_with (at_builtin; go_loud (refine inPlain rfl (wpo_row_append _ _ _ rfl i0 _ 8 Tryz.underlying23 hi0 hi1 hi2 hi3 rfl rfl HRow.out _ 1 1 rfl [.int .i64 (qn : Int)] HSrc.out HB63 HB47 ?_)); intro sv5 w5 r5 k5 o5)
              go_roundw
              case rel => exact ⟨sx + 1, by go_num, by omega, Lib.hid ⟨fl2 ++ [(qn : Int)], HST.out.app k5 o5 r5, HV2.out.2, HV2.out.1.symm⟩⟩
              case measure => simp [intOf]; omega
        · have hPe : sx = PN := by omega
          have hge : ((F0 + PN : Nat) : Int) ≤ ((F0 + sx : Nat) : Int) := by omega
          have HPe := Lib.hid hPe
          clear hPe
          go_wp2_with fail
          go_quiet (fail)
          go_wp2_with fail
          refine ⟨?rel, ?measure⟩
          case rel =>
            refine ⟨k + 1, fl2, by go_num, by omega, Lib.hid ⟨HJ.out.1.grow (below_drewN (Below.refl _ _) _), HJ.out.2.1, ?_⟩⟩
            have h1 := HR.out.2.2
            have h2 : n + 1 - k = (n + 1 - (k + 1)) + 1 := by omega
            rw [h2, walkF_step HKL.out, HC.out.1] at h1
            rw [← h1]
            congr 1
            rw [HJ.out.2.2, HPe.out]
            unfold visit
            rw [rowP_len, Int.toNat_natCast, HC.out.2.1]
          case measure => simp [intOf]; omega
    · obtain rfl : k = fl.length := by omega
      have hW : fl = wl := by
        have := HR.out.2.2
        rw [walkF_done (Nat.le_refl _)] at this
        exact this
      subst hW
      repeat (first
        | exact hret.out _ _ _ ⟨rfl, rfl, rfl, trivial⟩ HR.out.1.bel HR.out.1.lr HR.out.1.lg
        | go_values | go_skip | go_guarded | go_step | go_upon | go_back)
end
end Go.Proofs.YtkonfogebepccaaGreatDoor
namespace Go.Proofs.YtkonfogebepccaaGreatDoor
open Go.RowKit
attribute [local go_sem] cell_set
set_option maxRecDepth 100000
set_option linter.unusedVariables false

section
variable (Q : Exit → Act → World → Prop) (w : World) (pn : Int → Nat) (cs : List Int) (f : Nat) (W : List (Pt × Pt)) (b1 o1 b2 o2 b3 o3 : Nat) (c1 c2 c3 M B g n : Nat)
set_option maxHeartbeats 4000000 in
theorem rw_6 (a : Act) (X : World) (bx : Nat) (s0 : Pt) (hn : n = cs.length) (hn2 : n ≤ 10000) (hM : firstN pn cs f cs.length = M) (hM2 : M ≤ 100000) (hok : Hid (NetOk pn cs f W))
    (HR1 : Hid (PtsRd w (some ⟨b1, o1, none⟩) (allPs pn cs f))) (HR2 : Hid (IntsRd w (some ⟨b2, o2, none⟩) (lkK pn cs f W W.length))) (HR3 : Hid (IntsRd w (some ⟨b3, o3, none⟩) (firstL pn cs f cs.length ++ [(firstN pn cs f cs.length : Int)])))
    (hs0 : s0.1 < n)
    (hret : Hid (∀ a' X' v', FrN 97 [] [(4, v')] a' → Below w.heap.size w X' → Row X' 3 1 v' (walkL n (rowP pn cs (lkM W)) s0.1).length (ivals (walkL n (rowP pn cs (lkM W)) s0.1)) → (∀ b ∈ ownB v', w.heap.size ≤ b) → Q .ret a' X'))
    (hs : Hid (RwS w X B g n M (some ⟨b1, o1, none⟩) (some ⟨b2, o2, none⟩) (some ⟨b3, o3, none⟩) c1 c2 c3 (.slice none 0 0) [] [] ∧ X.heap[bx]? = some (.cells #[.int .i64 s0.1, .int .i64 s0.2] 28 (0, 0))))
    (ha : FrN 97 [] [(2, .pointer (some ⟨B, 0, none⟩)), (5, .slice (some ⟨g, 0, none⟩) n n), (6, .slice none 0 0), (7, .pointer (some ⟨bx, 0, none⟩))] a) : (rwT 6).wp Tryz.prog Q a X := by
  obtain ⟨U, rfl, e2, e5, e6, e7, -⟩ := ha.openRW
  unfold FrRW
  simp only [e2, e5, e6, e7]
  clear e2 e5 e6 e7 ha
  show (Code.seq _ _).wp _ _ _ _
  obtain ⟨s1, s2⟩ := s0
  have hbx := hs.out.2
  have x0 : X.cell? ⟨bx, 0, none⟩ = some (.int .i64 s1) := by simp [World.cell?, hbx]
  have hbl := heap_lt hbx
  obtain ⟨i0, hi0, hi1, hi2, hi3⟩ := info_parts int_info
  dsimp only at hs0 hret
  have HNM := Lib.hid (And.intro hn hM)
  clear hbx hn hM
  by_cases hq : s1 < 0
  · have hadd : addC [] s1 = [] := addC_neg hq
    have HA := Lib.hid hadd
    clear hadd
    iterate 80 (first | (with_reducible refine at_seq3 9 ?_) | (with_reducible refine at_seq2 9 ?_) | (with_reducible refine at_seq 9 ?_) | go_values | go_skip | go_guarded | go_step | go_upon | go_back | go_simp)
    refine rw_9 _ w pn cs f W b1 o1 b2 o2 b3 o3 c1 c2 c3 M B g n _ X (.slice none 0 0) [] _ HNM.out.1 hn2 HNM.out.2 hM2 hok HR1 HR2 HR3 (Fnd.nil _) rfl (Lib.hid fun a' X' v' hf hb hr ho => ?_) (Lib.hid hs.out.1) ⟨rfl, rfl, rfl, rfl, rfl, trivial⟩
    have e : walkF (rowP pn cs (lkM W)) (n + 1) 0 [] = walkL n (rowP pn cs (lkM W)) s1 := by unfold walkL; rw [HA.out]
    rw [e] at hr
    exact hret.out a' X' v' hf hb hr ho
  · obtain ⟨c, rfl⟩ := Int.eq_ofNat_of_zero_le (show 0 ≤ s1 by omega)
    have hc : c < n := by omega
    have hc2 : (c : Int) < (n : Int) := by omega
    have hadd : addC [] (c : Int) = [(c : Int)] := if_pos ⟨by omega, by simp⟩
    have HA := Lib.hid (And.intro hadd (by have := (Fnd.nil n).add (c := (c : Int)) hc2; rw [hadd] at this; exact this))
    have HRow : Hid (Row (X.alloc (.cells #[.int .i64 (c : Int)] 3)) 3 1 (.slice none 0 0) 0 []) := Row.nil _ _ _
    have HSrc : Hid (Src (X.alloc (.cells #[.int .i64 (c : Int)] 3)) (some ⟨X.heap.size, 0, none⟩) 1 1 [.int .i64 (c : Int)]) :=
      Src.block (cs := #[.int .i64 (c : Int)]) (t := 3) (fr := (0, 0)) (heap_alloc_new X _) rfl (by simp [Value.oneCell'])
    have HB63 : 0 + 1 ≤ maxLen := by simp only [maxLen]; omega
    have HB47 : (0 + 1) * 8 ≤ 140737488355328 := by omega
    clear hadd
    go_upto_region 8 with (at_builtin; go_loud (refine inPlain rfl (wpo_row_append _ _ _ rfl i0 _ 8 Tryz.underlying23 hi0 hi1 hi2 hi3 rfl rfl HRow.out _ 1 1 rfl [.int .i64 (c : Int)] HSrc.out HB63 HB47 ?_)); intro sv5 w5 r5 k5 o5
                           have HAp := Lib.hid (hs.out.1.app (c := (c : Int)) k5 o5 r5)
                           have hbx5 := (k5.block bx (by simp; omega) (by show bx ∉ ([] : List Nat); simp)).trans ((Below.heap_alloc _ _ _ hbl).trans hs.out.2)
                           clear k5 o5 r5)
    have y0 : w5.cell? ⟨bx, 0, none⟩ = some (.int .i64 (c : Int)) := by simp [World.cell?, hbx5]
    have hbl5 := heap_lt hbx5
    obtain ⟨zg, qs, fz⟩ := HAp.out.seen hc
    clear hbx5 x0
    iterate 80 (first | (with_reducible refine at_seq3 9 ?_) | (with_reducible refine at_seq2 9 ?_) | (with_reducible refine at_seq 9 ?_) | go_values | go_skip | go_guarded | go_step | go_upon | go_back | go_simp)
    refine rw_9 _ w pn cs f W b1 o1 b2 o2 b3 o3 c1 c2 c3 M B g n _ _ sv5 [(c : Int)] _ HNM.out.1 hn2 HNM.out.2 hM2 hok HR1 HR2 HR3 HA.out.2 rfl (Lib.hid fun a' X' v' hf hb hr ho => ?_) (Lib.hid (HAp.out.store c)) ⟨rfl, rfl, rfl, rfl, rfl, trivial⟩
    have e : walkF (rowP pn cs (lkM W)) (n + 1) 0 [(c : Int)] = walkL n (rowP pn cs (lkM W)) (c : Int) := by unfold walkL; rw [HA.out.1]
    rw [e] at hr
    exact hret.out a' X' v' hf hb hr ho
end
set_option maxHeartbeats 4000000 in
/-- The walk from a port of a net that may be. -/
theorem rwalk (pn : Int → Nat) (cs : List Int) (f : Nat) (W : List (Pt × Pt)) (V1 V2 V3 : Option Addr) (c1 c2 c3 M n : Nat) (p : Pt) (at' : Int) (w : World) (hn : n = cs.length) (hn2 : n ≤ 10000) (hM : firstN pn cs f cs.length = M) (hM2 : M ≤ 100000) (hok : Hid (NetOk pn cs f W)) (hp : isPt pn cs f p = true) (hat : at' = (plc pn cs f p : Int))
    (HR1 : Hid (PtsRd w V1 (allPs pn cs f))) (HR2 : Hid (IntsRd w V2 (lkK pn cs f W W.length))) (HR3 : Hid (IntsRd w V3 (firstL pn cs f cs.length ++ [(firstN pn cs f cs.length : Int)]))) :
    Calls Tryz.prog 33 #[.agg #[.slice V1 M c1, .slice V2 M c2, .slice V3 (n + 1) c3, .int .i64 (n : Int)], .int .i64 at'] w fun e w' => ∃ V c, e = .returned (.slice V (wlk pn cs (lkM W) p).length c) ∧ Fresh w w' 3 1 (wlk pn cs (lkM W) p).length (.slice V (wlk pn cs (lkM W) p).length c) (ivals (wlk pn cs (lkM W) p)) := by
  subst hat
  have hl := plc_lt pn hp
  rw [hM] at hl
  have ha0 := allPs_plc pn hp
  obtain ⟨b1, o1, rfl, hb1, f0, f1⟩ := HR1.out (plc pn cs f p) (by rw [allPs_len, hM]; exact hl)
  rw [List.getD_eq_getElem?_getD, ha0] at f0 f1
  simp only [Option.getD_some] at f0 f1
  obtain ⟨q, hq, hqi⟩ := hok.out.lnk hp
  have hk := lkK_at hok.out (Nat.le_refl W.length) hp (by rw [List.take_length]; exact hq)
  obtain ⟨b2, o2, rfl, hb2, g0⟩ := HR2.out (plc pn cs f p) (by rw [lkK_len, hM]; exact hl)
  rw [List.getD_eq_getElem?_getD, hk] at g0
  simp only [Option.getD_some] at g0
  have hlq := plc_lt pn hqi
  rw [hM] at hlq
  have haq := allPs_plc pn hqi
  obtain ⟨d0, d1⟩ : w.cell? ⟨b1, o1 + plc pn cs f q * 2, none⟩ = some (.int .i64 q.1) ∧ w.cell? ⟨b1, o1 + plc pn cs f q * 2 + 1, none⟩ = some (.int .i64 q.2) := by
    obtain ⟨b1', o1', e, _, h0, h1⟩ := HR1.out (plc pn cs f q) (by rw [allPs_len, hM]; exact hlq)
    simp only [Option.some.injEq, Addr.mk.injEq, and_true] at e
    obtain ⟨rfl, rfl⟩ := e
    rw [List.getD_eq_getElem?_getD, haq] at h0 h1
    exact ⟨h0, h1⟩
  obtain ⟨b3, o3, rfl, hb3, _⟩ := HR3.out 0 (by simp)
  have hlm : lkM W p = q := by simp [lkM, hq]
  have hsp : (startP (lkM W) p).1 < n := by rw [hn]; exact isPt_lt (startP_is hok.out hp)
  have HX0 : Hid (startP (lkM W) p = if p.1 < 0 then q else p) := by show _ = _; unfold startP; rw [hlm]
  generalize hpl : plc pn cs f p = kp at *
  generalize hql : plc pn cs f q = kq at *
  have HNM := Lib.hid (And.intro hn hM)
  clear ha0 hq hk haq hlm hpl hql hn hM hp hqi
  obtain ⟨i0, hi0, hi1, hi2, hi3⟩ := info_parts bool_info
  obtain ⟨p1, p2⟩ := p
  obtain ⟨q1, q2⟩ := q
  dsimp only at f0 f1 d0 d1
  have hk1 : (kp : Int) < (M : Int) := by omega
  have hk2 : (kq : Int) < (M : Int) := by omega
  go_enter Tryz.func33, Tryz.ntmps33
  go_upto_region 4 with (at_make; refine wpList_make_row _ rfl _ _ _ rfl _ i0 _ (by rfl) hi0 hi1 hi2 (by rfl) .i64 .i64 n (by rfl) (by rfl) (by rw [hi3]; omega) (by omega) ?_)
  have hY : ∀ (Y : World) (x1 x2 : Int), Below w.heap.size w Y → Y.heap[w.heap.size]? = some (.cells #[.slice (some ⟨b1, o1, none⟩) M c1, .slice (some ⟨b2, o2, none⟩) M c2, .slice (some ⟨b3, o3, none⟩) (n + 1) c3, .int .i64 (n : Int)] 92 (0, 0)) → Y.heap[w.heap.size + 1]? = some (.cells (madeCells #[.bool false] n) 4 (0, 0)) →
      RwS w Y w.heap.size (w.heap.size + 1) n M (some ⟨b1, o1, none⟩) (some ⟨b2, o2, none⟩) (some ⟨b3, o3, none⟩) c1 c2 c3 (.slice none 0 0) [] [] := fun Y x1 x2 h1 h2 h3 =>
    ⟨h1, h2, ⟨by simp [seenB], .inr ⟨w.heap.size + 1, n, _, rfl, h3, Nat.le_refl _, by unfold maxLen; omega, by simp [size_madeCells], by rw [toList_madeCells_one, seenB_nil]; simp⟩⟩, by omega, Row.nil _ _ _, by simp [ownB]⟩
  refine absW (fun Y => Below w.heap.size w Y ∧ Y.heap[w.heap.size]? = some (.cells #[.slice (some ⟨b1, o1, none⟩) M c1, .slice (some ⟨b2, o2, none⟩) M c2, .slice (some ⟨b3, o3, none⟩) (n + 1) c3, .int .i64 (n : Int)] 92 (0, 0)) ∧ Y.heap[w.heap.size + 1]? = some (.cells (madeCells #[.bool false] n) 4 (0, 0)) ∧ Y.heap[w.heap.size + 1 + 1]? = some (.cells #[.int .i64 p1, .int .i64 p2] 28 (0, 0))) ?_ ?_
  · refine ⟨by (repeat (first | exact Below.refl _ _ | (with_reducible refine Below.drew ?_) | (with_reducible refine Below.alloc ?_ (by (try simp); (try omega)) _) | (with_reducible refine Below.setCell ?_ (by (try simp); (try omega)) _) | (with_reducible refine Below.trans ?_ (Below.mono (by assumption) (by (try simp); (try omega)))))), ?_, ?_, ?_⟩
    · exact (Below.heap_alloc _ _ _ (by simp; omega)).trans ((Below.heap_alloc _ _ _ (by simp)).trans (heap_alloc_new w _))
    · have := heap_alloc_new (w.alloc (.cells #[.slice (some ⟨b1, o1, none⟩) M c1, .slice (some ⟨b2, o2, none⟩) M c2, .slice (some ⟨b3, o3, none⟩) (n + 1) c3, .int .i64 (n : Int)] 92)) (.cells (madeCells #[.bool false] n) 4)
      rw [World.size_alloc] at this
      exact (Below.heap_alloc _ _ _ (by simp)).trans this
    · have := heap_alloc_new ((w.alloc (.cells #[.slice (some ⟨b1, o1, none⟩) M c1, .slice (some ⟨b2, o2, none⟩) M c2, .slice (some ⟨b3, o3, none⟩) (n + 1) c3, .int .i64 (n : Int)] 92)).alloc (.cells (madeCells #[.bool false] n) 4)) (.cells #[.int .i64 p1, .int .i64 p2] 28)
      rw [World.size_alloc, World.size_alloc] at this
      exact this
  rintro Y ⟨hbY, y0, y1, y2⟩
  have hHY := Lib.hid hY
  have HYb := Lib.hid (And.intro hbY (And.intro y0 (And.intro y1 y2)))
  obtain ⟨hcY, hfY⟩ := bcell hbY
  have x0 : Y.cell? ⟨w.heap.size + 1 + 1, 0, none⟩ = some (.int .i64 p1) := by simp [World.cell?, y2]
  have x1 : Y.cell? ⟨w.heap.size + 1 + 1, 1, none⟩ = some (.int .i64 p2) := by simp [World.cell?, y2]
  have z0 : Y.frozen? ⟨w.heap.size + 1 + 1, 0, none⟩ = false := by simp [World.frozen?, y2]
  have z1 : Y.frozen? ⟨w.heap.size + 1 + 1, 1, none⟩ = false := by simp [World.frozen?, y2]
  have n0 : Y.cell? ⟨w.heap.size, 0, none⟩ = some (.slice (some ⟨b1, o1, none⟩) M c1) := by simp [World.cell?, y0]
  have n1 : Y.cell? ⟨w.heap.size, 1, none⟩ = some (.slice (some ⟨b2, o2, none⟩) M c2) := by simp [World.cell?, y0]
  have hyl := heap_lt y2
  have f0 := (hcY b1 (o1 + kp * 2) hb1).trans f0
  have g0 := (hcY b2 (o2 + kp) hb2).trans g0
  have d0 := (hcY b1 (o1 + kq * 2) hb1).trans d0
  have d1 := (hcY b1 (o1 + kq * 2 + 1) hb1).trans d1
  clear hY hbY y0 y1 y2 hcY hfY
  have hfin : Hid (∀ (a' : Act) (X' : World) (v' : Value), FrN 97 [] [(4, v')] a' → Below w.heap.size w X' → Row X' 3 1 v' (wlk pn cs (lkM W) (p1, p2)).length (ivals (wlk pn cs (lkM W) (p1, p2))) → (∀ b ∈ ownB v', w.heap.size ≤ b) → bodyPost Tryz.prog Tryz.f33 (fun e w' => ∃ V c, e = .returned (.slice V (wlk pn cs (lkM W) (p1, p2)).length c) ∧ Fresh w w' 3 1 (wlk pn cs (lkM W) (p1, p2)).length (.slice V (wlk pn cs (lkM W) (p1, p2)).length c) (ivals (wlk pn cs (lkM W) (p1, p2)))) .ret a' X') := by
    rintro a' X' v' ⟨hsz, hdf, h4, _⟩ hb hr ho
    obtain ⟨V, c, rfl, _⟩ := hr.len
    have g4 : a'.tmps[4]'(by rw [hsz]; omega) = .slice V (wlk pn cs (lkM W) (p1, p2)).length c := (Array.getElem?_eq_some_iff.1 h4).2
    exact bodyPost_ret (v := .slice V (wlk pn cs (lkM W) (p1, p2)).length c) (by simp only [results, Tryz.results33]; go_simp) hdf ⟨V, c, rfl, hr, ho, hb⟩
  have HW1 : Hid (∀ s : Pt, startP (lkM W) (p1, p2) = s → walkL n (rowP pn cs (lkM W)) s.1 = wlk pn cs (lkM W) (p1, p2)) := fun s hs => by unfold wlk; rw [hs, HNM.out.1]
  have HSP := Lib.hid hsp
  clear hsp
  by_cases hp0 : p1 < 0
  · have HS0 : Hid (startP (lkM W) (p1, p2) = (q1, q2)) := by show _ = _; rw [HX0.out, if_pos hp0]
    go_upto_region 5 with fail
    (refine region_tail 9 (by kernel_rfl) (by kernel_rfl) ?_; simp only [List.take_succ_cons, List.take_zero, List.drop_succ_cons, List.drop_zero]; repeat still_step; try refine wpStill_nil ?_)
    iterate 80 (first | (with_reducible refine at_seq3 6 ?_) | (with_reducible refine at_seq2 6 ?_) | (with_reducible refine at_seq 6 ?_) | go_values | go_skip | go_guarded | go_step | go_upon | go_back | go_simp)
    refine rw_6 _ w pn cs f W b1 o1 b2 o2 b3 o3 c1 c2 c3 M w.heap.size (w.heap.size + 1) n _ _ (w.heap.size + 1 + 1) (q1, q2) HNM.out.1 hn2 HNM.out.2 hM2 hok HR1 HR2 HR3 (by have := HSP.out; rw [HS0.out] at this; exact this) (Lib.hid fun a' X' v' hf hb hr ho => ?_) (Lib.hid ⟨?_, ?_⟩) ⟨rfl, rfl, rfl, rfl, rfl, rfl, trivial⟩
    · rw [HW1.out _ HS0.out] at hr
      exact hfin.out a' X' v' hf hb hr ho
    · obtain ⟨r1, r2, r3, r4⟩ := HYb.out
      refine hHY.out _ 0 0 ?_ ?_ ?_
      · exact (r1.drew.setCell (p := ⟨w.heap.size + 1 + 1, _, none⟩) (by show w.heap.size ≤ w.heap.size + 1 + 1; omega) _).setCell (p := ⟨w.heap.size + 1 + 1, _, none⟩) (by show w.heap.size ≤ w.heap.size + 1 + 1; omega) _
      · exact (Below.heap_setCell _ _ _ _ (by show w.heap.size ≠ w.heap.size + 1 + 1; omega)).trans ((Below.heap_setCell _ _ _ _ (by show w.heap.size ≠ w.heap.size + 1 + 1; omega)).trans r2)
      · exact (Below.heap_setCell _ _ _ _ (by show w.heap.size + 1 ≠ w.heap.size + 1 + 1; omega)).trans ((Below.heap_setCell _ _ _ _ (by show w.heap.size + 1 ≠ w.heap.size + 1 + 1; omega)).trans r3)
    · have r4 := HYb.out.2.2.2
      simp [World.setCell, Array.getElem?_modify, World.drew, r4]
  · have HS0 : Hid (startP (lkM W) (p1, p2) = (p1, p2)) := by show _ = _; rw [HX0.out, if_neg hp0]
    iterate 80 (first | (with_reducible refine at_seq3 6 ?_) | (with_reducible refine at_seq2 6 ?_) | (with_reducible refine at_seq 6 ?_) | go_values | go_skip | go_guarded | go_step | go_upon | go_back | go_simp)
    refine rw_6 _ w pn cs f W b1 o1 b2 o2 b3 o3 c1 c2 c3 M w.heap.size (w.heap.size + 1) n _ _ (w.heap.size + 1 + 1) (p1, p2) HNM.out.1 hn2 HNM.out.2 hM2 hok HR1 HR2 HR3 (by have := HSP.out; rw [HS0.out] at this; exact this) (Lib.hid fun a' X' v' hf hb hr ho => ?_) (Lib.hid ⟨?_, HYb.out.2.2.2⟩) ⟨rfl, rfl, rfl, rfl, rfl, rfl, trivial⟩
    · rw [HW1.out _ HS0.out] at hr
      exact hfin.out a' X' v' hf hb hr ho
    · exact hHY.out _ 0 0 HYb.out.1 HYb.out.2.1 HYb.out.2.2.1
end Go.Proofs.YtkonfogebepccaaGreatDoor
