/-
  Contracts of rule.Flip, skeinref15.Flipped.
-/
import Derived.Test.YtcebejcdfdahjaaRuleOps
namespace Go.Proofs.Ytcebejcdfdahjaa
open Go.RowKit
attribute [local go_sem] cell_set
set_option maxRecDepth 100000
set_option linter.unusedVariables false

theorem when_int (c : Bool) (x y z : Int) (w : World) (h : (if c then x else y) = z) : Calls Try.prog 93 #[.bool c, .int .i64 x, .int .i64 y] w fun e w' => e = .returned (.int .i64 z) ∧ w = w' := by
  cases c
  · simp at h
    subst h
    go_enter Try.func93, Try.ntmps93
    go_wp2
    go_ret
    exact ⟨rfl, rfl⟩
  · simp at h
    subst h
    go_enter Try.func93, Try.ntmps93
    go_wp2
    go_ret
    exact ⟨rfl, rfl⟩
section
variable (A : Option Addr) (n cap : Nat) (L : List (ByteArray × Int)) (a b : Int) (VA VB : Option Addr) (ca cb : Nat) (cells : List Int) (free : Int) (W : List (Pt × Pt)) (w : World)
set_option maxHeartbeats 1000000 in
theorem rule_flip_bad (hn : n = L.length) (hcap : L.length ≤ cap) (HL : Hid (AgRd w A L)) (hl : L.length ≤ maxLen) (HC : Hid (IntsRd w VA cells)) (HW : Hid (WrRd w VB W)) (hc : cells.length ≤ 10000) (hw : W.length ≤ 40000)
    (hk : (ruleChk L a b cells free W).1 ≠ 0) :
    Calls Try.prog 52 #[.slice A n cap, ruleV a b VA ca cells free VB cb W] w fun e w' => e = .returned (.tuple #[ruleV 0 0 none 0 [] 0 none 0 [], .int .i64 (ruleChk L a b cells free W).1]) ∧ Below w.heap.size w w' := by
  subst hn
  have hbA : Below w.heap.size w ((w.alloc (.cells #[.int .i64 a, .int .i64 b, .slice VA cells.length ca, .int .i64 free, .slice VB W.length cb] 44)).alloc (.cells #[.int .i64 0, .int .i64 0, .slice none 0 0, .int .i64 0, .slice none 0 0] 44)) := by (repeat (first | exact Below.refl _ _ | (with_reducible refine Below.drew ?_) | (with_reducible refine Below.alloc ?_ (by (try simp); (try omega)) _) | (with_reducible refine Below.setCell ?_ (by (try simp); (try omega)) _) | (with_reducible refine Below.trans ?_ (Below.mono (by assumption) (by (try simp); (try omega))))))
  have hz0 := RZ.new (w.alloc (.cells #[.int .i64 a, .int .i64 b, .slice VA cells.length ca, .int .i64 free, .slice VB W.length cb] 44))
  rw [World.size_alloc] at hz0
  generalize hK : ruleChk L a b cells free W = K at hk
  have hkb : (K.1 != 0) = true := by simpa using hk
  have HK := Lib.hid hK
  have HZ0 := Lib.hid hz0
  clear hK hk hz0
  go_enter Try.func52, Try.ntmps52
  go_wp2_with (go_at_call 50; refine (rule_check A _ cap L a b VA VB ca cb cells free W _ rfl hcap (Lib.hid (HL.out.below hbA)) hl (Lib.hid (HC.out.below hbA)) (Lib.hid (HW.out.below hbA)) hc hw).mono ?_; rintro e w1 ⟨rfl, hb1⟩; rw [HK.out]
               obtain ⟨r0, r1, r2, r3, r4, g0, g1, g2, g3, g4⟩ := (HZ0.out.below hb1).all
               have HB1 : Hid (Below w.heap.size w w1) := hbA.trans (hb1.mono (by simp <;> omega))
               clear hb1)
  exact bodyPost_ret (v := .tuple #[ruleV 0 0 none 0 [] 0 none 0 [], .int .i64 K.1]) (by simp only [results, Try.results52]; go_simp) rfl ⟨rfl, by have := HB1.out; (repeat (first | exact Below.refl _ _ | (with_reducible refine Below.drew ?_) | (with_reducible refine Below.alloc ?_ (by (try simp); (try omega)) _) | (with_reducible refine Below.setCell ?_ (by (try simp); (try omega)) _) | (with_reducible refine Below.trans ?_ (Below.mono (by assumption) (by (try simp); (try omega))))))⟩
end
section
variable (A : Option Addr) (n cap : Nat) (L : List (ByteArray × Int)) (ka kb na nb : Nat) (VA VB : Option Addr) (ca cb : Nat) (cells : List Int) (W : List (Pt × Pt)) (w : World)
set_option maxHeartbeats 4000000 in
theorem rule_flip_ok (M : Nat) (hM : M = na + nb) (hn : n = L.length) (hcap : L.length ≤ cap) (HL : Hid (AgRd w A L)) (hl : L.length ≤ maxLen) (HC : Hid (IntsRd w VA cells)) (HW : Hid (WrRd w VB W)) (hc : cells.length ≤ 10000) (hw : W.length ≤ 40000)
    (hna : agA L ka = na) (hnb : agA L kb = nb) (hk : (ruleChk L ka kb cells (M : Int) W).1 = 0) :
    Calls Try.prog 52 #[.slice A n cap, ruleV ka kb VA ca cells (M : Int) VB cb W] w fun e w' => ∃ V1 c1 V2 c2, e = .returned (.tuple #[ruleV kb ka V1 c1 cells (M : Int) V2 c2 (tidyW (allPs (pnL L) cells M) (moveW (idsN cells.length) (flipN na nb M) W)), .int .i64 0]) ∧
      NetFresh w w' V1 c1 cells V2 c2 (tidyW (allPs (pnL L) cells M) (moveW (idsN cells.length) (flipN na nb M) W)) := by
  subst hn
  obtain ⟨h1, h2, h3, h4, h5, h6⟩ := rc_of hk
  have hs := chk_sig h1
  have hra := hs.ar ka (by omega)
  have hrb := hs.ar kb (by omega)
  rw [hna] at hra
  rw [hnb] at hrb
  obtain ⟨i0, hi0, hi1, hi2, hi3⟩ := info_parts int_info
  have hbA : Below w.heap.size w ((w.alloc (.cells #[.int .i64 ka, .int .i64 kb, .slice VA cells.length ca, .int .i64 (M : Int), .slice VB W.length cb] 44)).alloc (.cells #[.int .i64 0, .int .i64 0, .slice none 0 0, .int .i64 0, .slice none 0 0] 44)) := by (repeat (first | exact Below.refl _ _ | (with_reducible refine Below.drew ?_) | (with_reducible refine Below.alloc ?_ (by (try simp); (try omega)) _) | (with_reducible refine Below.setCell ?_ (by (try simp); (try omega)) _) | (with_reducible refine Below.trans ?_ (Below.mono (by assumption) (by (try simp); (try omega))))))
  have hz0 := RZ.new (w.alloc (.cells #[.int .i64 ka, .int .i64 kb, .slice VA cells.length ca, .int .i64 (M : Int), .slice VB W.length cb] 44))
  rw [World.size_alloc] at hz0
  have hR0 : RBx ((w.alloc (.cells #[.int .i64 ka, .int .i64 kb, .slice VA cells.length ca, .int .i64 (M : Int), .slice VB W.length cb] 44)).alloc (.cells #[.int .i64 0, .int .i64 0, .slice none 0 0, .int .i64 0, .slice none 0 0] 44)) w.heap.size ka kb VA cells.length ca (M : Int) VB W.length cb := ⟨by simp <;> omega, by go_simp, by go_simp, by go_simp, by go_simp, by go_simp⟩
  have hfe : eachN (flipN na nb M) M := by rw [hM]; exact flipN_each _ _
  have HMv : Hid (∀ Z VC cc VF cf, Below w.heap.size w Z → IntsRd Z VC (idsN cells.length) → IntsRd Z VF (flipN na nb M) → Calls Try.prog 13 #[.slice A L.length cap, netV VA ca cells (M : Int) VB cb W, .slice VC cells.length cc, .slice VF M cf] Z fun e w' => ∃ V1 c1 V2 c2, e = .returned (.tuple #[netV V1 c1 cells (M : Int) V2 c2 (tidyW (allPs (pnL L) cells M) (moveW (idsN cells.length) (flipN na nb M) W)), .int .i64 0]) ∧
      NetFresh Z w' V1 c1 cells V2 c2 (tidyW (allPs (pnL L) cells M) (moveW (idsN cells.length) (flipN na nb M) W))) := fun Z VC cc VF cf hz hc1 hf1 => by
    have := net_move_ok A _ cap L VA VB ca cb cells (M : Int) W VC cells.length cc (idsN cells.length) VF M cf (flipN na nb M) Z rfl hcap (Lib.hid (HL.out.below hz)) hl (Lib.hid (HC.out.below hz)) (Lib.hid (HW.out.below hz)) hc hw (idsN_len _).symm (flipN_len _ _ _).symm (Lib.hid hc1) (Lib.hid hf1) (by rw [idsN_len]; omega) (by rw [flipN_len]; omega) h4 (idsN_each _) hfe
    rw [outK_ids] at this
    exact this
  generalize tidyW (allPs (pnL L) cells M) (moveW (idsN cells.length) (flipN na nb M) W) = T at HMv
  obtain ⟨k1, b1, off1, hk1, _, hA1, hb1, ea⟩ := ar_rd HL.out h2
  obtain ⟨k2, b2, off2, hk2, _, hA2, hb2, eb⟩ := ar_rd HL.out h3
  obtain rfl : ka = k1 := by omega
  obtain rfl : kb = k2 := by omega
  subst hA1
  simp only [Option.some.injEq, Addr.mk.injEq, and_true] at hA2
  obtain ⟨rfl, rfl⟩ := hA2
  rw [show ((ka : Int)).toNat = ka from rfl, hna] at ea
  rw [show ((kb : Int)).toNat = kb from rfl, hnb] at eb
  have HE := Lib.hid (And.intro ea eb)
  have HK := Lib.hid hk
  have HZ0 := Lib.hid hz0
  have HR0 := Lib.hid hR0
  have hkl1 : ka < L.length := by omega
  have hkl2 : kb < L.length := by omega
  clear hk hz0 hR0 h1 h2 h3 h4 h6 hs ea eb hk1 hk2 hna hnb
  have hM12 : M ≤ 12 := by omega
  have hsum : IntKind.i64.wrap ((na : Int) + (nb : Int)) = (M : Int) := by rw [IntWalk.i64_in _ (by omega)]; omega
  have HM := Lib.hid hM
  clear hM
  go_enter Try.func52, Try.ntmps52
  go_upto_region 4 with (go_at_call 50; refine (rule_check _ _ cap L ka kb VA VB ca cb cells _ W _ rfl hcap (Lib.hid (HL.out.below hbA)) hl (Lib.hid (HC.out.below hbA)) (Lib.hid (HW.out.below hbA)) hc hw).mono ?_; rintro e w1 ⟨rfl, hb1'⟩; rw [HK.out]
                         have HZ1 := Lib.hid (HZ0.out.below hb1')
                         have HR1 := Lib.hid (HR0.out.below hb1')
                         have HB1 : Hid (Below w.heap.size w w1) := hbA.trans (hb1'.mono (by simp <;> omega))
                         clear hb1')
  clear hbA HZ0 HR0
  have x0 := HR1.out.c0
  have x1 := HR1.out.c1
  have da := (HB1.out.cell (p := ⟨b1, off1 + ka * 2 + 1, none⟩) hb1).trans HE.out.1
  have db := (HB1.out.cell (p := ⟨b1, off1 + kb * 2 + 1, none⟩) hb1).trans HE.out.2
  go_quiet (fail)
  go_upto_region 5 with fail
  refine absW (fun X => Below w.heap.size w X ∧ RBx X w.heap.size ka kb VA cells.length ca (M : Int) VB W.length cb ∧ RZ (w.heap.size + 1) X)
    ⟨below_drewN HB1.out _, HR1.out.below (below_drewN (Below.refl _ _) _), HZ1.out.below (below_drewN (Below.refl _ _) _)⟩ ?_
  rintro X ⟨hbX, hrX, hzX⟩
  have HBX := Lib.hid hbX
  have HRX := Lib.hid hrX
  have HZX := Lib.hid hzX
  clear hbX hrX hzX da db x0 x1 HR1 HZ1 HB1
  have x2 := HRX.out.c2
  go_wp2_with fail
  clear x2
  go_loopw [10, 12, 42] (fun l _ i wr => ∃ k : Nat, ∃ V c, l = .slice V k c ∧ i = .int .i64 k ∧ k ≤ cells.length ∧ Hid (Fresh X wr 3 1 k (.slice V k c) (ivals (idsN k)))) (fun _ _ i _ => cells.length - (intOf i).toNat)
  case atStart => exact ⟨0, none, 0, rfl, rfl, by omega, Lib.hid (Fresh.nil _ _ _)⟩
  case round =>
    obtain ⟨k, V, c, rfl, rfl, hk, HF⟩ := hrel
    by_cases hlt : k < cells.length
    · have HRow : Hid (Row (wr.alloc (.cells #[.int .i64 (k : Int)] 3)) 3 1 (.slice V k c) k (ivals (idsN k))) := HF.out.1.alloc _
      have HSrc : Hid (Src (wr.alloc (.cells #[.int .i64 (k : Int)] 3)) (some ⟨wr.heap.size, 0, none⟩) 1 1 [.int .i64 (k : Int)]) :=
        Src.block (cs := #[.int .i64 (k : Int)]) (t := 3) (fr := (0, 0)) (heap_alloc_new wr _) rfl (by simp [Value.oneCell'])
      have HB63 : k + 1 ≤ maxLen := by simp only [maxLen]; omega
      have HB47 : (k + 1) * 8 ≤ 140737488355328 := by omega
      go_wp2_with (at_builtin; go_loud (refine inPlain rfl (wpo_row_append _ _ _ rfl i0 _ 8 Try.underlying23 hi0 hi1 hi2 hi3 rfl rfl HRow.out _ 1 1 rfl [.int .i64 (k : Int)] HSrc.out HB63 HB47 ?_)); intro sv5 w5 r5 k5 o5; obtain ⟨V5, cp5, rfl, hc5⟩ := r5.len
                   have F5 : Hid (Fresh X w5 3 1 (k + 1) (.slice V5 (k + 1) cp5) (ivals (idsN (k + 1)))) := by rw [idsN_succ, ivals_snoc]; exact HF.out.app k5 o5 r5)
      go_roundw
      case rel => exact ⟨k + 1, V5, cp5, rfl, by go_num, by omega, F5⟩
      case measure => simp [intOf]; omega
    · obtain rfl : k = cells.length := by omega
      have hbr := HF.out.2.2
      have HRr := Lib.hid (HRX.out.below hbr)
      have HZr := Lib.hid (HZX.out.below hbr)
      have HBr : Hid (Below w.heap.size w wr) := HBX.out.trans (hbr.mono HBX.out.size)
      have HI1 : Hid (IntsRd wr V (idsN cells.length)) := Row.ints (cap := c) (by rw [idsN_len]; exact HF.out.1)
      clear hbr HRX HZX HF
      obtain ⟨wo, hwo⟩ : ∃ wo, wo = wr := ⟨_, rfl⟩
      subst hwo
      go_wp2_with fail
      go_loopw [11, 13, 53] (fun l _ i wr => ∃ k : Nat, ∃ V c, l = .slice V k c ∧ i = .int .i64 k ∧ k ≤ M ∧ Hid (Fresh wo wr 3 1 k (.slice V k c) (ivals (flipN na nb k)))) (fun _ _ i _ => M - (intOf i).toNat)
      case atStart => exact ⟨0, none, 0, rfl, rfl, by omega, Lib.hid (Fresh.nil _ _ _)⟩
      case round =>
        obtain ⟨k, V2, c2, rfl, rfl, hk2, HF⟩ := hrel
        by_cases hlt2 : k < M
        · obtain ⟨z, hz⟩ : ∃ z : Int, z = if k < na then ((nb + k : Nat) : Int) else ((k - na : Nat) : Int) := ⟨_, rfl⟩
          have HNX : Hid (flipN na nb (k + 1) = flipN na nb k ++ [z]) := by rw [hz]; exact flipN_succ na nb k
          have HZZ := Lib.hid hz
          clear hz
          have HRow : Hid (Row (wr.alloc (.cells #[.int .i64 z] 3)) 3 1 (.slice V2 k c2) k (ivals (flipN na nb k))) := HF.out.1.alloc _
          have HSrc : Hid (Src (wr.alloc (.cells #[.int .i64 z] 3)) (some ⟨wr.heap.size, 0, none⟩) 1 1 [.int .i64 z]) :=
            Src.block (cs := #[.int .i64 z]) (t := 3) (fr := (0, 0)) (heap_alloc_new wr _) rfl (by simp [Value.oneCell'])
          have HB63 : k + 1 ≤ maxLen := by simp only [maxLen]; omega
          have HB47 : (k + 1) * 8 ≤ 140737488355328 := by omega
          go_wp2_with (first
            | (go_at_call 93; refine (when_int _ _ _ z _ ?_).mono ?_
               · rw [HZZ.out]
                 by_cases hka : k < na
                 · rw [if_pos hka, if_pos (by simpa using hka)]; omega
                 · rw [if_neg hka, if_neg (by simpa using hka)]; omega
               rintro e w6 ⟨rfl, rfl⟩)
            | (at_builtin; go_loud (refine inPlain rfl (wpo_row_append _ _ _ rfl i0 _ 8 Try.underlying23 hi0 hi1 hi2 hi3 rfl rfl HRow.out _ 1 1 rfl [.int .i64 z] HSrc.out HB63 HB47 ?_)); intro sv5 w5 r5 k5 o5; obtain ⟨V5, cp5, rfl, hc5⟩ := r5.len
               have F5 : Hid (Fresh wo w5 3 1 (k + 1) (.slice V5 (k + 1) cp5) (ivals (flipN na nb (k + 1)))) := by rw [HNX.out, ivals_snoc]; exact HF.out.app k5 o5 r5))
          go_roundw
          case rel => exact ⟨k + 1, V5, cp5, rfl, by go_num, by omega, F5⟩
          case measure => simp [intOf]; omega
        · obtain rfl : M = k := by omega
          have hbr := HF.out.2.2
          have HRq := Lib.hid (HRr.out.below hbr)
          have HZq := Lib.hid (HZr.out.below hbr)
          have HBq : Hid (Below w.heap.size w wr) := HBr.out.trans (hbr.mono HBr.out.size)
          have HI2 : Hid (IntsRd wr V2 (flipN na nb M)) := Row.ints (cap := c2) (by rw [flipN_len]; exact HF.out.1)
          have HI1q := Lib.hid (HI1.out.below hbr)
          clear hbr HF
          obtain ⟨y0, y1, y2, y3, y4, y5⟩ := HRq.out
          go_wp2_with (go_at_call 13; go_loud (refine (HMv.out _ V c V2 c2 HBq.out HI1q.out HI2.out).mono ?_); rintro e w2 ⟨V3, c3, V4, c4, rfl, hnf⟩
                       have HNF := Lib.hid hnf
                       have hb2 := hnf.1.2.2
                       clear y0 y1 y2 y3 y4 y5 hnf
                       obtain ⟨y0, y1, y2, y3, y4, y5⟩ := HRq.out.below hb2
                       have HZ2 := Lib.hid (HZq.out.below hb2)
                       obtain ⟨r0, r1, r2, r3, r4, g0, g1, g2, g3, g4⟩ := HZ2.out.all
                       have hzl := HZ2.out.lt
                       clear hb2)
          exact bodyPost_ret (v := .tuple #[ruleV kb ka V3 c3 cells (M : Int) V4 c4 T, .int .i64 0]) (by simp only [results, Try.results52]; go_simp) rfl ⟨V3, c3, V4, c4, rfl, (HNF.out.set5 HBq.out (by omega) HZq.out.lt _ _ _ _ _).alloc _⟩
end
end Go.Proofs.Ytcebejcdfdahjaa
