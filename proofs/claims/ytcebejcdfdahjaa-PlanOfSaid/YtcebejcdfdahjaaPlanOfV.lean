/-
  The walk of PlanOf: its head.
-/
import Derived.Test.YtcebejcdfdahjaaPlanOfW
namespace Go.Proofs.Ytcebejcdfdahjaa
open Go.RowKit
attribute [local go_sem] cell_set
set_option maxRecDepth 100000
set_option linter.unusedVariables false

/-- The rule that was handed in, in its box. -/
def RB0 (k : Nat) (a b : Int) (VA : Option Addr) (n1 ca : Nat) (free : Int) (VB : Option Addr) (n2 cb : Nat) (X : World) : Prop := X.heap[k]? = some (.cells #[.int .i64 a, .int .i64 b, .slice VA n1 ca, .int .i64 free, .slice VB n2 cb] 44 (0, 0))
section
variable {k : Nat} {a b : Int} {VA : Option Addr} {n1 ca : Nat} {free : Int} {VB : Option Addr} {n2 cb : Nat} {X X' : World}
theorem RB0.below (h : RB0 k a b VA n1 ca free VB n2 cb X) (hb : Below X.heap.size X X') : RB0 k a b VA n1 ca free VB n2 cb X' := (hb.block _ (heap_lt h)).trans h
theorem RB0.c (h : RB0 k a b VA n1 ca free VB n2 cb X) : X.cell? ⟨k, 0, none⟩ = some (.int .i64 a) ∧ X.cell? ⟨k, 1, none⟩ = some (.int .i64 b) ∧ X.cell? ⟨k, 2, none⟩ = some (.slice VA n1 ca) ∧ X.cell? ⟨k, 3, none⟩ = some (.int .i64 free) ∧ X.cell? ⟨k, 4, none⟩ = some (.slice VB n2 cb) := by
  have h' : X.heap[k]? = _ := h
  simp [World.cell?, h']
theorem RB0.lt (h : RB0 k a b VA n1 ca free VB n2 cb X) : k < X.heap.size := heap_lt h
theorem RB0.set5 (h : RB0 k a b VA n1 ca free VB n2 cb X) {b7 : Nat} (hn : k ≠ b7) (u0 u1 u2 u3 u4 : Value) : RB0 k a b VA n1 ca free VB n2 cb (((((X.setCell ⟨b7, 0, none⟩ u0).setCell ⟨b7, 1, none⟩ u1).setCell ⟨b7, 2, none⟩ u2).setCell ⟨b7, 3, none⟩ u3).setCell ⟨b7, 4, none⟩ u4) :=
  (Go.Proofs.Ytcebejcdfdahjaa.set5 X hn u0 u1 u2 u3 u4).trans h
end
/-- A plan in a box. -/
def PB0 (k : Nat) (a b : Int) (V1 : Option Addr) (n1 c1 : Nat) (V2 : Option Addr) (n2 c2 : Nat) (V3 : Option Addr) (n3 c3 : Nat) (X : World) : Prop := X.heap[k]? = some (.cells #[.int .i64 a, .int .i64 b, .slice V1 n1 c1, .slice V2 n2 c2, .slice V3 n3 c3] 49 (0, 0))
section
variable {k : Nat} {a b : Int} {V1 V2 V3 : Option Addr} {n1 c1 n2 c2 n3 c3 : Nat} {X X' : World}
theorem PB0.below (h : PB0 k a b V1 n1 c1 V2 n2 c2 V3 n3 c3 X) (hb : Below X.heap.size X X') : PB0 k a b V1 n1 c1 V2 n2 c2 V3 n3 c3 X' := (hb.block _ (heap_lt h)).trans h
theorem PB0.c (h : PB0 k a b V1 n1 c1 V2 n2 c2 V3 n3 c3 X) : X.cell? ⟨k, 0, none⟩ = some (.int .i64 a) ∧ X.cell? ⟨k, 1, none⟩ = some (.int .i64 b) ∧ X.cell? ⟨k, 2, none⟩ = some (.slice V1 n1 c1) ∧ X.cell? ⟨k, 3, none⟩ = some (.slice V2 n2 c2) ∧ X.cell? ⟨k, 4, none⟩ = some (.slice V3 n3 c3) := by
  have h' : X.heap[k]? = _ := h
  simp [World.cell?, h']
theorem PB0.lt (h : PB0 k a b V1 n1 c1 V2 n2 c2 V3 n3 c3 X) : k < X.heap.size := heap_lt h
end
theorem bz2 {w X : World} (h : Hid (Below w.heap.size w X)) (o : Obj) : Below w.heap.size w (X.alloc o) := h.out.alloc h.out.size _
section
variable (A : Option Addr) (n cap : Nat) (L : List (ByteArray × Int)) (a b : Int) (VA VB : Option Addr) (ca cb : Nat) (cells : List Int) (free : Int) (W : List (Pt × Pt)) (w : World)
set_option maxHeartbeats 4000000 in
/-- The walk as far as plan.Of's answer, and what is left of it. -/
theorem plan_head (a' b' : Int) (cs : List Int) (F : List Pt) (I : List (Pt × Pt)) (E : Int) (hn : n = L.length) (hcap : L.length ≤ cap) (HL : Hid (AgRd w A L)) (hl : L.length ≤ maxLen) (HC : Hid (IntsRd w VA cells)) (HW : Hid (WrRd w VB W)) (hc : cells.length ≤ maxLen) (hw : W.length ≤ maxLen)
    (HOf : Hid (∀ A2 cap2 VA2 ca2 VB2 cb2 Z, cells.length ≤ 8192 → W.length ≤ 32768 → L.length ≤ cap2 → AgRd Z A2 L → IntsRd Z VA2 cells → WrRd Z VB2 W → Calls Try.prog 24 #[.slice A2 L.length cap2, ruleV a b VA2 ca2 cells free VB2 cb2 W] Z fun e w' => ∃ V1 c1 V2 c2 V3 c3, e = .returned (.tuple #[planV a' b' V1 cs.length c1 V2 F.length c2 V3 I.length c3, .int .i64 E]) ∧ PLsF Z V1 V2 V3 cs F I w' ∧ Below Z.heap.size Z w'))
    (HCk : Hid (∀ A cap VA ca VB cb Z, cells.length ≤ 8192 → W.length ≤ 32768 → L.length ≤ cap → AgRd Z A L → IntsRd Z VA cells → WrRd Z VB W → Calls Try.prog 26 #[.slice A L.length cap, ruleV a b VA ca cells free VB cb W] Z fun e w' => ∃ K2, e = .returned (.tuple #[.int .i64 E, .int .i64 K2]) ∧ Below Z.heap.size Z w'))
    (HBad : Hid (E ≠ 0 → a' = 0 ∧ b' = 0 ∧ cs = [] ∧ F = [] ∧ I = [])) (T : List (Pt × Pt)) (HGood : Hid (E = 0 → W.length ≤ 32768 → a' = a ∧ b' = b ∧ cs = cells ∧ GoodC L a b cells free W T F I)) :
    Calls Try.prog 4 #[.slice A n cap, ruleV a b VA ca cells free VB cb W] w fun e w' => e = .returned (.bool true) ∧ Below w.heap.size w w' := by
  subst hn
  have hl0 := hl
  unfold maxLen at hl0 hc hw
  by_cases c1 : 1024 < L.length
  · go_enter Try.func4, Try.ntmps4
    go_wp2_with (go_at_call 23; refine (works18 _).mono ?_; rintro e w9 ⟨rfl, hb9⟩)
    go_ret
    exact ⟨rfl, below_a2 hb9⟩
  have hl1 : L.length ≤ 1024 := by omega
  clear c1 hl0
  have HSz : Hid (∀ Z, Below w.heap.size w Z → Calls Try.prog 22 #[.slice A L.length cap] Z (SomeI Z)) := fun Z hz => size_agents A _ cap L Z rfl hl (Lib.hid (HL.out.below hz))
  go_enter Try.func4, Try.ntmps4
  go_wp2_with fail
  refine (HSz.out _ (alB _ _)).mono ?_
  rintro e w1 ⟨m, rfl, rfl⟩
  go_wp2_with fail
  refine (long_is m _).mono ?_
  rintro e w1 ⟨rfl, rfl⟩
  by_cases c2 : 2147483647 < m
  · have d2 : decide (2147483647 < m) = true := by simpa using c2
    rw [d2]
    go_wp2_with (go_at_call 23; refine (works18 _).mono ?_; rintro e w9 ⟨rfl, hb9⟩)
    go_ret
    exact ⟨rfl, below_a2 hb9⟩
  have d2 : decide (2147483647 < m) = false := by simpa using c2
  rw [d2]
  clear c2 d2
  by_cases c3 : 8192 < cells.length
  · go_wp2_with (go_at_call 23; refine (works18 _).mono ?_; rintro e w9 ⟨rfl, hb9⟩)
    go_ret
    exact ⟨rfl, below_a2 hb9⟩
  by_cases c4 : 32768 < W.length
  · go_wp2_with (go_at_call 23; refine (works18 _).mono ?_; rintro e w9 ⟨rfl, hb9⟩)
    go_ret
    exact ⟨rfl, below_a2 hb9⟩
  have hc1 : cells.length ≤ 8192 := by omega
  have hw1 : W.length ≤ 32768 := by omega
  clear c3 c4
  go_upto_region 3 with fail
  refine absW (fun X => Below w.heap.size w X ∧ RB0 w.heap.size a b VA cells.length ca free VB W.length cb X) ⟨alB _ _, heap_alloc_new _ _⟩ ?_
  rintro W1 ⟨hb1, h01⟩
  have HB1 := Lib.hid hb1
  have H01 := Lib.hid h01
  clear hb1 h01
  go_cut [5, 6] (fun x5 x6 wx => OutP w a' b' cs F I E x5 x6 wx ∧ RB0 w.heap.size a b VA cells.length ca free VB W.length cb wx)
  case first =>
    have HBz : Hid (Below w.heap.size w W1) := HB1
    have H0 := H01
    have H00 := H01
    have SZ := (H0.out.below (Below.refl _ W1).drew).c
    have hzz := H0.out.lt
    go_region_held3 (fun X => X.cell? ⟨w.heap.size, 0, none⟩ = some (.int .i64 a) ∧ X.cell? ⟨w.heap.size, 1, none⟩ = some (.int .i64 b) ∧ X.cell? ⟨w.heap.size, 2, none⟩ = some (.slice VA cells.length ca) ∧ X.cell? ⟨w.heap.size, 3, none⟩ = some (.int .i64 free) ∧ X.cell? ⟨w.heap.size, 4, none⟩ = some (.slice VB W.length cb))
      (first | with_reducible exact SZ | with_reducible exact (H0.out.below (alB _ _)).c | with_reducible exact (H00.out.below (alB _ _).drew).c | with_reducible exact keep5s SZ (by omega))
      (first
        | (go_at_call 14; go_loud (refine (copy_agents A cap L _ (HL.out.below (by first | exact HBz.out.drew | exact (bz2 HBz _).drew)) (by omega)).mono ?_)
           rintro e v2 ⟨A2, cap2, rfl, hf2⟩
           have hst : Below W1.heap.size W1 v2 := (by first | exact hf2.2.2 | exact below_a2 hf2.2.2 | exact below_d2 hf2.2.2 | exact below_da2 hf2.2.2)
           have H0 := Lib.hid (H0.out.below hst)
           have SZ := H0.out.c
           have hzz := H0.out.lt
           have HBz := Lib.hid (HBz.out.trans (hst.mono HBz.out.size))
           first
             | (have HN := Lib.hid (HN.out.below hst))
             | (have HN : Hid (PZ W1.heap.size v2) := (PZ.new W1).below hf2.2.2)
             | (have HN : Hid (PZ W1.heap.size v2) := PZ.below (X := (W1.alloc (.cells #[.int .i64 0, .int .i64 0, .slice none 0 0, .slice none 0 0, .slice none 0 0] 49)).drew) (PZ.new W1) hf2.2.2)
             | skip
           first
             | have hnl := HN.out.lt
             | skip
           have HA2 : Hid (AgRd v2 A2 L ∧ L.length ≤ cap2) := ⟨hf2.1.agents, by obtain ⟨_, _, h, hh⟩ := hf2.1.len; simp only [Value.slice.injEq, true_and] at h; omega⟩
           clear hf2)
        | (go_at_call 25; go_loud (refine (copy_rule a b VA VB ca cb cells free W _ (by omega) (by omega) (Lib.hid (HC.out.below (by first | exact HBz.out | exact bz2 HBz _))) (Lib.hid (HW.out.below (by first | exact HBz.out | exact bz2 HBz _)))).mono ?_)
           rintro e v3 ⟨VA2, ca2, VB2, cb2, rfl, hf3⟩
           have hst : Below v2.heap.size v2 v3 := (by first | exact hf3.1.2.2 | exact below_a2 hf3.1.2.2 | exact below_d2 hf3.1.2.2 | exact below_da2 hf3.1.2.2)
           have H0 := Lib.hid (H0.out.below hst)
           have SZ := H0.out.c
           have hzz := H0.out.lt
           have HBz := Lib.hid (HBz.out.trans (hst.mono HBz.out.size))
           first
             | (have HN := Lib.hid (HN.out.below hst))
             | (have HN : Hid (PZ v2.heap.size v3) := (PZ.new v2).below hf3.1.2.2)
             | (have HN : Hid (PZ v2.heap.size v3) := PZ.below (X := (v2.alloc (.cells #[.int .i64 0, .int .i64 0, .slice none 0 0, .slice none 0 0, .slice none 0 0] 49)).drew) (PZ.new v2) hf3.1.2.2)
             | skip
           first
             | have hnl := HN.out.lt
             | skip
           have HA2 : Hid (AgRd v3 A2 L ∧ L.length ≤ cap2) := ⟨HA2.out.1.below hst, HA2.out.2⟩
           have HI3 : Hid (IntsRd v3 VA2 cells ∧ WrRd v3 VB2 W) := ⟨hf3.1.1.ints, hf3.2.1.wires⟩
           clear hf3 hst)
        | (go_at_call 24
           first
             | refine (HOf.out A2 cap2 VA2 ca2 VB2 cb2 _ hc1 hw1 HA2.out.2 HA2.out.1 HI3.out.1 HI3.out.2).mono ?_
             | refine (HOf.out A2 cap2 VA2 ca2 VB2 cb2 _ hc1 hw1 HA2.out.2 (HA2.out.1.below (alB _ _)) (HI3.out.1.below (alB _ _)) (HI3.out.2.below (alB _ _))).mono ?_
           rintro e v4 ⟨V1, c1, V2, c2, V3, c3, rfl, hp, hb4⟩
           have hst : Below v3.heap.size v3 v4 := (by first | exact hb4 | exact below_a2 hb4 | exact below_d2 hb4 | exact below_da2 hb4)
           have H0 := Lib.hid (H0.out.below hst)
           have SZ := H0.out.c
           have hzz := H0.out.lt
           have HBz := Lib.hid (HBz.out.trans (hst.mono HBz.out.size))
           first
             | (have HN := Lib.hid (HN.out.below hst))
             | (have HN : Hid (PZ v3.heap.size v4) := (PZ.new v3).below hb4)
             | (have HN : Hid (PZ v3.heap.size v4) := PZ.below (X := (v3.alloc (.cells #[.int .i64 0, .int .i64 0, .slice none 0 0, .slice none 0 0, .slice none 0 0] 49)).drew) (PZ.new v3) hb4)
             | skip
           first
             | have hnl := HN.out.lt
             | skip
           have HP4 := Lib.hid hp
           first
             | (obtain ⟨q0, q1, q2, q3, q4, q5, q6, q7, q8, q9⟩ := HN.out.all)
             | skip
           clear hp hb4 hst))
    all_goals
      go_wp2_with fail
      go_meet
      case rel => first
        | (have _t := HN
           refine ⟨OutP.of_set HN.out HP4.out ?_ HBz.out ?_, H0.out.set5 ?_ _ _ _ _ _⟩
           · first | omega | (simp <;> omega)
           · omega
           · omega)
        | exact ⟨OutP.of_new HP4.out HBz.out (by omega), H0.out.below (alB _ _)⟩
  case rest =>
    obtain ⟨⟨Pb, V1, c1, V2, c2, V3, c3, rfl, rfl, hPb, hPh, hPl, hbc⟩, h0⟩ := hcut
    have HBc := Lib.hid hbc
    have H0c := Lib.hid h0
    have HPc := Lib.hid hPl
    have HPBc : Hid (PB0 Pb a' b' V1 cs.length c1 V2 F.length c2 V3 I.length c3 wc) := hPh
    obtain ⟨x0, x1, x2, x3, x4⟩ := h0.c
    have hz0 := h0.lt
    clear hbc h0 hPl hPh HB1 H01
    go_wp2_with fail
    refine (HCk.out A cap VA ca VB cb _ hc1 hw1 hcap (HL.out.below HBc.out) (HC.out.below HBc.out) (HW.out.below HBc.out)).mono ?_
    rintro e w4 ⟨K2, rfl, hb4⟩
    have HB4 : Hid (Below w.heap.size w w4) := HBc.out.trans (hb4.mono HBc.out.size)
    have H04 := Lib.hid (H0c.out.below hb4)
    have HP4 := Lib.hid (HPc.out.below hb4)
    have HPB4 := Lib.hid (HPBc.out.below hb4)
    clear hb4 x0 x1 x2 x3 x4 hz0 HBc H0c HPc HPBc
    by_cases hE : E = 0
    · obtain ⟨ha, hb', hcs, hG⟩ := HGood.out hE hw1
      have HG := Lib.hid hG
      subst ha hb' hcs hE
      clear hG HGood HBad HOf HCk
      go_upto_region 7 with fail
      go_cut [69] (fun v wx => v = .bool false ∧ Below w4.heap.size w4 wx)
      case first =>
        have HBd : Hid (Below w4.heap.size w4 w4.drew) := (Below.refl _ w4).drew
        have HPd := Lib.hid (HP4.out.below HBd.out)
        have H0d := Lib.hid (H04.out.below HBd.out)
        have HPBd := Lib.hid (HPB4.out.below HBd.out)
        have SZ := (show _ ∧ _ from ⟨H0d.out.c, HPBd.out.c⟩)
        go_region_held3 (fun X => (X.cell? ⟨w.heap.size, 0, none⟩ = some (.int .i64 a') ∧ X.cell? ⟨w.heap.size, 1, none⟩ = some (.int .i64 b') ∧ X.cell? ⟨w.heap.size, 2, none⟩ = some (.slice VA cs.length ca) ∧ X.cell? ⟨w.heap.size, 3, none⟩ = some (.int .i64 free) ∧ X.cell? ⟨w.heap.size, 4, none⟩ = some (.slice VB W.length cb)) ∧
            (X.cell? ⟨Pb, 0, none⟩ = some (.int .i64 a') ∧ X.cell? ⟨Pb, 1, none⟩ = some (.int .i64 b') ∧ X.cell? ⟨Pb, 2, none⟩ = some (.slice V1 cs.length c1) ∧ X.cell? ⟨Pb, 3, none⟩ = some (.slice V2 F.length c2) ∧ X.cell? ⟨Pb, 4, none⟩ = some (.slice V3 I.length c3)))
          (with_reducible exact SZ)
          (first
            | (go_at_call 28; refine (HG.out.rof A cap VA ca VB cb _ hcap (HL.out.below (HB4.out.trans (HBd.out.mono HB4.out.size))) (HC.out.below (HB4.out.trans (HBd.out.mono HB4.out.size))) (HW.out.below (HB4.out.trans (HBd.out.mono HB4.out.size)))).mono ?_
               rintro e v1 ⟨X1, d1, X2, d2, X3, d3, rfl, hp, hst⟩
               have HP5 := Lib.hid hp
               have HPd := Lib.hid (HPd.out.below hst)
               have H0d := Lib.hid (H0d.out.below hst)
               have HPBd := Lib.hid (HPBd.out.below hst)
               have HBd : Hid (Below w4.heap.size w4 v1) := HBd.out.trans (hst.mono HBd.out.size)
               have SZ := (show _ ∧ _ from ⟨H0d.out.c, HPBd.out.c⟩)
               clear hst hp)
            | (go_at_call 27; refine (eq_plan a' b' V1 V2 V3 X1 X2 X3 c1 c2 c3 d1 d2 d3 cs F I _ (by have := HG.out.l1; omega) (by have := HG.out.l2; omega) (by have := HG.out.l3; omega) HPd HP5).mono ?_
               rintro e v2 ⟨rfl, hst⟩
               have H0d := Lib.hid (H0d.out.below hst)
               have HPBd := Lib.hid (HPBd.out.below hst)
               have HBd : Hid (Below w4.heap.size w4 v2) := HBd.out.trans (hst.mono HBd.out.size)
               have SZ := (show _ ∧ _ from ⟨H0d.out.c, HPBd.out.c⟩)
               clear hst))
        all_goals
          go_wp2_with fail
          go_meet
          case rel => exact ⟨rfl, HBd.out⟩
      case rest =>
        obtain ⟨rfl, hbc⟩ := hcut
        have HB5 : Hid (Below w.heap.size w wc) := HB4.out.trans (hbc.mono HB4.out.size)
        have H05 := Lib.hid (H04.out.below hbc)
        have HP5 := Lib.hid (HP4.out.below hbc)
        have HPB5 := Lib.hid (HPB4.out.below hbc)
        clear hbc HB4 H04 HP4 HPB4
        obtain ⟨w5, hw5⟩ : ∃ w5, w5 = wc := ⟨_, rfl⟩
        subst hw5
        go_upto_region 9 with fail
        go_cut [9, 6] (fun x9 x6 wx => OutR w a' b' cs free T x9 x6 wx ∧ Below w5.heap.size w5 wx)
        case first =>
          have HBz : Hid (Below w5.heap.size w5 w5) := Below.refl _ _
          have HPB := HPB5
          have HPB00 := HPB5
          have HP0 := HP5
          have SZ := (HPB.out.below (Below.refl _ w5).drew).c
          have hzz := HPB.out.lt
          go_region_held3 (fun X => X.cell? ⟨Pb, 0, none⟩ = some (.int .i64 a') ∧ X.cell? ⟨Pb, 1, none⟩ = some (.int .i64 b') ∧ X.cell? ⟨Pb, 2, none⟩ = some (.slice V1 cs.length c1) ∧ X.cell? ⟨Pb, 3, none⟩ = some (.slice V2 F.length c2) ∧ X.cell? ⟨Pb, 4, none⟩ = some (.slice V3 I.length c3))
            (first | with_reducible exact SZ | with_reducible exact (HPB.out.below (alB _ _)).c | with_reducible exact (HPB00.out.below (alB _ _).drew).c | with_reducible exact keep5s SZ (by omega))
            (first
              | (go_at_call 14; go_loud (refine (copy_agents A cap L _ (HL.out.below (by first | exact HB5.out.drew | exact (bz2 HB5 _).drew)) (by omega)).mono ?_)
                 rintro e v2 ⟨A2, cap2, rfl, hf2⟩
                 have hst : Below w5.heap.size w5 v2 := (by first | exact hf2.2.2 | exact below_a2 hf2.2.2 | exact below_d2 hf2.2.2 | exact below_da2 hf2.2.2)
                 have HP0 := Lib.hid (HP0.out.below hst)
                 have HPB := Lib.hid (HPB.out.below hst)
                 have SZ := HPB.out.c
                 have hzz := HPB.out.lt
                 have HBz := Lib.hid (HBz.out.trans (hst.mono HBz.out.size))
                 first
                   | (have HN := Lib.hid (HN.out.below hst))
                   | (have HN : Hid (RZ w5.heap.size v2) := (RZ.new w5).below hf2.2.2)
                   | (have HN : Hid (RZ w5.heap.size v2) := RZ.below (X := (w5.alloc (.cells #[.int .i64 0, .int .i64 0, .slice none 0 0, .int .i64 0, .slice none 0 0] 44)).drew) (RZ.new w5) hf2.2.2)
                   | skip
                 first
                   | have hnl := HN.out.lt
                   | skip
                 have hszz := HBz.out.size
                 have HA2 : Hid (AgRd v2 A2 L ∧ L.length ≤ cap2) := ⟨hf2.1.agents, by obtain ⟨_, _, h, hh⟩ := hf2.1.len; simp only [Value.slice.injEq, true_and] at h; omega⟩
                 clear hf2)
              | (go_at_call 29
                 first
                   | refine (HG.out.rl A2 cap2 V1 c1 V2 c2 V3 c3 _ HA2.out.2 HA2.out.1 HP0.out).mono ?_
                   | refine (HG.out.rl A2 cap2 V1 c1 V2 c2 V3 c3 _ HA2.out.2 (HA2.out.1.below (alB _ _)) (HP0.out.below (alB _ _))).mono ?_
                 rintro e v4 ⟨U1, d1, U2, d2, rfl, hnf⟩
                 have hb4 := hnf.1.2.2
                 have hst : Below v2.heap.size v2 v4 := (by first | exact hb4 | exact below_a2 hb4 | exact below_d2 hb4 | exact below_da2 hb4)
                 have HP0 := Lib.hid (HP0.out.below hst)
                 have HPB := Lib.hid (HPB.out.below hst)
                 have SZ := HPB.out.c
                 have hzz := HPB.out.lt
                 have HBz := Lib.hid (HBz.out.trans (hst.mono HBz.out.size))
                 first
                   | (have HN := Lib.hid (HN.out.below hst))
                   | (have HN : Hid (RZ v2.heap.size v4) := (RZ.new v2).below hb4)
                   | (have HN : Hid (RZ v2.heap.size v4) := RZ.below (X := (v2.alloc (.cells #[.int .i64 0, .int .i64 0, .slice none 0 0, .int .i64 0, .slice none 0 0] 44)).drew) (RZ.new v2) hb4)
                   | skip
                 first
                   | have hnl := HN.out.lt
                   | skip
                 have hszz2 := HBz.out.size
                 have HNF := Lib.hid hnf
                 first
                   | (obtain ⟨q0, q1, q2, q3, q4, q5, q6, q7, q8, q9⟩ := HN.out.all)
                   | skip
                 clear hnf hb4 hst))
          all_goals
            go_wp2_with fail
            go_meet
            case rel => first
              | (have _t := HN
                 have hbz := HBz.out
                 refine ⟨OutR.of_set HN.out HNF.out ?_ (HB5.out.trans (HBz.out.mono HB5.out.size)) ?_, ?_⟩
                 · first | omega | (simp <;> omega)
                 · have := HB5.out.size; have := H05.out.lt; omega
                 · (repeat (first | (with_reducible exact Below.refl _ _) | (with_reducible assumption) | (with_reducible refine Below.drew ?_) | (with_reducible refine Below.alloc ?_ (by (try simp); (try omega)) _) | (with_reducible refine Below.setCell ?_ (by (try simp); (try omega)) _))))
              | exact ⟨OutR.of_new HNF.out (HB5.out.trans (HBz.out.mono HB5.out.size)) (by have := HB5.out.size; have := H05.out.lt; omega), HBz.out.trans (alB _ _ |>.mono (HBz.out.size))⟩
        case rest =>
          obtain ⟨⟨Rb, U1, d1, U2, d2, rfl, rfl, hRb, hRh, hI, hWr, hbw⟩, hbc⟩ := hcut
          have HB6 := Lib.hid hbw
          have H06 := Lib.hid (H05.out.below hbc)
          have HR6 : Hid (RB0 Rb a' b' U1 cs.length d1 free U2 T.length d2 wc) := hRh
          have HI6 := Lib.hid (And.intro hI hWr)
          clear hbw hbc hRh hI hWr
          go_upto_region 10 with fail
          have HBd : Hid (Below wc.heap.size wc wc.drew) := (Below.refl _ wc).drew
          have H0d := Lib.hid (H06.out.below HBd.out)
          have HRd := Lib.hid (HR6.out.below HBd.out)
          have HId : Hid (IntsRd wc.drew U1 cs ∧ WrRd wc.drew U2 T) := ⟨HI6.out.1.below HBd.out, HI6.out.2.below HBd.out⟩
          have SZ := (show _ ∧ _ from ⟨H0d.out.c, HRd.out.c⟩)
          go_region_held3 (fun X => (X.cell? ⟨w.heap.size, 0, none⟩ = some (.int .i64 a') ∧ X.cell? ⟨w.heap.size, 1, none⟩ = some (.int .i64 b') ∧ X.cell? ⟨w.heap.size, 2, none⟩ = some (.slice VA cs.length ca) ∧ X.cell? ⟨w.heap.size, 3, none⟩ = some (.int .i64 free) ∧ X.cell? ⟨w.heap.size, 4, none⟩ = some (.slice VB W.length cb)) ∧
              (X.cell? ⟨Rb, 0, none⟩ = some (.int .i64 a') ∧ X.cell? ⟨Rb, 1, none⟩ = some (.int .i64 b') ∧ X.cell? ⟨Rb, 2, none⟩ = some (.slice U1 cs.length d1) ∧ X.cell? ⟨Rb, 3, none⟩ = some (.int .i64 free) ∧ X.cell? ⟨Rb, 4, none⟩ = some (.slice U2 T.length d2)))
            (with_reducible exact SZ)
            (first
              | (go_at_call 31; refine (HG.out.rtd A cap VA ca VB cb _ hcap (HL.out.below (HB6.out.trans (HBd.out.mono HB6.out.size))) (HC.out.below (HB6.out.trans (HBd.out.mono HB6.out.size))) (HW.out.below (HB6.out.trans (HBd.out.mono HB6.out.size)))).mono ?_
                 rintro e v1 ⟨X1, e1, X2, e2, rfl, hnf⟩
                 have hst := hnf.1.2.2
                 have HI7 : Hid (IntsRd v1 X1 cs ∧ WrRd v1 X2 T) := ⟨hnf.1.1.ints, hnf.2.1.wires⟩
                 have HId : Hid (IntsRd v1 U1 cs ∧ WrRd v1 U2 T) := ⟨HId.out.1.below hst, HId.out.2.below hst⟩
                 have H0d := Lib.hid (H0d.out.below hst)
                 have HRd := Lib.hid (HRd.out.below hst)
                 have HBd : Hid (Below wc.heap.size wc v1) := HBd.out.trans (hst.mono HBd.out.size)
                 have SZ := (show _ ∧ _ from ⟨H0d.out.c, HRd.out.c⟩)
                 clear hst hnf)
              | (go_at_call 30; refine (eq_rule a' b' a' b' U1 U2 X1 X2 d1 d2 e1 e2 cs cs free free T T _ (by have := HG.out.l1; omega) (by have := HG.out.l1; omega) (by have := HG.out.l4; omega) (by have := HG.out.l4; omega) (Lib.hid HId.out.1) (Lib.hid HId.out.2) (Lib.hid HI7.out.1) (Lib.hid HI7.out.2) ⟨rfl, rfl, rfl, rfl, rfl⟩).mono ?_
                 rintro e v2 ⟨rfl, hst⟩
                 have H0d := Lib.hid (H0d.out.below hst)
                 have HRd := Lib.hid (HRd.out.below hst)
                 have HBd : Hid (Below wc.heap.size wc v2) := HBd.out.trans (hst.mono HBd.out.size)
                 have SZ := (show _ ∧ _ from ⟨H0d.out.c, HRd.out.c⟩)
                 clear hst)
              | (go_at_call 23; refine (works18 _).mono ?_
                 rintro e v3 ⟨rfl, hst⟩
                 have H0d := Lib.hid (H0d.out.below hst)
                 have HRd := Lib.hid (HRd.out.below hst)
                 have HBd : Hid (Below wc.heap.size wc v3) := HBd.out.trans (hst.mono HBd.out.size)
                 have SZ := (show _ ∧ _ from ⟨H0d.out.c, HRd.out.c⟩)
                 clear hst))
          all_goals
            go_wp2
            go_ret
            exact ⟨rfl, HB6.out.trans (HBd.out.mono HB6.out.size)⟩
    · obtain ⟨rfl, rfl, rfl, rfl, rfl⟩ := HBad.out hE
      have hEb : (E != 0) = true := by simpa using hE
      clear HGood HBad HOf HCk hE
      obtain ⟨p0, p1, p2, p3, p4⟩ := HPB4.out.c
      have hzp := HPB4.out.lt
      simp only [List.length_nil] at p2 p3 p4
      go_wp2_with fail
      refine (eq_plan 0 0 V1 V2 V3 none none none c1 c2 c3 0 0 0 [] [] [] _ (by simp) (by simp) (by simp) HP4 (Lib.hid ⟨fun i hi => by simp at hi, fun i hi => by simp at hi, fun i hi => by simp at hi⟩)).mono ?_
      rintro e w5 ⟨rfl, hb5⟩
      have HB5 : Hid (Below w.heap.size w w5) := HB4.out.trans (hb5.mono HB4.out.size)
      clear hb5 p0 p1 p2 p3 p4 hzp
      go_wp2_with (go_at_call 23; refine (works18 _).mono ?_; rintro e w9 ⟨rfl, hb9⟩)
      go_ret
      exact ⟨rfl, HB5.out.trans (hb9.mono HB5.out.size)⟩
end
section
variable (A : Option Addr) (n cap : Nat) (L : List (ByteArray × Int)) (a b : Int) (VA VB : Option Addr) (ca cb : Nat) (cells : List Int) (free : Int) (W : List (Pt × Pt)) (w : World)
theorem plan_all (hn : n = L.length) (hcap : L.length ≤ cap) (HL : Hid (AgRd w A L)) (hl : L.length ≤ maxLen) (HC : Hid (IntsRd w VA cells)) (HW : Hid (WrRd w VB W)) (hc : cells.length ≤ maxLen) (hw : W.length ≤ maxLen) :
    Calls Try.prog 4 #[.slice A n cap, ruleV a b VA ca cells free VB cb W] w fun e w' => e = .returned (.bool true) ∧ Below w.heap.size w w' := by
  by_cases hk : (ruleChk L a b cells free W).1 = 0
  · obtain ⟨ka, kb, na, nb, M, rfl, rfl, rfl, h⟩ := ruleK_of hk
    have hp : tidyW (allPs (pnL L) cells M) W = outerT (pnL L) M (lnk W) ++ innerT (pnL L) cells (lnk W) := by rw [tidyW_F, tidy_parts]
    have hlen := h.len W
    have hil : (innerT (pnL L) cells (lnk W)).length ≤ 1000 := by
      have := congrArg List.length hp
      rw [List.length_append] at this
      omega
    have hm := h.m
    have ha6 := h.a6
    have hb6 := h.b6
    have hc32 := h.c32
    refine plan_head A n cap L ka kb VA VB ca cb cells M W w ka kb cells (facesL W M) (innerT (pnL L) cells (lnk W)) 0 hn hcap HL hl HC HW hc hw (Lib.hid fun A2 cap2 VA2 ca2 VB2 cb2 Z g1 g2 h1 h2 h3 h4 => ?_) (Lib.hid fun A cap VA ca VB cb Z g1 g2 h1 h2 h3 h4 => ?_) (Lib.hid fun h => absurd rfl h) (tidyW (allPs (pnL L) cells M) W) (Lib.hid fun _ g => ⟨rfl, rfl, rfl, ?_⟩)
    · exact (h.plan hl (by omega)).of A2 cap2 VA2 ca2 VB2 cb2 Z h1 h2 h3 h4
    · exact ((h.calls L hl (by omega)).rck A cap VA ca VB cb Z h1 h2 h3 h4).mono fun e w' h => ⟨0, h.1, h.2⟩
    · exact ⟨(h.plan hl (by omega)).rof, (h.plan hl (by omega)).rl, (h.calls L hl (by omega)).rtd, by omega, by rw [facesL_len]; omega, hil, by omega⟩
  · refine plan_head A n cap L a b VA VB ca cb cells free W w 0 0 [] [] [] (ruleChk L a b cells free W).1 hn hcap HL hl HC HW hc hw (Lib.hid fun A2 cap2 VA2 ca2 VB2 cb2 Z g1 g2 h1 h2 h3 h4 => ?_) (Lib.hid fun A cap VA ca VB cb Z g1 g2 h1 h2 h3 h4 => ?_) (Lib.hid fun _ => ⟨rfl, rfl, rfl, rfl, rfl⟩) [] (Lib.hid fun h => absurd h hk)
    · exact (plan_of_bad A2 _ cap2 L a b VA2 VB2 ca2 cb2 cells W Z free rfl h1 (Lib.hid h2) hl (Lib.hid h3) (Lib.hid h4) (by omega) (by omega) hk).mono fun e w' h => ⟨none, 0, none, 0, none, 0, h.1, fun Y _ => ⟨IntsRd.nil2 _ _, fun i hi => by simp at hi, WrRd.nil2 _ _⟩, h.2⟩
    · exact (rrule_check A _ cap L a b VA VB ca cb cells free W Z rfl h1 (Lib.hid h2) hl (Lib.hid h3) (Lib.hid h4) (by omega) (by omega)).mono fun e w' h => ⟨_, h.1, h.2⟩
end
end Go.Proofs.Ytcebejcdfdahjaa
