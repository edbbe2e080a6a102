/-
  Contract of plan.Rule.
-/
import Derived.Test.YtcebejcdfdahjaaPlanOfC
import Derived.BigQuiet
import Derived.Deep.QuietTactic
namespace Go.Proofs.Ytcebejcdfdahjaa
open Go.RowKit
attribute [local go_sem] cell_set
attribute [local go_sem high] run_eql_port
set_option maxRecDepth 100000
set_option linter.unusedVariables false

/-- A rule in a box, its wires in memory of the call's own. -/
structure RW (w1 : World) (R : Nat) (a b : Int) (V1 : Option Addr) (n c1 : Nat) (M : Int) (V5 : Option Addr) (c5 : Nat) (ws : List (Pt × Pt)) (X : World) : Prop where
  bl : Below w1.heap.size w1 X
  hR : X.heap[R]? = some (.cells #[.int .i64 a, .int .i64 b, .slice V1 n c1, .int .i64 M, .slice V5 ws.length c5] 44 (0, 0))
  rW : Row X 90 4 (.slice V5 ws.length c5) ws.length (wrvals ws)
  oW : ∀ b ∈ ownB (.slice V5 ws.length c5), w1.heap.size ≤ b ∧ b ≠ R
  lR : w1.heap.size ≤ R
section
variable {w1 : World} {R : Nat} {a b : Int} {V1 : Option Addr} {n c1 : Nat} {M : Int} {V5 : Option Addr} {c5 : Nat} {ws : List (Pt × Pt)} {X X' : World}
theorem RW.lt (h : RW w1 R a b V1 n c1 M V5 c5 ws X) : R < X.heap.size := heap_lt h.hR
theorem RW.below (h : RW w1 R a b V1 n c1 M V5 c5 ws X) (hb : Below X.heap.size X X') : RW w1 R a b V1 n c1 M V5 c5 ws X' :=
  ⟨h.bl.trans (hb.mono h.bl.size), (hb.block _ h.lt).trans h.hR, h.rW.keep fun b hb2 => hb.block b (h.rW.lt b hb2), h.oW, h.lR⟩
theorem RW.cells (h : RW w1 R a b V1 n c1 M V5 c5 ws X) : X.cell? ⟨R, 0, none⟩ = some (.int .i64 a) ∧ X.cell? ⟨R, 1, none⟩ = some (.int .i64 b) ∧ X.cell? ⟨R, 2, none⟩ = some (.slice V1 n c1) ∧ X.cell? ⟨R, 3, none⟩ = some (.int .i64 M) ∧ X.cell? ⟨R, 4, none⟩ = some (.slice V5 ws.length c5) ∧ X.frozen? ⟨R, 4, none⟩ = false := by
  have hh := h.hR
  simp [World.cell?, World.frozen?, hh]
theorem RW.app (h : RW w1 R a b V1 n c1 M V5 c5 ws X) {ws2 : List (Pt × Pt)} {V7 : Option Addr} {c7 : Nat} {w5 : World}
    (k5 : Kp (ownB (.slice V5 ws.length c5)) X w5) (o5 : ownB (.slice V7 (ws.length + ws2.length) c7) = ownB (.slice V5 ws.length c5) ∨ ownB (.slice V7 (ws.length + ws2.length) c7) = [X.heap.size])
    (r5 : Row w5 90 4 (.slice V7 (ws.length + ws2.length) c7) (ws.length + ws2.length) (wrvals ws ++ wrvals ws2)) :
    (w5.cell? ⟨R, 4, none⟩ = some (.slice V5 ws.length c5) ∧ w5.frozen? ⟨R, 4, none⟩ = false) ∧ RW w1 R a b V1 n c1 M V7 c7 (ws ++ ws2) (w5.setCell ⟨R, 4, none⟩ (.slice V7 (ws.length + ws2.length) c7)) := by
  have hn : R ∉ ownB (.slice V5 ws.length c5) := fun hb => (h.oW _ hb).2 rfl
  have e3 : w5.heap[R]? = _ := (k5.block R h.lt hn).trans h.hR
  have hz := h.bl.size
  have h5 : ∀ b ∈ ownB (.slice V7 (ws.length + ws2.length) c7), w1.heap.size ≤ b ∧ b ≠ R := fun b hb => by
    rcases o5 with e | e
    · exact h.oW b (e ▸ hb)
    · rw [e] at hb; simp at hb; subst hb
      have := h.lt
      exact ⟨hz, by omega⟩
  have hl : (ws ++ ws2).length = ws.length + ws2.length := by simp
  have hwv : wrvals (ws ++ ws2) = wrvals ws ++ wrvals ws2 := by simp [wrvals]
  refine ⟨⟨by simp [World.cell?, e3], by simp [World.frozen?, e3]⟩, ?_, ?_, ?_, ?_, h.lR⟩
  · exact (h.bl.trans (k5.below hz (fun b hb => (h.oW b hb).1))).setCell (p := ⟨R, 4, none⟩) h.lR _
  · rw [hl]; simp [World.setCell, Array.getElem?_modify, e3]
  · rw [hwv, hl]
    exact r5.keep fun b hb => Below.heap_setCell w5 _ _ b (h5 b hb).2
  · rw [hl]; exact h5
end
section
variable (A : Option Addr) (n cap : Nat) (L : List (ByteArray × Int)) (a b : Int) (V1 V2 V3 : Option Addr) (c1 c2 c3 : Nat) (cells : List Int) (F : List Pt) (I : List (Pt × Pt)) (w : World)
set_option maxHeartbeats 4000000 in
theorem plan_rule (T : List (Pt × Pt)) (hn : n = L.length) (HL : Hid (AgRd w A L)) (HP : Hid (PLs V1 V2 V3 cells F I w)) (hM : F.length ≤ 100) (hI : I.length ≤ 1000)
    (HTd : Hid (∀ Z VB cb, Below w.heap.size w Z → WrRd Z VB (faceW F F.length ++ I) → Calls Try.prog 51 #[.slice A L.length cap, ruleV a b V1 c1 cells F.length VB cb (faceW F F.length ++ I)] Z fun e w' => ∃ U1 d1 U2 d2, e = .returned (.tuple #[ruleV a b U1 d1 cells F.length U2 d2 T, .int .i64 0]) ∧ NetFresh Z w' U1 d1 cells U2 d2 T)) :
    Calls Try.prog 29 #[.slice A n cap, planV a b V1 cells.length c1 V2 F.length c2 V3 I.length c3] w fun e w' => ∃ U1 d1 U2 d2, e = .returned (.tuple #[ruleV a b U1 d1 cells F.length U2 d2 T, .int .i64 0]) ∧ NetFresh w w' U1 d1 cells U2 d2 T := by
  subst hn
  obtain ⟨j0, hj0, hj1, hj2, hj3⟩ := info_parts wire_info
  have hbA : Below w.heap.size w ((w.alloc (.cells #[.int .i64 a, .int .i64 b, .slice V1 cells.length c1, .slice V2 F.length c2, .slice V3 I.length c3] 49)).alloc (.cells #[.int .i64 0, .int .i64 0, .slice none 0 0, .int .i64 0, .slice none 0 0] 44)) := by (repeat (first | (with_reducible exact Below.refl _ _) | (with_reducible assumption) | (with_reducible refine Below.drew ?_) | (with_reducible refine Below.alloc ?_ (by (try simp); (try omega)) _) | (with_reducible refine Below.setCell ?_ (by (try simp); (try omega)) _)))
  have hz0 := RZ.new (w.alloc (.cells #[.int .i64 a, .int .i64 b, .slice V1 cells.length c1, .slice V2 F.length c2, .slice V3 I.length c3] 49))
  rw [World.size_alloc] at hz0
  have HZ0 := Lib.hid hz0
  have h00 : Hid (((w.alloc (.cells #[.int .i64 a, .int .i64 b, .slice V1 cells.length c1, .slice V2 F.length c2, .slice V3 I.length c3] 49)).alloc (.cells #[.int .i64 0, .int .i64 0, .slice none 0 0, .int .i64 0, .slice none 0 0] 44)).heap[w.heap.size]? = some (.cells #[.int .i64 a, .int .i64 b, .slice V1 cells.length c1, .slice V2 F.length c2, .slice V3 I.length c3] 49 (0, 0))) := (heap2 w _ _).1
  have hP0 := Lib.hid (HP.out.below hbA)
  clear hz0
  go_enter Try.func29, Try.ntmps29
  go_upto_region 1 with fail
  refine absW (fun X => Below w.heap.size w X ∧ RZ (w.heap.size + 1) X ∧ X.heap[w.heap.size]? = some (.cells #[.int .i64 a, .int .i64 b, .slice V1 cells.length c1, .slice V2 F.length c2, .slice V3 I.length c3] 49 (0, 0)) ∧ PLs V1 V2 V3 cells F I X) ⟨hbA, HZ0.out, h00.out, hP0.out⟩ ?_
  rintro w1 ⟨hb1, hz1, h01, hp1⟩
  have HB1 := Lib.hid hb1
  have HZ1 := Lib.hid hz1
  have H01 := Lib.hid h01
  have HP1 := Lib.hid hp1
  have x0 : w1.cell? ⟨w.heap.size, 0, none⟩ = some (.int .i64 a) := by simp [World.cell?, h01]
  have x1 : w1.cell? ⟨w.heap.size, 1, none⟩ = some (.int .i64 b) := by simp [World.cell?, h01]
  have x2 : w1.cell? ⟨w.heap.size, 2, none⟩ = some (.slice V1 cells.length c1) := by simp [World.cell?, h01]
  have x3 : w1.cell? ⟨w.heap.size, 3, none⟩ = some (.slice V2 F.length c2) := by simp [World.cell?, h01]
  have hxl := heap_lt h01
  clear hbA HZ0 h00 hP0 hb1 hz1 h01 hp1
  go_upto_region 2 with fail
  refine absW (fun X => RW w1 w1.heap.size a b V1 cells.length c1 F.length none 0 (faceW F 0) X) ⟨alB _ _, heap_alloc_new _ _, Row.nil _ _ _, fun b hb => by simp [ownB] at hb, Nat.le_refl _⟩ ?_
  rintro X hrx
  have HRX := Lib.hid hrx
  have x3b : X.cell? ⟨w.heap.size, 3, none⟩ = some (.slice V2 F.length c2) := (hrx.bl.cell (p := ⟨w.heap.size, 3, none⟩) hxl).trans x3
  have hxl2 : w.heap.size < X.heap.size := Nat.lt_of_lt_of_le hxl hrx.bl.size
  clear hrx x0 x1 x2 x3
  go_wp2_with fail
  clear x3b hxl2
  go_loopw [7, 8, 9, 24] (fun _ _ _ i wr => ∃ k : Nat, ∃ V5 c5, i = .int .i64 k ∧ k ≤ F.length ∧ Hid (RW w1 w1.heap.size a b V1 cells.length c1 F.length V5 c5 (faceW F k) wr)) (fun _ _ _ i _ => F.length - (intOf i).toNat)
  case atStart => exact ⟨0, none, 0, rfl, by omega, HRX⟩
  case round =>
    obtain ⟨k, V5, c5, rfl, hk, HR⟩ := hrel
    clear HRX
    have hbr := HR.out.bl
    have x3 : wr.cell? ⟨w.heap.size, 3, none⟩ = some (.slice V2 F.length c2) := by have := (hbr.block _ hxl).trans H01.out; simp [World.cell?, this]
    have x4 : wr.cell? ⟨w.heap.size, 4, none⟩ = some (.slice V3 I.length c3) := by have := (hbr.block _ hxl).trans H01.out; simp [World.cell?, this]
    have hxlr : w.heap.size < wr.heap.size := Nat.lt_of_lt_of_le hxl hbr.size
    have HPr := Lib.hid (HP1.out.below hbr)
    obtain ⟨p0, p1, p2, p3, p4, p5⟩ := HR.out.cells
    have hRl := HR.out.lt
    clear hbr
    by_cases hlt : k < F.length
    · obtain ⟨bw, ow, rfl, hbw, d0, d1⟩ := HPr.out.2.1 k hlt
      have hbwl : bw < wr.heap.size := hbw
      have hws := faceW_len F k
      have hg63 : (faceW F k).length + 1 ≤ maxLen := by simp only [maxLen]; omega
      have hg47 : ((faceW F k).length + 1) * 32 ≤ 140737488355328 := by omega
      have HWs := Lib.hid hws
      clear hws
      obtain ⟨f, hf⟩ : ∃ f, f = F.getD k default := ⟨_, rfl⟩
      rw [← hf] at d0 d1
      have hnx : faceW F (k + 1) = faceW F k ++ (if f.1 = -1 ∧ 0 ≤ f.2 ∧ f.2 < k ∧ F.getD f.2.toNat default = (-1, (k : Int)) then [] else [((-1, (k : Int)), f)]) := by rw [hf]; rfl
      have HNX0 := Lib.hid hnx
      clear hnx
      obtain ⟨f0, f1⟩ := f
      simp only at d0 d1
      have HF := Lib.hid hf
      clear hf
      have hxl := hxlr
      have key : ∀ c : Prop, ((f0 = -1 ∧ 0 ≤ f1 ∧ f1 < k ∧ F.getD f1.toNat default = (-1, (k : Int))) → c) → (¬ (f0 = -1 ∧ 0 ≤ f1 ∧ f1 < k ∧ F.getD f1.toNat default = (-1, (k : Int))) → c) → c := fun c h1 h2 => (Classical.em _).elim h1 h2
      clear key
      have HNA : Hid (¬ (f0 = -1 ∧ 0 ≤ f1 ∧ f1 < k ∧ F.getD f1.toNat default = (-1, (k : Int))) → faceW F (k + 1) = faceW F k ++ [((-1, (k : Int)), (f0, f1))]) := fun h => by have := HNX0.out; rw [if_neg h] at this; exact this
      have HNB : Hid ((f0 = -1 ∧ 0 ≤ f1 ∧ f1 < k ∧ F.getD f1.toNat default = (-1, (k : Int))) → faceW F (k + 1) = faceW F k) := fun h => by have := HNX0.out; rw [if_pos h, List.append_nil] at this; exact this
      clear HNX0
      by_cases h1 : f0 = -1
      · subst h1
        by_cases h2 : f1 < 0
        · have HNX : Hid (faceW F (k + 1) = faceW F k ++ [((-1, (k : Int)), (-1, f1))]) := HNA.out (fun h => by have := h.2.1; omega)
          have h2n : ¬ (0 ≤ f1) := by omega
          clear HNA HNB
          generalize faceW F k = ws at *
          go_upto_region 6 with fail
          refine absW (fun X => Below wr.heap.size wr X ∧ wr.heap.size + 1 < X.heap.size ∧ X.cell? ⟨wr.heap.size, 0, none⟩ = some (.int .i64 (-1)) ∧ X.cell? ⟨wr.heap.size, 1, none⟩ = some (.int .i64 f1) ∧ X.cell? ⟨wr.heap.size + 1, 0, none⟩ = some (.int .i64 (-1)) ∧ X.cell? ⟨wr.heap.size + 1, 1, none⟩ = some (.int .i64 (k : Int)))
            ⟨by (repeat (first | (with_reducible exact Below.refl _ _) | (with_reducible assumption) | (with_reducible refine Below.drew ?_) | (with_reducible refine Below.alloc ?_ (by (try simp); (try omega)) _) | (with_reducible refine Below.setCell ?_ (by (try simp); (try omega)) _))), by simp <;> omega, by go_simp, by go_simp, by go_simp, by go_simp⟩ ?_
          rintro X ⟨hbx, hzx, q0, q1, q2, q3⟩
          have HRx := Lib.hid (HR.out.below hbx)
          have HPx := Lib.hid (HPr.out.below hbx)
          have x3x := (hbx.cell (p := ⟨w.heap.size, 3, none⟩) hxlr).trans x3
          have hxlx : w.heap.size < X.heap.size := Nat.lt_of_lt_of_le hxlr hbx.size
          have hzx2 : wr.heap.size < X.heap.size := by omega
          clear hbx d0 d1 x3 x4 p0 p1 p2 p3 p4 p5 hRl
          go_quiet (fail)
          go_upto_region 7 with fail
          refine absW (fun Y => Below X.heap.size X Y) (below_drewN (Below.refl _ _) _) ?_
          rintro Y hbY
          have HRy := Lib.hid (HRx.out.below hbY)
          have r0 := (hbY.cell (p := ⟨wr.heap.size, 0, none⟩) hzx2).trans q0
          have r1 := (hbY.cell (p := ⟨wr.heap.size, 1, none⟩) hzx2).trans q1
          have r2 := (hbY.cell (p := ⟨wr.heap.size + 1, 0, none⟩) hzx).trans q2
          have r3 := (hbY.cell (p := ⟨wr.heap.size + 1, 1, none⟩) hzx).trans q3
          have hzy : wr.heap.size + 1 < Y.heap.size := Nat.lt_of_lt_of_le hzx hbY.size
          have hzy2 : wr.heap.size < Y.heap.size := by omega
          clear hbY q0 q1 q2 q3 x3x hxlx hzx hzx2
          obtain ⟨p0, p1, p2, p3, p4, p5⟩ := HRy.out.cells
          have hRl := HRy.out.lt
          have HRw := Lib.hid (HRy.out.below (alB Y (.cells #[.int .i64 (-1), .int .i64 (k : Int), .int .i64 (-1), .int .i64 f1] 90)))
          have HSr : Hid (Src (Y.alloc (.cells #[.int .i64 (-1), .int .i64 (k : Int), .int .i64 (-1), .int .i64 f1] 90)) (some ⟨Y.heap.size, 0, none⟩) 1 4 [.int .i64 (-1), .int .i64 (k : Int), .int .i64 (-1), .int .i64 f1]) :=
            Src.block (cs := #[.int .i64 (-1), .int .i64 (k : Int), .int .i64 (-1), .int .i64 f1]) (t := 90) (fr := (0, 0)) (heap_alloc_new Y _) rfl (by simp [Value.oneCell'])
          go_wp2_with (at_builtin; go_loud (refine inPlain rfl (wpo_row_append _ _ _ rfl j0 _ 32 Try.underlying24 hj0 hj1 hj2 hj3 rfl rfl HRw.out.rW _ 1 1 rfl [.int .i64 (-1), .int .i64 (k : Int), .int .i64 (-1), .int .i64 f1] HSr.out hg63 hg47 ?_)); intro sv5 w7 r5 k5 o5; obtain ⟨V7, cp7, rfl, hc7⟩ := r5.len; have A5 := HRw.out.app (ws2 := [((-1, (k : Int)), ((-1), f1))]) k5 o5 r5; obtain ⟨⟨z1, z2⟩, z3⟩ := A5; have HA5 := Lib.hid z3; clear k5 o5 r5 z3)
          go_roundw
          case rel => exact ⟨k + 1, V7, cp7, by go_num, by omega, by rw [HNX.out]; exact HA5⟩
          case measure => simp [intOf]; omega
        · obtain ⟨j, rfl⟩ := Int.eq_ofNat_of_zero_le (show 0 ≤ f1 by omega)
          by_cases h3 : j < k
          · obtain ⟨b2, o2, e2, hb2, g0, g1⟩ := HPr.out.2.1 j (by omega)
            simp only [Option.some.injEq, Addr.mk.injEq, and_true] at e2
            obtain ⟨rfl, rfl⟩ := e2
            have hjF : j < F.length := by omega
            rw [Int.toNat_natCast] at HNA HNB
            generalize F.getD j default = g at g0 g1 HNA HNB
            obtain ⟨y0, y1⟩ := g
            simp only at g0 g1
            by_cases h4 : (y0, y1) = ((-1 : Int), (k : Int))
            · have h4b : eqP (y0, y1) (-1, (k : Int)) = true := by unfold eqP; simp only [Prod.mk.injEq] at h4; simp [h4.1, h4.2]
              have HNX : Hid (faceW F (k + 1) = faceW F k) := HNB.out ⟨rfl, by omega, by omega, h4⟩
              clear HNA HNB h4
              generalize faceW F k = ws at *
              have y0x := g0
              have y1x := g1
              go_upto_region 6 with fail
              refine absW (fun X => Below wr.heap.size wr X ∧ wr.heap.size + 1 < X.heap.size ∧ X.cell? ⟨wr.heap.size, 0, none⟩ = some (.int .i64 (-1)) ∧ X.cell? ⟨wr.heap.size, 1, none⟩ = some (.int .i64 (j : Int)) ∧ X.cell? ⟨wr.heap.size + 1, 0, none⟩ = some (.int .i64 (-1)) ∧ X.cell? ⟨wr.heap.size + 1, 1, none⟩ = some (.int .i64 (k : Int)))
                ⟨by (repeat (first | (with_reducible exact Below.refl _ _) | (with_reducible assumption) | (with_reducible refine Below.drew ?_) | (with_reducible refine Below.alloc ?_ (by (try simp); (try omega)) _) | (with_reducible refine Below.setCell ?_ (by (try simp); (try omega)) _))), by simp <;> omega, by go_simp, by go_simp, by go_simp, by go_simp⟩ ?_
              rintro X ⟨hbx, hzx, q0, q1, q2, q3⟩
              have HRx := Lib.hid (HR.out.below hbx)
              have HPx := Lib.hid (HPr.out.below hbx)
              have x3x := (hbx.cell (p := ⟨w.heap.size, 3, none⟩) hxlr).trans x3
              have hxlx : w.heap.size < X.heap.size := Nat.lt_of_lt_of_le hxlr hbx.size
              have hzx2 : wr.heap.size < X.heap.size := by omega
              have z0x := (hbx.cell (p := ⟨bw, ow + j * 2, none⟩) hbwl).trans y0x
              have z1x := (hbx.cell (p := ⟨bw, ow + j * 2 + 1, none⟩) hbwl).trans y1x
              have hbwx : bw < X.heap.size := Nat.lt_of_lt_of_le hbwl hbx.size
              clear y0x y1x g0 g1 hbx d0 d1 x3 x4 p0 p1 p2 p3 p4 p5 hRl
              go_quiet (fail)
              go_wp2_with fail
              go_roundw
              case rel => exact ⟨k + 1, V5, c5, by go_num, by omega, by rw [HNX.out]; exact HRx.out.below (below_drewN (Below.refl _ _) _)⟩
              case measure => simp [intOf]; omega
            · have h4b : eqP (y0, y1) (-1, (k : Int)) = false := by unfold eqP; simp only [Prod.mk.injEq] at h4; simp; intro h5 h6; exact h4 ⟨h5, h6⟩
              have HNX : Hid (faceW F (k + 1) = faceW F k ++ [((-1, (k : Int)), (-1, (j : Int)))]) := HNA.out (fun h => h4 h.2.2.2)
              clear HNA HNB h4
              generalize faceW F k = ws at *
              have y0x := g0
              have y1x := g1
              go_upto_region 6 with fail
              refine absW (fun X => Below wr.heap.size wr X ∧ wr.heap.size + 1 < X.heap.size ∧ X.cell? ⟨wr.heap.size, 0, none⟩ = some (.int .i64 (-1)) ∧ X.cell? ⟨wr.heap.size, 1, none⟩ = some (.int .i64 (j : Int)) ∧ X.cell? ⟨wr.heap.size + 1, 0, none⟩ = some (.int .i64 (-1)) ∧ X.cell? ⟨wr.heap.size + 1, 1, none⟩ = some (.int .i64 (k : Int)))
                ⟨by (repeat (first | (with_reducible exact Below.refl _ _) | (with_reducible assumption) | (with_reducible refine Below.drew ?_) | (with_reducible refine Below.alloc ?_ (by (try simp); (try omega)) _) | (with_reducible refine Below.setCell ?_ (by (try simp); (try omega)) _))), by simp <;> omega, by go_simp, by go_simp, by go_simp, by go_simp⟩ ?_
              rintro X ⟨hbx, hzx, q0, q1, q2, q3⟩
              have HRx := Lib.hid (HR.out.below hbx)
              have HPx := Lib.hid (HPr.out.below hbx)
              have x3x := (hbx.cell (p := ⟨w.heap.size, 3, none⟩) hxlr).trans x3
              have hxlx : w.heap.size < X.heap.size := Nat.lt_of_lt_of_le hxlr hbx.size
              have hzx2 : wr.heap.size < X.heap.size := by omega
              have z0x := (hbx.cell (p := ⟨bw, ow + j * 2, none⟩) hbwl).trans y0x
              have z1x := (hbx.cell (p := ⟨bw, ow + j * 2 + 1, none⟩) hbwl).trans y1x
              have hbwx : bw < X.heap.size := Nat.lt_of_lt_of_le hbwl hbx.size
              clear y0x y1x g0 g1 hbx d0 d1 x3 x4 p0 p1 p2 p3 p4 p5 hRl
              go_quiet (fail)
              go_upto_region 7 with fail
              refine absW (fun Y => Below X.heap.size X Y) (below_drewN (Below.refl _ _) _) ?_
              rintro Y hbY
              have HRy := Lib.hid (HRx.out.below hbY)
              have r0 := (hbY.cell (p := ⟨wr.heap.size, 0, none⟩) hzx2).trans q0
              have r1 := (hbY.cell (p := ⟨wr.heap.size, 1, none⟩) hzx2).trans q1
              have r2 := (hbY.cell (p := ⟨wr.heap.size + 1, 0, none⟩) hzx).trans q2
              have r3 := (hbY.cell (p := ⟨wr.heap.size + 1, 1, none⟩) hzx).trans q3
              have hzy : wr.heap.size + 1 < Y.heap.size := Nat.lt_of_lt_of_le hzx hbY.size
              have hzy2 : wr.heap.size < Y.heap.size := by omega
              clear hbY q0 q1 q2 q3 x3x hxlx hzx hzx2
              obtain ⟨p0, p1, p2, p3, p4, p5⟩ := HRy.out.cells
              have hRl := HRy.out.lt
              have HRw := Lib.hid (HRy.out.below (alB Y (.cells #[.int .i64 (-1), .int .i64 (k : Int), .int .i64 (-1), .int .i64 (j : Int)] 90)))
              have HSr : Hid (Src (Y.alloc (.cells #[.int .i64 (-1), .int .i64 (k : Int), .int .i64 (-1), .int .i64 (j : Int)] 90)) (some ⟨Y.heap.size, 0, none⟩) 1 4 [.int .i64 (-1), .int .i64 (k : Int), .int .i64 (-1), .int .i64 (j : Int)]) :=
                Src.block (cs := #[.int .i64 (-1), .int .i64 (k : Int), .int .i64 (-1), .int .i64 (j : Int)]) (t := 90) (fr := (0, 0)) (heap_alloc_new Y _) rfl (by simp [Value.oneCell'])
              go_wp2_with (at_builtin; go_loud (refine inPlain rfl (wpo_row_append _ _ _ rfl j0 _ 32 Try.underlying24 hj0 hj1 hj2 hj3 rfl rfl HRw.out.rW _ 1 1 rfl [.int .i64 (-1), .int .i64 (k : Int), .int .i64 (-1), .int .i64 (j : Int)] HSr.out hg63 hg47 ?_)); intro sv5 w7 r5 k5 o5; obtain ⟨V7, cp7, rfl, hc7⟩ := r5.len; have A5 := HRw.out.app (ws2 := [((-1, (k : Int)), ((-1), (j : Int)))]) k5 o5 r5; obtain ⟨⟨z1, z2⟩, z3⟩ := A5; have HA5 := Lib.hid z3; clear k5 o5 r5 z3)
              go_roundw
              case rel => exact ⟨k + 1, V7, cp7, by go_num, by omega, by rw [HNX.out]; exact HA5⟩
              case measure => simp [intOf]; omega
          · have HNX : Hid (faceW F (k + 1) = faceW F k ++ [((-1, (k : Int)), (-1, (j : Int)))]) := HNA.out (fun h => by have := h.2.2.1; omega)
            clear HNA HNB
            generalize faceW F k = ws at *
            go_upto_region 6 with fail
            refine absW (fun X => Below wr.heap.size wr X ∧ wr.heap.size + 1 < X.heap.size ∧ X.cell? ⟨wr.heap.size, 0, none⟩ = some (.int .i64 (-1)) ∧ X.cell? ⟨wr.heap.size, 1, none⟩ = some (.int .i64 (j : Int)) ∧ X.cell? ⟨wr.heap.size + 1, 0, none⟩ = some (.int .i64 (-1)) ∧ X.cell? ⟨wr.heap.size + 1, 1, none⟩ = some (.int .i64 (k : Int)))
              ⟨by (repeat (first | (with_reducible exact Below.refl _ _) | (with_reducible assumption) | (with_reducible refine Below.drew ?_) | (with_reducible refine Below.alloc ?_ (by (try simp); (try omega)) _) | (with_reducible refine Below.setCell ?_ (by (try simp); (try omega)) _))), by simp <;> omega, by go_simp, by go_simp, by go_simp, by go_simp⟩ ?_
            rintro X ⟨hbx, hzx, q0, q1, q2, q3⟩
            have HRx := Lib.hid (HR.out.below hbx)
            have HPx := Lib.hid (HPr.out.below hbx)
            have x3x := (hbx.cell (p := ⟨w.heap.size, 3, none⟩) hxlr).trans x3
            have hxlx : w.heap.size < X.heap.size := Nat.lt_of_lt_of_le hxlr hbx.size
            have hzx2 : wr.heap.size < X.heap.size := by omega
            clear hbx d0 d1 x3 x4 p0 p1 p2 p3 p4 p5 hRl
            go_quiet (fail)
            go_upto_region 7 with fail
            refine absW (fun Y => Below X.heap.size X Y) (below_drewN (Below.refl _ _) _) ?_
            rintro Y hbY
            have HRy := Lib.hid (HRx.out.below hbY)
            have r0 := (hbY.cell (p := ⟨wr.heap.size, 0, none⟩) hzx2).trans q0
            have r1 := (hbY.cell (p := ⟨wr.heap.size, 1, none⟩) hzx2).trans q1
            have r2 := (hbY.cell (p := ⟨wr.heap.size + 1, 0, none⟩) hzx).trans q2
            have r3 := (hbY.cell (p := ⟨wr.heap.size + 1, 1, none⟩) hzx).trans q3
            have hzy : wr.heap.size + 1 < Y.heap.size := Nat.lt_of_lt_of_le hzx hbY.size
            have hzy2 : wr.heap.size < Y.heap.size := by omega
            clear hbY q0 q1 q2 q3 x3x hxlx hzx hzx2
            obtain ⟨p0, p1, p2, p3, p4, p5⟩ := HRy.out.cells
            have hRl := HRy.out.lt
            have HRw := Lib.hid (HRy.out.below (alB Y (.cells #[.int .i64 (-1), .int .i64 (k : Int), .int .i64 (-1), .int .i64 (j : Int)] 90)))
            have HSr : Hid (Src (Y.alloc (.cells #[.int .i64 (-1), .int .i64 (k : Int), .int .i64 (-1), .int .i64 (j : Int)] 90)) (some ⟨Y.heap.size, 0, none⟩) 1 4 [.int .i64 (-1), .int .i64 (k : Int), .int .i64 (-1), .int .i64 (j : Int)]) :=
              Src.block (cs := #[.int .i64 (-1), .int .i64 (k : Int), .int .i64 (-1), .int .i64 (j : Int)]) (t := 90) (fr := (0, 0)) (heap_alloc_new Y _) rfl (by simp [Value.oneCell'])
            go_wp2_with (at_builtin; go_loud (refine inPlain rfl (wpo_row_append _ _ _ rfl j0 _ 32 Try.underlying24 hj0 hj1 hj2 hj3 rfl rfl HRw.out.rW _ 1 1 rfl [.int .i64 (-1), .int .i64 (k : Int), .int .i64 (-1), .int .i64 (j : Int)] HSr.out hg63 hg47 ?_)); intro sv5 w7 r5 k5 o5; obtain ⟨V7, cp7, rfl, hc7⟩ := r5.len; have A5 := HRw.out.app (ws2 := [((-1, (k : Int)), ((-1), (j : Int)))]) k5 o5 r5; obtain ⟨⟨z1, z2⟩, z3⟩ := A5; have HA5 := Lib.hid z3; clear k5 o5 r5 z3)
            go_roundw
            case rel => exact ⟨k + 1, V7, cp7, by go_num, by omega, by rw [HNX.out]; exact HA5⟩
            case measure => simp [intOf]; omega
      · have HNX : Hid (faceW F (k + 1) = faceW F k ++ [((-1, (k : Int)), (f0, f1))]) := HNA.out (fun h => h1 h.1)
        have h1b : (f0 == -1) = false := by simpa using h1
        clear HNA HNB
        generalize faceW F k = ws at *
        go_upto_region 6 with fail
        refine absW (fun X => Below wr.heap.size wr X ∧ wr.heap.size + 1 < X.heap.size ∧ X.cell? ⟨wr.heap.size, 0, none⟩ = some (.int .i64 f0) ∧ X.cell? ⟨wr.heap.size, 1, none⟩ = some (.int .i64 f1) ∧ X.cell? ⟨wr.heap.size + 1, 0, none⟩ = some (.int .i64 (-1)) ∧ X.cell? ⟨wr.heap.size + 1, 1, none⟩ = some (.int .i64 (k : Int)))
          ⟨by (repeat (first | (with_reducible exact Below.refl _ _) | (with_reducible assumption) | (with_reducible refine Below.drew ?_) | (with_reducible refine Below.alloc ?_ (by (try simp); (try omega)) _) | (with_reducible refine Below.setCell ?_ (by (try simp); (try omega)) _))), by simp <;> omega, by go_simp, by go_simp, by go_simp, by go_simp⟩ ?_
        rintro X ⟨hbx, hzx, q0, q1, q2, q3⟩
        have HRx := Lib.hid (HR.out.below hbx)
        have HPx := Lib.hid (HPr.out.below hbx)
        have x3x := (hbx.cell (p := ⟨w.heap.size, 3, none⟩) hxlr).trans x3
        have hxlx : w.heap.size < X.heap.size := Nat.lt_of_lt_of_le hxlr hbx.size
        have hzx2 : wr.heap.size < X.heap.size := by omega
        clear hbx d0 d1 x3 x4 p0 p1 p2 p3 p4 p5 hRl
        go_quiet (fail)
        go_upto_region 7 with fail
        refine absW (fun Y => Below X.heap.size X Y) (below_drewN (Below.refl _ _) _) ?_
        rintro Y hbY
        have HRy := Lib.hid (HRx.out.below hbY)
        have r0 := (hbY.cell (p := ⟨wr.heap.size, 0, none⟩) hzx2).trans q0
        have r1 := (hbY.cell (p := ⟨wr.heap.size, 1, none⟩) hzx2).trans q1
        have r2 := (hbY.cell (p := ⟨wr.heap.size + 1, 0, none⟩) hzx).trans q2
        have r3 := (hbY.cell (p := ⟨wr.heap.size + 1, 1, none⟩) hzx).trans q3
        have hzy : wr.heap.size + 1 < Y.heap.size := Nat.lt_of_lt_of_le hzx hbY.size
        have hzy2 : wr.heap.size < Y.heap.size := by omega
        clear hbY q0 q1 q2 q3 x3x hxlx hzx hzx2
        obtain ⟨p0, p1, p2, p3, p4, p5⟩ := HRy.out.cells
        have hRl := HRy.out.lt
        have HRw := Lib.hid (HRy.out.below (alB Y (.cells #[.int .i64 (-1), .int .i64 (k : Int), .int .i64 f0, .int .i64 f1] 90)))
        have HSr : Hid (Src (Y.alloc (.cells #[.int .i64 (-1), .int .i64 (k : Int), .int .i64 f0, .int .i64 f1] 90)) (some ⟨Y.heap.size, 0, none⟩) 1 4 [.int .i64 (-1), .int .i64 (k : Int), .int .i64 f0, .int .i64 f1]) :=
          Src.block (cs := #[.int .i64 (-1), .int .i64 (k : Int), .int .i64 f0, .int .i64 f1]) (t := 90) (fr := (0, 0)) (heap_alloc_new Y _) rfl (by simp [Value.oneCell'])
        go_wp2_with (at_builtin; go_loud (refine inPlain rfl (wpo_row_append _ _ _ rfl j0 _ 32 Try.underlying24 hj0 hj1 hj2 hj3 rfl rfl HRw.out.rW _ 1 1 rfl [.int .i64 (-1), .int .i64 (k : Int), .int .i64 f0, .int .i64 f1] HSr.out hg63 hg47 ?_)); intro sv5 w7 r5 k5 o5; obtain ⟨V7, cp7, rfl, hc7⟩ := r5.len; have A5 := HRw.out.app (ws2 := [((-1, (k : Int)), (f0, f1))]) k5 o5 r5; obtain ⟨⟨z1, z2⟩, z3⟩ := A5; have HA5 := Lib.hid z3; clear k5 o5 r5 z3)
        go_roundw
        case rel => exact ⟨k + 1, V7, cp7, by go_num, by omega, by rw [HNX.out]; exact HA5⟩
        case measure => simp [intOf]; omega
    · obtain rfl : F.length = k := by omega
      have hwl := faceW_len F F.length
      have hg63 : (faceW F F.length).length + I.length ≤ maxLen := by simp only [maxLen]; omega
      have hg47 : ((faceW F F.length).length + I.length) * 32 ≤ 140737488355328 := by omega
      have HSr := Lib.hid HPr.out.2.2.src
      have HBr : Hid (Below w.heap.size w wr) := HB1.out.trans (HR.out.bl.mono HB1.out.size)
      clear hwl
      go_upto_region 10 with (at_builtin; go_loud (refine inPlain rfl (wpo_row_append _ _ _ rfl j0 _ 32 Try.underlying24 hj0 hj1 hj2 hj3 rfl rfl HR.out.rW _ I.length _ rfl (wrvals I) HSr.out hg63 hg47 ?_)); intro sv5 w7 r5 k5 o5; obtain ⟨V7, cp7, rfl, hc7⟩ := r5.len; have A5 := HR.out.app (ws2 := I) k5 o5 r5; obtain ⟨⟨z1, z2⟩, z3⟩ := A5; have HA5 := Lib.hid z3; clear k5 o5 r5 z3)
      obtain ⟨WS, hWS⟩ : ∃ WS, WS = faceW F F.length ++ I := ⟨_, rfl⟩
      refine absW (fun X => RW w1 w1.heap.size a b V1 cells.length c1 F.length V7 cp7 WS X) (by rw [hWS]; exact HA5.out) ?_
      rw [← hWS] at HTd
      have HWS := Lib.hid hWS
      clear hWS
      rintro X hrx
      have HRX := Lib.hid hrx
      have HBX : Hid (Below w.heap.size w X) := HB1.out.trans (hrx.bl.mono HB1.out.size)
      have HZX := Lib.hid (HZ1.out.below hrx.bl)
      clear hrx HA5 HSr x3 x4 p0 p1 p2 p3 p4 p5 hRl z1 z2
      obtain ⟨p0, p1, p2, p3, p4, p5⟩ := HRX.out.cells
      have hRl := HRX.out.lt
      go_wp2_with (go_at_call 51; go_loud (refine (HTd.out _ V7 cp7 HBX.out HRX.out.rW.wires).mono ?_); rintro e w8 ⟨U1, d1, U2, d2, rfl, hnf⟩
                   have HNF := Lib.hid hnf
                   have HZ8 := Lib.hid (HZX.out.below hnf.1.2.2)
                   obtain ⟨r0, r1, r2, r3, r4, g0, g1, g2, g3, g4⟩ := HZ8.out.all
                   have hrl := HZ8.out.lt
                   clear hnf)
      exact bodyPost_ret (v := .tuple #[ruleV a b U1 d1 cells F.length U2 d2 T, .int .i64 0]) (by simp only [results, Try.results29]; go_simp) rfl ⟨U1, d1, U2, d2, rfl, HNF.out.set5 HBX.out (by omega) HZX.out.lt _ _ _ _ _⟩
end
end Go.Proofs.Ytcebejcdfdahjaa
