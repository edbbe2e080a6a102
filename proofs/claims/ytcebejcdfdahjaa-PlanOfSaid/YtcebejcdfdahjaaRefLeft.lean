/-
  Contract of skeinref15.Left.
-/
import Derived.Test.YtcebejcdfdahjaaRuleLeftC
namespace Go.Proofs.Ytcebejcdfdahjaa
open Go.RowKit
attribute [local go_sem] cell_set
set_option maxRecDepth 100000
set_option linter.unusedVariables false

theorem lb_2 {w1 X : World} {N C : Nat} {ka kb : Int} {f : Int} (hb : Below w1.heap.size w1 X) (hN : X.heap[N]? = some (.cells #[.slice (some ⟨C, 0, none⟩) 2 2, .int .i64 f, .slice none 0 0] 26 (0, 0)))
    (hC : X.heap[C]? = some (.cells #[.int .i64 ka, .int .i64 kb] 3 (0, 0))) (h1 : w1.heap.size ≤ N) (h2 : w1.heap.size ≤ C) (h4 : N ≠ C) : LB w1 N (some ⟨C, 0, none⟩) 2 [ka, kb] f none 0 [] X :=
  ⟨hb, h1, hN, row_ints2 hC, fun b hb => by simp [ownB] at hb; omega, Row.nil _ _ _, fun b hb => by simp [ownB] at hb⟩
section
variable (A : Option Addr) (n cap : Nat) (L : List (ByteArray × Int)) (w : World)
set_option maxHeartbeats 4000000 in
theorem rleft (ka kb na nb : Nat) (M : Nat) (hM : M = na + nb) (hn : n = L.length) (HL : Hid (AgRd w A L)) (hs : SigOk L) (hka : ka < L.length) (hkb : kb < L.length) (hna : agA L ka = na) (hnb : agA L kb = nb)
    (HNT : Hid (∀ Z V1 c1 V2 c2, Below w.heap.size w Z → IntsRd Z V1 [(ka : Int), (kb : Int)] → WrRd Z V2 (leftK na M) → Calls Try.prog 70 #[.slice A L.length cap, netV V1 c1 [(ka : Int), (kb : Int)] (M : Int) V2 c2 (leftK na M)] Z fun e w' => ∃ V3 c3 V4 c4, e = .returned (netV V3 c3 [(ka : Int), (kb : Int)] (M : Int) V4 c4 (tidyW (allPs (pnL L) [(ka : Int), (kb : Int)] M) (leftK na M))) ∧ NetFresh Z w' V3 c3 [(ka : Int), (kb : Int)] V4 c4 (tidyW (allPs (pnL L) [(ka : Int), (kb : Int)] M) (leftK na M)))) :
    Calls Try.prog 48 #[.slice A n cap, .int .i64 ka, .int .i64 kb] w fun e w' => ∃ V3 c3 V4 c4, e = .returned (netV V3 c3 [(ka : Int), (kb : Int)] (M : Int) V4 c4 (tidyW (allPs (pnL L) [(ka : Int), (kb : Int)] M) (leftK na M))) ∧ NetFresh w w' V3 c3 [(ka : Int), (kb : Int)] V4 c4 (tidyW (allPs (pnL L) [(ka : Int), (kb : Int)] M) (leftK na M)) := by
  subst hn
  have hra := hs.ar ka hka
  have hrb := hs.ar kb hkb
  have hll := hs.len
  rw [hna] at hra
  rw [hnb] at hrb
  obtain ⟨j0, hj0, hj1, hj2, hj3⟩ := info_parts wire_info
  obtain ⟨b1, off1, hA1, hb1, _, ea⟩ := HL.out ka hka
  obtain ⟨b2, off2, hA2, hb2, _, eb⟩ := HL.out kb hkb
  subst hA1
  simp only [Option.some.injEq, Addr.mk.injEq, and_true] at hA2
  obtain ⟨rfl, rfl⟩ := hA2
  rw [hna] at ea
  rw [hnb] at eb
  generalize tidyW (allPs (pnL L) [(ka : Int), (kb : Int)] M) (leftK na M) = T at HNT
  have HE := Lib.hid (And.intro ea eb)
  have hbA : Below w.heap.size w (w.alloc (.cells #[.slice none 0 0, .int .i64 0, .slice none 0 0] 26)) := by (repeat (first | exact Below.refl _ _ | (with_reducible refine Below.drew ?_) | (with_reducible refine Below.alloc ?_ (by (try simp); (try omega)) _) | (with_reducible refine Below.setCell ?_ (by (try simp); (try omega)) _) | (with_reducible refine Below.trans ?_ (Below.mono (by assumption) (by (try simp); (try omega))))))
  have hz0 : Hid ((w.alloc (.cells #[.slice none 0 0, .int .i64 0, .slice none 0 0] 26)).heap[w.heap.size]? = some (.cells #[.slice none 0 0, .int .i64 0, .slice none 0 0] 26 (0, 0))) := heap_alloc_new _ _
  clear hs ea eb hna hnb
  have hM12 : M ≤ 12 := by omega
  have hsum : IntKind.i64.wrap ((na : Int) + (nb : Int)) = (M : Int) := by rw [IntWalk.i64_in _ (by omega)]; omega
  have HM := Lib.hid hM
  clear hM
  go_enter Try.func48, Try.ntmps48
  go_upto_region 1 with fail
  refine absW (fun X => Below w.heap.size w X ∧ X.heap[w.heap.size]? = some (.cells #[.slice none 0 0, .int .i64 0, .slice none 0 0] 26 (0, 0))) ⟨hbA, hz0.out⟩ ?_
  rintro w1 ⟨hbw, hqw⟩
  have HB1 := Lib.hid hbw
  have HQ1 := Lib.hid hqw
  clear hbA hz0 hbw hqw
  have da := (HB1.out.cell (p := ⟨b1, off1 + ka * 2 + 1, none⟩) hb1).trans HE.out.1
  have db := (HB1.out.cell (p := ⟨b1, off1 + kb * 2 + 1, none⟩) hb1).trans HE.out.2
  have hzb1 : b1 < w1.heap.size := Nat.lt_of_lt_of_le hb1 HB1.out.size
  have hzb2 : b1 < w1.heap.size + 1 := by omega
  have hzb3 : b1 < w1.heap.size + 1 + 1 := by omega
  have hzb2 : b1 < w1.heap.size + 1 := by omega
  go_cut [7] (fun v wx => ∃ N C, v = .pointer (some ⟨N, 0, none⟩) ∧ LB w1 N (some ⟨C, 0, none⟩) 2 [(ka : Int), (kb : Int)] (M : Int) none 0 [] wx)
  case first =>
    go_region
    all_goals
      go_wp2_with fail
      go_meet
      case rel =>
        refine ⟨_, _, rfl, lb_2 (by (repeat (first | exact Below.refl _ _ | (with_reducible refine Below.drew ?_) | (with_reducible refine Below.alloc ?_ (by (try simp); (try omega)) _) | (with_reducible refine Below.setCell ?_ (by (try simp); (try omega)) _) | (with_reducible refine Below.trans ?_ (Below.mono (by assumption) (by (try simp); (try omega))))))) (by first | exact (heap2 _ _ _).1 | exact (heap2 _ _ _).2) (by first | exact (heap2 _ _ _).1 | exact (heap2 _ _ _).2) (by omega) (by omega) (by omega)⟩
  case rest =>
    obtain ⟨N, C, rfl, hlb⟩ := hcut
    obtain ⟨_, _, n2, n3⟩ := hlb.cells
    have HLB := Lib.hid hlb
    have HRw : Hid (LB w1 N (some ⟨C, 0, none⟩) 2 [(ka : Int), (kb : Int)] (M : Int) none 0 [] (wc.alloc (.cells #[.int .i64 0, .int .i64 0, .int .i64 1, .int .i64 0] 90))) := hlb.below ((Below.refl _ _).alloc (Nat.le_refl _) _)
    have HSr : Hid (Src (wc.alloc (.cells #[.int .i64 0, .int .i64 0, .int .i64 1, .int .i64 0] 90)) (some ⟨wc.heap.size, 0, none⟩) 1 4 [.int .i64 0, .int .i64 0, .int .i64 1, .int .i64 0]) :=
      Src.block (cs := #[.int .i64 0, .int .i64 0, .int .i64 1, .int .i64 0]) (t := 90) (fr := (0, 0)) (heap_alloc_new wc _) rfl (by simp [Value.oneCell'])
    have hg63 : ([] : List (Pt × Pt)).length + 1 ≤ maxLen := by simp [maxLen]
    have hg47 : (([] : List (Pt × Pt)).length + 1) * 32 ≤ 140737488355328 := by simp
    have hNl := hlb.lt
    clear hlb da db
    go_upto_region 3 with (at_builtin; go_loud (refine inPlain rfl (wpo_row_append _ _ _ rfl j0 _ 32 Try.underlying24 hj0 hj1 hj2 hj3 rfl rfl HRw.out.rw _ 1 1 rfl [.int .i64 0, .int .i64 0, .int .i64 1, .int .i64 0] HSr.out hg63 hg47 ?_)); intro sv5 w7 r5 k5 o5; obtain ⟨V5, cp5, rfl, hc5⟩ := r5.len; have A5 := HRw.out.app (p := (0, 0)) (q := (1, 0)) k5 o5 r5; obtain ⟨⟨z1, z2⟩, z3⟩ := A5; have HA5 := Lib.hid z3; clear k5 o5 r5 z3)
    refine absW (fun X => LB w1 N (some ⟨C, 0, none⟩) 2 [(ka : Int), (kb : Int)] (M : Int) V5 cp5 (leftK na 0) X) HA5.out ?_
    rintro X hlx
    have HLX := Lib.hid hlx
    clear hlx HA5 HRw HSr HLB n2 n3 z1 z2 hNl
    go_wp2_with fail
    go_loopw [8, 9] (fun i _ wr => ∃ k : Nat, i = .int .i64 k ∧ k ≤ M ∧ ∃ V2 c2, Hid (LB w1 N (some ⟨C, 0, none⟩) 2 [(ka : Int), (kb : Int)] (M : Int) V2 c2 (leftK na k) wr)) (fun i _ _ => M - (intOf i).toNat)
    case atStart => exact ⟨0, rfl, by omega, _, _, HLX⟩
    case round =>
      obtain ⟨k, rfl, hk, V2, c2, HR⟩ := hrel
      clear HLX
      have HBr : Hid (Below w.heap.size w wr) := HB1.out.trans (HR.out.bl.mono HB1.out.size)
      have HQr : Hid (wr.heap[w.heap.size]? = some (.cells #[.slice none 0 0, .int .i64 0, .slice none 0 0] 26 (0, 0))) := (HR.out.bl.block _ (heap_lt HQ1.out)).trans HQ1.out
      by_cases hlt : k < M
      · have da := (HBr.out.cell (p := ⟨b1, off1 + ka * 2 + 1, none⟩) hb1).trans HE.out.1
        have hbr1 : b1 < wr.heap.size := Nat.lt_of_lt_of_le hb1 HBr.out.size
        obtain ⟨n0, n1, n2, n3⟩ := HR.out.cells
        have hNr := HR.out.lt
        have hlen := leftK_len na k
        have HSn := Lib.hid (leftK_succ na k)
        obtain ⟨p, hp⟩ : ∃ p, p = leftP na k := ⟨_, rfl⟩
        rw [← hp] at HSn
        have HP := Lib.hid hp
        clear hp
        generalize leftK na k = ws at *
        have hg63 : ws.length + 1 ≤ maxLen := by simp only [maxLen]; omega
        have hg47 : (ws.length + 1) * 32 ≤ 140737488355328 := by omega
        have HLen := Lib.hid hlen
        clear hlen
        have w1k : IntKind.i64.wrap ((k : Int) + 1) = (k : Int) + 1 := IntWalk.i64_in _ (by omega)

        by_cases hka2 : k < na
        · have HP2 : Hid (p = (0, ((k + 1 : Nat) : Int))) := by have := HP.out; unfold leftP at this; rw [if_pos hka2] at this; exact this
          go_upto_region 9 with fail
          refine absW (fun X => Below wr.heap.size wr X ∧ wr.heap.size < X.heap.size ∧ X.cell? ⟨wr.heap.size, 0, none⟩ = some (.int .i64 p.1) ∧ X.cell? ⟨wr.heap.size, 1, none⟩ = some (.int .i64 p.2)) ⟨by (repeat (first | exact Below.refl _ _ | (with_reducible refine Below.drew ?_) | (with_reducible refine Below.alloc ?_ (by (try simp); (try omega)) _) | (with_reducible refine Below.setCell ?_ (by (try simp); (try omega)) _) | (with_reducible refine Below.trans ?_ (Below.mono (by assumption) (by (try simp); (try omega)))))), by simp, by rw [HP2.out]; go_simp, by rw [HP2.out]; go_simp⟩ ?_
          rintro X ⟨hbx, hzx, x0, x1⟩
          have HRx := Lib.hid (HR.out.below hbx)
          clear n0 n1 n2 n3 da hbx
          obtain ⟨_, _, n2, n3⟩ := HRx.out.cells
          have hNx := HRx.out.lt
          have HRw : Hid (LB w1 N (some ⟨C, 0, none⟩) 2 [(ka : Int), (kb : Int)] (M : Int) V2 c2 ws (X.alloc (.cells #[.int .i64 (-1), .int .i64 (k : Int), .int .i64 p.1, .int .i64 p.2] 90))) := HRx.out.below ((Below.refl _ _).alloc (Nat.le_refl _) _)
          have HSr : Hid (Src (X.alloc (.cells #[.int .i64 (-1), .int .i64 (k : Int), .int .i64 p.1, .int .i64 p.2] 90)) (some ⟨X.heap.size, 0, none⟩) 1 4 [.int .i64 (-1), .int .i64 (k : Int), .int .i64 p.1, .int .i64 p.2]) :=
            Src.block (cs := #[.int .i64 (-1), .int .i64 (k : Int), .int .i64 p.1, .int .i64 p.2]) (t := 90) (fr := (0, 0)) (heap_alloc_new X _) rfl (by simp [Value.oneCell'])
          go_wp2_with (at_builtin; go_loud (refine inPlain rfl (wpo_row_append _ _ _ rfl j0 _ 32 Try.underlying24 hj0 hj1 hj2 hj3 rfl rfl HRw.out.rw _ 1 1 rfl [.int .i64 (-1), .int .i64 (k : Int), .int .i64 p.1, .int .i64 p.2] HSr.out hg63 hg47 ?_)); intro sv5 w7 r5 k5 o5; obtain ⟨V5, cp5, rfl, hc5⟩ := r5.len; have A5 := HRw.out.app (p := (-1, (k : Int))) (q := p) k5 o5 r5; obtain ⟨⟨z1, z2⟩, z3⟩ := A5; have HA5 := Lib.hid z3; clear k5 o5 r5 z3)
          go_roundw
          case rel => exact ⟨k + 1, by go_num, by omega, V5, cp5, by rw [HSn.out]; exact HA5⟩
          case measure => simp [intOf]; omega
        · have HP2 : Hid (p = (1, ((k + 1 - na : Nat) : Int))) := by have := HP.out; unfold leftP at this; rw [if_neg hka2] at this; exact this
          have w2k : IntKind.i64.wrap ((k : Int) + 1 - (na : Int)) = ((k + 1 - na : Nat) : Int) := by rw [IntWalk.i64_in _ (by omega)]; omega
          go_upto_region 9 with fail
          refine absW (fun X => Below wr.heap.size wr X ∧ wr.heap.size < X.heap.size ∧ X.cell? ⟨wr.heap.size, 0, none⟩ = some (.int .i64 p.1) ∧ X.cell? ⟨wr.heap.size, 1, none⟩ = some (.int .i64 p.2)) ⟨by (repeat (first | exact Below.refl _ _ | (with_reducible refine Below.drew ?_) | (with_reducible refine Below.alloc ?_ (by (try simp); (try omega)) _) | (with_reducible refine Below.setCell ?_ (by (try simp); (try omega)) _) | (with_reducible refine Below.trans ?_ (Below.mono (by assumption) (by (try simp); (try omega)))))), by simp, by rw [HP2.out]; go_simp, by rw [HP2.out]; go_simp⟩ ?_
          rintro X ⟨hbx, hzx, x0, x1⟩
          have HRx := Lib.hid (HR.out.below hbx)
          clear n0 n1 n2 n3 da hbx
          obtain ⟨_, _, n2, n3⟩ := HRx.out.cells
          have hNx := HRx.out.lt
          have HRw : Hid (LB w1 N (some ⟨C, 0, none⟩) 2 [(ka : Int), (kb : Int)] (M : Int) V2 c2 ws (X.alloc (.cells #[.int .i64 (-1), .int .i64 (k : Int), .int .i64 p.1, .int .i64 p.2] 90))) := HRx.out.below ((Below.refl _ _).alloc (Nat.le_refl _) _)
          have HSr : Hid (Src (X.alloc (.cells #[.int .i64 (-1), .int .i64 (k : Int), .int .i64 p.1, .int .i64 p.2] 90)) (some ⟨X.heap.size, 0, none⟩) 1 4 [.int .i64 (-1), .int .i64 (k : Int), .int .i64 p.1, .int .i64 p.2]) :=
            Src.block (cs := #[.int .i64 (-1), .int .i64 (k : Int), .int .i64 p.1, .int .i64 p.2]) (t := 90) (fr := (0, 0)) (heap_alloc_new X _) rfl (by simp [Value.oneCell'])
          go_wp2_with (at_builtin; go_loud (refine inPlain rfl (wpo_row_append _ _ _ rfl j0 _ 32 Try.underlying24 hj0 hj1 hj2 hj3 rfl rfl HRw.out.rw _ 1 1 rfl [.int .i64 (-1), .int .i64 (k : Int), .int .i64 p.1, .int .i64 p.2] HSr.out hg63 hg47 ?_)); intro sv5 w7 r5 k5 o5; obtain ⟨V5, cp5, rfl, hc5⟩ := r5.len; have A5 := HRw.out.app (p := (-1, (k : Int))) (q := p) k5 o5 r5; obtain ⟨⟨z1, z2⟩, z3⟩ := A5; have HA5 := Lib.hid z3; clear k5 o5 r5 z3)
          go_roundw
          case rel => exact ⟨k + 1, by go_num, by omega, V5, cp5, by rw [HSn.out]; exact HA5⟩
          case measure => simp [intOf]; omega
      · obtain rfl : M = k := by omega
        obtain ⟨n0, n1, n2, n3⟩ := HR.out.cells
        have HI := Lib.hid (And.intro HR.out.rc.ints HR.out.rw.wires)
        clear HQ1
        go_wp2_with (go_at_call 70; go_loud (refine (HNT.out _ (some ⟨C, 0, none⟩) 2 V2 c2 HBr.out HI.out.1 HI.out.2).mono ?_); rintro e w2 ⟨V3, c3, V4, c4, rfl, hnf⟩
                     have hb2' := hnf.1.2.2
                     have hq := (hb2'.block _ (heap_lt HQr.out)).trans HQr.out
                     have q0 : w2.cell? ⟨w.heap.size, 0, none⟩ = some (.slice none 0 0) := by simp [World.cell?, hq]
                     have q1 : w2.cell? ⟨w.heap.size, 1, none⟩ = some (.int .i64 0) := by simp [World.cell?, hq]
                     have q2 : w2.cell? ⟨w.heap.size, 2, none⟩ = some (.slice none 0 0) := by simp [World.cell?, hq]
                     have q3 : w2.frozen? ⟨w.heap.size, 0, none⟩ = false := by simp [World.frozen?, hq]
                     have q4 : w2.frozen? ⟨w.heap.size, 1, none⟩ = false := by simp [World.frozen?, hq]
                     have q5 : w2.frozen? ⟨w.heap.size, 2, none⟩ = false := by simp [World.frozen?, hq]
                     have HNF := Lib.hid hnf
                     clear hb2' hnf hq)
        exact bodyPost_ret (v := netV V3 c3 [(ka : Int), (kb : Int)] (M : Int) V4 c4 T) (by simp only [results, Try.results48]; go_simp) rfl ⟨V3, c3, V4, c4, rfl, HNF.out.set3 (b := w.heap.size) HBr.out (by omega) (heap_lt HQr.out) _ _ _⟩
end
end Go.Proofs.Ytcebejcdfdahjaa
