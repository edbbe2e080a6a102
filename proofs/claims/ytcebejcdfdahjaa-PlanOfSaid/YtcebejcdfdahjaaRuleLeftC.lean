/-
  Contracts of rule.Left, skeinref15.Left.
-/
import Derived.Test.YtcebejcdfdahjaaRuleOps
import Derived.Deep.DeepCutAuto
import Derived.Deep.RegionLaw
namespace Go.Proofs.Ytcebejcdfdahjaa
open Go.RowKit
attribute [local go_sem] cell_set
set_option maxRecDepth 100000
set_option linter.unusedVariables false

theorem when_port (c : Bool) (x0 x1 y0 y1 : Int) (p : Pt) (w : World) (h : (if c then (x0, x1) else (y0, y1)) = p) : Calls Try.prog 90 #[.bool c, .agg #[.int .i64 x0, .int .i64 x1], .agg #[.int .i64 y0, .int .i64 y1]] w fun e w' => e = .returned (.agg #[.int .i64 p.1, .int .i64 p.2]) ∧ Below w.heap.size w w' := by
  cases c
  · simp at h
    subst h
    go_enter Try.func90, Try.ntmps90
    go_wp2
    exact bodyPost_ret (v := .agg #[.int .i64 y0, .int .i64 y1]) (by simp only [results, Try.results90]; go_simp) rfl ⟨rfl, by (repeat (first | exact Below.refl _ _ | (with_reducible refine Below.drew ?_) | (with_reducible refine Below.alloc ?_ (by (try simp); (try omega)) _) | (with_reducible refine Below.setCell ?_ (by (try simp); (try omega)) _) | (with_reducible refine Below.trans ?_ (Below.mono (by assumption) (by (try simp); (try omega))))))⟩
  · simp at h
    subst h
    go_enter Try.func90, Try.ntmps90
    go_wp2
    exact bodyPost_ret (v := .agg #[.int .i64 x0, .int .i64 x1]) (by simp only [results, Try.results90]; go_simp) rfl ⟨rfl, by (repeat (first | exact Below.refl _ _ | (with_reducible refine Below.drew ?_) | (with_reducible refine Below.alloc ?_ (by (try simp); (try omega)) _) | (with_reducible refine Below.setCell ?_ (by (try simp); (try omega)) _) | (with_reducible refine Below.trans ?_ (Below.mono (by assumption) (by (try simp); (try omega))))))⟩
/-- A net in a box, its lists in memory of the call's own. -/
structure LB (w1 : World) (N : Nat) (V1 : Option Addr) (c1 : Nat) (cs : List Int) (f : Int) (V2 : Option Addr) (c2 : Nat) (ws : List (Pt × Pt)) (X : World) : Prop where
  bl : Below w1.heap.size w1 X
  hN : w1.heap.size ≤ N
  hh : X.heap[N]? = some (.cells #[.slice V1 cs.length c1, .int .i64 f, .slice V2 ws.length c2] 26 (0, 0))
  rc : Row X 3 1 (.slice V1 cs.length c1) cs.length (ivals cs)
  oc : ∀ b ∈ ownB (.slice V1 cs.length c1), w1.heap.size ≤ b ∧ b ≠ N
  rw : Row X 90 4 (.slice V2 ws.length c2) ws.length (wrvals ws)
  ow : ∀ b ∈ ownB (.slice V2 ws.length c2), w1.heap.size ≤ b ∧ b ≠ N ∧ b ∉ ownB (.slice V1 cs.length c1)
theorem inDrawCall {P : Program} {w : World} {ops : Array Oper} {o : Oper} {a : Act} {K' : Act → World → Prop} {Q : Exit → Act → World → Prop} {E : Prop} (hgd : o.guard = none) {f : FuncId} {args : Array Value}
    (hop : (execOp a.eval o).run P w = .ok (.enter f args) w) {R : Ending → World → Prop} (hc : Calls P f args w R) (hk : ∀ e v, R e v → ∃ x, e = .returned x ∧ K' (a.put o.dst x) v) : if Region.wanted o (yielded ops a.tmps) = true then Oper.wp P o a w K' Q else E := by
  rw [if_pos (by simp [Region.wanted, hgd])]
  unfold Oper.wp
  rw [hop, Oper.upon_enter]
  refine hc.mono fun e v h => ?_
  obtain ⟨x, rfl, hk⟩ := hk e v h
  exact hk
section
variable {w1 : World} {N : Nat} {V1 : Option Addr} {c1 : Nat} {cs : List Int} {f : Int} {V2 : Option Addr} {c2 : Nat} {ws : List (Pt × Pt)} {X X' : World}
theorem LB.lt (h : LB w1 N V1 c1 cs f V2 c2 ws X) : N < X.heap.size := heap_lt h.hh
theorem LB.below (h : LB w1 N V1 c1 cs f V2 c2 ws X) (hb : Below X.heap.size X X') : LB w1 N V1 c1 cs f V2 c2 ws X' :=
  ⟨h.bl.trans (hb.mono h.bl.size), h.hN, (hb.block _ h.lt).trans h.hh, h.rc.keep fun b hb2 => hb.block b (h.rc.lt b hb2), h.oc, h.rw.keep fun b hb2 => hb.block b (h.rw.lt b hb2), h.ow⟩
theorem LB.cells (h : LB w1 N V1 c1 cs f V2 c2 ws X) : X.cell? ⟨N, 0, none⟩ = some (.slice V1 cs.length c1) ∧ X.cell? ⟨N, 1, none⟩ = some (.int .i64 f) ∧ X.cell? ⟨N, 2, none⟩ = some (.slice V2 ws.length c2) ∧ X.frozen? ⟨N, 2, none⟩ = false := by
  have hh := h.hh
  simp [World.cell?, World.frozen?, hh]
theorem LB.app (h : LB w1 N V1 c1 cs f V2 c2 ws X) {V5 : Option Addr} {c5 : Nat} {w5 : World} {p q : Pt}
    (k5 : Kp (ownB (.slice V2 ws.length c2)) X w5) (o5 : ownB (.slice V5 (ws.length + 1) c5) = ownB (.slice V2 ws.length c2) ∨ ownB (.slice V5 (ws.length + 1) c5) = [X.heap.size])
    (r5 : Row w5 90 4 (.slice V5 (ws.length + 1) c5) (ws.length + 1) (wrvals ws ++ [.int .i64 p.1, .int .i64 p.2, .int .i64 q.1, .int .i64 q.2])) :
    (w5.cell? ⟨N, 2, none⟩ = some (.slice V2 ws.length c2) ∧ w5.frozen? ⟨N, 2, none⟩ = false) ∧ LB w1 N V1 c1 cs f V5 c5 (ws ++ [(p, q)]) (w5.setCell ⟨N, 2, none⟩ (.slice V5 (ws.length + 1) c5)) := by
  have hn : N ∉ ownB (.slice V2 ws.length c2) := fun hb => (h.ow _ hb).2.1 rfl
  have e3 : w5.heap[N]? = some (.cells #[.slice V1 cs.length c1, .int .i64 f, .slice V2 ws.length c2] 26 (0, 0)) := (k5.block N h.lt hn).trans h.hh
  have hz := h.bl.size
  have h5 : ∀ b ∈ ownB (.slice V5 (ws.length + 1) c5), w1.heap.size ≤ b ∧ b ≠ N ∧ b ∉ ownB (.slice V1 cs.length c1) := fun b hb => by
    rcases o5 with e | e
    · exact h.ow b (e ▸ hb)
    · rw [e] at hb; simp at hb; subst hb
      exact ⟨hz, fun e => absurd h.lt (by rw [← e]; omega), fun hb => absurd (h.rc.lt _ hb) (by omega)⟩
  have hl : (ws ++ [(p, q)]).length = ws.length + 1 := by simp
  refine ⟨⟨by simp [World.cell?, e3], by simp [World.frozen?, e3]⟩, ?_, h.hN, ?_, ?_, h.oc, ?_, ?_⟩
  · exact (h.bl.trans (k5.below hz (fun b hb => (h.ow b hb).1))).setCell (p := ⟨N, 2, none⟩) h.hN _
  · rw [hl]; simp [World.setCell, Array.getElem?_modify, e3]
  · exact h.rc.keep fun b hb => (Below.heap_setCell w5 _ _ b (h.oc b hb).2).trans (k5.block b (h.rc.lt b hb) (fun hb2 => (h.ow b hb2).2.2 hb))
  · rw [wrvals_snoc, hl]
    exact r5.keep fun b hb => Below.heap_setCell w5 _ _ b (h5 b hb).2.1
  · rw [hl]; exact h5
end
theorem LB.app_keep {w1 : World} {N : Nat} {V1 : Option Addr} {c1 : Nat} {cs : List Int} {f : Int} {V2 : Option Addr} {c2 : Nat} {ws : List (Pt × Pt)} {X : World} (h : LB w1 N V1 c1 cs f V2 c2 ws X) {w5 : World} (k5 : Kp (ownB (.slice V2 ws.length c2)) X w5) {b o : Nat} (hb : b < w1.heap.size) : w5.cell? ⟨b, o, none⟩ = X.cell? ⟨b, o, none⟩ :=
  k5.cell (p := ⟨b, o, none⟩) (Nat.lt_of_lt_of_le hb h.bl.size) (fun hb2 => by have := (h.ow _ hb2).1; simp only at this; omega)
theorem leftP_if (k na : Nat) : (if decide (k < na) = true then ((0 : Int), (k : Int) + 1) else (1, (k : Int) + 1 - (na : Int))) = leftP na k := by
  unfold leftP
  by_cases h : k < na
  · simp [h]
  · simp [h]; omega
theorem NetFresh.of_ends {w w' : World} {V1 V2 : Option Addr} {c1 c2 : Nat} {cells : List Int} {W : List (Pt × Pt)} (h : NetFresh w w' V1 c1 cells V2 c2 W) : IntsRd w' V1 cells ∧ WrRd w' V2 W := ⟨h.1.1.ints, h.2.1.wires⟩
theorem heap2 (w : World) (a b : Obj) : ((w.alloc a).alloc b).heap[w.heap.size]? = some a ∧ ((w.alloc a).alloc b).heap[w.heap.size + 1]? = some b := by
  have e2 := heap_alloc_new (w.alloc a) b
  simp only [World.size_alloc] at e2
  exact ⟨(Below.heap_alloc _ _ _ (by simp <;> omega)).trans (heap_alloc_new w a), e2⟩
theorem heap3 (w : World) (a b c : Obj) : (((w.alloc a).alloc b).alloc c).heap[w.heap.size]? = some a ∧ (((w.alloc a).alloc b).alloc c).heap[w.heap.size + 1]? = some b ∧ (((w.alloc a).alloc b).alloc c).heap[w.heap.size + 2]? = some c := by
  have e2 := heap2 w a b
  have e3 := heap_alloc_new ((w.alloc a).alloc b) c
  simp only [World.size_alloc, Nat.add_assoc, Nat.reduceAdd] at e3
  exact ⟨(Below.heap_alloc _ _ _ (by simp <;> omega)).trans e2.1, (Below.heap_alloc _ _ _ (by simp <;> omega)).trans e2.2, e3⟩
theorem row_ints2 {X : World} {C : Nat} {x y : Int} (h : X.heap[C]? = some (.cells #[.int .i64 x, .int .i64 y] 3 (0, 0))) : Row X 3 1 (.slice (some ⟨C, 0, none⟩) 2 2) 2 (ivals [x, y]) :=
  ⟨by simp [ivals], .inr ⟨C, 2, _, rfl, h, Nat.le_refl _, by unfold maxLen; omega, by simp, by simp [ivals]⟩⟩
theorem row_wire1 {X : World} {S : Nat} {a b : Pt} (h : X.heap[S]? = some (.cells #[.int .i64 a.1, .int .i64 a.2, .int .i64 b.1, .int .i64 b.2] 90 (0, 0))) : Row X 90 4 (.slice (some ⟨S, 0, none⟩) 1 1) 1 (wrvals [(a, b)]) :=
  ⟨by simp [wrvals], .inr ⟨S, 1, _, rfl, h, Nat.le_refl _, by unfold maxLen; omega, by simp, by simp [wrvals]⟩⟩
theorem lb_3 {w1 X : World} {N C S : Nat} {ka kb : Int} {f : Int} (hb : Below w1.heap.size w1 X) (hN : X.heap[N]? = some (.cells #[.slice (some ⟨C, 0, none⟩) 2 2, .int .i64 f, .slice (some ⟨S, 0, none⟩) 1 1] 26 (0, 0)))
    (hC : X.heap[C]? = some (.cells #[.int .i64 ka, .int .i64 kb] 3 (0, 0))) (hS : X.heap[S]? = some (.cells #[.int .i64 0, .int .i64 0, .int .i64 1, .int .i64 0] 90 (0, 0)))
    (h1 : w1.heap.size ≤ N) (h2 : w1.heap.size ≤ C) (h3 : w1.heap.size ≤ S) (h4 : N ≠ C) (h5 : N ≠ S) (h6 : C ≠ S) (na : Nat) : LB w1 N (some ⟨C, 0, none⟩) 2 [ka, kb] f (some ⟨S, 0, none⟩) 1 (leftK na 0) X :=
  ⟨hb, h1, hN, row_ints2 hC, fun b hb => by simp [ownB] at hb; omega, row_wire1 (a := (0, 0)) (b := (1, 0)) hS, fun b hb => by simp [ownB] at hb; simp [ownB]; omega⟩
section
variable (A : Option Addr) (n cap : Nat) (L : List (ByteArray × Int)) (w : World)
set_option maxHeartbeats 4000000 in
theorem rule_left_ok (ka kb na nb : Nat) (M : Nat) (hM : M = na + nb) (hn : n = L.length) (hcap : L.length ≤ cap) (HL : Hid (AgRd w A L)) (hl : L.length ≤ maxLen) (hk : (chk L).1 = 0) (hka : ka < L.length) (hkb : kb < L.length) (hna : agA L ka = na) (hnb : agA L kb = nb)
    (HNT : Hid (∀ Z V1 c1 V2 c2, Below w.heap.size w Z → IntsRd Z V1 [(ka : Int), (kb : Int)] → WrRd Z V2 (leftK na M) → Calls Try.prog 54 #[.slice A L.length cap, netV V1 c1 [(ka : Int), (kb : Int)] (M : Int) V2 c2 (leftK na M)] Z fun e w' => ∃ V3 c3 V4 c4, e = .returned (.tuple #[netV V3 c3 [(ka : Int), (kb : Int)] (M : Int) V4 c4 (tidyW (allPs (pnL L) [(ka : Int), (kb : Int)] M) (leftK na M)), .int .i64 0]) ∧ NetFresh Z w' V3 c3 [(ka : Int), (kb : Int)] V4 c4 (tidyW (allPs (pnL L) [(ka : Int), (kb : Int)] M) (leftK na M)))) :
    Calls Try.prog 46 #[.slice A n cap, .int .i64 ka, .int .i64 kb] w fun e w' => ∃ V3 c3 V4 c4, e = .returned (.tuple #[netV V3 c3 [(ka : Int), (kb : Int)] (M : Int) V4 c4 (tidyW (allPs (pnL L) [(ka : Int), (kb : Int)] M) (leftK na M)), .int .i64 0]) ∧ NetFresh w w' V3 c3 [(ka : Int), (kb : Int)] V4 c4 (tidyW (allPs (pnL L) [(ka : Int), (kb : Int)] M) (leftK na M)) := by
  subst hn
  have hs := chk_sig hk
  have hra := hs.ar ka hka
  have hrb := hs.ar kb hkb
  have hll := hs.len
  rw [hna] at hra
  rw [hnb] at hrb
  obtain ⟨j0, hj0, hj1, hj2, hj3⟩ := info_parts wire_info
  obtain ⟨b1, off1, hA1, hb1, _, ea⟩ := HL.out ka hka
  obtain ⟨b2, off2, hA2, hb2, _, eb⟩ := HL.out kb hkb
  subst hA1
  simp only [Option.some.injEq, Addr.mk.injEq, and_true] at hA2
  obtain ⟨rfl, rfl⟩ := hA2
  rw [hna] at ea
  rw [hnb] at eb
  generalize tidyW (allPs (pnL L) [(ka : Int), (kb : Int)] M) (leftK na M) = T at HNT
  have HE := Lib.hid (And.intro ea eb)
  have HK := Lib.hid hk
  have hbA : Below w.heap.size w (w.alloc (.cells #[.slice none 0 0, .int .i64 0, .slice none 0 0] 26)) := by (repeat (first | exact Below.refl _ _ | (with_reducible refine Below.drew ?_) | (with_reducible refine Below.alloc ?_ (by (try simp); (try omega)) _) | (with_reducible refine Below.setCell ?_ (by (try simp); (try omega)) _) | (with_reducible refine Below.trans ?_ (Below.mono (by assumption) (by (try simp); (try omega))))))
  have hz0 : Hid ((w.alloc (.cells #[.slice none 0 0, .int .i64 0, .slice none 0 0] 26)).heap[w.heap.size]? = some (.cells #[.slice none 0 0, .int .i64 0, .slice none 0 0] 26 (0, 0))) := heap_alloc_new _ _
  clear hk hs ea eb hna hnb
  have hM12 : M ≤ 12 := by omega
  have hsum : IntKind.i64.wrap ((na : Int) + (nb : Int)) = (M : Int) := by rw [IntWalk.i64_in _ (by omega)]; omega
  have HM := Lib.hid hM
  clear hM
  go_enter Try.func46, Try.ntmps46
  go_upto_region 6 with (go_at_call 89; refine (check_any _ _ cap L _ rfl hl hcap (Lib.hid (HL.out.below hbA))).mono ?_; rintro e w1 ⟨rfl, hb1'⟩; rw [HK.out]
                         have HB1 : Hid (Below w.heap.size w w1) := hbA.trans (hb1'.mono (by simp <;> omega))
                         have HQ1 : Hid (w1.heap[w.heap.size]? = some (.cells #[.slice none 0 0, .int .i64 0, .slice none 0 0] 26 (0, 0))) := (hb1'.block _ (by simp)).trans hz0.out
                         clear hb1')
  have da := (HB1.out.cell (p := ⟨b1, off1 + ka * 2 + 1, none⟩) hb1).trans HE.out.1
  have db := (HB1.out.cell (p := ⟨b1, off1 + kb * 2 + 1, none⟩) hb1).trans HE.out.2
  have hzb1 : b1 < w1.heap.size := Nat.lt_of_lt_of_le hb1 HB1.out.size
  have hzb2 : b1 < w1.heap.size + 1 := by omega
  have hzb3 : b1 < w1.heap.size + 1 + 1 := by omega
  have hzb4 : b1 < w1.heap.size + 2 := by omega
  go_cut [10] (fun v wx => ∃ N C S, v = .pointer (some ⟨N, 0, none⟩) ∧ LB w1 N (some ⟨C, 0, none⟩) 2 [(ka : Int), (kb : Int)] (M : Int) (some ⟨S, 0, none⟩) 1 (leftK na 0) wx)
  case first =>
    go_region
    all_goals
      go_wp2_with fail
      go_meet
      case rel =>
        refine ⟨_, _, _, rfl, lb_3 (by (repeat (first | exact Below.refl _ _ | (with_reducible refine Below.drew ?_) | (with_reducible refine Below.alloc ?_ (by (try simp); (try omega)) _) | (with_reducible refine Below.setCell ?_ (by (try simp); (try omega)) _) | (with_reducible refine Below.trans ?_ (Below.mono (by assumption) (by (try simp); (try omega))))))) (by first | exact (heap3 _ _ _ _).1 | exact (heap3 _ _ _ _).2.1 | exact (heap3 _ _ _ _).2.2) (by first | exact (heap3 _ _ _ _).1 | exact (heap3 _ _ _ _).2.1 | exact (heap3 _ _ _ _).2.2) (by first | exact (heap3 _ _ _ _).1 | exact (heap3 _ _ _ _).2.1 | exact (heap3 _ _ _ _).2.2) (by omega) (by omega) (by omega) (by omega) (by omega) (by omega) na⟩
  case rest =>
    obtain ⟨N, C, S, rfl, hlb⟩ := hcut
    have hN := hlb.hN
    have n1 := hlb.cells.2.1
    have HLB := Lib.hid hlb
    clear hlb hbA hz0 da db
    go_wp2_with fail
    clear n1
    go_loopw [11, 61] (fun _ i wr => ∃ k : Nat, i = .int .i64 k ∧ k ≤ M ∧ ∃ V2 c2, Hid (LB w1 N (some ⟨C, 0, none⟩) 2 [(ka : Int), (kb : Int)] (M : Int) V2 c2 (leftK na k) wr)) (fun _ i _ => M - (intOf i).toNat)
    case atStart => exact ⟨0, rfl, by omega, _, _, HLB⟩
    case round =>
      obtain ⟨k, rfl, hk, V2, c2, HR⟩ := hrel
      clear HLB
      have HBr : Hid (Below w.heap.size w wr) := HB1.out.trans (HR.out.bl.mono HB1.out.size)
      have HQr : Hid (wr.heap[w.heap.size]? = some (.cells #[.slice none 0 0, .int .i64 0, .slice none 0 0] 26 (0, 0))) := (HR.out.bl.block _ (heap_lt HQ1.out)).trans HQ1.out
      by_cases hlt : k < M
      · have da := (HBr.out.cell (p := ⟨b1, off1 + ka * 2 + 1, none⟩) hb1).trans HE.out.1
        have hbr1 : b1 < wr.heap.size := Nat.lt_of_lt_of_le hb1 HBr.out.size
        obtain ⟨_, _, n2, n3⟩ := HR.out.cells
        have hNr := HR.out.lt
        have hlen := leftK_len na k
        have HSn := Lib.hid (leftK_succ na k)
        obtain ⟨p, hp⟩ : ∃ p, p = leftP na k := ⟨_, rfl⟩
        rw [← hp] at HSn
        have HP := Lib.hid hp
        clear hp
        generalize leftK na k = ws at *
        have hg63 : ws.length + 1 ≤ maxLen := by simp only [maxLen]; omega
        have hg47 : (ws.length + 1) * 32 ≤ 140737488355328 := by omega
        have HLen := Lib.hid hlen
        clear hlen
        go_wp2_with fail
        have HPI : Hid ((if decide (k < na) = true then ((0 : Int), IntKind.i64.wrap ((k : Int) + 1)) else (1, IntKind.i64.wrap (IntKind.i64.wrap ((k : Int) + 1) - (na : Int)))) = p) := by
          rw [HP.out, IntWalk.i64_in ((k : Int) + 1) (by omega), IntWalk.i64_in ((k : Int) + 1 - (na : Int)) (by omega)]
          exact leftP_if k na
        go_region_law
          (first
            | (refine inDraw (by rfl) ?_
               unfold Oper.wp
               go_simp
               go_at_call 90
               go_loud (refine (when_port _ _ _ _ _ p _ HPI.out).mono ?_)
               go_loud (rintro e w6 ⟨rfl, hb6⟩)
               go_loud (dsimp only)
               have hb6' := (Below.refl _ wr).drew.trans hb6
               have hbr6 : b1 < w6.heap.size := Nat.lt_of_lt_of_le hbr1 hb6'.size
               have HR6 := Lib.hid (HR.out.below hb6')
               obtain ⟨_, _, m2, m3⟩ := HR6.out.cells
               have hN6 := HR6.out.lt
               have HRw : Hid (LB w1 N (some ⟨C, 0, none⟩) 2 [(ka : Int), (kb : Int)] (M : Int) V2 c2 ws (w6.alloc (.cells #[.int .i64 (-1), .int .i64 (k : Int), .int .i64 p.1, .int .i64 p.2] 90))) := HR6.out.below ((Below.refl _ _).alloc (Nat.le_refl _) _)
               have HSr : Hid (Src (w6.alloc (.cells #[.int .i64 (-1), .int .i64 (k : Int), .int .i64 p.1, .int .i64 p.2] 90)) (some ⟨w6.heap.size, 0, none⟩) 1 4 [.int .i64 (-1), .int .i64 (k : Int), .int .i64 p.1, .int .i64 p.2]) :=
                 Src.block (cs := #[.int .i64 (-1), .int .i64 (k : Int), .int .i64 p.1, .int .i64 p.2]) (t := 90) (fr := (0, 0)) (heap_alloc_new w6 _) rfl (by simp [Value.oneCell'])
               clear hb6 hb6')
            | (refine inDraw (by rfl) (wpo_row_append _ _ _ (by rfl) j0 _ 32 Try.underlying24 hj0 hj1 hj2 hj3 (by rfl) (by rfl) HRw.out.rw _ 1 1 (by rfl) [.int .i64 (-1), .int .i64 (k : Int), .int .i64 p.1, .int .i64 p.2] HSr.out hg63 hg47 ?_); intro sv5 w7 r5 k5 o5; obtain ⟨V5, cp5, rfl, hc5⟩ := r5.len; have A5 := HRw.out.app (p := (-1, (k : Int))) (q := p) k5 o5 r5; obtain ⟨⟨z1, z2⟩, z3⟩ := A5
               have HA5 := Lib.hid z3; clear k5 o5 r5 z3))
        all_goals
          go_wp2
          go_roundw
          case rel => exact ⟨k + 1, by go_num, by omega, V5, cp5, by rw [HSn.out]; exact HA5⟩
          case measure => simp [intOf]; omega
      · obtain rfl : M = k := by omega
        obtain ⟨n0, n1, n2, n3⟩ := HR.out.cells
        have HI := Lib.hid (And.intro HR.out.rc.ints HR.out.rw.wires)
        clear HQ1
        go_wp2_with (go_at_call 54; go_loud (refine (HNT.out _ (some ⟨C, 0, none⟩) 2 V2 c2 HBr.out HI.out.1 HI.out.2).mono ?_); rintro e w2 ⟨V3, c3, V4, c4, rfl, hnf⟩
                     have hb2' := hnf.1.2.2
                     have hq := (hb2'.block _ (heap_lt HQr.out)).trans HQr.out
                     have q0 : w2.cell? ⟨w.heap.size, 0, none⟩ = some (.slice none 0 0) := by simp [World.cell?, hq]
                     have q1 : w2.cell? ⟨w.heap.size, 1, none⟩ = some (.int .i64 0) := by simp [World.cell?, hq]
                     have q2 : w2.cell? ⟨w.heap.size, 2, none⟩ = some (.slice none 0 0) := by simp [World.cell?, hq]
                     have q3 : w2.frozen? ⟨w.heap.size, 0, none⟩ = false := by simp [World.frozen?, hq]
                     have q4 : w2.frozen? ⟨w.heap.size, 1, none⟩ = false := by simp [World.frozen?, hq]
                     have q5 : w2.frozen? ⟨w.heap.size, 2, none⟩ = false := by simp [World.frozen?, hq]
                     have HNF := Lib.hid hnf
                     clear hb2' hnf hq)
        exact bodyPost_ret (v := .tuple #[netV V3 c3 [(ka : Int), (kb : Int)] (M : Int) V4 c4 T, .int .i64 0]) (by simp only [results, Try.results46]; go_simp) rfl ⟨V3, c3, V4, c4, rfl, HNF.out.set3 (b := w.heap.size) HBr.out (by omega) (heap_lt HQr.out) _ _ _⟩
end
end Go.Proofs.Ytcebejcdfdahjaa
