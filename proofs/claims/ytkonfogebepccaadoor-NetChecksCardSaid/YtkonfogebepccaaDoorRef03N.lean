/-
  Contracts of skeinref03: Net, Neat.
-/
import Derived.Test.YtkonfogebepccaaDoorNetTop
import Derived.Deep.RegionLaw
namespace Go.Proofs.YtkonfogebepccaaDoor
open Go.RowKit Go.Shelf
attribute [local go_sem] cell_set
set_option maxRecDepth 100000
set_option linter.unusedVariables false

theorem Row.pts {w : World} {V : Option Addr} {cap : Nat} {P : List Pt} (h : Row w 83 2 (.slice V P.length cap) P.length (pvals P)) : PtsRd w V P := fun i hi => by
  obtain ⟨g, c, cur, e, hg, _⟩ := h.some_ (by omega)
  simp only [Value.slice.injEq, true_and] at e
  obtain ⟨rfl, rfl⟩ := e
  obtain ⟨a0, a1⟩ := pvals_at P hi
  refine ⟨g, 0, rfl, heap_lt hg, ?_, ?_⟩
  · rw [Nat.zero_add, h.cellAt _ (by omega)]; exact a0
  · rw [Nat.zero_add, h.cellAt _ (by omega)]; exact a1
theorem refW_len (P : List Pt) (l : List Int) (k : Nat) : (refW P l k).length ≤ k := by
  have := List.length_filterMap_le (fun (i : Nat) => if (i : Int) < l.getD i 0 then some (P.getD i default, P.getD (l.getD i 0).toNat default) else none) (List.range k)
  rw [List.length_range] at this
  exact this

theorem NetFresh.setB {w w' : World} {V1 V2 : Option Addr} {c1 c2 : Nat} {cells : List Int} {W : List (Pt × Pt)} (h : NetFresh w w' V1 c1 cells V2 c2 W) {b : Nat} (hb : w.heap.size ≤ b) (h1 : ∀ c ∈ ownB (.slice V1 cells.length c1), c ≠ b) (h2 : ∀ c ∈ ownB (.slice V2 W.length c2), c ≠ b) (u1 u2 u3 : Value) :
    NetFresh w (((w'.setCell ⟨b, 0, none⟩ u1).setCell ⟨b, 1, none⟩ u2).setCell ⟨b, 2, none⟩ u3) V1 c1 cells V2 c2 W := by
  have e : ∀ c, c ≠ b → (((w'.setCell ⟨b, 0, none⟩ u1).setCell ⟨b, 1, none⟩ u2).setCell ⟨b, 2, none⟩ u3).heap[c]? = w'.heap[c]? := fun c hc =>
    (Below.heap_setCell _ _ _ c hc).trans ((Below.heap_setCell _ _ _ c hc).trans (Below.heap_setCell _ _ _ c hc))
  have hB : Below w.heap.size w (((w'.setCell ⟨b, 0, none⟩ u1).setCell ⟨b, 1, none⟩ u2).setCell ⟨b, 2, none⟩ u3) := ((h.1.2.2.setCell (p := ⟨b, 0, none⟩) hb _).setCell (p := ⟨b, 1, none⟩) hb _).setCell (p := ⟨b, 2, none⟩) hb _
  exact ⟨⟨h.1.1.keep fun c hc => e c (h1 c hc), h.1.2.1, hB⟩, ⟨h.2.1.keep fun c hc => e c (h2 c hc), h.2.2.1, hB⟩⟩
set_option maxHeartbeats 2000000 in
theorem rnet (A : Option Addr) (n cap : Nat) (L : List (ByteArray × Int)) (VC : Option Addr) (cc nc : Nat) (cells : List Int) (free : Nat) (VL : Option Addr) (cl nl : Nat) (l : List Int) (w : World) (hn : n = L.length) (hnc : nc = cells.length) (hnl : nl = l.length) (HL : Hid (AgRd w A L)) (hs : SigOk L) (HC : Hid (IntsRd w VC cells)) (HV : Hid (IntsRd w VL l)) (hc : cells.length ≤ 5000) (hf : free ≤ 100)
    (hll : Hid (l.length = (allPs (pnL L) cells free).length)) (hr : Hid (∀ i, i < l.length → 0 ≤ l.getD i 0 ∧ l.getD i 0 < l.length)) :
    Calls Tryd.prog 81 #[.slice A n cap, .slice VC nc cc, .int .i64 (free : Int), .slice VL nl cl] w fun e w' => ∃ V1 c1 V2 c2, e = .returned (netV V1 c1 cells free V2 c2 (refW (allPs (pnL L) cells free) l l.length)) ∧ NetFresh w w' V1 c1 cells V2 c2 (refW (allPs (pnL L) cells free) l l.length) := by
  subst hn hnc hnl
  have hl32 := hs.len
  have hlen : l.length ≤ 40000 := by rw [hll.out, allPs_len]; have := firstN_le (pnL_le hs) cells free cells.length; omega
  obtain ⟨i0, hi0, hi1, hi2, hi3⟩ := info_parts int_info
  obtain ⟨j0, hj0, hj1, hj2, hj3⟩ := info_parts wire_info
  have hB0 : Below w.heap.size w ((w.alloc (.cells #[.slice none 0 0, .int .i64 0, .slice none 0 0] 64)).alloc (.cells #[.slice none 0 0, .int .i64 (free : Int), .slice none 0 0] 64)) := by (repeat (first | exact Below.refl _ _ | (with_reducible refine Below.drew ?_) | (with_reducible refine Below.alloc ?_ (by (try simp); (try omega)) _) | (with_reducible refine Below.setCell ?_ (by (try simp); (try omega)) _) | (with_reducible refine Below.trans ?_ (Below.mono (by assumption) (by (try simp); (try omega))))))
  have HSrc := Lib.hid (HC.out.below hB0).src
  have HB63 : 0 + cells.length ≤ maxLen := by simp only [maxLen]; omega
  have HB47 : (0 + cells.length) * 8 ≤ 140737488355328 := by omega
  have HB0 := Lib.hid hB0
  have e0 : ((w.alloc (.cells #[.slice none 0 0, .int .i64 0, .slice none 0 0] 64)).alloc (.cells #[.slice none 0 0, .int .i64 (free : Int), .slice none 0 0] 64)).heap[w.heap.size]? = some (.cells #[.slice none 0 0, .int .i64 0, .slice none 0 0] 64 (0, 0)) := (Below.heap_alloc _ _ _ (by simp)).trans (heap_alloc_new w _)
  have e1 : ((w.alloc (.cells #[.slice none 0 0, .int .i64 0, .slice none 0 0] 64)).alloc (.cells #[.slice none 0 0, .int .i64 (free : Int), .slice none 0 0] 64)).heap[w.heap.size + 1]? = some (.cells #[.slice none 0 0, .int .i64 (free : Int), .slice none 0 0] 64 (0, 0)) := by
    have := heap_alloc_new (w.alloc (.cells #[.slice none 0 0, .int .i64 0, .slice none 0 0] 64)) (.cells #[.slice none 0 0, .int .i64 (free : Int), .slice none 0 0] 64)
    simpa using this
  have HE := Lib.hid (And.intro e0 e1)
  clear hB0 e0 e1
  go_enter Tryd.func81, Tryd.ntmps81
  go_wp2_with (at_builtin; go_loud (refine inPlain rfl (wpo_row_append _ _ _ rfl i0 _ 8 Tryd.underlying61 hi0 hi1 hi2 hi3 rfl rfl (Row.nil _ 3 1) _ cells.length _ rfl (ivals cells) HSrc.out HB63 HB47 ?_)); intro sv5 w5 r5 k5 o5; rw [Nat.zero_add, List.nil_append] at r5; obtain ⟨V1, c1, rfl, hc1⟩ := r5.len
               change Kp [] _ w5 at k5
               change _ = [] ∨ _ at o5
               have hz5 := k5.size
               simp only [World.size_alloc] at hz5
               go_loud (have q0 : w5.heap[w.heap.size]? = some (.cells #[.slice none 0 0, .int .i64 0, .slice none 0 0] 64 (0, 0)) := (k5.block w.heap.size (by simp <;> omega) (by simp)).trans HE.out.1)
               go_loud (have q1 : w5.heap[w.heap.size + 1]? = some (.cells #[.slice none 0 0, .int .i64 (free : Int), .slice none 0 0] 64 (0, 0)) := (k5.block (w.heap.size + 1) (by simp <;> omega) (by simp)).trans HE.out.2)
               have n0 : w5.cell? ⟨w.heap.size + 1, 0, none⟩ = some (.slice none 0 0) := by simp [World.cell?, q1]
               have n1 : w5.cell? ⟨w.heap.size + 1, 1, none⟩ = some (.int .i64 (free : Int)) := by simp [World.cell?, q1]
               have n2 : w5.cell? ⟨w.heap.size + 1, 2, none⟩ = some (.slice none 0 0) := by simp [World.cell?, q1]
               have n3 : w5.frozen? ⟨w.heap.size + 1, 0, none⟩ = false := by simp [World.frozen?, q1]
               have HK5 := Lib.hid (And.intro k5 (And.intro r5 (And.intro o5 (And.intro q0 q1))))
               clear k5 r5 o5 q0 q1)
  have hown : ∀ b ∈ ownB (.slice V1 cells.length c1), w.heap.size + 2 ≤ b := fun b hb => by
    rcases HK5.out.2.2.1 with e | e
    · rw [e] at hb; simp at hb
    · rw [e] at hb; simp at hb; omega
  have hrow1 : Row (w5.setCell ⟨w.heap.size + 1, 0, none⟩ (.slice V1 cells.length c1)) 3 1 (.slice V1 cells.length c1) cells.length (ivals cells) := HK5.out.2.1.keep fun b hb => Below.heap_setCell _ _ _ b (by have := hown b hb; show b ≠ w.heap.size + 1; omega)
  have hq1 : (w5.setCell ⟨w.heap.size + 1, 0, none⟩ (.slice V1 cells.length c1)).heap[w.heap.size + 1]? = some (.cells #[.slice V1 cells.length c1, .int .i64 (free : Int), .slice none 0 0] 64 (0, 0)) := by
    simp [World.setCell, Array.getElem?_modify, HK5.out.2.2.2.2]
  have hq0 : (w5.setCell ⟨w.heap.size + 1, 0, none⟩ (.slice V1 cells.length c1)).heap[w.heap.size]? = some (.cells #[.slice none 0 0, .int .i64 0, .slice none 0 0] 64 (0, 0)) := (Below.heap_setCell _ _ _ _ (by show _ ≠ w.heap.size + 1; omega)).trans HK5.out.2.2.2.1
  have hbX : Below w.heap.size w (w5.setCell ⟨w.heap.size + 1, 0, none⟩ (.slice V1 cells.length c1)) := (HB0.out.trans (HK5.out.1.below HB0.out.size (by simp))).setCell (by simp) _
  have hzX : (w5.setCell ⟨w.heap.size + 1, 0, none⟩ (.slice V1 cells.length c1)).heap.size = w5.heap.size := by simp
  generalize w5.setCell ⟨w.heap.size + 1, 0, none⟩ (.slice V1 cells.length c1) = X at hrow1 hq1 hq0 hbX hzX ⊢
  have hzX2 : w.heap.size + 2 ≤ X.heap.size := by omega
  have HX := Lib.hid (And.intro hrow1 (And.intro hq1 (And.intro hq0 hbX)))
  have HO := Lib.hid hown
  clear hown hrow1 hq1 hq0 hbX hzX hz5 n0 n1 n2 n3 HK5 HE HB0 HSrc
  refine (rall A _ cap L V1 none c1 0 cells free [] _ rfl (Lib.hid (HL.out.below HX.out.2.2.2)) hs (Lib.hid HX.out.1.ints) hc hf).mono ?_
  rintro e w2 ⟨VP, cP, rfl, hfp⟩
  have hb2 := hfp.2.2
  have hz2 := hb2.size
  have HP2 : Hid (PtsRd w2 VP (allPs (pnL L) cells free)) := hfp.1.pts
  have HB2 : Hid (Below w.heap.size w w2) := HX.out.2.2.2.trans (hb2.mono HX.out.2.2.2.size)
  have HR2 : Hid (Row w2 3 1 (.slice V1 cells.length c1) cells.length (ivals cells)) := HX.out.1.keep fun b hb => hb2.block b (HX.out.1.lt b hb)
  have HQ2 : Hid (w2.heap[w.heap.size]? = some (.cells #[.slice none 0 0, .int .i64 0, .slice none 0 0] 64 (0, 0))) := (hb2.block _ (by omega)).trans HX.out.2.2.1
  have HBI : Hid (BI w2 (w.heap.size + 1) V1 c1 cells.length (free : Int) (refW (allPs (pnL L) cells free) l 0) w2) := ⟨Kp.refl _ _, by omega, none, 0, (hb2.block _ (by omega)).trans HX.out.2.1, Row.nil _ _ _, by simp [ownB]⟩
  have HPn : Hid (∀ a, VP = some a → w.heap.size + 2 ≤ a.block) := fun a e => by
    have := hfp.2.1 a.block (by rw [e]; simp [ownB]); omega
  clear hb2 hfp HX
  go_wp2_with fail
  go_loopw [11] (fun i wr => ∃ k : Nat, i = .int .i64 k ∧ k ≤ l.length ∧ Hid (BI w2 (w.heap.size + 1) V1 c1 cells.length (free : Int) (refW (allPs (pnL L) cells free) l k) wr)) (fun i _ => l.length - (intOf i).toNat)
  case atStart => exact ⟨0, rfl, by omega, HBI⟩
  case round =>
    obtain ⟨k, rfl, hk, HR⟩ := hrel
    clear HBI
    by_cases hlt : k < l.length
    · obtain ⟨hk2, hBn, V2, c2, hh, hrow, hown⟩ := HR.out
      have hkp : Kp [w.heap.size + 1] w2 wr := hk2
      obtain ⟨b, off, rfl, hb, e0⟩ := HV.out k hlt
      have hbz : b < w2.heap.size := Nat.lt_of_lt_of_le hb HB2.out.size
      have d0 : wr.cell? ⟨b, off + k, none⟩ = some (.int .i64 (l.getD k 0)) := ((hkp.cell (p := ⟨b, off + k, none⟩) hbz (by simp; omega)).trans (HB2.out.cell (p := ⟨b, off + k, none⟩) hb)).trans e0
      have hrk := hr.out k hlt
      have hsn := refW_succ (allPs (pnL L) cells free) l k
      have hln := refW_len (allPs (pnL L) cells free) l k
      have hP : ∀ i, i < l.length → ∃ b off, VP = some ⟨b, off, none⟩ ∧ wr.cell? ⟨b, off + i * 2, none⟩ = some (.int .i64 ((allPs (pnL L) cells free).getD i default).1) ∧ wr.cell? ⟨b, off + i * 2 + 1, none⟩ = some (.int .i64 ((allPs (pnL L) cells free).getD i default).2) := fun i hi => by
        obtain ⟨b, off, e, hlt, h0, h1⟩ := HP2.out i (by rw [← hll.out]; exact hi)
        have hne : b ≠ w.heap.size + 1 := by have := HPn.out _ e; simp only at this; omega
        exact ⟨b, off, e, (hkp.cell (p := ⟨b, off + i * 2, none⟩) hlt (by simpa using hne)).trans h0, (hkp.cell (p := ⟨b, off + i * 2 + 1, none⟩) hlt (by simpa using hne)).trans h1⟩
      obtain ⟨h0, h1⟩ := hrk
      obtain ⟨m, hm⟩ := Int.eq_ofNat_of_zero_le h0
      rw [hm] at d0 hsn h1
      rw [Int.toNat_natCast] at hsn
      have hml : m < l.length := by omega
      have hkP : k < (allPs (pnL L) cells free).length := by rw [← hll.out]; exact hlt
      have hmP : m < (allPs (pnL L) cells free).length := by rw [← hll.out]; exact hml
      obtain ⟨bp, op, e1, p0, p1⟩ := hP k hlt
      obtain ⟨bp', op', e2, q0, q1⟩ := hP m hml
      subst e1
      simp only [Option.some.injEq, Addr.mk.injEq, and_true] at e2
      obtain ⟨rfl, rfl⟩ := e2
      generalize (allPs (pnL L) cells free).getD k default = p at hsn p0 p1
      generalize (allPs (pnL L) cells free).getD m default = q at hsn q0 q1
      obtain ⟨x0, x1⟩ := p
      obtain ⟨y0, y1⟩ := q
      have HSn := Lib.hid hsn
      clear hsn hP h0 hm e0 hkp
      by_cases hx : k < m
      · have hxd : ((k : Int) < (m : Int)) = True := by simp; omega
        have n2 : wr.cell? ⟨w.heap.size + 1, 2, none⟩ = some (.slice V2 (refW (allPs (pnL L) cells free) l k).length c2) := by simp [World.cell?, hh]
        have HSn2 : Hid (refW (allPs (pnL L) cells free) l (k + 1) = refW (allPs (pnL L) cells free) l k ++ [((x0, x1), (y0, y1))]) := by have := HSn.out; rw [if_pos (by omega)] at this; exact this
        have HRw : Hid (Row ((wr.alloc (.cells #[.int .i64 x0, .int .i64 x1, .int .i64 y0, .int .i64 y1] 108)).drew) 108 4 (.slice V2 (refW (allPs (pnL L) cells free) l k).length c2) (refW (allPs (pnL L) cells free) l k).length (wrvals (refW (allPs (pnL L) cells free) l k))) := (hrow.alloc _).drew
        have HSr : Hid (Src ((wr.alloc (.cells #[.int .i64 x0, .int .i64 x1, .int .i64 y0, .int .i64 y1] 108)).drew) (some ⟨wr.heap.size, 0, none⟩) 1 4 [.int .i64 x0, .int .i64 x1, .int .i64 y0, .int .i64 y1]) :=
          Src.block (cs := #[.int .i64 x0, .int .i64 x1, .int .i64 y0, .int .i64 y1]) (t := 108) (fr := (0, 0)) (heap_alloc_new wr _) rfl (by simp [Value.oneCell'])
        have HH6 := Lib.hid (And.intro ((hk2.alloc (.cells #[.int .i64 x0, .int .i64 x1, .int .i64 y0, .int .i64 y1] 108)).drew) (And.intro hBn (And.intro ((Below.heap_alloc wr (.cells #[.int .i64 x0, .int .i64 x1, .int .i64 y0, .int .i64 y1] 108) _ (heap_lt hh)).trans hh) hown)))
        generalize refW (allPs (pnL L) cells free) l k = ws at *
        have hg63 : ws.length + 1 ≤ maxLen := by simp only [maxLen]; omega
        have hg47 : (ws.length + 1) * 32 ≤ 140737488355328 := by omega
        have hBz : w.heap.size + 1 < wr.heap.size := heap_lt hh
        clear hk2 hh hrow hown HR hxd HSn
        go_wp2_with fail
        go_region_law
          ((refine inDraw (by rfl) (wpo_row_append _ _ _ (by rfl) j0 _ 32 Tryd.underlying62 hj0 hj1 hj2 hj3 (by rfl) (by rfl) HRw.out _ 1 1 (by rfl) [.int .i64 x0, .int .i64 x1, .int .i64 y0, .int .i64 y1] HSr.out hg63 hg47 ?_); intro sv5 w7 r5 k5 o5; obtain ⟨V5, cp5, rfl, hc5⟩ := r5.len; have A5 := BI.app HH6.out.1 HH6.out.2.1 HH6.out.2.2.1 HH6.out.2.2.2 (p := (x0, x1)) (q := (y0, y1)) k5 o5 r5; have z2 := A5.1; have z3 := A5.2.1; have HA5 := Lib.hid A5.2.2.2; clear A5 k5 o5 r5))
        all_goals
          go_wp2
          go_roundw
          case rel => exact ⟨k + 1, by go_num, by omega, by rw [HSn2.out]; exact HA5⟩
          case measure => simp [intOf]; omega
      · have HSn2 : Hid (refW (allPs (pnL L) cells free) l (k + 1) = refW (allPs (pnL L) cells free) l k) := by have := HSn.out; rw [if_neg (by omega), List.append_nil] at this; exact this
        clear hk2 hh hrow hown HSn
        go_wp2
        go_roundw
        case rel => exact ⟨k + 1, by go_num, by omega, by rw [HSn2.out]; exact HR⟩
        case measure => simp [intOf]; omega
    · obtain rfl : k = l.length := by omega
      obtain ⟨hk2, hBn, V2, c2, hh, hrow, hown⟩ := HR.out
      have hq : wr.heap[w.heap.size]? = some (.cells #[.slice none 0 0, .int .i64 0, .slice none 0 0] 64 (0, 0)) := (hk2.block _ (by omega) (by simp)).trans HQ2.out
      have b0 : wr.cell? ⟨w.heap.size + 1, 0, none⟩ = some (.slice V1 cells.length c1) := by simp [World.cell?, hh]
      have b1 : wr.cell? ⟨w.heap.size + 1, 1, none⟩ = some (.int .i64 (free : Int)) := by simp [World.cell?, hh]
      have b2 : wr.cell? ⟨w.heap.size + 1, 2, none⟩ = some (.slice V2 (refW (allPs (pnL L) cells free) l l.length).length c2) := by simp [World.cell?, hh]
      have q0 : wr.cell? ⟨w.heap.size, 0, none⟩ = some (.slice none 0 0) := by simp [World.cell?, hq]
      have q1 : wr.cell? ⟨w.heap.size, 1, none⟩ = some (.int .i64 0) := by simp [World.cell?, hq]
      have q2 : wr.cell? ⟨w.heap.size, 2, none⟩ = some (.slice none 0 0) := by simp [World.cell?, hq]
      have q3 : wr.frozen? ⟨w.heap.size, 0, none⟩ = false := by simp [World.frozen?, hq]
      have q4 : wr.frozen? ⟨w.heap.size, 1, none⟩ = false := by simp [World.frozen?, hq]
      have q5 : wr.frozen? ⟨w.heap.size, 2, none⟩ = false := by simp [World.frozen?, hq]
      have HH := Lib.hid (And.intro hk2 (And.intro hrow hown))
      clear hk2 hBn hh hrow hown hq HR
      go_wp2
      obtain ⟨hk2, hrow, hown⟩ := HH.out
      have hNF : NetFresh w wr V1 c1 cells V2 c2 (refW (allPs (pnL L) cells free) l l.length) := by
        have hbw : Below w.heap.size w wr := HB2.out.trans (hk2.below HB2.out.size (by simp))
        exact ⟨⟨HR2.out.kp hk2 (fun b hb => by have := HO.out b hb; simp; omega), fun b hb => by have := HO.out b hb; omega, hbw⟩, ⟨hrow, fun b hb => by have := hown b hb; have := HB2.out.size; omega, hbw⟩⟩
      have hrl := HR2.out.lt
      refine bodyPost_ret (v := netV V1 c1 cells free V2 c2 (refW (allPs (pnL L) cells free) l l.length)) (by simp only [results, Tryd.results81]; go_simp) rfl ⟨V1, c1, V2, c2, rfl, ?_⟩
      have hbs : ∀ X : World, X.heap.size = wr.heap.size → True := fun _ _ => trivial
      exact hNF.setB (b := w.heap.size) (Nat.le_refl _) (fun b hb => by have := HO.out b hb; omega) (fun b hb => by have := hown b hb; have := HB2.out.size; omega) _ _ _
end Go.Proofs.YtkonfogebepccaaDoor
