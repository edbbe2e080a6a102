/-
  Contract of skeinref03.Moved.
-/
import Derived.Test.YtcebejcdfdahjaaRef03M
import Derived.Deep.DeepCutAuto
import Derived.RegionTactic
namespace Go.Proofs.Ytcebejcdfdahjaa
open Go.RowKit Go.Shelf
attribute [local go_sem] cell_set
set_option maxRecDepth 100000
set_option linter.unusedVariables false

/-- Behind Moved's first statement: the net that comes, in a box, its cells in a row of their own. -/
def MvS (w : World) (N : Nat) (free : Int) (v : Value) (X : World) : Prop :=
  ∃ Bn o, v = .pointer (some ⟨Bn, 0, none⟩) ∧ Bn ≠ o ∧ w.heap.size + 2 ≤ Bn ∧ w.heap.size + 2 ≤ o ∧ o < X.heap.size ∧ X.heap[Bn]? = some (.cells #[.slice (some ⟨o, 0, none⟩) N N, .int .i64 free, .slice none 0 0] 26 (0, 0)) ∧
    X.heap[o]? = some (.cells (madeCells #[.int .i64 0] N) 3 (0, 0)) ∧ Kp [] w X

theorem mvS_a {w X : World} {N : Nat} {free : Int} (hk : Kp [] w X) (hz : w.heap.size + 2 ≤ X.heap.size) : MvS w N free (.pointer (some ⟨X.heap.size + 1, 0, none⟩)) ((X.alloc (.cells (madeCells #[.int .i64 0] N) 3)).alloc (.cells #[.slice (some ⟨X.heap.size, 0, none⟩) N N, .int .i64 free, .slice none 0 0] 26)).drew := by
  refine ⟨X.heap.size + 1, X.heap.size, rfl, by omega, by omega, by omega, ?_, ?_, ?_, ((hk.alloc _).alloc _).drew⟩
  · show _ < ((X.alloc _).alloc _).heap.size; simp <;> omega
  · have := heap_alloc_new (X.alloc (.cells (madeCells #[.int .i64 0] N) 3)) (.cells #[.slice (some ⟨X.heap.size, 0, none⟩) N N, .int .i64 free, .slice none 0 0] 26)
    rw [World.size_alloc] at this
    exact this
  · exact (Below.heap_alloc _ _ _ (by simp)).trans (heap_alloc_new X _)
theorem mvS_b {w X : World} {N : Nat} {free : Int} (hk : Kp [] w X) (hz : w.heap.size + 2 ≤ X.heap.size) : MvS w N free (.pointer (some ⟨X.heap.size, 0, none⟩)) ((X.alloc (.cells #[.slice (some ⟨X.heap.size + 1, 0, none⟩) N N, .int .i64 free, .slice none 0 0] 26)).alloc (.cells (madeCells #[.int .i64 0] N) 3)).drew := by
  refine ⟨X.heap.size, X.heap.size + 1, rfl, by omega, by omega, by omega, ?_, ?_, ?_, ((hk.alloc _).alloc _).drew⟩
  · show _ < ((X.alloc _).alloc _).heap.size; simp <;> omega
  · exact (Below.heap_alloc _ _ _ (by simp)).trans (heap_alloc_new X _)
  · have := heap_alloc_new (X.alloc (.cells #[.slice (some ⟨X.heap.size + 1, 0, none⟩) N N, .int .i64 free, .slice none 0 0] 26)) (.cells (madeCells #[.int .i64 0] N) 3)
    rw [World.size_alloc] at this
    exact this
theorem NBox.keep {w w' : World} {b : Nat} {VA VB : Option Addr} {n1 ca n2 cb : Nat} {free : Int} (h : NBox w b VA n1 ca free VB n2 cb) (hz : w.heap.size ≤ w'.heap.size) (hk : w'.heap[b]? = w.heap[b]?) : NBox w' b VA n1 ca free VB n2 cb :=
  ⟨Nat.lt_of_lt_of_le h.lt hz, (World.cell?_of_block hk).trans h.c0, (World.cell?_of_block hk).trans h.c1, (World.cell?_of_block hk).trans h.c2⟩
set_option maxHeartbeats 4000000 in
theorem rmoved (A : Option Addr) (n cap : Nat) (L : List (ByteArray × Int)) (VA VB : Option Addr) (ca cb : Nat) (cells : List Int) (free : Nat) (W : List (Pt × Pt)) (VC : Option Addr) (nc cc : Nat) (cs : List Int) (VF : Option Addr) (nf cf : Nat) (fs : List Int) (w : World) (hn : n = L.length) (hnc : nc = cs.length) (hnf : nf = fs.length) (HL : Hid (AgRd w A L)) (hs : SigOk L) (HC : Hid (IntsRd w VA cells)) (HW : Hid (WrRd w VB W)) (hc : cells.length ≤ 5000) (hf : free ≤ 100) (hw : W.length ≤ 40000)
    (HCs : Hid (IntsRd w VC cs)) (HFs : Hid (IntsRd w VF fs)) (hok : Hid (NetOk (pnL L) cells free W)) (h1 : Hid (eachN cs cells.length)) (h2 : Hid (eachN fs free)) :
    Calls Try.prog 20 #[.slice A n cap, netV VA ca cells free VB cb W, .slice VC nc cc, .slice VF nf cf] w fun e w' => ∃ V1 c1 V2 c2, e = .returned (netV V1 c1 (outK cells cs cells.length) free V2 c2 (tidyW (allPs (pnL L) (outK cells cs cells.length) free) (moveW cs fs W))) ∧
      NetFresh w w' V1 c1 (outK cells cs cells.length) V2 c2 (tidyW (allPs (pnL L) (outK cells cs cells.length) free) (moveW cs fs W)) := by
  subst hn hnc hnf
  have hll := hs.len
  obtain ⟨j0, hj0, hj1, hj2, hj3⟩ := info_parts wire_info
  have hmk := run_make_row' 23 3 (.int .i64 0) 8 Try.underlying23 int_info rfl .i64 .i64 cells.length (by omega) (by omega)
  have HLN : Hid (cs.length = cells.length ∧ fs.length = free) := ⟨h1.out.1, h2.out.1⟩
  have HEa : Hid (∀ k, k < cells.length → 0 ≤ cs.getD k 0 ∧ cs.getD k 0 < cells.length) := fun k hk => each_at h1.out hk
  have hmv := moves_of (cells := cells) h1.out h2.out
  have HOk2 : Hid (NetOk (pnL L) (outK cells cs cells.length) free (moveW cs fs W)) := hok.out.move hmv
  clear hmv
  go_enter Try.func20, Try.ntmps20
  go_upto_region 1 with fail
  refine absW (fun X => Kp [] w X ∧ NBox X w.heap.size VA cells.length ca free VB W.length cb ∧ X.heap[w.heap.size + 1]? = some (.cells #[.slice none 0 0, .int .i64 0, .slice none 0 0] 26 (0, 0)))
    ⟨((Kp.refl _ _).alloc _).alloc _, ⟨by simp; omega, by go_simp, by go_simp, by go_simp⟩, by have := heap_alloc_new (w.alloc (.cells #[.slice VA cells.length ca, .int .i64 (free : Int), .slice VB W.length cb] 26)) (.cells #[.slice none 0 0, .int .i64 0, .slice none 0 0] 26); simpa using this⟩ ?_
  rintro X ⟨hkx, hnb, hrx⟩
  have n0 := hnb.c0
  have n1 := hnb.c1
  have hzx : w.heap.size + 2 ≤ X.heap.size := heap_lt hrx
  have hzy : w.heap.size < X.heap.size := by omega
  have HX := Lib.hid (And.intro hkx (And.intro hnb hrx))
  clear hkx hnb hrx
  go_cut [9] (fun v wx => MvS w cells.length (free : Int) v wx ∧ Below X.heap.size X wx)
  case first =>
    go_region
    all_goals
      go_wp2_with fail
      go_meet
      case rel => first
        | exact ⟨mvS_a HX.out.1 hzx, ((Below.refl _ X).alloc (Nat.le_refl _) _ |>.alloc (by simp) _).drew⟩
        | exact ⟨mvS_b HX.out.1 hzx, ((Below.refl _ X).alloc (Nat.le_refl _) _ |>.alloc (by simp) _).drew⟩
  case rest =>
    obtain ⟨⟨Bn, o, rfl, hne, hBn, ho, hoX, hbn, hor, hkw⟩, hbx⟩ := hcut
    clear hmk n0 n1
    have HBw : Hid (Below w.heap.size w wc) := hkw.below (Nat.le_refl _) (by simp)
    have HNb : Hid (NBox wc w.heap.size VA cells.length ca free VB W.length cb) := HX.out.2.1.below hbx
    have HRc : Hid (wc.heap[w.heap.size + 1]? = some (.cells #[.slice none 0 0, .int .i64 0, .slice none 0 0] 26 (0, 0))) := (hbx.block _ (by omega)).trans HX.out.2.2
    have HBn := Lib.hid hbn
    have HRow : Hid (Row wc 3 1 (.slice (some ⟨o, 0, none⟩) cells.length cells.length) cells.length (ivals (outK cells cs 0))) := by
      show Row _ _ _ _ _ _
      rw [outK, ivals_replicate]
      exact ⟨by simp, .inr ⟨o, cells.length, _, rfl, hor, Nat.le_refl _, by unfold maxLen; omega, by simp [size_madeCells], by rw [toList_madeCells_one]; simp⟩⟩
    have hBnl := heap_lt hbn
    clear HX hbn hor hkw hbx hzx hzy
    go_wp2_with fail
    go_loopw [10] (fun i wr => ∃ k : Nat, i = .int .i64 k ∧ k ≤ cells.length ∧ Hid (Row wr 3 1 (.slice (some ⟨o, 0, none⟩) cells.length cells.length) cells.length (ivals (outK cells cs k)) ∧ Kp [o] wc wr)) (fun i _ => cells.length - (intOf i).toNat)
    case atStart => exact ⟨0, rfl, by omega, ⟨HRow.out, Kp.refl _ _⟩⟩
    case round =>
      obtain ⟨k, rfl, hk, HR⟩ := hrel
      clear HRow
      have hkr := HR.out.2
      have HNr := Lib.hid (HNb.out.keep hkr.size (hkr.block _ HNb.out.lt (by simp; omega)))
      have HBnr : Hid (wr.heap[Bn]? = some (.cells #[.slice (some ⟨o, 0, none⟩) cells.length cells.length, .int .i64 (free : Int), .slice none 0 0] 26 (0, 0))) := (hkr.block _ hBnl (by simpa using hne)).trans HBn.out
      have HBwr : Hid (Below w.heap.size w wr) := HBw.out.trans (hkr.below HBw.out.size (by simp; omega))
      have n0 := HNr.out.c0
      have hzr := hkr.size
      clear hkr
      by_cases hlt : k < cells.length
      · obtain ⟨b, off, rfl, hb, e0⟩ := HC.out k hlt
        obtain ⟨b2, off2, rfl, hb2, e2⟩ := HCs.out k (by have := HLN.out.1; omega)
        have d0 := (HBwr.out.cell (p := ⟨b, off + k, none⟩) hb).trans e0
        have d2 := (HBwr.out.cell (p := ⟨b2, off2 + k, none⟩) hb2).trans e2
        have hkc : k < cs.length := by have := HLN.out.1; omega
        have hea := HEa.out k hlt
        have hnx : outK cells cs (k + 1) = (outK cells cs k).set (cs.getD k 0).toNat (cells.getD k 0) := rfl
        have bn0 : wr.cell? ⟨Bn, 0, none⟩ = some (.slice (some ⟨o, 0, none⟩) cells.length cells.length) := by simp [World.cell?, HBnr.out]
        clear e0 e2
        generalize cells.getD k 0 = a at d0 hnx
        generalize cs.getD k 0 = c at d2 hnx hea
        obtain ⟨g1, g2⟩ := hea
        obtain ⟨m, rfl⟩ := Int.eq_ofNat_of_zero_le g1
        have HNX : Hid (outK cells cs (k + 1) = (outK cells cs k).set m a) := hnx
        clear hnx
        have hm : m < cells.length := by omega
        have s0 : wr.frozen? ⟨o, m, none⟩ = false := HR.out.1.frozenAt m
        obtain ⟨u1, s2⟩ : ∃ u, wr.cell? ⟨o, m, none⟩ = some u := ⟨_, (HR.out.1.cellAt m (by omega)).trans (List.getElem?_eq_getElem (by rw [HR.out.1.1]; omega))⟩
        go_wp2_with fail
        (refine region_tail 12 (by kernel_rfl) (by kernel_rfl) ?_; simp only [List.take_succ_cons, List.take_zero, List.drop_succ_cons, List.drop_zero]; repeat still_step; try refine wpStill_nil ?_)
        go_wp2
        go_roundw
        case rel =>
          have hR8 := (HR.out.1.drew).set m (.int .i64 a)
          have hB8 := (HR.out.2.drew).setCell (p := ⟨o, m, none⟩) (.inl (by simp)) (.int .i64 a)
          rw [ivals_set, ← HNX.out] at hR8
          exact ⟨k + 1, by go_num, by omega, hR8, hB8⟩
        case measure => simp [intOf]; omega
      · obtain rfl : k = cells.length := by omega
        obtain ⟨wo, hwo⟩ : ∃ wo, wo = wr := ⟨_, rfl⟩
        subst hwo
        have HOut : Hid (IntsRd wo (some ⟨o, 0, none⟩) (outK cells cs cells.length)) := Row.ints (cap := cells.length) (by rw [outK_len]; exact HR.out.1)
        have HRr : Hid (wo.heap[w.heap.size + 1]? = some (.cells #[.slice none 0 0, .int .i64 0, .slice none 0 0] 26 (0, 0))) := (HR.out.2.block _ (by omega) (by simp; omega)).trans HRc.out
        have HBI : Hid (BI wo Bn (some ⟨o, 0, none⟩) cells.length cells.length (free : Int) (moveW cs fs (W.take 0)) wo) := ⟨Kp.refl _ _, by omega, none, 0, HBnr.out, Row.nil _ _ _, by simp [ownB]⟩
        have hoo : o < wo.heap.size := by omega
        clear HR HNb HRc HBn HBw HBnr
        go_wp2_with fail
        clear n0
        go_loopw [11, 12, 13] (fun i _ _ wr => ∃ k : Nat, i = .int .i64 k ∧ k ≤ W.length ∧ Hid (BI wo Bn (some ⟨o, 0, none⟩) cells.length cells.length (free : Int) (moveW cs fs (W.take k)) wr)) (fun i _ _ _ => W.length - (intOf i).toNat)
        case atStart => exact ⟨0, rfl, by omega, HBI⟩
        case round =>
          obtain ⟨k, rfl, hk2, HR⟩ := hrel
          clear HBI
          have hkr := HR.out.1
          have HN2 := Lib.hid (HNr.out.keep hkr.size (hkr.block _ HNr.out.lt (by simp; omega)))
          have HB2 : Hid (Below w.heap.size w wr) := HBwr.out.trans (hkr.below HBwr.out.size (by simp; omega))
          have n2 := HN2.out.c2
          have nl := HN2.out.lt
          by_cases hlt2 : k < W.length
          · clear hkr
            obtain ⟨b, off, rfl, hb, e0, e1, e2, e3⟩ := HW.out k hlt2
            have d0 := (HB2.out.cell (p := ⟨b, off + k * 4, none⟩) hb).trans e0
            have d1 := (HB2.out.cell (p := ⟨b, off + k * 4 + 1, none⟩) hb).trans e1
            have d2 := (HB2.out.cell (p := ⟨b, off + k * 4 + 2, none⟩) hb).trans e2
            have d3 := (HB2.out.cell (p := ⟨b, off + k * 4 + 3, none⟩) hb).trans e3
            clear e0 e1 e2 e3
            have hm := ends_at hlt2
            have HP1 := Lib.hid (hok.out.is _ hm.1)
            have HP2 := Lib.hid (hok.out.is _ hm.2)
            have hnx : moveW cs fs (W.take (k + 1)) = moveW cs fs (W.take k) ++ [(toPt cs fs (W.getD k default).1, toPt cs fs (W.getD k default).2)] := by
              rw [take_succ_getD hlt2]; simp [moveW]
            have hml : (moveW cs fs (W.take k)).length ≤ 40000 := by rw [moveW_len]; simp; omega
            generalize W.getD k default = x at d0 d1 d2 d3 hnx HP1 HP2
            obtain ⟨⟨x0, x1⟩, x2, x3⟩ := x
            have HNX := Lib.hid hnx
            clear hnx hm
            have HTh : Hid (∀ (c s : Int) (Z : World), Below wr.heap.size wr Z → isPt (pnL L) cells free (c, s) = true → Calls Try.prog 69 #[.agg #[.int .i64 c, .int .i64 s], .slice VC cs.length cc, .slice VF fs.length cf] Z fun e w' => e = .returned (encPt (toPt cs fs (c, s))) ∧ Below Z.heap.size Z w') := fun c s Z hbz hp => by
              have hbw := HB2.out.trans (hbz.mono HB2.out.size)
              refine there_is VF VC _ _ cf cc cs fs c s Z rfl rfl (Lib.hid (HFs.out.below hbw)) (Lib.hid (HCs.out.below hbw)) (by have := HLN.out.2; omega) (by have := HLN.out.1; omega) ?_
              unfold isPt at hp
              have q1 := HLN.out.1
              have q2 := HLN.out.2
              by_cases hc : c = -1
              · rw [if_pos hc, decide_eq_true_eq] at hp; dsimp only at hp; exact .inl ⟨by omega, by omega, by omega⟩
              · rw [if_neg hc, decide_eq_true_eq] at hp; dsimp only at hp; exact .inr ⟨by omega, by omega⟩
            have hbB : b < wr.heap.size := Nat.lt_of_lt_of_le hb HB2.out.size
            go_wp2_with fail
            refine (HTh.out _ _ _ (Below.refl _ _) HP1.out).mono ?_
            rintro e w6 ⟨rfl, hb6⟩
            generalize toPt cs fs (x0, x1) = y at HNX
            obtain ⟨y0, y1⟩ := y
            unfold encPt
            have HB6 := Lib.hid hb6
            have m2 := (HN2.out.below hb6).c2
            have ml := (HN2.out.below hb6).lt
            have f0 := (hb6.cell (p := ⟨b, off + k * 4, none⟩) hbB).trans d0
            have f1 := (hb6.cell (p := ⟨b, off + k * 4 + 1, none⟩) hbB).trans d1
            have f2 := (hb6.cell (p := ⟨b, off + k * 4 + 2, none⟩) hbB).trans d2
            have f3 := (hb6.cell (p := ⟨b, off + k * 4 + 3, none⟩) hbB).trans d3
            have hb6z : b < w6.heap.size := Nat.lt_of_lt_of_le hbB hb6.size
            clear hb6 n2 nl d0 d1 d2 d3
            go_wp2_with fail
            refine (HTh.out _ _ _ (HB6.out.trans ((Below.refl _ _).alloc (Nat.le_refl _) _ |>.mono HB6.out.size)) HP2.out).mono ?_
            rintro e w7 ⟨rfl, hb7⟩
            generalize toPt cs fs (x2, x3) = z at HNX
            obtain ⟨z0, z1⟩ := z
            unfold encPt
            have hB67 : Below w6.heap.size w6 w7 := ((Below.refl _ _).alloc (Nat.le_refl _) _).trans (hb7.mono (by simp))
            have y0c : w7.cell? ⟨w6.heap.size, 0, none⟩ = some (.int .i64 y0) := (hb7.cell (p := ⟨w6.heap.size, 0, none⟩) (by simp)).trans (by go_simp)
            have y1c : w7.cell? ⟨w6.heap.size, 1, none⟩ = some (.int .i64 y1) := (hb7.cell (p := ⟨w6.heap.size, 1, none⟩) (by simp)).trans (by go_simp)
            have hz67 : w6.heap.size < w7.heap.size := by have := hb7.size; simp at this; omega
            obtain ⟨k7, hBn7, V2, c2, hh, hrow, hown⟩ := HR.out.keep (Kp.of_below (HB6.out.trans (hB67.mono HB6.out.size)))
            have n2 : w7.cell? ⟨Bn, 2, none⟩ = some (.slice V2 (moveW cs fs (W.take k)).length c2) := by simp [World.cell?, hh]
            generalize moveW cs fs (W.take k) = ws at *
            have HRw : Hid (Row ((w7.alloc (.cells #[.int .i64 z0, .int .i64 z1] 78)).alloc (.cells #[.int .i64 y0, .int .i64 y1, .int .i64 z0, .int .i64 z1] 90)) 90 4 (.slice V2 ws.length c2) ws.length (wrvals ws)) := (hrow.alloc _).alloc _
            have HSr : Hid (Src ((w7.alloc (.cells #[.int .i64 z0, .int .i64 z1] 78)).alloc (.cells #[.int .i64 y0, .int .i64 y1, .int .i64 z0, .int .i64 z1] 90)) (some ⟨w7.heap.size + 1, 0, none⟩) 1 4 [.int .i64 y0, .int .i64 y1, .int .i64 z0, .int .i64 z1]) :=
              Src.block (cs := #[.int .i64 y0, .int .i64 y1, .int .i64 z0, .int .i64 z1]) (t := 90) (fr := (0, 0)) (by have := heap_alloc_new (w7.alloc (.cells #[.int .i64 z0, .int .i64 z1] 78)) (.cells #[.int .i64 y0, .int .i64 y1, .int .i64 z0, .int .i64 z1] 90); rw [World.size_alloc] at this; exact this) rfl (by simp [Value.oneCell'])
            have HH6 := Lib.hid (And.intro ((k7.alloc (.cells #[.int .i64 z0, .int .i64 z1] 78)).alloc (.cells #[.int .i64 y0, .int .i64 y1, .int .i64 z0, .int .i64 z1] 90)) (And.intro hBn7 (And.intro ((Below.heap_alloc _ (.cells #[.int .i64 y0, .int .i64 y1, .int .i64 z0, .int .i64 z1] 90) Bn (by simp; have := heap_lt hh; omega)).trans ((Below.heap_alloc w7 (.cells #[.int .i64 z0, .int .i64 z1] 78) _ (heap_lt hh)).trans hh)) hown)))
            have hg63 : ws.length + 1 ≤ maxLen := by simp only [maxLen]; omega
            have hg47 : (ws.length + 1) * 32 ≤ 140737488355328 := by omega
            have hBz : Bn < w7.heap.size := heap_lt hh
            clear hb7 k7 hh hrow hown f0 f1 f2 f3 m2 hB67
            go_wp2_with (at_builtin; go_loud (refine inPlain rfl (wpo_row_append _ _ _ rfl j0 _ 32 Try.underlying24 hj0 hj1 hj2 hj3 rfl rfl HRw.out _ 1 1 rfl [.int .i64 y0, .int .i64 y1, .int .i64 z0, .int .i64 z1] HSr.out hg63 hg47 ?_)); intro sv5 w9 r5 k5 o5; obtain ⟨V5, cp5, rfl, hc5⟩ := r5.len
                         go_loud (have A5 := BI.app HH6.out.1 HH6.out.2.1 HH6.out.2.2.1 HH6.out.2.2.2 (p := (y0, y1)) (q := (z0, z1)) k5 o5 r5)
                         have z2 := A5.1
                         have z3 := A5.2.1
                         have HA5 := Lib.hid A5.2.2.2
                         clear A5 k5 o5 r5)
            go_roundw
            case rel => exact ⟨k + 1, by go_num, by omega, by rw [HNX.out]; exact HA5⟩
            case measure => simp [intOf]; omega
          · obtain rfl : k = W.length := by omega
            obtain ⟨hk7, hBn7, V2, c2, hh, hrow, hown⟩ := HR.out
            rw [List.take_length] at hh hrow hown
            have b0 : wr.cell? ⟨Bn, 0, none⟩ = some (.slice (some ⟨o, 0, none⟩) cells.length cells.length) := by simp [World.cell?, hh]
            have b1 : wr.cell? ⟨Bn, 1, none⟩ = some (.int .i64 (free : Int)) := by simp [World.cell?, hh]
            have b2 : wr.cell? ⟨Bn, 2, none⟩ = some (.slice V2 (moveW cs fs W).length c2) := by simp [World.cell?, hh]
            have HO2 : Hid (IntsRd wr (some ⟨o, 0, none⟩) (outK cells cs cells.length)) := fun i hi => by
              obtain ⟨b, off, e, hlt, h0⟩ := HOut.out i hi
              have e1 : o = b := by simp only [Option.some.injEq, Addr.mk.injEq, and_true] at e; exact e.1
              exact ⟨b, off, e, Nat.lt_of_lt_of_le hlt hk7.size, (hk7.cell (p := ⟨b, off + i, none⟩) hlt (by simp; omega)).trans h0⟩
            have HW2 : Hid (WrRd wr V2 (moveW cs fs W)) := hrow.wires
            have HR2 : Hid (wr.heap[w.heap.size + 1]? = some (.cells #[.slice none 0 0, .int .i64 0, .slice none 0 0] 26 (0, 0))) := (hk7.block _ (heap_lt HRr.out) (by simp; omega)).trans HRr.out
            have hr7 := heap_lt HR2.out
            have hol := outK_len cells cs cells.length
            have HNet : Hid (∀ Z, Below wr.heap.size wr Z → Calls Try.prog 70 #[.slice A L.length cap, .agg #[.slice (some ⟨o, 0, none⟩) cells.length cells.length, .int .i64 (free : Int), .slice V2 (moveW cs fs W).length c2]] Z fun e w' => ∃ V1 c1 V2 c2, e = .returned (netV V1 c1 (outK cells cs cells.length) free V2 c2 (tidyW (allPs (pnL L) (outK cells cs cells.length) free) (moveW cs fs W))) ∧ NetFresh Z w' V1 c1 (outK cells cs cells.length) V2 c2 (tidyW (allPs (pnL L) (outK cells cs cells.length) free) (moveW cs fs W))) := fun Z hz => by
              have := rneat A _ cap L (some ⟨o, 0, none⟩) V2 cells.length c2 (outK cells cs cells.length) free (moveW cs fs W) Z rfl (Lib.hid (HL.out.below (HB2.out.trans (hz.mono HB2.out.size)))) hs (Lib.hid (HO2.out.below hz)) (Lib.hid (HW2.out.below hz)) (by rw [hol]; exact hc) hf (by rw [moveW_len]; exact hw) HOk2
              unfold netV at this ⊢
              rw [hol] at this ⊢
              exact this
            clear hk7 hh hrow hown hkr hol HR
            go_wp2_with (go_at_call 70; refine (HNet.out _ (Below.refl _ _)).mono ?_
                         rintro e w9 ⟨V1, c1, V3, c3, rfl, hnf⟩
                         have hb9 := hnf.1.2.2
                         have hr9 : w9.heap[w.heap.size + 1]? = some (.cells #[.slice none 0 0, .int .i64 0, .slice none 0 0] 26 (0, 0)) := (hb9.block _ hr7).trans HR2.out
                         have t0 : w9.cell? ⟨w.heap.size + 1, 0, none⟩ = some (.slice none 0 0) := by simp [World.cell?, hr9]
                         have t1 : w9.cell? ⟨w.heap.size + 1, 1, none⟩ = some (.int .i64 0) := by simp [World.cell?, hr9]
                         have t2 : w9.cell? ⟨w.heap.size + 1, 2, none⟩ = some (.slice none 0 0) := by simp [World.cell?, hr9]
                         have u0 : w9.frozen? ⟨w.heap.size + 1, 0, none⟩ = false := by simp [World.frozen?, hr9]
                         have u1 : w9.frozen? ⟨w.heap.size + 1, 1, none⟩ = false := by simp [World.frozen?, hr9]
                         have u2 : w9.frozen? ⟨w.heap.size + 1, 2, none⟩ = false := by simp [World.frozen?, hr9]
                         have HNF := Lib.hid hnf
                         clear hnf hb9 hr9)
            exact bodyPost_ret (v := netV V1 c1 (outK cells cs cells.length) free V3 c3 (tidyW (allPs (pnL L) (outK cells cs cells.length) free) (moveW cs fs W))) (by simp only [results, Try.results20]; go_simp) rfl ⟨V1, c1, V3, c3, rfl, HNF.out.set3 (b := w.heap.size + 1) HB2.out (by omega) hr7 _ _ _⟩
end Go.Proofs.Ytcebejcdfdahjaa
