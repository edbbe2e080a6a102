/-
  The statement NetChecks: what came is what is wanted.
-/
import Derived.Test.YtkonfogebepccaaDoorChkD
/-
  The statement NetChecks: what is wanted.
-/
namespace Go.Proofs.YtkonfogebepccaaDoor
open Go.RowKit Go.Shelf
attribute [local go_sem] cell_set
set_option maxRecDepth 100000
set_option linter.unusedVariables false

section
variable (Q : Exit → Act → World → Prop) (A : Option Addr) (n cap : Nat) (L : List (ByteArray × Int)) (VA VB : Option Addr) (ca cb : Nat) (cells : List Int) (f : Nat) (W : List (Pt × Pt)) (w : World)
set_option maxHeartbeats 4000000 in
theorem nc_15 (a : Act) (X : World) (b6 g1 g2 : Nat) (V5 : Option Addr) (c5 : Nat) (PS ES : List Pt) (T : List (Pt × Pt)) (PR : List Pt) (Vp Ve V1 V2 Vq : Option Addr) (cp ce bt c1 c2 cq : Nat) (hn : n = L.length) (HL : Hid (AgRd w A L)) (hsg : SigOk L) (hcA : cells.length ≤ 5000) (hf : f ≤ 100) (hwA : W.length ≤ 32768) (HC : Hid (IntsRd w VA cells)) (HW : Hid (WrRd w VB W))
    (hok : Hid (NetOk (pnL L) cells f W)) (hPS : allPs (pnL L) cells f = PS) (hES : PS.map (lkT (lnk W)) = ES) (hPl : PS.length ≤ 100000)
    (hnext : Hid (∀ a' X' Va Vw cv cw, FrN 214 [] [(0, .slice A n cap), (3, .pointer (some ⟨w.heap.size, 0, none⟩)), (5, .slice V5 L.length c5), (6, .pointer (some ⟨b6, 0, none⟩)), (11, .slice Vp PS.length cp), (13, .slice Ve PS.length ce), (15, .pointer (some ⟨bt, 0, none⟩)), (17, .slice Vq PR.length cq), (19, .slice Va PS.length cv), (21, .slice Vw PS.length cw)] a' →
      CkO w X' b6 g1 g2 VA VB V5 ca cb L cells f W Vp Ve V1 V2 Vq cp ce bt c1 c2 cq PS ES T PR → PtsRd X' Va PS → PtsRd X' Vw ES → (ncT 22).wp Tryd.prog Q a' X'))
    (ho : Hid (CkO w X b6 g1 g2 VA VB V5 ca cb L cells f W Vp Ve V1 V2 Vq cp ce bt c1 c2 cq PS ES T PR))
    (ha : FrN 214 [] [(0, .slice A n cap), (3, .pointer (some ⟨w.heap.size, 0, none⟩)), (5, .slice V5 L.length c5), (6, .pointer (some ⟨b6, 0, none⟩)), (11, .slice Vp PS.length cp), (13, .slice Ve PS.length ce), (15, .pointer (some ⟨bt, 0, none⟩)), (17, .slice Vq PR.length cq)] a) : (ncT 15).wp Tryd.prog Q a X := by
  subst hn
  obtain ⟨U, rfl, e0, e3, e5, e6, e11, e13, e15, e17, -⟩ := ha.openNC
  have HO := ho
  unfold FrNC
  simp only [e0, e3, e5, e6, e11, e13, e15, e17]
  clear e0 e3 e5 e6 e11 e13 e15 e17 ha ho
  show (Code.seq _ _).wp _ _ _ _
  have hM : firstN (pnL L) cells f cells.length = PS.length := by rw [← hPS, allPs_len]
  have hKl := lkK_len (pnL L) cells f W W.length
  rw [hM] at hKl
  have H1 : Hid (∀ Z, Below w.heap.size w Z → Calls Tryd.prog 32 #[.slice A L.length cap, .agg #[.slice VA cells.length ca, .int .i64 (f : Int), .slice VB W.length cb]] Z fun e w' => ∃ V c, e = .returned (.slice V PS.length c) ∧ Fresh Z w' 83 2 PS.length (.slice V PS.length c) (pvals PS)) := fun Z hz => by
    have := rall A _ cap L VA VB ca cb cells f W Z rfl (Lib.hid (HL.out.below hz)) hsg (Lib.hid (HC.out.below hz)) hcA hf
    rw [hPS] at this
    exact this
  have H2 : Hid (∀ Z, Below w.heap.size w Z → Calls Tryd.prog 33 #[.slice A L.length cap, .agg #[.slice VA cells.length ca, .int .i64 (f : Int), .slice VB W.length cb]] Z fun e w' => ∃ V c, e = .returned (.slice V PS.length c) ∧ Fresh Z w' 3 1 PS.length (.slice V PS.length c) (ivals (lkK (pnL L) cells f W W.length))) := fun Z hz => by
    have := rlinks A _ cap L VA VB ca cb cells f W Z rfl (Lib.hid (HL.out.below hz)) hsg (Lib.hid (HC.out.below hz)) (Lib.hid (HW.out.below hz)) hcA hf (by omega) hok
    rw [hM] at this
    exact this
  have HWt : Hid (∀ i, i < PS.length → ∃ j : Nat, j < PS.length ∧ (lkK (pnL L) cells f W W.length).getD i 0 = (j : Int) ∧ PS.getD j default = ES.getD i default) := fun i hi => by
    have := want_at hok.out (i := i) (by rw [hPS]; exact hi)
    rw [hPS, hES] at this
    exact this
  have HEl : Hid (ES.length = PS.length) := by show _ = _; rw [← hES, List.length_map]
  have HKl := Lib.hid hKl
  obtain ⟨i0, hi0, hi1, hi2, hi3⟩ := info_parts port_info
  clear hKl hM hPS hES
  have c0 := HO.out.s.nb.c0
  have c1' := HO.out.s.nb.c1
  have c2' := HO.out.s.nb.c2
  have clt := HO.out.s.nb.lt
  go_wp2_with fail
  refine (H1.out _ HO.out.s.bel).mono ?_
  rintro e w1 ⟨Va, cv, rfl, hp⟩
  have HO := Lib.hid (HO.out.below hp.2.2)
  have HA := Lib.hid hp.1.pts
  clear c0 c1' c2' clt hp
  have c0 := HO.out.s.nb.c0
  have c1' := HO.out.s.nb.c1
  have c2' := HO.out.s.nb.c2
  have clt := HO.out.s.nb.lt
  simp only []
  go_wp2_with fail
  refine (H2.out _ HO.out.s.bel).mono ?_
  rintro e w2 ⟨Vl, cl, rfl, hp⟩
  have HO := Lib.hid (HO.out.below hp.2.2)
  have HA := Lib.hid (HA.out.below hp.2.2)
  have HLk : Hid (IntsRd w2 Vl (lkK (pnL L) cells f W W.length)) := Row.ints (cap := cl) (by rw [HKl.out]; exact hp.1)
  clear c0 c1' c2' clt hp
  obtain ⟨np, hnp⟩ : ∃ np, PS.length = np := ⟨_, rfl⟩
  rw [hnp] at hnext hPl HWt HEl HKl ⊢
  have HNP := Lib.hid hnp
  clear hnp
  simp only []
  go_wp2_with fail
  go_loopw [21, 22] (fun l i wr => ∃ k : Nat, ∃ V c, i = .int .i64 k ∧ k ≤ np ∧ l = .slice V k c ∧ Hid (Fresh w2 wr 83 2 k (.slice V k c) (pvals (ES.take k)))) (fun _ i _ => np - (intOf i).toNat)
  case atStart => exact ⟨0, none, 0, rfl, by omega, rfl, Lib.hid (Fresh.nil _ _ _)⟩
  case round =>
    obtain ⟨k, V, c, rfl, hk, rfl, HF⟩ := hrel
    by_cases hlt : k < np
    · obtain ⟨j, hj, hlk, hpe⟩ := HWt.out k hlt
      obtain ⟨b, off, rfl, hb, e0⟩ := HLk.out k (by rw [HKl.out]; exact hlt)
      obtain ⟨b2, off2, rfl, hb2, g0, g1⟩ := HA.out j (by rw [HNP.out]; exact hj)
      rw [hlk] at e0
      rw [hpe] at g0 g1
      have c0 := (HF.out.2.2.cell (p := ⟨b, off + k, none⟩) hb).trans e0
      have d0 := (HF.out.2.2.cell (p := ⟨b2, off2 + j * 2, none⟩) hb2).trans g0
      have d1 := (HF.out.2.2.cell (p := ⟨b2, off2 + j * 2 + 1, none⟩) hb2).trans g1
      have hsn : ES.take (k + 1) = ES.take k ++ [ES.getD k default] := take_succ_getD (by rw [HEl.out]; exact hlt)
      clear e0 g0 g1 hlk hpe
      generalize ES.getD k default = x at d0 d1 hsn
      obtain ⟨x0, x1⟩ := x
      have HSn := Lib.hid hsn
      have HRow : Hid (Row (wr.alloc (.cells #[.int .i64 x0, .int .i64 x1] 83)) 83 2 (.slice V k c) k (pvals (ES.take k))) := HF.out.1.alloc _
      have HSrc : Hid (Src (wr.alloc (.cells #[.int .i64 x0, .int .i64 x1] 83)) (some ⟨wr.heap.size, 0, none⟩) 1 2 [.int .i64 x0, .int .i64 x1]) :=
        Src.block (cs := #[.int .i64 x0, .int .i64 x1]) (t := 83) (fr := (0, 0)) (heap_alloc_new wr _) rfl (by simp [Value.oneCell'])
      have HB63 : k + 1 ≤ maxLen := by simp only [maxLen]; omega
      have HB47 : (k + 1) * 16 ≤ 140737488355328 := by omega
      have HJ := Lib.hid hj
      have hj1 : (j : Int) < (np : Int) := by omega
      clear hsn hj
      go_wp2_with (at_builtin; go_loud (refine inPlain rfl (wpo_row_append _ _ _ rfl i0 _ 16 Tryd.underlying70 hi0 hi1 hi2 hi3 rfl rfl HRow.out _ 1 1 rfl [.int .i64 x0, .int .i64 x1] HSrc.out HB63 HB47 ?_)); intro sv5 w5 r5 k5 o5; obtain ⟨V6, cp6, rfl, hc6⟩ := r5.len
                   go_loud (have F5 : Hid (Fresh w2 w5 83 2 (k + 1) (.slice V6 (k + 1) cp6) (pvals (ES.take (k + 1)))) := by rw [HSn.out, pvals_snoc]; exact HF.out.app k5 o5 r5))
      go_roundw
      case rel => exact ⟨k + 1, V6, cp6, by go_num, by omega, rfl, F5⟩
      case measure => simp [intOf]; omega
    · obtain rfl : k = np := by omega
      iterate 80 (first | (with_reducible refine at_seq3 22 ?_) | (with_reducible refine at_seq2 22 ?_) | (with_reducible refine at_seq 22 ?_) | go_values | go_skip | go_guarded | go_step | go_upon | go_back | go_simp)
      refine hnext.out _ _ Va (V) cv c ⟨rfl, rfl, rfl, rfl, rfl, rfl, rfl, rfl, rfl, rfl, rfl, rfl, trivial⟩ (HO.out.below HF.out.2.2) (HA.out.below HF.out.2.2) ?_
      have hr := HF.out.1
      rw [List.take_of_length_le (by rw [HEl.out]; exact Nat.le_refl _), ← HEl.out] at hr
      exact hr.pts
end
end Go.Proofs.YtkonfogebepccaaDoor
namespace Go.Proofs.YtkonfogebepccaaDoor
open Go.RowKit Go.Shelf
attribute [local go_sem] cell_set
set_option maxRecDepth 100000
set_option linter.unusedVariables false

theorem row_prs {w : World} {V : Option Addr} {cap : Nat} {P : List Pt} (h : Row w 35 2 (.slice V P.length cap) P.length (pvals P)) : PtsRd w V P := fun i hi => by
  obtain ⟨g, cap', cur, e, _⟩ := h.some_ (by omega)
  simp only [Value.slice.injEq, true_and] at e
  obtain ⟨rfl, rfl⟩ := e
  obtain ⟨h0, h1⟩ := pvals_at P hi
  exact ⟨g, 0, rfl, h.lt g (by simp [ownB]), by rw [Nat.zero_add]; exact (h.cellAt _ (by omega)).trans h0, by rw [Nat.zero_add]; exact (h.cellAt _ (by omega)).trans h1⟩
section
variable (Q : Exit → Act → World → Prop) (A : Option Addr) (n cap : Nat) (L : List (ByteArray × Int)) (VA VB : Option Addr) (ca cb : Nat) (cells : List Int) (f : Nat) (W : List (Pt × Pt)) (w : World)
set_option maxHeartbeats 4000000 in
theorem nc_22 (a : Act) (X : World) (b6 g1 g2 : Nat) (V5 : Option Addr) (c5 : Nat) (PS ES : List Pt) (T : List (Pt × Pt)) (PR : List Pt) (Vp Ve V1 V2 Vq Va Vw : Option Addr) (cp ce bt c1 c2 cq cv cw : Nat) (hn : n = L.length) (HL : Hid (AgRd w A L)) (hsg : SigOk L) (hcA : cells.length ≤ 5000) (hf : f ≤ 100) (hwA : W.length ≤ 32768) (HC : Hid (IntsRd w VA cells)) (HW : Hid (WrRd w VB W))
    (hok : Hid (NetOk (pnL L) cells f W)) (hPS : allPs (pnL L) cells f = PS) (hEl : ES.length = PS.length) (hT : tidyW PS W = T) (hPR : pairsOf T = PR) (hPl : PS.length ≤ 100000) (hTl : T.length ≤ 100000) (hQl : PR.length ≤ 100000)
    (hnext : Hid (∀ a' X', FrN 214 [] [(0, .slice A n cap), (3, .pointer (some ⟨w.heap.size, 0, none⟩)), (5, .slice V5 L.length c5), (6, .pointer (some ⟨b6, 0, none⟩)), (11, .slice Vp PS.length cp), (13, .slice Ve PS.length ce), (15, .pointer (some ⟨bt, 0, none⟩)), (17, .slice Vq PR.length cq)] a' →
      CkO w X' b6 g1 g2 VA VB V5 ca cb L cells f W Vp Ve V1 V2 Vq cp ce bt c1 c2 cq PS ES T PR → (ncT 24).wp Tryd.prog Q a' X'))
    (ho : Hid (CkO w X b6 g1 g2 VA VB V5 ca cb L cells f W Vp Ve V1 V2 Vq cp ce bt c1 c2 cq PS ES T PR)) (hA : Hid (PtsRd X Va PS)) (hWt : Hid (PtsRd X Vw ES))
    (ha : FrN 214 [] [(0, .slice A n cap), (3, .pointer (some ⟨w.heap.size, 0, none⟩)), (5, .slice V5 L.length c5), (6, .pointer (some ⟨b6, 0, none⟩)), (11, .slice Vp PS.length cp), (13, .slice Ve PS.length ce), (15, .pointer (some ⟨bt, 0, none⟩)), (17, .slice Vq PR.length cq), (19, .slice Va PS.length cv), (21, .slice Vw PS.length cw)] a) : (ncT 22).wp Tryd.prog Q a X := by
  subst hn
  obtain ⟨U, rfl, e0, e3, e5, e6, e11, e13, e15, e17, e19, e21, -⟩ := ha.openNC
  unfold FrNC
  simp only [e0, e3, e5, e6, e11, e13, e15, e17, e19, e21]
  clear e0 e3 e5 e6 e11 e13 e15 e17 e19 e21 ha
  show (Code.seq _ _).wp _ _ _ _
  have HKP : Hid (∀ Z, Below X.heap.size X Z → Z.cell? ⟨bt, 0, none⟩ = some (.slice V1 cells.length c1) ∧ Z.cell? ⟨bt, 1, none⟩ = some (.int .i64 (f : Int)) ∧ Z.cell? ⟨bt, 2, none⟩ = some (.slice V2 T.length c2) ∧ Z.cell? ⟨w.heap.size, 0, none⟩ = some (.slice VA cells.length ca) ∧ Z.cell? ⟨w.heap.size, 1, none⟩ = some (.int .i64 (f : Int)) ∧ Z.cell? ⟨w.heap.size, 2, none⟩ = some (.slice VB W.length cb)) := fun Z hz => by
    have h1 := (ho.out.below hz).tb
    have h2 := (ho.out.below hz).s.nb
    exact ⟨h1.c0, h1.c1, h1.c2, h2.c0, h2.c1, h2.c2⟩
  have HP1 : Hid (PtsRd X Vp PS) := ho.out.p.1.pts
  have HP2 : Hid (PtsRd X Ve ES) := by
    have := ho.out.e.1
    rw [← hEl] at this
    exact this.pts
  have HPQ : Hid (PtsRd X Vq PR) := row_prs ho.out.q.1
  have C1 : Hid (∀ Z, Below X.heap.size X Z → Calls Tryd.prog 34 #[.slice Vp PS.length cp, .slice Va PS.length cv] Z fun e w' => e = .returned (.bool true) ∧ Below Z.heap.size Z w') := fun Z hz =>
    eq_ports Vp Va _ _ cp cv PS Z rfl rfl hPl (Lib.hid (HP1.out.below hz)) (Lib.hid (hA.out.below hz))
  have C2 : Hid (∀ Z, Below X.heap.size X Z → Calls Tryd.prog 34 #[.slice Ve PS.length ce, .slice Vw PS.length cw] Z fun e w' => e = .returned (.bool true) ∧ Below Z.heap.size Z w') := fun Z hz =>
    eq_ports Ve Vw _ _ ce cw ES Z hEl.symm hEl.symm (by omega) (Lib.hid (HP2.out.below hz)) (Lib.hid (hWt.out.below hz))
  have C3 : Hid (∀ Z, Below X.heap.size X Z → Calls Tryd.prog 35 #[.slice A L.length cap, .agg #[.slice VA cells.length ca, .int .i64 (f : Int), .slice VB W.length cb]] Z fun e w' => ∃ V3 c3 V4 c4, e = .returned (.agg #[.slice V3 cells.length c3, .int .i64 (f : Int), .slice V4 T.length c4]) ∧ IntsRd w' V3 cells ∧ WrRd w' V4 T ∧ Below Z.heap.size Z w') := fun Z hz => by
    have hz' := ho.out.s.bel.trans (hz.mono ho.out.s.bel.size)
    have := rneat A _ cap L VA VB ca cb cells f W Z rfl (Lib.hid (HL.out.below hz')) hsg (Lib.hid (HC.out.below hz')) (Lib.hid (HW.out.below hz')) hcA hf (by omega) hok
    rw [hPS, hT] at this
    exact this.mono fun e w' ⟨V3, c3, V4, c4, he, hnf⟩ => ⟨V3, c3, V4, c4, he, hnf.1.1.ints, hnf.2.1.wires, hnf.1.2.2⟩
  have C4 : Hid (∀ Z, Below X.heap.size X Z → ∀ V3 c3 V4 c4, IntsRd Z V3 cells → WrRd Z V4 T → Calls Tryd.prog 29 #[.agg #[.slice V1 cells.length c1, .int .i64 (f : Int), .slice V2 T.length c2], .agg #[.slice V3 cells.length c3, .int .i64 (f : Int), .slice V4 T.length c4]] Z fun e w' => e = .returned (.bool true) ∧ Below Z.heap.size Z w') := fun Z hz V3 c3 V4 c4 h3 h4 => by
    have ht := (ho.out.below hz).t
    have := eq_net V1 V2 V3 V4 c1 c2 c3 c4 cells cells f f T T Z (by omega) (by omega) hTl hTl (Lib.hid ht.1.1.ints) (Lib.hid ht.2.1.wires) (Lib.hid h3) (Lib.hid h4)
    simpa using this
  have C5 : Hid (∀ Z, Below X.heap.size X Z → Calls Tryd.prog 36 #[.slice A L.length cap, .agg #[.slice VA cells.length ca, .int .i64 (f : Int), .slice VB W.length cb]] Z fun e w' => ∃ V c, e = .returned (.slice V PR.length c) ∧ PtsRd w' V PR ∧ Below Z.heap.size Z w') := fun Z hz => by
    have hz' := ho.out.s.bel.trans (hz.mono ho.out.s.bel.size)
    have := rtwos A _ cap L VA VB ca cb cells f W Z rfl (Lib.hid (HL.out.below hz')) hsg (Lib.hid (HC.out.below hz')) (Lib.hid (HW.out.below hz')) hcA hf (by omega) hok
    rw [hPS, hT, hPR] at this
    exact this.mono fun e w' ⟨V, c, he, hf⟩ => ⟨V, c, he, row_prs hf.1, hf.2.2⟩
  have C6 : Hid (∀ Z, Below X.heap.size X Z → ∀ V c, PtsRd Z V PR → Calls Tryd.prog 16 #[.slice Vq PR.length cq, .slice V PR.length c] Z fun e w' => e = .returned (.bool true) ∧ Below Z.heap.size Z w') := fun Z hz V c h =>
    eq_pairs Vq V _ _ cq c PR Z rfl rfl hQl (Lib.hid (HPQ.out.below hz)) (Lib.hid h)
  have HO := ho
  clear hPS hEl hT hPR hPl hTl hQl HP1 HP2 HPQ hA hWt ho
  have HBz : Hid (Below X.heap.size X X.drew) := (Below.refl _ _).drew
  go_wp2_with fail
  go_region_held3 (fun Z => Z.cell? ⟨bt, 0, none⟩ = some (.slice V1 cells.length c1) ∧ Z.cell? ⟨bt, 1, none⟩ = some (.int .i64 (f : Int)) ∧ Z.cell? ⟨bt, 2, none⟩ = some (.slice V2 T.length c2) ∧ Z.cell? ⟨w.heap.size, 0, none⟩ = some (.slice VA cells.length ca) ∧ Z.cell? ⟨w.heap.size, 1, none⟩ = some (.int .i64 (f : Int)) ∧ Z.cell? ⟨w.heap.size, 2, none⟩ = some (.slice VB W.length cb)) (exact HKP.out _ HBz.out)
    (first
      | (go_at_call 34; with_reducible refine (C1.out _ HBz.out).mono ?_; rintro e w1 ⟨rfl, hb1⟩; have HBz := Lib.hid (HBz.out.trans (hb1.mono HBz.out.size)); dsimp only)
      | (go_at_call 34; with_reducible refine (C2.out _ HBz.out).mono ?_; rintro e w2 ⟨rfl, hb2⟩; have HBz := Lib.hid (HBz.out.trans (hb2.mono HBz.out.size)); dsimp only)
      | (go_at_call 35; with_reducible refine (C3.out _ HBz.out).mono ?_; rintro e w3 ⟨V3, c3, V4, c4, rfl, h31, h32, hb3⟩; have HBz := Lib.hid (HBz.out.trans (hb3.mono HBz.out.size)); have HN := Lib.hid (And.intro h31 h32); dsimp only)
      | (go_at_call 29; with_reducible refine (C4.out _ HBz.out _ _ _ _ HN.out.1 HN.out.2).mono ?_; rintro e w4 ⟨rfl, hb4⟩; have HBz := Lib.hid (HBz.out.trans (hb4.mono HBz.out.size)); dsimp only)
      | (go_at_call 36; with_reducible refine (C5.out _ HBz.out).mono ?_; rintro e w5 ⟨V7, c7, rfl, h51, hb5⟩; have HBz := Lib.hid (HBz.out.trans (hb5.mono HBz.out.size)); have HQ := Lib.hid h51; dsimp only)
      | (go_at_call 16; with_reducible refine (C6.out _ HBz.out _ _ HQ.out).mono ?_; rintro e w6 ⟨rfl, hb6⟩; have HBz := Lib.hid (HBz.out.trans (hb6.mono HBz.out.size)); dsimp only))
  all_goals
    iterate 80 (first | (with_reducible refine at_seq3 24 ?_) | (with_reducible refine at_seq2 24 ?_) | (with_reducible refine at_seq 24 ?_) | go_values | go_skip | go_guarded | go_step | go_upon | go_back | go_simp)
    exact hnext.out _ _ ⟨rfl, rfl, rfl, rfl, rfl, rfl, rfl, rfl, rfl, rfl, trivial⟩ (HO.out.below HBz.out)
end
end Go.Proofs.YtkonfogebepccaaDoor
