/-
  net.Ends.
-/
import Derived.Test.YtkonfogebepccaaDoorNetPorts
import Derived.Test.YtkonfogebepccaaDoorRegionHSIn
import Derived.Test.YtkonfogebepccaaDoorRangeBox2
namespace Go.Proofs.YtkonfogebepccaaDoor
open Go.RowKit
attribute [local go_sem] cell_set
attribute [local go_sem] Oper.semAt_some
set_option maxRecDepth 100000
set_option linter.unusedVariables false

section
variable (A : Option Addr) (n cap : Nat) (L : List (ByteArray × Int)) (VA VB : Option Addr) (ca cb : Nat) (cells : List Int) (free : Int) (W : List (Pt × Pt)) (w : World)
set_option maxHeartbeats 1000000 in
theorem ends_bad (hn : n = L.length) (hcap : L.length ≤ cap) (HL : Hid (AgRd w A L)) (hl : L.length ≤ maxLen) (HC : Hid (IntsRd w VA cells)) (HW : Hid (WrRd w VB W)) (hc : cells.length ≤ 10000) (hw : W.length ≤ 40000) (k : Int)
    (hk : (netChk (pnL L) L.length (chk L) cells free W).1 = k) (h0 : k ≠ 0) :
    Calls Tryd.prog 26 #[.slice A n cap, netV VA ca cells free VB cb W] w fun e w' => e = .returned (.tuple #[.slice none 0 0, .int .i64 k]) ∧ Below w.heap.size w w' := by
  subst hn
  have hbA : ∀ o : Obj, Below w.heap.size w (w.alloc o) := fun o => (Below.refl _ _).alloc (Nat.le_refl _) o
  have hkb : (k != 0) = true := by simpa using h0
  have HK := Lib.hid hk
  clear hk h0
  refine (callsIn_wide (n := 5)).1 (callsIn_of_wp_marks Tryd.func26 rfl trivial (wpIn_wide.2 ?_) rfl)
  simp only [Tryd.ntmps26, List.size_toArray, List.length_cons, List.length_nil, Nat.reduceAdd, Nat.reduceSub, Array.replicate_succ, Array.replicate_zero, List.push_toArray, List.append_toArray, List.nil_append, List.cons_append]
  go_wp2_with (go_at_call 75; refine (net_fine A _ cap L VA VB ca cb cells free W _ rfl hcap (Lib.hid (HL.out.below (hbA _))) hl (Lib.hid (HC.out.below (hbA _))) (Lib.hid (HW.out.below (hbA _))) hc hw).mono ?_; rintro e w1 ⟨rfl, hb1⟩; rw [HK.out]
               have HB1 : Hid (Below w.heap.size w w1) := (hbA _).trans (hb1.mono (by simp))
               clear hb1)
  exact ⟨.tuple #[.slice none 0 0, .int .i64 k], by simp [results, Tryd.f26, go_sem], rfl, HB1.out⟩
def actN (a : Act) (x : Nat × Pt) (b : Nat) : Act := { tmps := ((a.tmps.setIfInBounds 22 (.int .i64 (x.1 : Int))).setIfInBounds 23 (.agg #[.int .i64 x.2.1, .int .i64 x.2.2])).setIfInBounds 10 (.pointer (some ⟨b, 0, none⟩)), defers := [] }
set_option maxHeartbeats 2000000 in
theorem ends_ok (f : Nat) (hn : n = L.length) (hcap : L.length ≤ cap) (HL : Hid (AgRd w A L)) (hl : L.length ≤ maxLen) (HC : Hid (IntsRd w VA cells)) (HW : Hid (WrRd w VB W)) (hc : cells.length ≤ 10000) (hw : W.length ≤ 40000)
    (hk : (netChk (pnL L) L.length (chk L) cells (f : Int) W).1 = 0) :
    Calls Tryd.prog 26 #[.slice A n cap, netV VA ca cells (f : Int) VB cb W] w fun e w' => ∃ V c, e = .returned (.tuple #[.slice V (allPs (pnL L) cells f).length c, .int .i64 0]) ∧ Fresh w w' 83 2 (allPs (pnL L) cells f).length (.slice V (allPs (pnL L) cells f).length c) (pvals ((allPs (pnL L) cells f).map (lkT (lnk W)))) := by
  subst hn
  obtain ⟨hz, hc4, hf0, hf64, hag, hok⟩ := netChk_ok hk
  have hs := chk_sig hz
  have hpos := chk_pos hz
  have hf : f ≤ 100 := by omega
  have hc5 : cells.length ≤ 5000 := by omega
  obtain ⟨j0, hj0, hj1, hj2, hj3⟩ := info_parts port_info
  have hbA : ∀ o : Obj, Below w.heap.size w (w.alloc o) := fun o => (Below.refl _ _).alloc (Nat.le_refl _) o
  have HK := Lib.hid hk
  have HLk : Hid (∀ p ∈ allPs (pnL L) cells f, ∃ q, lnk W p = some q) := fun p hp => by obtain ⟨q, h1, _⟩ := hok.lnk (allPs_is _ hp); exact ⟨q, h1⟩
  have HLf : Hid (linkF W W.length = fun p => (lnk W p).map encPt) := by show _ = _; rw [linkF_lnk hok.nodup (Nat.le_refl _), List.take_length]
  clear hk hok hag hf0 hf64 hz
  refine (callsIn_wide (n := 5)).1 (callsIn_of_wp_marks Tryd.func26 rfl trivial (wpIn_wide.2 ?_) rfl)
  simp only [Tryd.ntmps26, List.size_toArray, List.length_cons, List.length_nil, Nat.reduceAdd, Nat.reduceSub, Array.replicate_succ, Array.replicate_zero, List.push_toArray, List.append_toArray, List.nil_append, List.cons_append]
  go_upto_region 6 with (first
                         | (go_at_call 75; refine (net_fine A _ cap L VA VB ca cb cells f W _ rfl hcap (Lib.hid (HL.out.below (hbA _))) hl (Lib.hid (HC.out.below (hbA _))) (Lib.hid (HW.out.below (hbA _))) hc hw).mono ?_; rintro e w1 ⟨rfl, hb1⟩; rw [HK.out]
                            have HB1 : Hid (Below w.heap.size w w1) := (hbA _).trans (hb1.mono (by simp))
                            have nb : NBox w1 w.heap.size VA cells.length ca (f : Int) VB W.length cb := NBox.below (w := w.alloc _) ⟨by simp, by go_simp, by go_simp, by go_simp⟩ hb1
                            have NB := Lib.hid nb
                            have k0 := nb.c0
                            have k1 := nb.c1
                            have k2 := nb.c2
                            clear hb1 nb)
                         | (go_at_call 76; refine (net_links VA VB ca cb cells f W _ (Lib.hid (HW.out.below HB1.out)) hw).mono ?_; rintro e w3 ⟨m, rfl, hm3, hm3l, hb3⟩
                            have HM3 : Hid (MP encPt w3 m fun p => (lnk W p).map encPt) := by have := hm3; rw [HLf.out] at this; exact this
                            have HB3 : Hid (Below w1.heap.size w1 w3) := hb3
                            clear hm3 hb3))
  obtain ⟨bm, hbme⟩ : ∃ b, w3.heap.size = b := ⟨_, rfl⟩
  have hz3 := HB3.out.size
  have hmlt := HM3.out.lt
  refine absW (fun X => Below w.heap.size w X ∧ NBox X w.heap.size VA cells.length ca (f : Int) VB W.length cb ∧ X.heap[bm]? = some (.cells #[.map (some m)] 122 (0, 0)) ∧ X.heap[bm + 1]? = some (.cells #[.slice none 0 0] 70 (0, 0)) ∧ MP encPt X m (fun p => (lnk W p).map encPt)) ?_ ?_
  · have hb4 : Below w3.heap.size w3 ((w3.alloc (.cells #[.map (some m)] 122)).alloc (.cells #[.slice none 0 0] 70)) := ((Below.refl _ _).alloc (Nat.le_refl _) _).alloc (by simp) _
    have hb3w : Below w.heap.size w w3 := HB1.out.trans (HB3.out.mono HB1.out.size)
    refine ⟨hb3w.trans (hb4.mono hb3w.size), (NB.out.below HB3.out).below hb4, ?_, ?_, HM3.out.keep (hb4.block m hmlt)⟩
    · rw [← hbme]
      exact (Below.heap_alloc _ _ _ (by simp)).trans (heap_alloc_new w3 _)
    · rw [← hbme]
      have := heap_alloc_new (w3.alloc (.cells #[.map (some m)] 122)) (.cells #[.slice none 0 0] 70)
      rwa [World.size_alloc] at this
  rintro X ⟨hbX, nbX, hbmx, hbl, hmx⟩
  have hw1 : w.heap.size ≤ w1.heap.size := HB1.out.size
  have hmbm : m < bm := by omega
  have hwm : w.heap.size ≤ m := by omega
  rw [hbme]
  clear k0 k1 k2 hbme HM3 HB3 NB HB1 hz3 hmlt hm3l
  have k0 := nbX.c0
  have k1 := nbX.c1
  have k2 := nbX.c2
  have kl := nbX.lt
  have hbll := heap_lt hbl
  have hbml := heap_lt hbmx
  have hml := hmx.lt
  have HX := Lib.hid (And.intro hbX (And.intro hbl (And.intro hbmx hmx)))
  clear nbX hbX hbl hbmx hmx
  go_wp2_with (go_at_call 71; refine (net_ports A _ cap VA VB ca cb cells f W L X rfl (Lib.hid (HC.out.below HX.out.1)) (Lib.hid (HL.out.below HX.out.1))).mono ?_; rintro e w2 ⟨rfl, hps, hb2⟩
               have hz2 := hb2.size
               have HB2 := Lib.hid hb2
               have HPS := Lib.hid hps
               clear hb2 hps)
  obtain ⟨bl, hble⟩ : ∃ b, bm + 1 = b := ⟨_, rfl⟩
  rw [hble] at hbll HX ⊢
  clear k0 k1 k2
  have hQl := pQ_lt HPS.out hpos
  have HQn : Hid (∀ y ∈ pQ (X.heap.size + 1) X.heap.size A VA cells, y < w2.heap.size ∧ y ≠ bl) := fun y hy => ⟨hQl y hy, by
    simp only [pQ, List.mem_cons, List.mem_append] at hy
    rcases hy with rfl | rfl | hy | hy
    · omega
    · omega
    · obtain ⟨b', off, rfl, hlt, _⟩ := HL.out 0 hpos
      simp [ablk] at hy; omega
    · unfold ablkL at hy
      by_cases h0 : cells.length = 0
      · rw [if_pos h0] at hy; simp at hy
      · rw [if_neg h0] at hy
        obtain ⟨b', off, rfl, hlt, _⟩ := HC.out 0 (by omega)
        simp [ablk] at hy; omega⟩
  clear hQl
  have hBP : BP w2 bl (((([] : List (Nat × Pt)).map Prod.snd)).map (lkT (lnk W))) w2 := ⟨Kp.refl _ _, by omega, none, 0, (HB2.out.block bl hbll).trans HX.out.2.1, Row.nil _ _ _, by simp [ownB]⟩
  have HBP := Lib.hid hBP
  have hN40 : (allPs (pnL L) cells f).length ≤ 40000 := by
    rw [allPs_len]
    have := firstN_le (pnL_le hs) cells f cells.length
    omega
  have HN40 := Lib.hid hN40
  have HM2 : Hid (w2.heap[bm]? = some (.cells #[.map (some m)] 122 (0, 0)) ∧ MP encPt w2 m (fun p => (lnk W p).map encPt)) := ⟨(HB2.out.block bm hbml).trans HX.out.2.2.1, HX.out.2.2.2.keep (HB2.out.block m hml)⟩
  clear hBP hN40
  refine rfb2 rfl (enters_of Tryd.func99 (by kernel_rfl) rfl) (ports_seq 4 _ _ A cap L VA VB ca cb cells f _ hs hc5 hf _ HPS.out) (fun y hy => (HQn.out y hy).1) (fun _ => rfl)
    (fun pre Y => BP w2 bl ((pre.map Prod.snd).map (lkT (lnk W))) Y) (fun c pre Y => False)
    (fun s Y Y' row h hg hr => h.grown hg hr) (fun c s Y Y' row h hg hr => h)
    HBP.out (fun x => .cells #[.int .i64 x.2.1, .int .i64 x.2.2] 83) actN ?assign ?body ?done ?stop
  case assign =>
    intro l x Y K hK
    unfold encP
    gi_wp2
    simpa [actN] using hK
  case stop => exact fun D c pre Y hD hpre h => h.elim
  case body =>
    rintro l pre x b W0 Y hbp0 hb0e hold hbp hlen hb hbx
    obtain ⟨i, p0, p1⟩ := x
    have b0 : Y.cell? ⟨b, 0, none⟩ = some (.int .i64 p0) := by simp [World.cell?, hbx]
    have b1 : Y.cell? ⟨b, 1, none⟩ = some (.int .i64 p1) := by simp [World.cell?, hbx]
    have hbY := heap_lt hbx
    have hlen2 : ((pre.map Prod.snd).map (lkT (lnk W))).length ≤ 40000 := by rw [List.length_map, List.length_map]; have := HN40.out; omega
    have hq : ((lnk W (p0, p1)).map encPt).getD (encPt (0, 0)) = encPt (lkT (lnk W) (p0, p1)) := by unfold lkT; cases lnk W (p0, p1) <;> rfl
    have hpre : ((pre ++ [(i, p0, p1)]).map Prod.snd).map (lkT (lnk W)) = (pre.map Prod.snd).map (lkT (lnk W)) ++ [lkT (lnk W) (p0, p1)] := by simp
    generalize hqe : lkT (lnk W) (p0, p1) = q at hq hpre
    obtain ⟨q0, q1⟩ := q
    have HPre := Lib.hid hpre
    have HQe := Lib.hid hq
    generalize (pre.map Prod.snd).map (lkT (lnk W)) = ps at hbp hbp0 hlen2 HPre
    obtain ⟨k6, hBn, V2, c2, hh, hrow, hown⟩ := hbp
    have hbo : b ∉ ownB (.slice V2 ps.length c2) := fun hm => by
      obtain ⟨_, _, V0, c0, hh0, hrow0, _⟩ := hbp0
      have h1 := hold bl _ hh0 rfl
      rw [hh] at h1
      simp only [Option.some.injEq, Obj.cells.injEq, Array.mk.injEq, List.cons.injEq, Value.slice.injEq, and_true, true_and] at h1
      obtain ⟨rfl, rfl⟩ := h1
      have := hrow0.lt b hm
      omega
    clear hbp0 hold
    have n2 : Y.cell? ⟨bl, 0, none⟩ = some (.slice V2 ps.length c2) := by simp [World.cell?, hh]
    have hYm : Y.heap[bm]? = some (.cells #[.map (some m)] 122 (0, 0)) := (k6.block bm (by omega) (by simp; omega)).trans HM2.out.1
    have n3 : Y.cell? ⟨bm, 0, none⟩ = some (.map (some m)) := by simp [World.cell?, hYm]
    have hmY : MP encPt Y m (fun p => (lnk W p).map encPt) := HM2.out.2.keep (k6.block m (by omega) (by simp; omega))
    have HRw : Hid (Row (Y.drew.alloc (.cells #[.int .i64 q0, .int .i64 q1] 83)) 83 2 (.slice V2 ps.length c2) ps.length (pvals ps)) := hrow.drew.alloc _
    have HSr : Hid (Src (Y.drew.alloc (.cells #[.int .i64 q0, .int .i64 q1] 83)) (some ⟨Y.heap.size, 0, none⟩) 1 2 [.int .i64 q0, .int .i64 q1]) :=
      Src.block (cs := #[.int .i64 q0, .int .i64 q1]) (t := 83) (fr := (0, 0)) (heap_alloc_new Y.drew _) rfl (by simp [Value.oneCell'])
    have HH6 := Lib.hid (And.intro (k6.drew.alloc (.cells #[.int .i64 q0, .int .i64 q1] 83)) (And.intro hBn (And.intro ((Below.heap_alloc Y.drew (.cells #[.int .i64 q0, .int .i64 q1] 83) _ (heap_lt hh)).trans hh) (And.intro hown k6))))
    have hg63 : ps.length + 1 ≤ maxLen := by simp only [maxLen]; omega
    have hg47 : (ps.length + 1) * 16 ≤ 140737488355328 := by omega
    have hBz : bl < Y.heap.size := heap_lt hh
    have hmYl := hmY.lt
    have hbmY := heap_lt hYm
    have HMY := Lib.hid hmY
    clear k6 hh hrow hown hbx hpre hlen hYm hmY hq hqe
    simp only [actN]
    gi_wp2
    refine region_hs_in 4 6 (fun W' => W'.cell? ⟨bl, 0, none⟩ = some (.slice V2 ps.length c2) ∧ W'.cell? ⟨bm, 0, none⟩ = some (.map (some m)) ∧ W'.cell? ⟨b, 0, none⟩ = some (.int .i64 p0) ∧ W'.cell? ⟨b, 1, none⟩ = some (.int .i64 p1) ∧ MP encPt W' m (fun p => (lnk W p).map encPt)) (by kernel_rfl) (by kernel_rfl) (by kernel_rfl) (fun ⟨_, _, h⟩ => h.elim) (fun _ _ _ _ _ h => h.elim) ⟨n2, n3, b0, b1, HMY.out.keep rfl⟩ ?_
    simp only [List.take_succ_cons, List.take_zero, List.drop_succ_cons, List.drop_zero]
    iterate 4 (refine wpHead_step (v := ?_) (by rfl) ?_ ?_; rotate_left; (· intro W9 ⟨s1, s2, s3, s4, s5⟩; (have lk0 := s5.lookup kport Tryd.underlying122 zport (p0, p1) false; simp only [Bool.false_eq_true, if_false] at lk0; rw [HQe.out] at lk0; simp only [encPt] at lk0); go_simp; try with_reducible rfl); (try simp only [Act.put, List.setIfInBounds_toArray, List.set_cons_zero, List.set_cons_succ]))
    refine wpHead_nil ?_
    refine wpMid_step (by rfl) (fun K9 hK9 => ?_)
    unfold Oper.wp
    go_simp
    refine hK9 _ _ ⟨by go_simp, by go_simp, by go_simp, by go_simp, HMY.out.keep (Below.heap_alloc Y.drew _ m hmYl)⟩ ?_
    (try simp only [Act.put, List.setIfInBounds_toArray, List.set_cons_zero, List.set_cons_succ])
    clear hK9 K9
    refine wpMid_step (by rfl) (fun K9 hK9 => ?_)
    refine wpo_row_append _ _ _ (by rfl) j0 _ 16 Tryd.underlying70 hj0 hj1 hj2 hj3 (by rfl) (by rfl) HRw.out _ 1 1 (by rfl) [.int .i64 q0, .int .i64 q1] HSr.out hg63 hg47 ?_
    intro sv5 w7 r5 k5 o5
    obtain ⟨V5, cp5, rfl, hc5⟩ := r5.len
    have hmo : m ∉ ownB (.slice V2 ps.length c2) ∧ bm ∉ ownB (.slice V2 ps.length c2) := ⟨fun hm => by have := HH6.out.2.2.2.1 m hm; omega, fun hm => by have := HH6.out.2.2.2.1 bm hm; omega⟩
    have A5 := BP.app HH6.out.1 HH6.out.2.1 HH6.out.2.2.1 HH6.out.2.2.2.1 (p := (q0, q1)) k5 o5 r5
    have z2 := A5.1
    have z3 := A5.2.1
    have HA5 := Lib.hid A5.2.2
    have HK5 : Hid (Kp (ownB (.slice V2 ps.length c2)) (Y.drew.alloc (.cells #[.int .i64 q0, .int .i64 q1] 83)) w7) := k5
    refine hK9 _ _ ⟨z2, (k5.cell (p := ⟨bm, 0, none⟩) (by simp; omega) hmo.2).trans (by go_simp), (k5.cell (p := ⟨b, 0, none⟩) (by simp; omega) hbo).trans (by go_simp), (k5.cell (p := ⟨b, 1, none⟩) (by simp; omega) hbo).trans (by go_simp), HMY.out.keep ((k5.block m (by simp; omega) hmo.1).trans (Below.heap_alloc Y.drew _ m hmYl))⟩ ?_
    refine wpMid_nil ?_
    clear hK9 K9 A5 k5 o5 r5 n2 n3 b0 b1
    go_wp2_with fail
    show KeepsFrom _ _ _ ∧ KQ _ _ _ ∧ BP _ _ (((pre ++ [(i, p0, p1)]).map Prod.snd).map (lkT (lnk W))) _
    refine ⟨(KeepsFrom.below ((Below.refl _ Y).drew.alloc (Nat.le_refl _) _)).trans ((KeepsFrom.kp_row HRw.out HK5.out).trans ((KeepsOthers.setCell _ _ _).from _)), ⟨by have := HK5.out.size; simp at this ⊢; omega, fun y hy => ?_⟩, ?_⟩
    · obtain ⟨h1, h2⟩ := HQn.out y hy
      exact (HA5.out.1.block y h1 (by simpa using h2)).trans (HH6.out.2.2.2.2.block y h1 (by simpa using h2)).symm
    · rw [HPre.out]
      exact HA5.out.2
  case done =>
    rintro D xs Y hD rfl hbp hK
    rw [numd_snd] at hbp
    obtain ⟨hk2, hBn, V2, c2, hh, hrow, hown⟩ := hbp
    have hlm : ((allPs (pnL L) cells f).map (lkT (lnk W))).length = (allPs (pnL L) cells f).length := List.length_map ..
    rw [hlm] at hh hrow hown
    have n2 : Y.cell? ⟨bl, 0, none⟩ = some (.slice V2 (allPs (pnL L) cells f).length c2) := by simp [World.cell?, hh]
    have hblY := heap_lt hh
    have HY := Lib.hid (And.intro hk2 (And.intro hrow (And.intro hown hK)))
    clear hk2 hrow hown hK hh hlm
    go_wp2
    obtain ⟨hk2, hrow, hown, hK⟩ := HY.out
    have hDz := heap_lt hK
    have hD2 : w2.heap.size ≤ D := hD
    have hsz := HB2.out.size
    refine leaveM hK ⟨.tuple #[.slice V2 (allPs (pnL L) cells f).length c2, .int .i64 0], by simp [results, Tryd.f26, go_sem], V2, c2, rfl, hrow.keep fun b hb => World.putObj_heap_other (fun e => ?_), fun b hb => by have := hown b hb; have := HX.out.1.size; omega, ?_⟩
    · subst e
      rcases hrow.2 with ⟨e, _⟩ | ⟨g, cap', cur, e, hh, _⟩
      · rw [e] at hb; simp [ownB] at hb
      · rw [e] at hb; simp [ownB] at hb; subst hb
        rw [hh] at hK; cases hK
    · refine below_put ?_ (by have := HX.out.1.size; omega) _
      exact (HX.out.1.trans (HB2.out.mono HX.out.1.size)).trans (hk2.below (by have := HX.out.1.size; omega) (by intro b hb; simp at hb; omega))
end
end Go.Proofs.YtkonfogebepccaaDoor
