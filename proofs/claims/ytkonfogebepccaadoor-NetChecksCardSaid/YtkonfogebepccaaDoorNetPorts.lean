/-
  net.Ports.
-/
import Derived.Test.YtkonfogebepccaaDoorNetTop
import Derived.Test.YtkonfogebepccaaDoorRef03N
namespace Go.Proofs.YtkonfogebepccaaDoor
open Go.RowKit
attribute [local go_sem] cell_set
attribute [local go_sem] Oper.semAt_some
set_option maxRecDepth 100000
set_option linter.unusedVariables false

/-- What the loop keeps: a list of ports in a box. -/
def BP (w0 : World) (Bl : Nat) (ps : List Pt) (X : World) : Prop :=
  Kp [Bl] w0 X ∧ Bl < w0.heap.size ∧ ∃ V c, X.heap[Bl]? = some (.cells #[.slice V ps.length c] 70 (0, 0)) ∧ Row X 83 2 (.slice V ps.length c) ps.length (pvals ps) ∧ ∀ b ∈ ownB (.slice V ps.length c), w0.heap.size ≤ b
section
variable {w0 X X' : World} {Bl : Nat} {ps : List Pt}
theorem BP.keep (h : BP w0 Bl ps X) (hk : Kp [] X X') : BP w0 Bl ps X' := by
  obtain ⟨h1, h2, V2, c2, h3, h4, h5⟩ := h
  exact ⟨h1.trans hk (by simp), h2, V2, c2, (hk.block Bl (heap_lt h3) (by simp)).trans h3, h4.kp hk (by simp), h5⟩
theorem BP.grown (h : BP w0 Bl ps X) {row : Option Nat} (hg : X.grownBy X' row) (hr : ∀ r, row = some r → w0.heap.size ≤ r ∧ ∃ o : Obj, X.heap[r]? = some o ∧ o.isCells = false) : BP w0 Bl ps X' := by
  obtain ⟨h1, h2, V2, c2, h3, h4, h5⟩ := h
  have hr2 : ∀ r, row = some r → ∃ o : Obj, X.heap[r]? = some o ∧ o.isCells = false := fun r e => (hr r e).2
  refine ⟨?_, h2, V2, c2, (grownBy_keeps_cells hg hr2 h3 rfl).trans h3, h4.keep fun b hb => ?_, h5⟩
  · cases row with
    | none => exact h1.trans (G := []) ⟨hg.os, hg.tape, hg.output, hg.size, fun b hb _ => hg.block b hb (by simp)⟩ (by simp)
    | some r => exact h1.trans (G := [r]) ⟨hg.os, hg.tape, hg.output, hg.size, fun b hb hn => hg.block b hb (by simpa using hn)⟩ (fun b hb => by simp at hb; subst hb; exact .inr (hr b rfl).1)
  · rcases h4.2 with ⟨e, _⟩ | ⟨g, cap, cur, e, hh, _⟩
    · rw [e] at hb; simp [ownB] at hb
    · rw [e] at hb; simp [ownB] at hb; subst hb
      exact grownBy_keeps_cells hg hr2 hh rfl
/-- One more port. -/
theorem BP.app {V2 : Option Addr} {c2 : Nat} (h1 : Kp [Bl] w0 X) (h2 : Bl < w0.heap.size) (h3 : X.heap[Bl]? = some (.cells #[.slice V2 ps.length c2] 70 (0, 0)))
    (h5 : ∀ b ∈ ownB (.slice V2 ps.length c2), w0.heap.size ≤ b) {V5 : Option Addr} {c5 : Nat} {w5 : World} {p : Pt}
    (k5 : Kp (ownB (.slice V2 ps.length c2)) X w5) (o5 : ownB (.slice V5 (ps.length + 1) c5) = ownB (.slice V2 ps.length c2) ∨ ownB (.slice V5 (ps.length + 1) c5) = [X.heap.size])
    (r5 : Row w5 83 2 (.slice V5 (ps.length + 1) c5) (ps.length + 1) (pvals ps ++ [.int .i64 p.1, .int .i64 p.2])) :
    w5.cell? ⟨Bl, 0, none⟩ = some (.slice V2 ps.length c2) ∧ w5.frozen? ⟨Bl, 0, none⟩ = false ∧ Kp [Bl] w0 (w5.setCell ⟨Bl, 0, none⟩ (.slice V5 (ps.length + 1) c5)) ∧ BP w0 Bl (ps ++ [p]) (w5.setCell ⟨Bl, 0, none⟩ (.slice V5 (ps.length + 1) c5)) := by
  have hn : Bl ∉ ownB (.slice V2 ps.length c2) := fun hb => absurd (h5 _ hb) (by omega)
  have e3 : w5.heap[Bl]? = some (.cells #[.slice V2 ps.length c2] 70 (0, 0)) := (k5.block Bl (heap_lt h3) hn).trans h3
  have hz := h1.size
  have h5' : ∀ b ∈ ownB (.slice V5 (ps.length + 1) c5), w0.heap.size ≤ b := fun b hb => by
    rcases o5 with e | e
    · exact h5 b (e ▸ hb)
    · rw [e] at hb; simp at hb; omega
  have hk : Kp [Bl] w0 (w5.setCell ⟨Bl, 0, none⟩ (.slice V5 (ps.length + 1) c5)) := (h1.trans k5 (fun b hb => .inr (h5 b hb))).setCell (p := ⟨Bl, 0, none⟩) (.inl (by simp)) _
  have hpv : pvals (ps ++ [p]) = pvals ps ++ [.int .i64 p.1, .int .i64 p.2] := by simp [pvals]
  refine ⟨by simp [World.cell?, e3], by simp [World.frozen?, e3], hk, hk, h2, V5, c5, ?_, ?_, ?_⟩
  · rw [List.length_append]
    simp [World.setCell, Array.getElem?_modify, e3]
  · rw [hpv, List.length_append]
    exact r5.keep fun b hb => Below.heap_setCell w5 _ _ b (by
      have := h5' b hb
      show b ≠ Bl
      omega)
  · rw [List.length_append]; exact h5'
end
section
variable (A : Option Addr) (n cap : Nat) (L : List (ByteArray × Int)) (VA VB : Option Addr) (ca cb : Nat) (cells : List Int) (free : Int) (W : List (Pt × Pt)) (w : World)
set_option maxHeartbeats 1000000 in
theorem ports_bad (hn : n = L.length) (hcap : L.length ≤ cap) (HL : Hid (AgRd w A L)) (hl : L.length ≤ maxLen) (HC : Hid (IntsRd w VA cells)) (HW : Hid (WrRd w VB W)) (hc : cells.length ≤ 10000) (hw : W.length ≤ 40000) (k : Int)
    (hk : (netChk (pnL L) L.length (chk L) cells free W).1 = k) (h0 : k ≠ 0) :
    Calls Tryd.prog 25 #[.slice A n cap, netV VA ca cells free VB cb W] w fun e w' => e = .returned (.tuple #[.slice none 0 0, .int .i64 k]) ∧ Below w.heap.size w w' := by
  subst hn
  have hbA : ∀ o : Obj, Below w.heap.size w (w.alloc o) := fun o => (Below.refl _ _).alloc (Nat.le_refl _) o
  have hkb : (k != 0) = true := by simpa using h0
  have HK := Lib.hid hk
  clear hk h0
  refine (callsIn_wide (n := 5)).1 (callsIn_of_wp_marks Tryd.func25 rfl trivial (wpIn_wide.2 ?_) rfl)
  simp only [Tryd.ntmps25, List.size_toArray, List.length_cons, List.length_nil, Nat.reduceAdd, Nat.reduceSub, Array.replicate_succ, Array.replicate_zero, List.push_toArray, List.append_toArray, List.nil_append, List.cons_append]
  go_wp2_with (go_at_call 75; refine (net_fine A _ cap L VA VB ca cb cells free W _ rfl hcap (Lib.hid (HL.out.below (hbA _))) hl (Lib.hid (HC.out.below (hbA _))) (Lib.hid (HW.out.below (hbA _))) hc hw).mono ?_; rintro e w1 ⟨rfl, hb1⟩; rw [HK.out]
               have HB1 : Hid (Below w.heap.size w w1) := (hbA _).trans (hb1.mono (by simp))
               clear hb1)
  exact ⟨.tuple #[.slice none 0 0, .int .i64 k], by simp [results, Tryd.f25, go_sem], rfl, HB1.out⟩
def actP (a : Act) (x : Nat × Pt) (b : Nat) : Act := { tmps := ((a.tmps.setIfInBounds 19 (.int .i64 (x.1 : Int))).setIfInBounds 20 (.agg #[.int .i64 x.2.1, .int .i64 x.2.2])).setIfInBounds 9 (.pointer (some ⟨b, 0, none⟩)), defers := [] }
set_option maxHeartbeats 2000000 in
theorem ports_ok (f : Nat) (hn : n = L.length) (hcap : L.length ≤ cap) (HL : Hid (AgRd w A L)) (hl : L.length ≤ maxLen) (HC : Hid (IntsRd w VA cells)) (HW : Hid (WrRd w VB W)) (hc : cells.length ≤ 10000) (hw : W.length ≤ 40000)
    (hk : (netChk (pnL L) L.length (chk L) cells (f : Int) W).1 = 0) :
    Calls Tryd.prog 25 #[.slice A n cap, netV VA ca cells (f : Int) VB cb W] w fun e w' => ∃ V c, e = .returned (.tuple #[.slice V (allPs (pnL L) cells f).length c, .int .i64 0]) ∧ Fresh w w' 83 2 (allPs (pnL L) cells f).length (.slice V (allPs (pnL L) cells f).length c) (pvals (allPs (pnL L) cells f)) := by
  subst hn
  obtain ⟨hz, hc4, hf0, hf64, hag, hok⟩ := netChk_ok hk
  have hs := chk_sig hz
  have hpos := chk_pos hz
  have hf : f ≤ 100 := by omega
  have hc5 : cells.length ≤ 5000 := by omega
  obtain ⟨j0, hj0, hj1, hj2, hj3⟩ := info_parts port_info
  have hbA : ∀ o : Obj, Below w.heap.size w (w.alloc o) := fun o => (Below.refl _ _).alloc (Nat.le_refl _) o
  have HK := Lib.hid hk
  clear hk hok hag hf0 hf64 hz
  refine (callsIn_wide (n := 5)).1 (callsIn_of_wp_marks Tryd.func25 rfl trivial (wpIn_wide.2 ?_) rfl)
  simp only [Tryd.ntmps25, List.size_toArray, List.length_cons, List.length_nil, Nat.reduceAdd, Nat.reduceSub, Array.replicate_succ, Array.replicate_zero, List.push_toArray, List.append_toArray, List.nil_append, List.cons_append]
  go_upto_region 5 with (go_at_call 75; refine (net_fine A _ cap L VA VB ca cb cells f W _ rfl hcap (Lib.hid (HL.out.below (hbA _))) hl (Lib.hid (HC.out.below (hbA _))) (Lib.hid (HW.out.below (hbA _))) hc hw).mono ?_; rintro e w1 ⟨rfl, hb1⟩; rw [HK.out]
                         have HB1 : Hid (Below w.heap.size w w1) := (hbA _).trans (hb1.mono (by simp))
                         have nb : NBox w1 w.heap.size VA cells.length ca (f : Int) VB W.length cb := NBox.below (w := w.alloc _) ⟨by simp, by go_simp, by go_simp, by go_simp⟩ hb1
                         have NB := Lib.hid nb
                         clear hb1 nb)
  refine absW (fun X => Below w.heap.size w X ∧ NBox X w.heap.size VA cells.length ca (f : Int) VB W.length cb ∧ X.heap[w1.heap.size]? = some (.cells #[.slice none 0 0] 70 (0, 0))) ?_ ?_
  · have hb1 : Below w1.heap.size w1 (w1.alloc (.cells #[.slice none 0 0] 70)) := (Below.refl _ _).alloc (Nat.le_refl _) _
    exact ⟨HB1.out.trans (hb1.mono HB1.out.size), NB.out.below hb1, heap_alloc_new w1 _⟩
  rintro X ⟨hbX, nbX, hbl⟩
  have k0 := nbX.c0
  have k1 := nbX.c1
  have k2 := nbX.c2
  have kl := nbX.lt
  have hbll := heap_lt hbl
  have HX := Lib.hid (And.intro hbX hbl)
  have hw1 : w.heap.size ≤ w1.heap.size := HB1.out.size
  clear nbX hbX hbl
  go_wp2_with (go_at_call 71; refine (net_ports A _ cap VA VB ca cb cells f W L X rfl (Lib.hid (HC.out.below HX.out.1)) (Lib.hid (HL.out.below HX.out.1))).mono ?_; rintro e w2 ⟨rfl, hps, hb2⟩
               have hz2 := hb2.size
               have HB2 := Lib.hid hb2
               have HPS := Lib.hid hps
               clear hb2 hps)
  obtain ⟨bl, hble⟩ : ∃ b, w1.heap.size = b := ⟨_, rfl⟩
  rw [hble] at hbll HX hw1 ⊢
  clear k0 k1 k2 hble NB HB1
  have hQl := pQ_lt HPS.out hpos
  have HQn : Hid (∀ y ∈ pQ (X.heap.size + 1) X.heap.size A VA cells, y < w2.heap.size ∧ y ≠ bl) := fun y hy => ⟨hQl y hy, by
    simp only [pQ, List.mem_cons, List.mem_append] at hy
    rcases hy with rfl | rfl | hy | hy
    · omega
    · omega
    · obtain ⟨b', off, rfl, hlt, _⟩ := HL.out 0 hpos
      simp [ablk] at hy; omega
    · unfold ablkL at hy
      by_cases h0 : cells.length = 0
      · rw [if_pos h0] at hy; simp at hy
      · rw [if_neg h0] at hy
        obtain ⟨b', off, rfl, hlt, _⟩ := HC.out 0 (by omega)
        simp [ablk] at hy; omega⟩
  clear hQl
  have hBP : BP w2 bl (([] : List (Nat × Pt)).map Prod.snd) w2 := ⟨Kp.refl _ _, by omega, none, 0, (HB2.out.block bl hbll).trans HX.out.2, Row.nil _ _ _, by simp [ownB]⟩
  have HBP := Lib.hid hBP
  have hN40 : (allPs (pnL L) cells f).length ≤ 40000 := by
    rw [allPs_len]
    have := firstN_le (pnL_le hs) cells f cells.length
    omega
  have HN40 := Lib.hid hN40
  clear hBP hN40
  refine rfb rfl (enters_of Tryd.func99 (by kernel_rfl) rfl) (ports_seq 4 _ _ A cap L VA VB ca cb cells f _ hs hc5 hf _ HPS.out) (fun y hy => (HQn.out y hy).1) (fun _ => rfl)
    (fun pre Y => BP w2 bl (pre.map Prod.snd) Y) (fun c pre Y => False)
    (fun s Y Y' row h hg hr => h.grown hg hr) (fun c s Y Y' row h hg hr => h)
    HBP.out (fun x => .cells #[.int .i64 x.2.1, .int .i64 x.2.2] 83) actP ?assign ?body ?done ?stop
  case assign =>
    intro l x Y K hK
    unfold encP
    gi_wp2
    simpa [actP] using hK
  case stop => exact fun D c pre Y hD hpre h => h.elim
  case body =>
    rintro l pre x b Y hbp hlen hb hbx
    obtain ⟨i, p0, p1⟩ := x
    have b0 : Y.cell? ⟨b, 0, none⟩ = some (.int .i64 p0) := by simp [World.cell?, hbx]
    have b1 : Y.cell? ⟨b, 1, none⟩ = some (.int .i64 p1) := by simp [World.cell?, hbx]
    have hbY := heap_lt hbx
    have hlen2 : (pre.map Prod.snd).length ≤ 40000 := by rw [List.length_map]; have := HN40.out; omega
    have hpre : (pre ++ [(i, p0, p1)]).map Prod.snd = pre.map Prod.snd ++ [(p0, p1)] := by simp
    have HPre := Lib.hid hpre
    generalize pre.map Prod.snd = ps at hbp hlen2 HPre
    obtain ⟨k6, hBn, V2, c2, hh, hrow, hown⟩ := hbp
    have n2 : Y.cell? ⟨bl, 0, none⟩ = some (.slice V2 ps.length c2) := by simp [World.cell?, hh]
    have HRw : Hid (Row (Y.alloc (.cells #[.int .i64 p0, .int .i64 p1] 83)) 83 2 (.slice V2 ps.length c2) ps.length (pvals ps)) := hrow.alloc _
    have HSr : Hid (Src (Y.alloc (.cells #[.int .i64 p0, .int .i64 p1] 83)) (some ⟨Y.heap.size, 0, none⟩) 1 2 [.int .i64 p0, .int .i64 p1]) :=
      Src.block (cs := #[.int .i64 p0, .int .i64 p1]) (t := 83) (fr := (0, 0)) (heap_alloc_new Y _) rfl (by simp [Value.oneCell'])
    have HH6 := Lib.hid (And.intro (k6.alloc (.cells #[.int .i64 p0, .int .i64 p1] 83)) (And.intro hBn (And.intro ((Below.heap_alloc Y (.cells #[.int .i64 p0, .int .i64 p1] 83) _ (heap_lt hh)).trans hh) (And.intro hown k6))))
    have hg63 : ps.length + 1 ≤ maxLen := by simp only [maxLen]; omega
    have hg47 : (ps.length + 1) * 16 ≤ 140737488355328 := by omega
    have hBz : bl < Y.heap.size := heap_lt hh
    clear k6 hh hrow hown hbx hpre hlen
    simp only [actP]
    gi_wp2_with (gi_at_builtin; go_loud (refine wpListIn_row_append rfl _ _ _ rfl j0 _ 16 Tryd.underlying70 hj0 hj1 hj2 hj3 rfl rfl HRw.out _ 1 1 rfl [.int .i64 p0, .int .i64 p1] HSr.out hg63 hg47 ?_); intro sv5 w7 r5 k5 o5; obtain ⟨V5, cp5, rfl, hc5⟩ := r5.len
                 go_loud (have A5 := BP.app HH6.out.1 HH6.out.2.1 HH6.out.2.2.1 HH6.out.2.2.2.1 (p := (p0, p1)) k5 o5 r5)
                 have z2 := A5.1
                 have z3 := A5.2.1
                 have HA5 := Lib.hid A5.2.2
                 have HK5 : Hid (Kp (ownB (.slice V2 ps.length c2)) (Y.alloc (.cells #[.int .i64 p0, .int .i64 p1] 83)) w7) := k5
                 clear A5 k5 o5 r5)
    refine ⟨(KeepsFrom.below ((Below.refl _ _).alloc (Nat.le_refl _) _)).trans ((KeepsFrom.kp_row HRw.out HK5.out).trans ((KeepsOthers.setCell _ _ _).from _)), ⟨by have := HK5.out.size; simp at this ⊢; omega, fun y hy => ?_⟩, ?_⟩
    · obtain ⟨h1, h2⟩ := HQn.out y hy
      exact (HA5.out.1.block y h1 (by simpa using h2)).trans (HH6.out.2.2.2.2.block y h1 (by simpa using h2)).symm
    · show BP _ _ ((pre ++ [(i, p0, p1)]).map Prod.snd) _
      rw [HPre.out]
      exact HA5.out.2
  case done =>
    rintro D xs Y hD rfl hbp hK
    rw [numd_snd] at hbp
    obtain ⟨hk2, hBn, V2, c2, hh, hrow, hown⟩ := hbp
    have n2 : Y.cell? ⟨bl, 0, none⟩ = some (.slice V2 (allPs (pnL L) cells f).length c2) := by simp [World.cell?, hh]
    have hblY := heap_lt hh
    have HY := Lib.hid (And.intro hk2 (And.intro hrow (And.intro hown hK)))
    clear hk2 hrow hown hK hh
    go_wp2
    obtain ⟨hk2, hrow, hown, hK⟩ := HY.out
    have hDz := heap_lt hK
    have hD2 : w2.heap.size ≤ D := hD
    have hsz := HB2.out.size
    refine leaveM hK ⟨.tuple #[.slice V2 (allPs (pnL L) cells f).length c2, .int .i64 0], by simp [results, Tryd.f25, go_sem], V2, c2, rfl, hrow.keep fun b hb => World.putObj_heap_other (fun e => ?_), fun b hb => by have := hown b hb; have := HX.out.1.size; omega, ?_⟩
    · subst e
      rcases hrow.2 with ⟨e, _⟩ | ⟨g, cap', cur, e, hh, _⟩
      · rw [e] at hb; simp [ownB] at hb
      · rw [e] at hb; simp [ownB] at hb; subst hb
        rw [hh] at hK; cases hK
    · refine below_put ?_ (by have := HX.out.1.size; omega) _
      exact (HX.out.1.trans (HB2.out.mono HX.out.1.size)).trans (hk2.below (by have := HX.out.1.size; omega) (by intro b hb; simp at hb; omega))
end
end Go.Proofs.YtkonfogebepccaaDoor
