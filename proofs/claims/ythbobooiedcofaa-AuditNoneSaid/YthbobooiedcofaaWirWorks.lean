/-
  skeinlaw08.works.
-/
import Derived.Test.YthbobooiedcofaaWirSee
import Derived.Laws.EntriesVeiled
/-
  A wiring: Open.
-/
namespace Go.Proofs.Ythbobooiedcofaa
open Go.RowKit
attribute [local go_sem] cell_set
attribute [local go_sem] Oper.semAt_some
set_option maxRecDepth 100000
set_option linter.unusedVariables false

theorem KeepsOthers.ofKp {G : List Nat} {W W' : World} (h : Kp G W W') (hG : ∀ b ∈ G, ∃ c t, W.heap[b]? = some (.cells c t (0, 0))) : KeepsOthers W W' :=
  ⟨h.size, fun k o hk ho => (h.block k (heap_lt hk) (fun hm => by obtain ⟨c, t, hh⟩ := hG k hm; rw [hh] at hk; injection hk with hk; subst hk; cases ho)).trans hk⟩
theorem leaveMk {F : Fence} {n : Nat} {P : Program} {fn : Func} {tmps : Array Value} {R : Ending → World → Prop} {D : Nat} {ds : List Deferred} {W : World}
    (hD : W.heap[D]? = some (.deferred (some []))) (h : LeavesInM F n P fn tmps R ds .returning (W.putObj D (.deferred none))) : LeavesInM F n P fn tmps R ({ target := .collected D, args := #[] } :: ds) .returning W :=
  ⟨by simp, .inl ⟨_, _, rfl, run_takeDeferred hD, h⟩⟩
/-- Between two rounds: all as it was but the counter. -/
def CN (w : World) (N n : Nat) (W : World) : Prop := Kp [N] w W ∧ W.heap[N]? = some (.cells #[.int .i64 (n : Int)] 3 (0, 0))
theorem CN.grown {w W W' : World} {N n : Nat} (h : CN w N n W) {row : Option Nat} (hg : W.grownBy W' row) {C : Nat} (hC : w.heap.size ≤ C) (hN : N < w.heap.size) (hr : ∀ r, row = some r → C ≤ r ∧ ∃ o : Obj, W.heap[r]? = some o ∧ o.isCells = false) : CN w N n W' := by
  obtain ⟨h1, h2⟩ := h
  have hk : ∀ b, b < w.heap.size → W'.heap[b]? = W.heap[b]? := fun b hb => hg.block b (Nat.lt_of_lt_of_le hb h1.size) (fun e => by have := (hr b e.symm).1; omega)
  exact ⟨⟨hg.os.trans h1.os, hg.tape.trans h1.tape, hg.output.trans h1.output, Nat.le_trans h1.size hg.size, fun b hb hn => (hk b hb).trans (h1.block b hb hn)⟩, (hk N hN).trans h2⟩
def actO (a : Act) (x : Nat × Int) : Act := { tmps := ((a.tmps.setIfInBounds 33 (.int .i64 (x.1 : Int))).setIfInBounds 34 (.int .i64 x.2)).setIfInBounds 6 (.int .i64 (x.1 : Int)), defers := [] }
theorem opens_le {S : Wir} (h : S.Ok) : S.pts.length ≤ 64 + 7 * 4096 := by
  have h1 := Wir.cellPts_le 0 S.A.cells (fun x hx ag ws e => by
    obtain ⟨i, hi, rfl⟩ := List.mem_iff_getElem.1 hx
    exact (h.a.cell i ag ws (by rw [List.getElem?_eq_getElem hi, e])).2.2.2.1)
  have h2 := h.a.len
  have h3 := h.a.most2
  have h4 := h.p
  unfold Wir.pts
  rw [List.length_append, List.length_map, List.length_range]
  omega
theorem openN_pre (S : Wir) {l r : List Pt} (h : l <+: r) : S.openN l ≤ r.length := Nat.le_trans (Wir.openN_le S l) h.length_le
theorem slots_le {S : Wir} (h : S.Ok) (c : Int) : 0 ≤ S.A.agA c ∧ S.A.agA c ≤ 6 := by
  unfold Ars.agA
  cases hc : S.A.cell c with
  | none => simp
  | some x =>
    obtain ⟨h0, hx⟩ := Ars.cell_some hc
    obtain ⟨a1, a2, _⟩ := (h.a.cell _ x.1 x.2 hx).2.2
    simp only
    omega
theorem live_le {S : Wir} (h : S.Ok) (l : List (Nat × Int)) : (l.flatMap (Wir.liveSl S)).length ≤ 7 * l.length := by
  induction l with
  | nil => simp
  | cons x r ih =>
    rw [List.flatMap_cons, List.length_append, List.length_cons]
    have := slots_le h (x.1 : Int)
    have e : (Wir.liveSl S x).length = (S.A.agA (x.1 : Int) + 1).toNat := Wir.slotsOf_len _ _
    omega
section
variable (B A : Nat) (S : Wir) (FA : List Nat) (w : World)
set_option maxHeartbeats 4000000 in
theorem wi_open (h : WG w B A S FA) :
    Calls Try.prog 26 #[.pointer (some ⟨B, 0, none⟩)] w fun e w' => e = .returned (.int .i64 (S.openN S.pts : Int)) ∧ Below w.heap.size w w' := by
  have HG := Lib.hid h
  have HF := Lib.hid h.blt
  have hle := opens_le h.ok
  have hpu := Wir.pts_upto S
  obtain ⟨f, hf⟩ : ∃ f, S.P.length = f := ⟨_, rfl⟩
  rw [hf] at hpu
  have HPU := Lib.hid (And.intro hle hpu)
  have hf64 : f ≤ 64 := by rw [← hf]; exact h.ok.p
  have HFE := Lib.hid hf
  clear hle hpu
  refine (callsIn_wide (n := 5)).1 (callsIn_of_wp_marks Try.func26 rfl trivial (wpIn_wide.2 ?_) rfl)
  simp only [Try.ntmps26, List.size_toArray, List.length_cons, List.length_nil, Nat.reduceAdd, Nat.reduceSub, Array.replicate_succ, Array.replicate_zero, List.push_toArray, List.append_toArray, List.nil_append, List.cons_append]
  go_upto_region 5 with (go_at_call 62; refine (wi_is B A _ (HG.out.below (by (repeat (first | exact Below.refl _ _ | (with_reducible refine Below.drew ?_) | (with_reducible refine Below.alloc ?_ (by (try simp); (try omega)) _) | (with_reducible refine Below.setCell ?_ (by (try simp); (try omega)) _) | (with_reducible refine Below.trans ?_ (Below.mono (by assumption) (by (try simp); (try omega)))))))).cells.1).mono ?_; rintro e w' ⟨rfl, rfl⟩)
  refine absW (fun X => Below w.heap.size w X ∧ SeeB X w.heap.size (w.heap.size + 1) B 0 ∧ X.cell? ⟨w.heap.size + 1 + 1, 0, none⟩ = some (.func (.func 73) #[] #[.pointer (some ⟨w.heap.size, 0, none⟩), .pointer (some ⟨w.heap.size + 1, 0, none⟩)]) ∧ w.heap.size + 1 + 1 < X.heap.size) ?_ ?_
  · have e1 := heap_alloc_new (w.alloc (.cells #[.pointer (some ⟨B, 0, none⟩)] 31)) (.cells #[.int .i64 0] 3)
    rw [World.size_alloc] at e1
    refine ⟨by (repeat (first | exact Below.refl _ _ | (with_reducible refine Below.drew ?_) | (with_reducible refine Below.alloc ?_ (by (try simp); (try omega)) _) | (with_reducible refine Below.setCell ?_ (by (try simp); (try omega)) _) | (with_reducible refine Below.trans ?_ (Below.mono (by assumption) (by (try simp); (try omega)))))), ⟨by go_simp, by simp <;> omega, by omega, ?_⟩, by go_simp, by simp <;> omega⟩
    exact (Below.heap_alloc _ _ _ (by simp)).trans e1
  rintro X ⟨hbX, hsb, hv, hvl⟩
  have HX := Lib.hid (And.intro hbX (And.intro hsb (And.intro hv hvl)))
  have HGX := Lib.hid (HG.out.below hbX)
  have hnf : w.heap.size + 1 ∉ B :: FA := fun hm => by have := HF.out _ hm; omega
  have HNF := Lib.hid hnf
  have x0 := hsb.p
  obtain ⟨c0, c1⟩ := HGX.out.cells
  rw [hf] at c1
  have hC0 : CN X (w.heap.size + 1) (S.openN (Wir.slotsOf (-1) 0)) X := ⟨Kp.refl _ _, hsb.n⟩
  have HC0 := Lib.hid hC0
  clear hbX hsb hv hvl hC0 hf
  go_wp2_with fail
  clear x0 c0 c1
  go_loopw [19] (fun i wr => ∃ k : Nat, i = .int .i64 k ∧ k ≤ f ∧ Hid (CN X (w.heap.size + 1) (S.openN (Wir.slotsOf (-1) k)) wr)) (fun i _ => f - (intOf i).toNat)
  case atStart => exact ⟨0, rfl, Nat.zero_le _, HC0⟩
  case round =>
    obtain ⟨k, rfl, hk, HR⟩ := hrel
    clear HC0
    have hk1 := HR.out.1
    have hszr := hk1.size
    have hvl := HX.out.2.2.2
    have v0 : wr.cell? ⟨w.heap.size + 1 + 1, 0, none⟩ = some (.func (.func 73) #[] #[.pointer (some ⟨w.heap.size, 0, none⟩), .pointer (some ⟨w.heap.size + 1, 0, none⟩)]) := (hk1.cell (p := ⟨w.heap.size + 1 + 1, 0, none⟩) hvl (by simp)).trans HX.out.2.2.1
    have HGr := Lib.hid (HGX.out.kp hk1 (fun b hb => by simp; intro e; exact HNF.out (e ▸ hb)))
    have HSr := Lib.hid (HX.out.2.1.kp hk1 HR.out.2)
    clear hk1
    by_cases hlt : k < f
    · have hle : S.openN (Wir.slotsOf (-1) k) ≤ 1000 := Nat.le_trans (Wir.openN_le _ _) (by rw [Wir.slotsOf_len]; omega)
      go_wp2_with (go_at_call 73; refine (wi_see B A S FA w.heap.size (w.heap.size + 1) _ wr (-1) (k : Int) (by omega) HGr.out HSr.out).mono ?_; rintro e w2 ⟨⟨r2, rfl⟩, hn2, hk2⟩
                   have HN2 : Hid (CN X (w.heap.size + 1) (S.openN (Wir.slotsOf (-1) (k + 1))) w2) := ⟨HR.out.1.tr hk2, by rw [Wir.slotsOf_succ, Wir.openN_snoc]; exact hn2⟩
                   clear hn2 hk2)
      go_roundw
      case measure => simp [intOf]; omega
      case rel => exact ⟨k + 1, by go_num, by omega, HN2⟩
    · obtain rfl : k = f := by omega
      obtain ⟨wq, hwq⟩ : ∃ wq, wq = wr := ⟨_, rfl⟩
      subst hwq
      have hul := S.A.upto_len S.A.cells.length
      have hm2 := HG.out.ok.a.most2
      have hcl := HG.out.ok.a.len
      obtain ⟨c0, c1⟩ := HGr.out.cells
      have x0 := HSr.out.p
      have hu4 : (S.A.upto S.A.cells.length).length ≤ 4096 := by omega
      obtain ⟨U, hU⟩ : ∃ U, S.A.upto S.A.cells.length = U := ⟨_, rfl⟩
      rw [hU] at hu4
      have HU := Lib.hid hU
      clear hul hm2 hcl hU
      go_wp2_with (go_at_call 74; refine (ar_all A S.A FA wq HGr.out.pa).mono ?_; rintro e w1 ⟨v, rfl, hb1, bx⟩; rw [HU.out] at bx)
      have hz1 := hb1.size
      have hbl := bx.lt
      have hbo : ∀ b ∈ wq.heap.size :: ownB v, wq.heap.size ≤ b ∧ b < w1.heap.size := fun b hb => by
        simp only [List.mem_cons] at hb
        rcases hb with rfl | hb
        · exact ⟨Nat.le_refl _, hbl⟩
        · exact ⟨bx.own b hb, bx.row.lt b hb⟩
      have HBO := Lib.hid hbo
      have hnr : w.heap.size + 1 < wq.heap.size := by have := heap_lt HR.out.2; omega
      have hR0 : CN w1 (w.heap.size + 1) (S.openN (Wir.slotsOf (-1) k ++ ([] : List (Nat × Int)).flatMap (Wir.liveSl S))) w1 := ⟨Kp.refl _ _, by simpa using (hb1.block _ hnr).trans HR.out.2⟩
      have HR0 := Lib.hid hR0
      have HB1 := Lib.hid hb1
      have HG1 := Lib.hid (HGr.out.below hb1)
      have HS1 := Lib.hid (HSr.out.below hb1)
      have hvl1 : w.heap.size + 1 + 1 < wq.heap.size := by omega
      have HV1 : Hid (w1.cell? ⟨w.heap.size + 1 + 1, 0, none⟩ = some (.func (.func 73) #[] #[.pointer (some ⟨w.heap.size, 0, none⟩), .pointer (some ⟨w.heap.size + 1, 0, none⟩)])) := (hb1.cell (p := ⟨w.heap.size + 1 + 1, 0, none⟩) hvl1).trans v0
      have HWR : Hid (Below w.heap.size w w1) := (HX.out.1.trans (HR.out.1.below HX.out.1.size (by simp))).trans (hb1.mono (by omega))
      clear hR0 hb1 v0 c0 c1 x0
      refine rf rfl (enters_of Try.func117 (by kernel_rfl) rfl) (seq_stops 4 wq.heap.size wq.heap.size v U (by omega) _ bx) (fun b hb => (HBO.out b hb).2) (fun _ => rfl)
        (fun pre W => CN w1 (w.heap.size + 1) (S.openN (Wir.slotsOf (-1) k ++ pre.flatMap (Wir.liveSl S))) W)
        (fun c pre W => False)
        (fun s W1 W2 row h hg hr => h.grown hg (Nat.le_refl _) (by omega) hr)
        (fun c s W1 W2 row h hg hr => h)
        HR0.out actO ?assign ?body ?done ?stop
      case assign =>
        intro l x W K hK
        gi_wp2
        simpa [actO] using hK
      case stop =>
        rintro D c pre W _ _ h _
        exact h.elim
      case done =>
        rintro D ys W hD rfl hI hK
        have hn : W.cell? ⟨w.heap.size + 1, 0, none⟩ = some (.int .i64 (S.openN (Wir.slotsOf (-1) k ++ ys.flatMap (Wir.liveSl S)) : Nat)) := by simp [World.cell?, hI.2]
        have hPE : Wir.slotsOf (-1) k ++ ys.flatMap (Wir.liveSl S) = S.pts := by rw [HPU.out.2, HU.out]
        rw [hPE] at hn
        have HK := Lib.hid hK
        have HBW : Hid (Below w.heap.size w W) := HWR.out.trans (hI.1.below HWR.out.size (by simp))
        clear hI hPE hK
        go_wp2_with fail
        refine leaveMk HK.out ?_
        refine ⟨_, results_tmp rfl _ _ _, rfl, ⟨HBW.out.os, HBW.out.tape, HBW.out.output, by simpa using HBW.out.size, fun y hy => (World.putObj_heap_other (by omega)).trans (HBW.out.block y hy)⟩⟩
      case body =>
        rintro l pre x W hI hlen
        obtain ⟨hI1, hI2⟩ := hI
        have hcn : (S.openN (Wir.slotsOf (-1) k ++ pre.flatMap (Wir.liveSl S))) ≤ 30000 := by
          refine Nat.le_trans (Wir.openN_le _ _) ?_
          have := live_le HG.out.ok pre
          rw [List.length_append, Wir.slotsOf_len]
          omega
        have hpe : Wir.slotsOf (-1) k ++ (pre ++ [x]).flatMap (Wir.liveSl S) = (Wir.slotsOf (-1) k ++ pre.flatMap (Wir.liveSl S)) ++ Wir.slotsOf (x.1 : Int) (S.A.agA (x.1 : Int) + 1).toNat := by
          rw [List.flatMap_append, List.append_assoc]; simp [Wir.liveSl]
        have HPE := Lib.hid hpe
        clear hpe
        obtain ⟨hag0, hag6⟩ := slots_le HG.out.ok (x.1 : Int)
        generalize Wir.slotsOf (-1) k ++ pre.flatMap (Wir.liveSl S) = ps at hI2 hcn HPE
        obtain ⟨c, ag⟩ := x
        obtain ⟨ar, har⟩ : ∃ ar, S.A.agA (c : Int) = ar := ⟨_, rfl⟩
        simp only at hag0 hag6 HPE
        rw [har] at hag0 hag6 HPE
        obtain ⟨m, rfl⟩ := Int.eq_ofNat_of_zero_le hag0
        have HAR := Lib.hid har
        have ea : IntKind.i64.wrap ((m : Int) + 1) = ((m + 1 : Nat) : Int) := by rw [IntWalk.i64_in _ (by omega)]; omega
        have hm6 : m ≤ 6 := by omega
        have HGW := Lib.hid (HG1.out.kp hI1 (fun b hb => by simp; intro e; exact HNF.out (e ▸ hb)))
        have HSW := Lib.hid (HS1.out.kp hI1 hI2)
        have hvW : W.cell? ⟨w.heap.size + 1 + 1, 0, none⟩ = some (.func (.func 73) #[] #[.pointer (some ⟨w.heap.size, 0, none⟩), .pointer (some ⟨w.heap.size + 1, 0, none⟩)]) := (hI1.cell (p := ⟨w.heap.size + 1 + 1, 0, none⟩) (by show w.heap.size + 1 + 1 < w1.heap.size; omega) (by simp)).trans HV1.out
        have HVW := Lib.hid hvW
        have hvWl : w.heap.size + 1 + 1 < W.heap.size := by have := hI1.size; omega
        have HI := Lib.hid (And.intro hI1 hI2)
        have x0 := HSW.out.p
        obtain ⟨c0, c1⟩ := HGW.out.cells
        clear hI1 hI2 har hvW hlen hag0 hag6
        simp only [actO]
        gi_wp2_with fail
        refine ⟨trivial, CallsIn.inRound l (callsIn_wide.2 ((ar_agent A S.A FA (c : Int) _ HGW.out.pa).mono ?_))⟩
        rintro e w2 ⟨rfl, hb2⟩
        rw [HAR.out]
        generalize (if (S.A.cell (c : Int)).isSome = true then (0 : Int) else 41) = ee
        have HB2 := Lib.hid hb2
        have hnW := (hb2.block _ (heap_lt HI.out.2)).trans HI.out.2
        have hC2 : CN w1 (w.heap.size + 1) (S.openN (ps ++ Wir.slotsOf (c : Int) 0)) w2 ∧ Kp [w.heap.size + 1] W w2 := by
          refine ⟨⟨HI.out.1.tr (Kp.of_below hb2), ?_⟩, Kp.of_below hb2⟩
          simpa [Wir.slotsOf] using hnW
        have HC2 := Lib.hid hC2
        clear hC2 hnW hb2 x0 c0 c1
        simp only []
        gi_wp2_with fail
        gi_loopw [48] (fun i wr => ∃ j : Nat, i = .int .i64 j ∧ j ≤ m + 1 ∧ Hid (CN w1 (w.heap.size + 1) (S.openN (ps ++ Wir.slotsOf (c : Int) j)) wr ∧ Kp [w.heap.size + 1] W wr)) (fun i _ => m + 1 - (intOf i).toNat)
        case atStart => exact ⟨0, rfl, Nat.zero_le _, HC2⟩
        case round =>
          obtain ⟨j, rfl, hj, HJ⟩ := hrel
          clear HC2
          have hk2 := HJ.out.2
          have HGx := Lib.hid (HGW.out.kp hk2 (fun b hb => by simp; intro e; exact HNF.out (e ▸ hb)))
          have HSx := Lib.hid (HSW.out.kp hk2 HJ.out.1.2)
          have v1 : wr.cell? ⟨w.heap.size + 1 + 1, 0, none⟩ = some (.func (.func 73) #[] #[.pointer (some ⟨w.heap.size, 0, none⟩), .pointer (some ⟨w.heap.size + 1, 0, none⟩)]) := (hk2.cell (p := ⟨w.heap.size + 1 + 1, 0, none⟩) hvWl (by simp)).trans HVW.out
          clear hk2
          by_cases hjm : j < m + 1
          · have hle : S.openN (ps ++ Wir.slotsOf (c : Int) j) ≤ 40000 := by
              rw [Wir.openN_append]
              have := Wir.openN_le S (Wir.slotsOf (c : Int) j)
              rw [Wir.slotsOf_len] at this
              omega
            gi_wp2_with fail
            refine ⟨trivial, CallsIn.inRound l (callsIn_wide.2 ((wi_see B A S FA w.heap.size (w.heap.size + 1) _ wr (c : Int) (j : Int) (by omega) HGx.out HSx.out).mono ?_))⟩
            rintro e w3 ⟨⟨r3, rfl⟩, hn3, hk3⟩
            have HN3 : Hid (CN w1 (w.heap.size + 1) (S.openN (ps ++ Wir.slotsOf (c : Int) (j + 1))) w3 ∧ Kp [w.heap.size + 1] W w3) := ⟨⟨HJ.out.1.1.tr hk3, by rw [Wir.slotsOf_succ, ← List.append_assoc, Wir.openN_snoc]; exact hn3⟩, HJ.out.2.tr hk3⟩
            clear hn3 hk3
            simp only []
            gi_wp2_with fail
            go_roundw
            case measure => simp [intOf]; omega
            case rel => exact ⟨j + 1, by go_num, by omega, HN3⟩
          · obtain rfl : j = m + 1 := by omega
            gi_wp2_with fail
            refine ⟨(KeepsOthers.ofKp HJ.out.2 (fun b hb => by simp at hb; subst hb; exact ⟨_, _, HI.out.2⟩)).from _, ?_, ?_⟩
            · exact ⟨HJ.out.2.size, fun b hb => HJ.out.2.block b (by have := (HBO.out b hb).2; have := HI.out.1.size; omega) (by have := (HBO.out b hb).1; simp; omega)⟩
            · show CN _ _ (S.openN _) _
              rw [HPE.out]
              exact HJ.out.1
end
end Go.Proofs.Ythbobooiedcofaa
namespace Go.Proofs.Ythbobooiedcofaa
open Go.RowKit
attribute [local go_sem] cell_set
set_option maxRecDepth 100000
set_option linter.unusedVariables false

/-- A wiring in new memory. -/
structure OW (w0 : World) (B A : Nat) (S : Wir) (W : World) : Prop where
  f : ∃ FA, WG W B A S FA ∧ ∀ b ∈ B :: FA, w0.heap.size ≤ b
  b : Below w0.heap.size w0 W
section
variable {w0 W W' : World} {B A : Nat} {S S' : Wir}
theorem OW.kept (h : OW w0 B A S W) (hb : Below W.heap.size W W') : OW w0 B A S W' := by
  obtain ⟨⟨FA, hg, hf⟩, hw⟩ := h
  exact ⟨⟨FA, hg.below hb, hf⟩, hw.trans (hb.mono hw.size)⟩
theorem OW.step {FA : List Nat} (hw : Below w0.heap.size w0 W) (hf : ∀ b ∈ B :: FA, w0.heap.size ≤ b) (h1 : ∃ FA', WG W' B A S' FA' ∧ ∀ b ∈ FA', b ∈ FA ∨ W.heap.size ≤ b) (h2 : Kp (B :: FA) W W') : OW w0 B A S' W' := by
  obtain ⟨FA', hg, hn⟩ := h1
  refine ⟨⟨FA', hg, fun b hb => ?_⟩, hw.trans (h2.below hw.size hf)⟩
  rcases List.mem_cons.1 hb with rfl | hb
  · exact hf b (by simp)
  · rcases hn b hb with hb | hb
    · exact hf b (by simp [hb])
    · exact Nat.le_trans hw.size hb
end
section
variable {w0 W : World} {B A : Nat} {S : Wir}
theorem ow_take (h : OW w0 B A S W) (ag ar : Int) : Calls Try.prog 51 #[.pointer (some ⟨A, 0, none⟩), .int .i64 ag, .int .i64 ar] W fun e w' => e = .returned (.tuple #[.int .i64 (S.A.takeC ag ar), .int .i64 (S.A.takeE ag ar)]) ∧ OW w0 B A (S.take ag ar) w' := by
  obtain ⟨⟨FA, hg, hf⟩, hw⟩ := h
  exact (ar_take A S.A FA ag ar W hg.pa).mono fun e w' ⟨he, ⟨F', h1, hn⟩, h2⟩ => ⟨he, OW.step hw hf ⟨F', hg.ofA h1 h2, hn⟩ (h2.mono fun b hb => List.mem_cons_of_mem _ hb)⟩
theorem ow_link (h : OW w0 B A S W) (c s d t : Int) : Calls Try.prog 20 #[.pointer (some ⟨B, 0, none⟩), .agg #[.int .i64 c, .int .i64 s], .agg #[.int .i64 d, .int .i64 t]] W fun e w' => e = .returned (.int .i64 (S.linkE (c, s) (d, t))) ∧ OW w0 B A (S.link (c, s) (d, t)) w' := by
  obtain ⟨⟨FA, hg, hf⟩, hw⟩ := h
  exact (wi_link B A S FA W c s d t hg).mono fun e w' ⟨he, h1, h2⟩ => ⟨he, OW.step hw hf ⟨FA, h1, fun b hb => .inl hb⟩ h2⟩
theorem ow_pass (h : OW w0 B A S W) (c s d t : Int) : Calls Try.prog 22 #[.pointer (some ⟨B, 0, none⟩), .agg #[.int .i64 c, .int .i64 s], .agg #[.int .i64 d, .int .i64 t]] W fun e w' => e = .returned (passV S (c, s) (d, t)) ∧ OW w0 B A (S.pass (c, s) (d, t)) w' := by
  obtain ⟨⟨FA, hg, hf⟩, hw⟩ := h
  exact (wi_pass B A S FA W c s d t hg).mono fun e w' ⟨he, h1, h2⟩ => ⟨he, OW.step hw hf ⟨FA, h1, fun b hb => .inl hb⟩ h2⟩
theorem ow_drop (h : OW w0 B A S W) (c : Int) : Calls Try.prog 23 #[.pointer (some ⟨B, 0, none⟩), .int .i64 c] W fun e w' => e = .returned (.int .i64 (S.dropE c)) ∧ OW w0 B A (S.drop c) w' := by
  obtain ⟨⟨FA, hg, hf⟩, hw⟩ := h
  exact (wi_drop B A S FA W c hg).mono fun e w' ⟨he, h1, h2⟩ => ⟨he, OW.step hw hf h1 h2⟩
theorem ow_open (h : OW w0 B A S W) : Calls Try.prog 26 #[.pointer (some ⟨B, 0, none⟩)] W fun e w' => e = .returned (.int .i64 (S.openN S.pts : Int)) ∧ OW w0 B A S w' := by
  obtain ⟨⟨FA, hg, hf⟩, hw⟩ := h
  exact (wi_open B A S FA W hg).mono fun e w' ⟨he, hb⟩ => ⟨he, OW.kept ⟨⟨FA, hg, hf⟩, hw⟩ hb⟩
end
def wS2 : Wir := ((Wir.new (Ars.empty 4) 2).take 0 1).take 0 1
def wS4 : Wir := (wS2.link (0, 0) (1, 0)).link (0, 1) (-1, 0)
def wS6 : Wir := (wS4.pass (0, 1) (0, 0)).drop 0
theorem wk_all : wS2.linkE (0, 0) (1, 0) = 0 ∧ (wS2.link (0, 0) (1, 0)).linkE (0, 1) (-1, 0) = 0 ∧ wS4.passE (0, 1) (0, 0) = 0 ∧ wS4.passIs (0, 1) (0, 0) = true ∧ wS4.passL (0, 1) (0, 0) = ((-1, 0), (1, 0)) ∧ (wS4.pass (0, 1) (0, 0)).dropE 0 = 0 ∧ wS6.openN wS6.pts = 2 := by decide +kernel
set_option maxHeartbeats 4000000 in
theorem works08 (w : World) : Calls Try.prog 12 #[] w fun e w' => e = .returned (.bool true) ∧ Below w.heap.size w w' := by
  obtain ⟨k1, k2, k3, k4, k5, k6, k7⟩ := wk_all
  have hpv : passV wS4 (0, 1) (0, 0) = .tuple #[.agg #[.int .i64 (-1), .int .i64 0, .int .i64 1, .int .i64 0], .bool true, .int .i64 0] := by unfold passV; rw [k3, k4, k5]
  have HK := Lib.hid (And.intro k1 (And.intro k2 (And.intro hpv (And.intro k6 k7))))
  clear k1 k2 k3 k4 k5 k6 k7 hpv
  go_enter Try.func12, Try.ntmps12
  go_wp2_with fail
  refine (ar_new_ok 4 (by decide) (by decide) _).mono ?_
  rintro e w1 ⟨rfl, hb1, hp1⟩
  have HP1 := Lib.hid (And.intro hb1 hp1)
  clear hb1 hp1
  simp only []
  go_wp2_with fail
  refine (wi_new_ok w.heap.size (Ars.empty 4) [w.heap.size] w1 2 (by decide) HP1.out.2).mono ?_
  rintro e w2 ⟨rfl, hg2, hb2⟩
  have H2 : Hid (OW w w1.heap.size w.heap.size (Wir.new (Ars.empty 4) 2) w2) := ⟨⟨[w.heap.size], hg2, fun b hb => by
    simp only [List.mem_cons, List.not_mem_nil, or_false] at hb
    rcases hb with rfl | rfl
    · exact HP1.out.1.size
    · exact Nat.le_refl _⟩, HP1.out.1.trans (hb2.mono HP1.out.1.size)⟩
  clear hg2 hb2
  simp only []
  go_wp2_with fail
  refine (ow_take H2.out 0 1).mono ?_
  rintro e w3 ⟨rfl, h3⟩
  have H3 := Lib.hid h3
  clear h3
  simp only []
  go_wp2_with fail
  refine (ow_take H3.out 0 1).mono ?_
  rintro e w4 ⟨rfl, h4⟩
  have H4 : Hid (OW w w1.heap.size w.heap.size wS2 w4) := h4
  clear h4
  simp only []
  go_wp2_with fail
  refine (ow_link H4.out 0 0 1 0).mono ?_
  rintro e w5 ⟨rfl, h5⟩
  rw [HK.out.1]
  have H5 := Lib.hid h5
  clear h5
  simp only []
  go_wp2_with fail
  refine (ow_link H5.out 0 1 (-1) 0).mono ?_
  rintro e w6 ⟨rfl, h6⟩
  rw [HK.out.2.1]
  have H6 : Hid (OW w w1.heap.size w.heap.size wS4 w6) := h6
  clear h6
  simp only []
  go_wp2_with fail
  refine (ow_pass H6.out 0 1 0 0).mono ?_
  rintro e w7 ⟨rfl, h7⟩
  rw [HK.out.2.2.1]
  have H7 := Lib.hid (h7.kept ((Below.refl _ _).alloc (Nat.le_refl _) (.cells #[.int .i64 (-1), .int .i64 0, .int .i64 1, .int .i64 0] 55)))
  clear h7
  simp only []
  go_wp2_with fail
  refine (ow_drop H7.out 0).mono ?_
  rintro e w8 ⟨rfl, h8⟩
  rw [HK.out.2.2.2.1]
  have H8 : Hid (OW w w1.heap.size w.heap.size wS6 w8) := h8
  clear h8
  simp only []
  go_wp2_with fail
  refine (ow_open H8.out).mono ?_
  rintro e w9 ⟨rfl, h9⟩
  rw [HK.out.2.2.2.2]
  have H9 := Lib.hid h9
  clear h9
  simp only []
  go_wp2_with fail
  go_ret
  exact ⟨by simp, H9.out.b⟩
end Go.Proofs.Ythbobooiedcofaa
