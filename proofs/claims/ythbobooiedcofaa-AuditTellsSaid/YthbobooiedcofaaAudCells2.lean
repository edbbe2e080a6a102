/-
  audit.Audit's inner functions: the ports of the cells.
-/
import Derived.Test.YthbobooiedcofaaAudCells
namespace Go.Proofs.Ythbobooiedcofaa
open Go.RowKit
attribute [local go_sem] cell_set
attribute [local go_sem] Oper.semAt_some
set_option maxRecDepth 100000
set_option linter.unusedVariables false

def auActC (a : Act) (x : Nat × Int) : Act := { tmps := ((a.tmps.setIfInBounds 9 (.int .i64 (x.1 : Int))).setIfInBounds 10 (.int .i64 x.2)).setIfInBounds 2 (.int .i64 (x.1 : Int)), defers := [] }
theorem flat_prefix (S : Wir) (U : List (Nat × Int)) (k : Nat) : (U.take k).flatMap (Wir.liveSl S) <+: U.flatMap (Wir.liveSl S) := by
  refine ⟨(U.drop k).flatMap (Wir.liveSl S), ?_⟩
  rw [← List.flatMap_append, List.take_append_drop]
section
variable (ba bw bs B A : Nat) (S : Wir) (FA : List Nat) (br bt be : Nat) (c f x o : Int) (p : Pt) (e0 : Int) (w : World)
set_option maxHeartbeats 4000000 in
theorem au_cells (hb : 0 ≤ x ∧ x ≤ 1000 ∧ 0 ≤ o ∧ o ≤ 1000) (h0 : w.heap[ba]? = some (.cells #[.pointer (some ⟨A, 0, none⟩)] 23 (0, 0))) (hs : w.heap[bs]? = some (.cells #[.func (.func 83) #[] #[.pointer (some ⟨bw, 0, none⟩), .pointer (some ⟨br, 0, none⟩), .pointer (some ⟨bt, 0, none⟩), .pointer (some ⟨be, 0, none⟩)]] 140 (0, 0)))
    (hB : AuB w bw B A S FA br bt be) (h : Au w br bt be c f x o p e0 w) :
    Calls Try.prog 86 #[.pointer (some ⟨ba, 0, none⟩), .pointer (some ⟨bs, 0, none⟩)] w fun e W' => (∃ r, e = .returned r) ∧ AuRes S w br bt be c f x o p e0 ((S.A.upto S.A.cells.length).flatMap (Wir.liveSl S)) W' ∧ Kp [br, bt, be] w W' := by
  have HA := Lib.hid h
  have HG := Lib.hid hB
  have H01 := Lib.hid (And.intro h0 hs)
  have hn0 : ba ∉ [br, bt, be] := by
    simp only [List.mem_cons, List.not_mem_nil, or_false, not_or]
    exact ⟨ty_ne h0 h.r (by decide), ty_ne h0 h.t (by decide), ty_ne h0 h.e (by decide)⟩
  have hn1 : bs ∉ [br, bt, be] := by
    simp only [List.mem_cons, List.not_mem_nil, or_false, not_or]
    exact ⟨ty_ne hs h.r (by decide), ty_ne hs h.t (by decide), ty_ne hs h.e (by decide)⟩
  have HNe := Lib.hid (And.intro hn0 hn1)
  have a0 : w.cell? ⟨ba, 0, none⟩ = some (.pointer (some ⟨A, 0, none⟩)) := by simp [World.cell?, h0]
  have al := heap_lt h0
  have sgl := heap_lt hs
  have hul := S.A.upto_len S.A.cells.length
  have hm2 := hB.g.ok.a.most2
  have hcl := hB.g.ok.a.len
  have hu4 : (S.A.upto S.A.cells.length).length ≤ 4096 := by omega
  obtain ⟨U, hU⟩ : ∃ U, S.A.upto S.A.cells.length = U := ⟨_, rfl⟩
  rw [hU] at hu4 ⊢
  have HU := Lib.hid hU
  clear hul hm2 hcl hU h hB h0 hs hn0 hn1
  refine (callsIn_wide (n := 5)).1 (callsIn_of_wp_marks Try.func86 rfl trivial (wpIn_wide.2 ?_) rfl)
  simp only [Try.ntmps86, List.size_toArray, List.length_cons, List.length_nil, Nat.reduceAdd, Nat.reduceSub, Array.replicate_succ, Array.replicate_zero, List.push_toArray, List.append_toArray, List.nil_append, List.cons_append]
  go_wp2_with (go_at_call 74; refine (ar_all A S.A FA w HG.out.g.pa).mono ?_; rintro e w1 ⟨v, rfl, hb1, bx⟩; rw [HU.out] at bx)
  clear a0
  have hz1 := hb1.size
  have hbl := bx.lt
  have hbo : ∀ b ∈ w.heap.size :: ownB v, w.heap.size ≤ b ∧ b < w1.heap.size := fun b hb => by
    simp only [List.mem_cons] at hb
    rcases hb with rfl | hb
    · exact ⟨Nat.le_refl _, hbl⟩
    · exact ⟨bx.own b hb, bx.row.lt b hb⟩
  have HBO := Lib.hid hbo
  have HA1 := Lib.hid (HA.out.below hb1).self
  have hlts := HA.out.lts
  have HLT : Hid ((br < w1.heap.size ∧ bt < w1.heap.size ∧ be < w1.heap.size) ∧ ∀ b ∈ [br, bt, be], b < w.heap.size) := ⟨⟨by omega, by omega, by omega⟩, by simp; omega⟩
  have HB1 := Lib.hid hb1
  have HG1 := Lib.hid (HG.out.below hb1)
  have H1 : Hid (w1.heap[ba]? = some (.cells #[.pointer (some ⟨A, 0, none⟩)] 23 (0, 0)) ∧ w1.heap[bs]? = some (.cells #[.func (.func 83) #[] #[.pointer (some ⟨bw, 0, none⟩), .pointer (some ⟨br, 0, none⟩), .pointer (some ⟨bt, 0, none⟩), .pointer (some ⟨be, 0, none⟩)]] 140 (0, 0))) := ⟨(hb1.block _ al).trans H01.out.1, (hb1.block _ sgl).trans H01.out.2⟩
  clear hlts hb1
  refine rf rfl (enters_of Try.func117 (by kernel_rfl) rfl) (seq_stops 4 w.heap.size w.heap.size v U (by omega) _ bx) (fun b hb => (HBO.out b hb).2) (fun _ => rfl)
    (fun pre W => S.firstBad (pre.flatMap (Wir.liveSl S)) = none ∧ Au w1 br bt be c f (x + (S.nWire (pre.flatMap (Wir.liveSl S)) : Int)) (o + (S.nOpen (pre.flatMap (Wir.liveSl S)) : Int)) p e0 W)
    (fun cd pre W => cd = .ret ∧ ∃ q, S.firstBad (pre.flatMap (Wir.liveSl S)) = some q ∧ ∃ x' o', Au w1 br bt be c f x' o' q 42 W)
    (fun s W1 W2 row h hg hr => ⟨h.1, h.2.grown hg HLT.out.1 (Nat.le_refl _) hr⟩)
    (fun cd s W1 W2 row h hg hr => by
      obtain ⟨h1, q, h2, x', o', h3⟩ := h
      exact ⟨h1, q, h2, x', o', h3.grown hg HLT.out.1 (Nat.le_refl _) hr⟩)
    ⟨rfl, by simpa [Wir.nWire, Wir.nOpen] using HA1.out⟩ auActC ?assign ?body ?done ?stop
  case assign =>
    intro l x W K hK
    gi_wp2
    simpa [auActC] using hK
  case stop =>
    rintro D cd pre W hD ⟨k, hk, hpre⟩ ⟨rfl, q, hq, x', o', hau⟩ hK
    have HK := Lib.hid hK
    have hqq : S.firstBad (U.flatMap (Wir.liveSl S)) = some q := firstBad_prefix (flat_prefix S U k) (hpre ▸ hq)
    have HF : Hid (AuRes S w br bt be c f x o p e0 (U.flatMap (Wir.liveSl S)) (W.putObj D (.deferred none)) ∧ Kp [br, bt, be] w (W.putObj D (.deferred none))) := by
      have hDb : ∀ b ∈ [br, bt, be], b ≠ D := fun b hb e => by have := HLT.out.2 b hb; omega
      have hkk : Kp [br, bt, be] w (W.putObj D (.deferred none)) := by
        have h1 := (Kp.of_below (F := [br, bt, be]) HB1.out).tr hau.k
        exact ⟨h1.os, h1.tape, h1.output, by simpa using h1.size, fun b hb hn => (World.putObj_heap_other (by omega)).trans (h1.block b hb hn)⟩
      refine ⟨.inr ⟨q, hqq, x', o', hkk, (World.putObj_heap_other (hDb br (by simp))).trans hau.r, (World.putObj_heap_other (hDb bt (by simp))).trans hau.t, (World.putObj_heap_other (hDb be (by simp))).trans hau.e⟩, hkk⟩
    clear hau hK
    go_wp2_with fail
    exact leaveMk HK.out ⟨_, results_none rfl _ _ _, ⟨_, rfl⟩, HF.out⟩
  case done =>
    rintro D ys W hD rfl ⟨hq, hau⟩ hK
    have HK := Lib.hid hK
    have HF : Hid (AuRes S w br bt be c f x o p e0 (ys.flatMap (Wir.liveSl S)) (W.putObj D (.deferred none)) ∧ Kp [br, bt, be] w (W.putObj D (.deferred none))) := by
      have hDb : ∀ b ∈ [br, bt, be], b ≠ D := fun b hb e => by have := HLT.out.2 b hb; omega
      have hkk : Kp [br, bt, be] w (W.putObj D (.deferred none)) := by
        have h1 := (Kp.of_below (F := [br, bt, be]) HB1.out).tr hau.k
        exact ⟨h1.os, h1.tape, h1.output, by simpa using h1.size, fun b hb hn => (World.putObj_heap_other (by omega)).trans (h1.block b hb hn)⟩
      refine ⟨.inl ⟨hq, hkk, (World.putObj_heap_other (hDb br (by simp))).trans hau.r, (World.putObj_heap_other (hDb bt (by simp))).trans hau.t, (World.putObj_heap_other (hDb be (by simp))).trans hau.e⟩, hkk⟩
    clear hau hK
    go_wp2_with fail
    exact leaveMk HK.out ⟨_, results_none rfl _ _ _, ⟨_, rfl⟩, HF.out⟩
  case body =>
    rintro l pre ⟨cc, ag⟩ W ⟨hpre, hau⟩ hlen
    have HAU := Lib.hid hau
    have HKW := Lib.hid hau.k
    have h0 := (hau.k.block ba (heap_lt H1.out.1) HNe.out.1).trans H1.out.1
    have a0 : W.cell? ⟨ba, 0, none⟩ = some (.pointer (some ⟨A, 0, none⟩)) := by simp [World.cell?, h0]
    have a1 := heap_lt h0
    have hl7 := live_le HG.out.g.ok pre
    have hw7 := S.nWire_le (pre.flatMap (Wir.liveSl S))
    have ho7 := S.nOpen_le (pre.flatMap (Wir.liveSl S))
    obtain ⟨ar, har⟩ : ∃ ar, S.A.agA (cc : Int) = ar := ⟨_, rfl⟩
    have hsl := slots_le HG.out.g.ok (cc : Int)
    rw [har] at hsl
    have HAR := Lib.hid har
    obtain ⟨m, rfl⟩ := Int.eq_ofNat_of_zero_le hsl.1
    have hm6 : m ≤ 6 := by omega
    have ea : IntKind.i64.wrap ((m : Int) + 1) = ((m + 1 : Nat) : Int) := by rw [IntWalk.i64_in _ (by omega)]; omega
    have hpe : (pre ++ [(cc, ag)]).flatMap (Wir.liveSl S) = pre.flatMap (Wir.liveSl S) ++ Wir.slotsOf (cc : Int) (m + 1) := by
      rw [List.flatMap_append]
      congr 1
      simp only [List.flatMap_cons, List.flatMap_nil, List.append_nil, Wir.liveSl]
      rw [har]
      congr 1
    obtain ⟨ps, hps⟩ : ∃ ps, pre.flatMap (Wir.liveSl S) = ps := ⟨_, rfl⟩
    rw [hps] at hpe hw7 ho7 hl7 hpre
    rw [hps] at HAU
    have HPE := Lib.hid hpe
    have HGW := Lib.hid (HAU.out.base HG1.out)
    have hpl : ps.length ≤ 28672 := by omega
    have hb0 : S.nWire ps ≤ 28672 := by omega
    have hb1 : S.nOpen ps ≤ 28672 := by omega
    have HP0 : Hid (S.firstBad (ps ++ Wir.slotsOf (cc : Int) 0) = none) := by show _ = _; simpa [Wir.slotsOf] using hpre
    clear hau h0 hl7 hw7 ho7 har hsl hpe hps hpre hlen
    simp only [auActC]
    gi_wp2_with fail
    refine ⟨trivial, CallsIn.inRound l (callsIn_wide.2 ((ar_agent A S.A FA (cc : Int) W HGW.out.g.pa).mono ?_))⟩
    rintro e w2 ⟨rfl, hb2⟩
    rw [HAR.out]
    generalize (if (S.A.cell (cc : Int)).isSome = true then (0 : Int) else 41) = ee
    have hC2 : S.firstBad (ps ++ Wir.slotsOf (cc : Int) 0) = none ∧ Au W br bt be c f (x + (S.nWire (ps ++ Wir.slotsOf (cc : Int) 0) : Int)) (o + (S.nOpen (ps ++ Wir.slotsOf (cc : Int) 0) : Int)) p e0 w2 ∧ Kp [br, bt, be] W w2 :=
      ⟨HP0.out, by simpa [Wir.slotsOf] using HAU.out.self.below hb2, Kp.of_below hb2⟩
    have HC2 := Lib.hid hC2
    clear hC2 hb2 a0 a1
    simp only []
    gi_wp2_with fail
    gi_loopw [20] (fun i wr => ∃ j : Nat, i = .int .i64 j ∧ j ≤ m + 1 ∧ Hid (S.firstBad (ps ++ Wir.slotsOf (cc : Int) j) = none ∧ Au W br bt be c f (x + (S.nWire (ps ++ Wir.slotsOf (cc : Int) j) : Int)) (o + (S.nOpen (ps ++ Wir.slotsOf (cc : Int) j) : Int)) p e0 wr ∧ Kp [br, bt, be] W wr)) (fun i _ => m + 1 - (intOf i).toNat)
    case atStart => exact ⟨0, rfl, Nat.zero_le _, HC2⟩
    case round =>
      obtain ⟨j, rfl, hj, HJ⟩ := hrel
      clear HC2
      by_cases hjm : j < m + 1
      · have hsW := (HKW.out.block bs (heap_lt H1.out.2) HNe.out.2).trans H1.out.2
        have hs1 := (HJ.out.2.2.block bs (heap_lt hsW) HNe.out.2).trans hsW
        have s0 : wr.cell? ⟨bs, 0, none⟩ = some (.func (.func 83) #[] #[.pointer (some ⟨bw, 0, none⟩), .pointer (some ⟨br, 0, none⟩), .pointer (some ⟨bt, 0, none⟩), .pointer (some ⟨be, 0, none⟩)]) := by simp [World.cell?, hs1]
        have sl := heap_lt hs1
        have k1 : S.nWire (ps ++ Wir.slotsOf (cc : Int) j) ≤ 28700 := by
          rw [S.nWire_append]
          have := S.nWire_le (Wir.slotsOf (cc : Int) j)
          rw [Wir.slotsOf_len] at this; omega
        have k2 : S.nOpen (ps ++ Wir.slotsOf (cc : Int) j) ≤ 28700 := by
          rw [S.nOpen_append]
          have := S.nOpen_le (Wir.slotsOf (cc : Int) j)
          rw [Wir.slotsOf_len] at this; omega
        have hls : ps ++ Wir.slotsOf (cc : Int) (j + 1) = (ps ++ Wir.slotsOf (cc : Int) j) ++ [((cc : Int), (j : Int))] := by rw [Wir.slotsOf_succ, List.append_assoc]
        have HLs := Lib.hid hls
        clear hls hsW hs1
        cases ho : S.isOpen ((cc : Int), (j : Int))
        · cases hbd : S.isBad ((cc : Int), (j : Int))
          · have hst := step_ok ((cc : Int), (j : Int)) HJ.out.1 ho hbd
            have HSt := Lib.hid hst
            clear hst
            gi_wp2_with fail
            refine ⟨trivial, CallsIn.inRound l (callsIn_wide.2 ((au_see_ok bw B A S FA br bt be c f _ _ p e0 W wr (cc : Int) (j : Int) ho hbd (by omega) HGW.out HJ.out.2.1).mono ?_))⟩
            rintro e w3 ⟨rfl, ha3, hk3⟩
            have H3 := Lib.hid (And.intro ha3 (HJ.out.2.2.tr hk3))
            clear ha3 hk3
            simp only []
            gi_wp2_with fail
            go_roundw
            case measure => simp [intOf]; omega
            case rel => exact ⟨j + 1, by go_num, by omega, by rw [HLs.out]; exact HSt.out.1, by rw [HLs.out, HSt.out.2.1, HSt.out.2.2]; simpa [Int.add_assoc] using H3.out.1, H3.out.2⟩
          · have hst := step_bad ((cc : Int), (j : Int)) HJ.out.1 ho hbd
            have HSt := Lib.hid hst
            clear hst
            gi_wp2_with fail
            refine ⟨trivial, CallsIn.inRound l (callsIn_wide.2 ((au_see_bad bw B A S FA br bt be c f _ _ p e0 W wr (cc : Int) (j : Int) ho hbd HGW.out HJ.out.2.1).mono ?_))⟩
            rintro e w3 ⟨rfl, ha3, hk3⟩
            have H3 := Lib.hid (And.intro ha3 (HJ.out.2.2.tr hk3))
            clear ha3 hk3
            simp only []
            gi_wp2_with fail
            refine ⟨(KeepsOthers.ofKp H3.out.2 HAU.out.cl).from _, rfl, ((cc : Int), (j : Int)), ?_, _, _, HAU.out.re H3.out.1⟩
            rw [HPE.out]
            exact firstBad_prefix (by rw [← HLs.out]; exact (List.prefix_append_right_inj _).2 (slotsOf_prefix (cc : Int) (by omega))) HSt.out
        · have hst := step_open ((cc : Int), (j : Int)) HJ.out.1 ho
          have HSt := Lib.hid hst
          clear hst
          gi_wp2_with fail
          refine ⟨trivial, CallsIn.inRound l (callsIn_wide.2 ((au_see_open bw B A S FA br bt be c f _ _ p e0 W wr (cc : Int) (j : Int) ho (by omega) HGW.out HJ.out.2.1).mono ?_))⟩
          rintro e w3 ⟨rfl, ha3, hk3⟩
          have H3 := Lib.hid (And.intro ha3 (HJ.out.2.2.tr hk3))
          clear ha3 hk3
          simp only []
          gi_wp2_with fail
          go_roundw
          case measure => simp [intOf]; omega
          case rel => exact ⟨j + 1, by go_num, by omega, by rw [HLs.out]; exact HSt.out.1, by rw [HLs.out, HSt.out.2.1, HSt.out.2.2]; simpa [Int.add_assoc] using H3.out.1, H3.out.2⟩
      · obtain rfl : j = m + 1 := by omega
        gi_wp2_with fail
        refine ⟨(KeepsOthers.ofKp HJ.out.2.2 HAU.out.cl).from _, ⟨HJ.out.2.2.size, fun b hb => HJ.out.2.2.block b (by have := (HBO.out b hb).2; have := HKW.out.size; omega) (fun hm => by have := (HBO.out b hb).1; have := HLT.out.2 b hm; omega)⟩, ?_⟩
        show S.firstBad ((pre ++ [(cc, ag)]).flatMap (Wir.liveSl S)) = none ∧ Au w1 br bt be c f (x + (S.nWire ((pre ++ [(cc, ag)]).flatMap (Wir.liveSl S)) : Int)) (o + (S.nOpen ((pre ++ [(cc, ag)]).flatMap (Wir.liveSl S)) : Int)) p e0 _
        rw [HPE.out]
        exact ⟨HJ.out.1, HAU.out.re HJ.out.2.1⟩
end
end Go.Proofs.Ythbobooiedcofaa
