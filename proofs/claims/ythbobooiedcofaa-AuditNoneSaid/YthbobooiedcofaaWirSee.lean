/-
  A wiring: Open's inner function.
-/
import Derived.Test.YthbobooiedcofaaWirPass2
import Derived.Deep.DeepCutAuto
/-
  A wiring: Drop.
-/
namespace Go.Proofs.Ythbobooiedcofaa
open Go.RowKit
attribute [local go_sem] cell_set
set_option maxRecDepth 100000
set_option linter.unusedVariables false

section
variable (B A : Nat) (S : Wir) (FA : List Nat) (w : World)
set_option maxHeartbeats 2000000 in
theorem wi_drop (c : Int) (h : WG w B A S FA) :
    Calls Try.prog 23 #[.pointer (some ⟨B, 0, none⟩), .int .i64 c] w fun e w' => e = .returned (.int .i64 (S.dropE c)) ∧ (∃ FA', WG w' B A (S.drop c) FA' ∧ ∀ b ∈ FA', b ∈ FA ∨ w.heap.size ≤ b) ∧ Kp (B :: FA) w w' := by
  have HG := Lib.hid h
  have hlt := h.lt
  have HF := Lib.hid h.blt
  obtain ⟨c0, c1⟩ := h.cells
  cases hc : S.A.cell c with
  | none =>
    have hE : S.dropE c = 41 := by unfold Wir.dropE; rw [hc]; rfl
    have hD : S.drop c = S := by unfold Wir.drop; rw [hE]; rfl
    rw [hE, hD]
    have HC := Lib.hid hc
    clear hc hE hD
    go_enter Try.func23, Try.ntmps23
    go_wp2_with (first
      | (go_at_call 62; refine (wi_is B A _ c0).mono ?_; rintro e w' ⟨rfl, rfl⟩)
      | (go_at_call 43; refine (ar_agent A S.A FA c _ HG.out.pa).mono ?_; rintro e w1 ⟨rfl, hb1⟩; rw [HC.out]))
    go_ret
    exact ⟨rfl, ⟨FA, HG.out.below hb1, fun b hb => .inl hb⟩, Kp.of_below hb1⟩
  | some x =>
    obtain ⟨ag, ws⟩ := x
    obtain ⟨hc0, hx⟩ := Ars.cell_some hc
    have hk := h.ok.a.cell _ _ _ hx
    obtain ⟨n, hn⟩ : ∃ n, ws.length = n := ⟨_, rfl⟩
    have hn7 : n ≤ 7 := by omega
    have hn1 : 1 ≤ n := by omega
    have hA : S.A.agA c = (n : Int) - 1 := by unfold Ars.agA; rw [hc]; simp only; rw [hn]
    have hE : S.dropE c = if S.linkedN c n = true then 31 else 0 := by
      unfold Wir.dropE; rw [hc, hA]
      rw [show ((n : Int) - 1 + 1).toNat = n by omega]; rfl
    have HE := Lib.hid hE
    have HC := Lib.hid hc
    have HA := Lib.hid hA
    have ea : IntKind.i64.wrap ((n : Int) - 1 + 1) = (n : Int) := by rw [IntWalk.i64_in _ (by omega)]; omega
    clear hE hc hA hk hx hn
    have hL0 : S.linkedN c 0 = false := rfl
    have HL0 := Lib.hid (And.intro hL0 (Below.refl w.heap.size w))
    clear hL0
    go_enter Try.func23, Try.ntmps23
    go_wp2_with (go_at_call 62; refine (wi_is B A _ c0).mono ?_; rintro e w' ⟨rfl, rfl⟩)
    refine (ar_agent A S.A FA c _ HG.out.pa).mono ?_
    rintro e w1 ⟨rfl, hb1⟩
    rw [HC.out, HA.out]
    have HB1 := Lib.hid hb1
    clear hb1
    have HL1 : Hid (S.linkedN c 0 = false ∧ Below w.heap.size w w1) := ⟨HL0.out.1, HB1.out⟩
    clear c0 c1
    simp only []
    go_wp2_with fail
    go_loopw [29] (fun i wr => ∃ k : Nat, i = .int .i64 k ∧ k ≤ n ∧ Hid (S.linkedN c k = false ∧ Below w.heap.size w wr)) (fun i _ => n - (intOf i).toNat)
    case atStart => exact ⟨0, rfl, Nat.zero_le _, HL1⟩
    case round =>
      obtain ⟨k, rfl, hk, HR⟩ := hrel
      clear HL1 HL0
      by_cases hlt2 : k < n
      · have hsucc := Wir.linkedN_succ S c k
        rw [HR.out.1, Bool.false_or] at hsucc
        by_cases he : S.toE (c, (k : Int)) = 0
        · have hl : S.linkedN c n = true := Wir.linkedN_mono (by rw [hsucc, decide_eq_true he]) hlt2
          have hE2 : S.dropE c = 31 := by rw [HE.out, if_pos hl]
          have hD : S.drop c = S := by unfold Wir.drop; rw [hE2]; rfl
          have HD := Lib.hid (And.intro hE2 hD)
          have HTE := Lib.hid he
          clear hsucc he hl hE2 hD
          go_wp2_with (go_at_call 17; refine (wi_to B A S FA _ c (k : Int) (HG.out.below HR.out.2)).mono ?_; rintro e w2 ⟨rfl, hb2⟩; rw [HTE.out])
          go_ret
          exact ⟨by rw [HD.out.1]; rfl, ⟨FA, by rw [HD.out.2]; exact HG.out.below (HR.out.2.trans ((hb2.alloc hb2.size _).mono HR.out.2.size)), fun b hb => .inl hb⟩, Kp.of_below (HR.out.2.trans ((hb2.alloc hb2.size _).mono HR.out.2.size))⟩
        · have hk0 : (S.toE (c, (k : Int)) == 0) = false := by rw [beq_eq_false_iff_ne]; exact he
          rw [decide_eq_false he] at hsucc
          have HS := Lib.hid hsucc
          clear hsucc he
          go_wp2_with (go_at_call 17; refine (wi_to B A S FA _ c (k : Int) (HG.out.below HR.out.2)).mono ?_; rintro e w2 ⟨rfl, hb2⟩
                       have HB2 := Lib.hid (HR.out.2.trans ((hb2.alloc hb2.size (.cells #[.int .i64 (S.toP (c, (k : Int))).1, .int .i64 (S.toP (c, (k : Int))).2] 39)).mono HR.out.2.size))
                       clear hb2)
          go_roundw
          case measure => simp [intOf]; omega
          case rel => exact ⟨k + 1, by go_num, by omega, HS.out, HB2.out⟩
      · obtain rfl : k = n := by omega
        have hE2 : S.dropE c = 0 := by rw [HE.out, if_neg (by rw [HR.out.1]; simp)]
        have hD : S.drop c = { S with A := S.A.give c } := by unfold Wir.drop; rw [if_pos hE2]
        have hgE : S.A.giveE c = 0 := by unfold Ars.giveE; rw [HC.out]; rfl
        have HD := Lib.hid (And.intro hE2 (And.intro hD hgE))
        have HGr := Lib.hid (HG.out.below HR.out.2)
        obtain ⟨c0, c1⟩ := (HG.out.below HR.out.2).cells
        clear hE2 hD hgE
        go_wp2_with (go_at_call 49; refine (ar_give A S.A FA c _ HGr.out.pa).mono ?_; rintro e w2 ⟨rfl, hp2, hk2⟩
                     rw [HD.out.2.2]
                     have HP := Lib.hid (And.intro hp2 hk2)
                     clear hp2 hk2)
        go_ret
        obtain ⟨FA', hp, hF'⟩ := HP.out.1
        refine ⟨by rw [HD.out.1]; rfl, ⟨FA', by rw [HD.out.2.1]; exact HGr.out.ofA hp HP.out.2, fun b hb => ?_⟩, (Kp.of_below HR.out.2).tr (HP.out.2.mono fun b hb => List.mem_cons_of_mem _ hb)⟩
        rcases hF' b hb with hb | hb
        · exact .inl hb
        · exact .inr (Nat.le_trans HR.out.2.size hb)
end
end Go.Proofs.Ythbobooiedcofaa
/-
  A wiring: New.
-/
namespace Go.Proofs.Ythbobooiedcofaa
open Go.RowKit
attribute [local go_sem] cell_set
set_option maxRecDepth 100000
set_option linter.unusedVariables false

section
variable (A : Nat) (S : Ars) (FA : List Nat) (w : World)
theorem wi_new_bad (free : Int) (hf : free < 0 ∨ 64 < free) (h : PA w A S FA) :
    Calls Try.prog 13 #[.pointer (some ⟨A, 0, none⟩), .int .i64 free] w fun e w' => e = .returned (.tuple #[.pointer none, .int .i64 1]) ∧ Below w.heap.size w w' := by
  have HG := Lib.hid h
  have hm : ((S.most : Int) == 0) = false := ok_ne h.ok
  rcases (by omega : free < 0 ∨ (¬ free < 0 ∧ 64 < free)) with h1 | ⟨h1, h2⟩
  all_goals
    go_enter Try.func13, Try.ntmps13
    go_wp2_with (go_at_call 39; refine (ar_field A S FA _ HG.out).mono ?_; rintro e w' ⟨rfl, rfl⟩)
    go_ret2
    exact ⟨rfl, Below.refl _ _⟩
/-- The cells of a wiring that is being laid. -/
def NW (w : World) (A f k : Nat) (W : World) : Prop := Below w.heap.size w W ∧ ∃ tl : List Value, W.heap[w.heap.size]? = some (.cells (Value.pointer (some ⟨A, 0, none⟩) :: .int .i64 (f : Int) :: tl).toArray 52 (0, 0)) ∧ tl.length = 64 ∧ ∀ j, j < k → tl[j]? = some (.int .u32 4294967295)
theorem NW.set {w W : World} {A f k : Nat} (h : NW w A f k W) (hk : k < 64) : NW w A f (k + 1) (W.setCell ⟨w.heap.size, 2 + k, none⟩ (.int .u32 4294967295)) := by
  obtain ⟨hb, tl, hh, hl, ht⟩ := h
  refine ⟨hb.setCell (p := ⟨w.heap.size, 2 + k, none⟩) (Nat.le_refl _) _, tl.set k (.int .u32 4294967295), ?_, by simpa using hl, fun j hj => ?_⟩
  · simp only [World.setCell, Array.getElem?_modify, hh]
    simp only [if_true, Option.map_some]
    congr 2
    simp [List.setIfInBounds_toArray, show 2 + k = k + 1 + 1 by omega, List.set_cons_succ]
  · rw [List.getElem?_set]
    by_cases e : k = j
    · rw [if_pos e, if_pos (by omega)]
    · rw [if_neg e]; exact ht j (by omega)
theorem NW.at_ {w W : World} {A f k : Nat} (h : NW w A f k W) (hk : k < 64) : (∃ u, W.cell? ⟨w.heap.size, 2 + k, none⟩ = some u) ∧ W.frozen? ⟨w.heap.size, 2 + k, none⟩ = false := by
  obtain ⟨hb, tl, hh, hl, ht⟩ := h
  refine ⟨⟨tl[k]'(by omega), ?_⟩, by simp [World.frozen?, hh]⟩
  simp only [World.cell?, hh]
  rw [List.getElem?_toArray, show 2 + k = k + 1 + 1 by omega, List.getElem?_cons_succ, List.getElem?_cons_succ]
  exact List.getElem?_eq_getElem (by omega)
set_option maxHeartbeats 2000000 in
theorem wi_new_ok (f : Nat) (hf : f ≤ 64) (h : PA w A S FA) :
    Calls Try.prog 13 #[.pointer (some ⟨A, 0, none⟩), .int .i64 (f : Int)] w fun e w' => e = .returned (.tuple #[.pointer (some ⟨w.heap.size, 0, none⟩), .int .i64 0]) ∧ WG w' w.heap.size A (Wir.new S f) FA ∧ Below w.heap.size w w' := by
  have HG := Lib.hid h
  have hm : ((S.most : Int) == 0) = false := ok_ne h.ok
  have h1 : ¬ (f : Int) < 0 := by omega
  have h2 : ¬ (64 : Int) < (f : Int) := by omega
  go_enter Try.func13, Try.ntmps13
  go_upto_region 4 with (go_at_call 39; refine (ar_field A S FA _ HG.out).mono ?_; rintro e w' ⟨rfl, rfl⟩)
  refine absW (fun X => NW w A f 0 X) ⟨by (repeat (first | exact Below.refl _ _ | (with_reducible refine Below.drew ?_) | (with_reducible refine Below.alloc ?_ (by (try simp); (try omega)) _) | (with_reducible refine Below.setCell ?_ (by (try simp); (try omega)) _) | (with_reducible refine Below.trans ?_ (Below.mono (by assumption) (by (try simp); (try omega)))))), List.replicate 64 (.int .u32 0), heap_alloc_new _ _, rfl, fun j hj => absurd hj (by omega)⟩ ?_
  intro X hX
  have HN0 := Lib.hid hX
  clear hX
  go_wp2_with fail
  go_loopw [24] (fun i wr => ∃ k : Nat, i = .int .i64 k ∧ k ≤ 64 ∧ Hid (NW w A f k wr)) (fun i _ => 64 - (intOf i).toNat)
  case atStart => exact ⟨0, rfl, Nat.zero_le _, HN0⟩
  case round =>
    obtain ⟨k, rfl, hk, HR⟩ := hrel
    clear HN0
    by_cases hlt : k < 64
    · obtain ⟨⟨u, k0⟩, k1⟩ := HR.out.at_ hlt
      have h5 : (k : Int) < 64 := by omega
      have h7 : (0 : Int) ≤ (k : Int) := by omega
      go_wp2_with fail
      go_roundw
      case measure => simp [intOf]; omega
      case rel => exact ⟨k + 1, by go_num, by omega, HR.out.set hlt⟩
    · obtain rfl : k = 64 := by omega
      go_wp2_with fail
      go_ret2
      obtain ⟨hb, tl, hh, hl, ht⟩ := HR.out
      refine ⟨rfl, ⟨⟨tl, ?_, hl, fun i hi => ?_⟩, HG.out.below hb, Wir.Ok.new HG.out.ok hf⟩, hb⟩
      · rw [show (Wir.new S f).P.length = f by simp [Wir.new]]; exact hh
      · have hi' : i < f := by simpa [Wir.new] using hi
        rw [ht i (by omega)]
        simp [Wir.new, List.getD_eq_getElem?_getD, hi']
end
end Go.Proofs.Ythbobooiedcofaa
namespace Go.Proofs.Ythbobooiedcofaa
open Go.RowKit
attribute [local go_sem] cell_set
set_option maxRecDepth 100000
set_option linter.unusedVariables false

/-- Two boxes: a pointer to the wiring, a counter. -/
structure SeeB (w : World) (P N B : Nat) (n : Nat) : Prop where
  p : w.cell? ⟨P, 0, none⟩ = some (.pointer (some ⟨B, 0, none⟩))
  plt : P < w.heap.size
  pn : P ≠ N
  n : w.heap[N]? = some (.cells #[.int .i64 (n : Int)] 3 (0, 0))
theorem SeeB.below {w w' : World} {P N B n : Nat} (h : SeeB w P N B n) (hb : Below w.heap.size w w') : SeeB w' P N B n :=
  ⟨(hb.cell (p := ⟨P, 0, none⟩) h.plt).trans h.p, Nat.lt_of_lt_of_le h.plt hb.size, h.pn, (hb.block N (heap_lt h.n)).trans h.n⟩
theorem SeeB.kp {w w' : World} {P N B n m : Nat} (h : SeeB w P N B n) (hk : Kp [N] w w') (hn : w'.heap[N]? = some (.cells #[.int .i64 (m : Int)] 3 (0, 0))) : SeeB w' P N B m :=
  ⟨(hk.cell (p := ⟨P, 0, none⟩) h.plt (by simpa using h.pn)).trans h.p, Nat.lt_of_lt_of_le h.plt hk.size, h.pn, hn⟩
section
variable (B A : Nat) (S : Wir) (FA : List Nat) (P N n : Nat) (w : World)
set_option maxHeartbeats 1000000 in
theorem wi_see (c s : Int) (hn : n ≤ 1000000) (h : WG w B A S FA) (hb : SeeB w P N B n) :
    Calls Try.prog 73 #[.agg #[.int .i64 c, .int .i64 s], .pointer (some ⟨P, 0, none⟩), .pointer (some ⟨N, 0, none⟩)] w fun e w' => (∃ r, e = .returned r) ∧ w'.heap[N]? = some (.cells #[.int .i64 ((n + (if S.toE (c, s) = 0 then 0 else 1) : Nat) : Int)] 3 (0, 0)) ∧ Kp [N] w w' := by
  have HG := Lib.hid h
  have HB := Lib.hid hb
  have hp := hb.p
  have hpl := hb.plt
  have hnl := heap_lt hb.n
  obtain ⟨k, hk⟩ : ∃ k, S.toE (c, s) = k := ⟨_, rfl⟩
  have HK := Lib.hid hk
  rw [hk]
  by_cases h0 : k = 0
  · subst h0
    rw [if_pos rfl, Nat.add_zero]
    clear hk
    go_enter Try.func73, Try.ntmps73
    go_wp2_with (go_at_call 17; refine (wi_to B A S FA _ c s (HG.out.below (by (repeat (first | exact Below.refl _ _ | (with_reducible refine Below.drew ?_) | (with_reducible refine Below.alloc ?_ (by (try simp); (try omega)) _) | (with_reducible refine Below.setCell ?_ (by (try simp); (try omega)) _) | (with_reducible refine Below.trans ?_ (Below.mono (by assumption) (by (try simp); (try omega))))))))).mono ?_; rintro e w1 ⟨rfl, hb1⟩; rw [HK.out])
    have hz1 := hb1.size
    simp at hz1
    have hbb : Below w.heap.size w (w1.alloc (.cells #[.int .i64 (S.toP (c, s)).1, .int .i64 (S.toP (c, s)).2] 39)) := by (repeat (first | exact Below.refl _ _ | (with_reducible refine Below.drew ?_) | (with_reducible refine Below.alloc ?_ (by (try simp); (try omega)) _) | (with_reducible refine Below.setCell ?_ (by (try simp); (try omega)) _) | (with_reducible refine Below.trans ?_ (Below.mono (by assumption) (by (try simp); (try omega))))))
    refine bodyPost_end (results_none rfl _ _ _) rfl ⟨⟨_, rfl⟩, (hbb.block N hnl).trans HB.out.n, Kp.of_below hbb⟩
  · rw [if_neg h0]
    have k1 : (k != 0) = true := bne_iff_ne.2 h0
    have ew : IntKind.i64.wrap ((n : Int) + 1) = ((n + 1 : Nat) : Int) := by rw [IntWalk.i64_in _ (by omega)]; omega
    clear hk h0
    go_enter Try.func73, Try.ntmps73
    go_wp2_with (go_at_call 17; refine (wi_to B A S FA _ c s (HG.out.below (by (repeat (first | exact Below.refl _ _ | (with_reducible refine Below.drew ?_) | (with_reducible refine Below.alloc ?_ (by (try simp); (try omega)) _) | (with_reducible refine Below.setCell ?_ (by (try simp); (try omega)) _) | (with_reducible refine Below.trans ?_ (Below.mono (by assumption) (by (try simp); (try omega))))))))).mono ?_; rintro e w1 ⟨rfl, hb1⟩; rw [HK.out]
                 have hz1 := hb1.size
                 simp at hz1
                 have hbb : Below w.heap.size w w1 := by (repeat (first | exact Below.refl _ _ | (with_reducible refine Below.drew ?_) | (with_reducible refine Below.alloc ?_ (by (try simp); (try omega)) _) | (with_reducible refine Below.setCell ?_ (by (try simp); (try omega)) _) | (with_reducible refine Below.trans ?_ (Below.mono (by assumption) (by (try simp); (try omega))))))
                 have HBB := Lib.hid hbb
                 have hn1 : w1.heap[N]? = some (.cells #[.int .i64 (n : Int)] 3 (0, 0)) := (hbb.block N hnl).trans HB.out.n
                 have HN1 := Lib.hid hn1
                 have n0 : w1.cell? ⟨N, 0, none⟩ = some (.int .i64 (n : Int)) := by simp [World.cell?, hn1]
                 have n1 : w1.frozen? ⟨N, 0, none⟩ = false := by simp [World.frozen?, hn1]
                 have n2 : N < w1.heap.size := heap_lt hn1
                 clear hbb hn1)
    refine bodyPost_end (results_none rfl _ _ _) rfl ⟨⟨_, rfl⟩, ?_, ?_⟩
    · refine (Below.heap_alloc _ _ _ (by simpa using n2)).trans ?_
      simp [World.setCell, Array.getElem?_modify, HN1.out]
    · exact ((Kp.of_below HBB.out).setCell (p := ⟨N, 0, none⟩) (.inl (by simp)) _).alloc _
end
end Go.Proofs.Ythbobooiedcofaa
