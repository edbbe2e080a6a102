/-
  A wiring: Drop.
-/
import Derived.Test.YthbobooiedcofaaWirPass2
namespace Go.Proofs.Ythbobooiedcofaa
open Go.RowKit
attribute [local go_sem] cell_set
set_option maxRecDepth 100000
set_option linter.unusedVariables false

section
variable (B A : Nat) (S : Wir) (FA : List Nat) (w : World)
set_option maxHeartbeats 2000000 in
theorem wi_drop (c : Int) (h : WG w B A S FA) :
    Calls Try.prog 23 #[.pointer (some ⟨B, 0, none⟩), .int .i64 c] w fun e w' => e = .returned (.int .i64 (S.dropE c)) ∧ (∃ FA', WG w' B A (S.drop c) FA' ∧ ∀ b ∈ FA', b ∈ FA ∨ w.heap.size ≤ b) ∧ Kp (B :: FA) w w' := by
  have HG := Lib.hid h
  have hlt := h.lt
  have HF := Lib.hid h.blt
  obtain ⟨c0, c1⟩ := h.cells
  cases hc : S.A.cell c with
  | none =>
    have hE : S.dropE c = 41 := by unfold Wir.dropE; rw [hc]; rfl
    have hD : S.drop c = S := by unfold Wir.drop; rw [hE]; rfl
    rw [hE, hD]
    have HC := Lib.hid hc
    clear hc hE hD
    go_enter Try.func23, Try.ntmps23
    go_wp2_with (first
      | (go_at_call 62; refine (wi_is B A _ c0).mono ?_; rintro e w' ⟨rfl, rfl⟩)
      | (go_at_call 43; refine (ar_agent A S.A FA c _ HG.out.pa).mono ?_; rintro e w1 ⟨rfl, hb1⟩; rw [HC.out]))
    go_ret
    exact ⟨rfl, ⟨FA, HG.out.below hb1, fun b hb => .inl hb⟩, Kp.of_below hb1⟩
  | some x =>
    obtain ⟨ag, ws⟩ := x
    obtain ⟨hc0, hx⟩ := Ars.cell_some hc
    have hk := h.ok.a.cell _ _ _ hx
    obtain ⟨n, hn⟩ : ∃ n, ws.length = n := ⟨_, rfl⟩
    have hn7 : n ≤ 7 := by omega
    have hn1 : 1 ≤ n := by omega
    have hA : S.A.agA c = (n : Int) - 1 := by unfold Ars.agA; rw [hc]; simp only; rw [hn]
    have hE : S.dropE c = if S.linkedN c n = true then 31 else 0 := by
      unfold Wir.dropE; rw [hc, hA]
      rw [show ((n : Int) - 1 + 1).toNat = n by omega]; rfl
    have HE := Lib.hid hE
    have HC := Lib.hid hc
    have HA := Lib.hid hA
    have ea : IntKind.i64.wrap ((n : Int) - 1 + 1) = (n : Int) := by rw [IntWalk.i64_in _ (by omega)]; omega
    clear hE hc hA hk hx hn
    have hL0 : S.linkedN c 0 = false := rfl
    have HL0 := Lib.hid (And.intro hL0 (Below.refl w.heap.size w))
    clear hL0
    go_enter Try.func23, Try.ntmps23
    go_wp2_with (go_at_call 62; refine (wi_is B A _ c0).mono ?_; rintro e w' ⟨rfl, rfl⟩)
    refine (ar_agent A S.A FA c _ HG.out.pa).mono ?_
    rintro e w1 ⟨rfl, hb1⟩
    rw [HC.out, HA.out]
    have HB1 := Lib.hid hb1
    clear hb1
    have HL1 : Hid (S.linkedN c 0 = false ∧ Below w.heap.size w w1) := ⟨HL0.out.1, HB1.out⟩
    clear c0 c1
    simp only []
    go_wp2_with fail
    go_loopw [29] (fun i wr => ∃ k : Nat, i = .int .i64 k ∧ k ≤ n ∧ Hid (S.linkedN c k = false ∧ Below w.heap.size w wr)) (fun i _ => n - (intOf i).toNat)
    case atStart => exact ⟨0, rfl, Nat.zero_le _, HL1⟩
    case round =>
      obtain ⟨k, rfl, hk, HR⟩ := hrel
      clear HL1 HL0
      by_cases hlt2 : k < n
      · have hsucc := Wir.linkedN_succ S c k
        rw [HR.out.1, Bool.false_or] at hsucc
        by_cases he : S.toE (c, (k : Int)) = 0
        · have hl : S.linkedN c n = true := Wir.linkedN_mono (by rw [hsucc, decide_eq_true he]) hlt2
          have hE2 : S.dropE c = 31 := by rw [HE.out, if_pos hl]
          have hD : S.drop c = S := by unfold Wir.drop; rw [hE2]; rfl
          have HD := Lib.hid (And.intro hE2 hD)
          have HTE := Lib.hid he
          clear hsucc he hl hE2 hD
          go_wp2_with (go_at_call 17; refine (wi_to B A S FA _ c (k : Int) (HG.out.below HR.out.2)).mono ?_; rintro e w2 ⟨rfl, hb2⟩; rw [HTE.out])
          go_ret
          exact ⟨by rw [HD.out.1]; rfl, ⟨FA, by rw [HD.out.2]; exact HG.out.below (HR.out.2.trans ((hb2.alloc hb2.size _).mono HR.out.2.size)), fun b hb => .inl hb⟩, Kp.of_below (HR.out.2.trans ((hb2.alloc hb2.size _).mono HR.out.2.size))⟩
        · have hk0 : (S.toE (c, (k : Int)) == 0) = false := by rw [beq_eq_false_iff_ne]; exact he
          rw [decide_eq_false he] at hsucc
          have HS := Lib.hid hsucc
          clear hsucc he
          go_wp2_with (go_at_call 17; refine (wi_to B A S FA _ c (k : Int) (HG.out.below HR.out.2)).mono ?_; rintro e w2 ⟨rfl, hb2⟩
                       have HB2 := Lib.hid (HR.out.2.trans ((hb2.alloc hb2.size (.cells #[.int .i64 (S.toP (c, (k : Int))).1, .int .i64 (S.toP (c, (k : Int))).2] 39)).mono HR.out.2.size))
                       clear hb2)
          go_roundw
          case measure => simp [intOf]; omega
          case rel => exact ⟨k + 1, by go_num, by omega, HS.out, HB2.out⟩
      · obtain rfl : k = n := by omega
        have hE2 : S.dropE c = 0 := by rw [HE.out, if_neg (by rw [HR.out.1]; simp)]
        have hD : S.drop c = { S with A := S.A.give c } := by unfold Wir.drop; rw [if_pos hE2]
        have hgE : S.A.giveE c = 0 := by unfold Ars.giveE; rw [HC.out]; rfl
        have HD := Lib.hid (And.intro hE2 (And.intro hD hgE))
        have HGr := Lib.hid (HG.out.below HR.out.2)
        obtain ⟨c0, c1⟩ := (HG.out.below HR.out.2).cells
        clear hE2 hD hgE
        go_wp2_with (go_at_call 49; refine (ar_give A S.A FA c _ HGr.out.pa).mono ?_; rintro e w2 ⟨rfl, hp2, hk2⟩
                     rw [HD.out.2.2]
                     have HP := Lib.hid (And.intro hp2 hk2)
                     clear hp2 hk2)
        go_ret
        obtain ⟨FA', hp, hF'⟩ := HP.out.1
        refine ⟨by rw [HD.out.1]; rfl, ⟨FA', by rw [HD.out.2.1]; exact HGr.out.ofA hp HP.out.2, fun b hb => ?_⟩, (Kp.of_below HR.out.2).tr (HP.out.2.mono fun b hb => List.mem_cons_of_mem _ hb)⟩
        rcases hF' b hb with hb | hb
        · exact .inl hb
        · exact .inr (Nat.le_trans HR.out.2.size hb)
end
end Go.Proofs.Ythbobooiedcofaa
