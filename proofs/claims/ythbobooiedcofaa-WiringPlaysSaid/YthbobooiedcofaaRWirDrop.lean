/-
  The document's wiring: Drop.
-/
import Derived.Test.YthbobooiedcofaaRWirPass2
import Derived.Test.YthbobooiedcofaaWirDrop
namespace Go.Proofs.Ythbobooiedcofaa
open Go.RowKit
attribute [local go_sem] cell_set
set_option maxRecDepth 100000
set_option linter.unusedVariables false

section
variable (B A : Nat) (S : Wir) (FA : List Nat) (w : World)
set_option maxHeartbeats 2000000 in
theorem rw_drop (c : Int) (h : RG w B A S FA) :
    Calls Try.prog 65 #[.pointer (some ⟨B, 0, none⟩), .int .i64 c] w fun e w' => e = .returned (.int .i64 (S.dropE c)) ∧ (∃ FA', RG w' B A (S.drop c) FA' ∧ ∀ b ∈ FA', b ∈ FA ∨ w.heap.size ≤ b) ∧ Kp (B :: FA) w w' := by
  have HG := Lib.hid h
  have hlt := h.lt
  have HF := Lib.hid h.blt
  obtain ⟨c0, V, cV, c1⟩ := h.cells
  obtain ⟨P0, FR0, _, hra0, _⟩ := h.split
  have HRA := Lib.hid hra0
  clear hra0 c1
  cases hc : S.A.cell c with
  | none =>
    have hE : S.dropE c = 41 := by unfold Wir.dropE; rw [hc]; rfl
    have hD : S.drop c = S := by unfold Wir.drop; rw [hE]; rfl
    rw [hE, hD]
    have HC := Lib.hid hc
    clear hc hE hD
    go_enter Try.func65, Try.ntmps65
    go_wp2_with (go_at_call 115; refine (rr_agent A S.A FR0 c _ HRA.out).mono ?_; rintro e w1 ⟨rfl, hb1⟩; rw [HC.out])
    go_ret
    exact ⟨rfl, ⟨FA, HG.out.below hb1, fun b hb => .inl hb⟩, Kp.of_below hb1⟩
  | some x =>
    obtain ⟨ag, ws⟩ := x
    obtain ⟨hc0, hx⟩ := Ars.cell_some hc
    have hk := h.ok.a.cell _ _ _ hx
    obtain ⟨ar, hn⟩ : ∃ ar, ws.length = ar + 1 := ⟨ws.length - 1, by omega⟩
    have hn7 : ar ≤ 6 := by omega
    have hA : S.A.agA c = (ar : Int) := by unfold Ars.agA; rw [hc]; simp only; rw [hn]; omega
    have hE : S.dropE c = if S.linkedN c (ar + 1) = true then 31 else 0 := by
      unfold Wir.dropE; rw [hc, hA]; rfl
    have HE := Lib.hid hE
    have HC := Lib.hid hc
    have HA := Lib.hid hA
    clear hE hc hA hk hx hn
    go_enter Try.func65, Try.ntmps65
    go_wp2_with fail
    refine (rr_agent A S.A FR0 c _ HRA.out).mono ?_
    rintro e w1 ⟨rfl, hb1⟩
    rw [HC.out, HA.out]
    have HL1 : Hid (S.linkedN c 0 = false ∧ Below w.heap.size w w1) := ⟨rfl, hb1⟩
    clear c0 hb1
    simp only []
    go_wp2_with fail
    go_loopw [8] (fun i wr => ∃ k : Nat, i = .int .i64 k ∧ k ≤ ar + 1 ∧ Hid (S.linkedN c k = false ∧ Below w.heap.size w wr)) (fun i _ => ar + 1 - (intOf i).toNat)
    case atStart => exact ⟨0, rfl, Nat.zero_le _, HL1⟩
    case round =>
      obtain ⟨k, rfl, hk, HR⟩ := hrel
      clear HL1
      by_cases hlt2 : k ≤ ar
      · have hsucc := Wir.linkedN_succ S c k
        rw [HR.out.1, Bool.false_or] at hsucc
        by_cases he : S.toE (c, (k : Int)) = 0
        · have hl : S.linkedN c (ar + 1) = true := Wir.linkedN_mono (by rw [hsucc, decide_eq_true he]) (by omega)
          have hE2 : S.dropE c = 31 := by rw [HE.out, if_pos hl]
          have hD : S.drop c = S := by unfold Wir.drop; rw [hE2]; rfl
          have HD := Lib.hid (And.intro hE2 hD)
          have HTE := Lib.hid he
          clear hsucc he hl hE2 hD
          go_wp2_with (go_at_call 18; refine (rw_to B A S FA _ c (k : Int) (HG.out.below HR.out.2)).mono ?_; rintro e w2 ⟨rfl, hb2⟩; rw [HTE.out])
          go_ret
          exact ⟨by rw [HD.out.1]; rfl, ⟨FA, by rw [HD.out.2]; exact HG.out.below (HR.out.2.trans ((hb2.alloc hb2.size _).mono HR.out.2.size)), fun b hb => .inl hb⟩, Kp.of_below (HR.out.2.trans ((hb2.alloc hb2.size _).mono HR.out.2.size))⟩
        · have hk0 : (S.toE (c, (k : Int)) == 0) = false := by rw [beq_eq_false_iff_ne]; exact he
          rw [decide_eq_false he] at hsucc
          have HS := Lib.hid hsucc
          clear hsucc he
          go_wp2_with (go_at_call 18; refine (rw_to B A S FA _ c (k : Int) (HG.out.below HR.out.2)).mono ?_; rintro e w2 ⟨rfl, hb2⟩
                       have HB2 := Lib.hid (HR.out.2.trans ((hb2.alloc hb2.size (.cells #[.int .i64 (S.toP (c, (k : Int))).1, .int .i64 (S.toP (c, (k : Int))).2] 39)).mono HR.out.2.size))
                       clear hb2)
          go_roundw
          case measure => simp [intOf]; omega
          case rel => exact ⟨k + 1, by go_num, by omega, HS.out, HB2.out⟩
      · obtain rfl : k = ar + 1 := by omega
        have hE2 : S.dropE c = 0 := by rw [HE.out, if_neg (by rw [HR.out.1]; simp)]
        have hD : S.drop c = { S with A := S.A.give c } := by unfold Wir.drop; rw [if_pos hE2]
        have hgE : S.A.giveE c = 0 := by unfold Ars.giveE; rw [HC.out]; rfl
        have HD := Lib.hid (And.intro hE2 (And.intro hD hgE))
        have hGr := HG.out.below HR.out.2
        obtain ⟨c0, V', cV', c1⟩ := hGr.cells
        obtain ⟨P1, FR1, hFA, hra1, hput⟩ := hGr.split
        have HRA1 := Lib.hid (And.intro hFA (And.intro hra1 hput))
        clear hE2 hD hgE hFA hra1 hput hGr c1
        go_wp2_with (go_at_call 50; refine (rr_give A S.A FR1 c _ HRA1.out.2.1).mono ?_; rintro e w2 ⟨rfl, hp2, hk2⟩
                     rw [HD.out.2.2]
                     have HP := Lib.hid (And.intro hp2 hk2)
                     clear hp2 hk2)
        go_ret
        obtain ⟨FA', hp, hF'⟩ := HP.out.1
        have hsub : ∀ b ∈ FR1, b ∈ FA := fun b hb => by rw [HRA1.out.1]; exact List.mem_append_right _ hb
        refine ⟨by rw [HD.out.1]; rfl, ⟨P1 ++ FA', by rw [HD.out.2.1]; exact HRA1.out.2.2 _ _ _ hp HP.out.2 hF', fun b hb => ?_⟩, (Kp.of_below HR.out.2).tr (HP.out.2.mono fun b hb => List.mem_cons_of_mem _ (hsub b hb))⟩
        rcases List.mem_append.1 hb with hb | hb
        · exact .inl (by rw [HRA1.out.1]; exact List.mem_append_left _ hb)
        · rcases hF' b hb with hb | hb
          · exact .inl (hsub b hb)
          · exact .inr (Nat.le_trans HR.out.2.size hb)
end
end Go.Proofs.Ythbobooiedcofaa
