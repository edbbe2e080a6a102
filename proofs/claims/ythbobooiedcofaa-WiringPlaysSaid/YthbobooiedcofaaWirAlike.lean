/-
  The statement WiringPlays: both tell the same.
-/
import Derived.Test.YthbobooiedcofaaWirDo
namespace Go.Proofs.Ythbobooiedcofaa
open Go.RowKit
attribute [local go_sem] cell_set
set_option maxRecDepth 100000
set_option linter.unusedVariables false

section
variable (w0 : World) (B A R Q : Nat) (S : Wir) (w : World)
set_option maxHeartbeats 4000000 in
theorem alike08 (h : TW w0 [] B A R Q S S w) :
    Calls Try.prog 19 #[.pointer (some ⟨B, 0, none⟩), .pointer (some ⟨R, 0, none⟩)] w fun e w' => e = .returned (.bool true) ∧ TW w0 [] B A R Q S S w' := by
  have hle := opens_le h.okl
  obtain ⟨l, hl⟩ : ∃ l, S.pts = l := ⟨_, rfl⟩
  rw [hl] at hle
  have HT := Lib.hid h
  go_enter Try.func19, Try.ntmps19
  go_wp2_with fail
  refine h.allr.mono ?_
  rintro e w1 ⟨V, c, rfl, hal⟩
  rw [hl] at hal ⊢
  have HP := Lib.hid hal.rd
  have H0 : Hid (TW w0 [] B A R Q S S w1 ∧ Below w1.heap.size w1 w1) := ⟨h.kept hal.below, Below.refl _ _⟩
  clear hal hl
  simp only []
  go_wp2_with fail
  go_loopw [6] (fun i wr => ∃ k : Nat, i = .int .i64 k ∧ k ≤ l.length ∧ Hid (TW w0 [] B A R Q S S wr ∧ Below w1.heap.size w1 wr)) (fun i _ => l.length - (intOf i).toNat)
  case atStart => exact ⟨0, rfl, Nat.zero_le _, H0⟩
  case round =>
    obtain ⟨k, rfl, hk, HR⟩ := hrel
    clear H0
    by_cases hlt : k < l.length
    · obtain ⟨b, rfl, hb, p0, p1⟩ := (HP.out.below HR.out.2) k hlt
      generalize l.getD k default = p at p0 p1
      obtain ⟨x, y⟩ := p
      dsimp only at p0 p1
      obtain ⟨⟨q1, q2⟩, hq⟩ : ∃ q, S.toP (x, y) = q := ⟨_, rfl⟩
      obtain ⟨ee, he⟩ : ∃ e, S.toE (x, y) = e := ⟨_, rfl⟩
      have HQ := Lib.hid hq
      have HE := Lib.hid he
      clear hq he
      go_wp2_with fail
      refine (tw_to_l HR.out.1 x y).mono ?_
      rintro e w2 ⟨rfl, h2, hb2⟩
      rw [HQ.out, HE.out]
      obtain ⟨hc2, hf2⟩ := bcell hb2; have hz2 := hb2.size; (try simp at hz2); have hz2a : b < w2.heap.size := (by omega)
      have H2 := Lib.hid ((h2.alloc (.cells #[.int .i64 q1, .int .i64 q2] 39)).sub (Y := []) (by simp))
      clear h2
      simp only []
      go_wp2_with fail
      refine (tw_to_r H2.out x y).mono ?_
      rintro e w3 ⟨rfl, h3, hb3⟩
      rw [HQ.out, HE.out]
      obtain ⟨hc3, hf3⟩ := bcell hb3; have hz3 := hb3.size; (try simp at hz3); have hz3a : b < w3.heap.size := (by omega); have hz3b : w2.heap.size < w3.heap.size := (by omega)
      have H3 := Lib.hid ((h3.alloc (.cells #[.int .i64 q1, .int .i64 q2] 39)).sub (Y := []) (by simp))
      clear h3
      simp only []
      go_wp2_with fail
      refine (tw_word_l H3.out x y).mono ?_
      rintro e w4 ⟨rfl, h4, hb4⟩
      obtain ⟨hc4, hf4⟩ := bcell hb4; have hz4 := hb4.size; (try simp at hz4); have hz4a : b < w4.heap.size := (by omega); have hz4b : w2.heap.size < w4.heap.size := (by omega); have hz4c : w3.heap.size < w4.heap.size := (by omega)
      have H4 := Lib.hid h4
      clear h4
      simp only []
      go_wp2_with fail
      refine (tw_word_r H4.out x y).mono ?_
      rintro e w5 ⟨rfl, h5, hb5⟩
      obtain ⟨hc5, hf5⟩ := bcell hb5; have hz5 := hb5.size; (try simp at hz5); have hz5a : b < w5.heap.size := (by omega); have hz5b : w2.heap.size < w5.heap.size := (by omega); have hz5c : w3.heap.size < w5.heap.size := (by omega)
      have H5 := Lib.hid h5
      clear h5
      have hX : Below wr.heap.size wr w5 := by (repeat (first | exact Below.refl _ _ | (with_reducible refine Below.drew ?_) | (with_reducible refine Below.alloc ?_ (by (try simp); (try omega)) _) | (with_reducible refine Below.setCell ?_ (by (try simp); (try omega)) _) | (with_reducible refine Below.trans ?_ (Below.mono (by assumption) (by (try simp); (try omega))))))
      have HX := Lib.hid hX
      clear hX
      simp only []
      go_wp2_with fail
      go_roundw
      case measure => simp [intOf]; omega
      case rel => exact ⟨k + 1, by go_num, by omega, H5.out, HR.out.2.trans (HX.out.mono HR.out.2.size)⟩
    · obtain rfl : k = l.length := by omega
      go_upto_region 11 with fail
      obtain ⟨r0, ⟨VP, cP, r1⟩, hRl⟩ := HR.out.1.rcell
      have HKP : Hid (∀ W, Below wr.heap.size wr W → W.cell? ⟨R, 1, none⟩ = some (.slice VP S.P.length cP)) := fun W hb => (hb.cell (p := ⟨R, 1, none⟩) hRl).trans r1
      have H0 := Lib.hid (HR.out.1.kept (Below.refl wr.heap.size wr).drew)
      have HB := Lib.hid ((Below.refl wr.heap.size wr).drew)
      go_region_held3 (fun W => W.cell? ⟨R, 1, none⟩ = some (.slice VP S.P.length cP))
        (exact HKP.out _ HB.out)
        (first
          | ((with_reducible refine (tw_open_l H0.out).mono ?_); rintro e w6 ⟨rfl, h6, hb6⟩; dsimp only
             have H6 := Lib.hid h6
             have HB := Lib.hid (HB.out.trans (hb6.mono HB.out.size))
             clear h6)
          | ((with_reducible refine (tw_open_r H6.out).mono ?_); rintro e w7 ⟨rfl, h7, hb7⟩; dsimp only
             have H7 := Lib.hid h7
             have HB := Lib.hid (HB.out.trans (hb7.mono HB.out.size))
             clear h7)
          | ((with_reducible refine (tw_free H7.out).mono ?_); rintro e w8 ⟨rfl, rfl⟩; dsimp only))
      all_goals
        go_wp2_with fail
        go_ret
        exact ⟨by simp, H7.out⟩
end
end Go.Proofs.Ythbobooiedcofaa
