/-
  The walk of WiringPlays.
-/
import Derived.Test.YthbobooiedcofaaWirAlike
import Derived.Test.YthbobooiedcofaaWirWorks
import Derived.Lib.Builder
namespace Go.Proofs.Ythbobooiedcofaa
open Go.RowKit
attribute [local go_sem] cell_set
set_option maxRecDepth 100000
set_option linter.unusedVariables false

theorem arena_info : (Try.prog.info? 118).isSome = true := by kernel_rfl
theorem neq_arena (w : World) (a : Addr) : (binOp .neq 23 (.pointer (some a)) (.pointer (some a))).run Try.prog w = .ok (.bool false) w := by
  obtain ⟨j, hj⟩ := Option.isSome_iff_exists.1 arena_info
  exact Go.Lib.run_neq_ptr_same w a Try.underlying23 hj
attribute [local go_sem high] neq_arena
/-- The script in memory. -/
def ScR (w : World) (V : Option Addr) (L : List (Int × Pt × Pt)) : Prop := ∀ i, i < L.length → ∃ b off, V = some ⟨b, off, none⟩ ∧ b < w.heap.size ∧ w.cell? ⟨b, off + i * 5, none⟩ = some (.int .i64 (L.getD i default).1) ∧ w.cell? ⟨b, off + i * 5 + 1, none⟩ = some (.int .i64 (L.getD i default).2.1.1) ∧
  w.cell? ⟨b, off + i * 5 + 2, none⟩ = some (.int .i64 (L.getD i default).2.1.2) ∧ w.cell? ⟨b, off + i * 5 + 3, none⟩ = some (.int .i64 (L.getD i default).2.2.1) ∧ w.cell? ⟨b, off + i * 5 + 4, none⟩ = some (.int .i64 (L.getD i default).2.2.2)
theorem ScR.below {w w' : World} {A : Option Addr} {L : List (Int × Pt × Pt)} (h : ScR w A L) (hb : Below w.heap.size w w') : ScR w' A L := fun i hi => by
  obtain ⟨b, off, e, hl, h0, h1, h2, h3, h4⟩ := h i hi
  exact ⟨b, off, e, Nat.lt_of_lt_of_le hl hb.size, (hb.cell (p := ⟨b, _, none⟩) hl).trans h0, (hb.cell (p := ⟨b, _, none⟩) hl).trans h1, (hb.cell (p := ⟨b, _, none⟩) hl).trans h2, (hb.cell (p := ⟨b, _, none⟩) hl).trans h3, (hb.cell (p := ⟨b, _, none⟩) hl).trans h4⟩
section
variable (most free : Int) (V : Option Addr) (n cap : Nat) (L : List (Int × Pt × Pt)) (w : World)
/-- Between two rounds: some wiring, in both. -/
def PL (w : World) (B A R Q : Nat) (W : World) : Prop := ∃ S : Wir, S.Both ∧ TW w [] B A R Q S S W
set_option maxHeartbeats 8000000 in
theorem plays08 (hn : n = L.length) (HL : Hid (ScR w V L)) (hl : L.length ≤ maxLen) :
    Calls Try.prog 3 #[.int .i64 most, .int .i64 free, .slice V n cap] w fun e w' => e = .returned (.bool true) ∧ Below w.heap.size w w' := by
  subst hn
  by_cases hm : most < 1 ∨ 4096 < most
  · have HM := Lib.hid hm
    clear hm
    go_enter Try.func3, Try.ntmps3
    go_wp2_with (first
      | (go_at_call 10; refine (ar_new_bad most HM.out _).mono ?_; rintro e w1 ⟨rfl, rfl⟩)
      | (go_at_call 11; refine (rr_new_bad most HM.out _).mono ?_; rintro e w2 ⟨rfl, rfl⟩)
      | (go_at_call 12; refine (works08 _).mono ?_; rintro e w3 ⟨rfl, hb3⟩))
    go_ret
    exact ⟨rfl, hb3⟩
  obtain ⟨m, rfl⟩ := Int.eq_ofNat_of_zero_le (by omega : 0 ≤ most)
  have h1 : 1 ≤ m := by omega
  have h2 : m ≤ 4096 := by omega
  have hmm := Lib.hid (And.intro h1 h2)
  clear hm
  by_cases hbig : (200 : Int) < (m : Int) ∨ (300 : Int) < (L.length : Int)
  · rcases (by omega : (200 : Int) < (m : Int) ∨ (¬ (200 : Int) < (m : Int) ∧ (300 : Int) < (L.length : Int))) with g1 | ⟨g1, g2⟩
    all_goals
      clear h1 h2 hbig
      go_enter Try.func3, Try.ntmps3
      go_wp2_with (first
        | (go_at_call 10; refine (ar_new_ok m hmm.out.1 hmm.out.2 _).mono ?_; rintro e w1 ⟨rfl, hb1, hp1⟩
           have HB1 := Lib.hid hb1
           clear hb1 hp1)
        | (go_at_call 11; refine (rr_new_ok m hmm.out.1 hmm.out.2 _).mono ?_; rintro e w2 ⟨rfl, hb2, hp2⟩
           have HB2 := Lib.hid (HB1.out.trans (hb2.mono HB1.out.size))
           clear hb2 hp2)
        | (go_at_call 12; refine (works08 _).mono ?_; rintro e w3 ⟨rfl, hb3⟩
           have HB3 := Lib.hid (HB2.out.trans (hb3.mono HB2.out.size))
           clear hb3))
      go_ret
      exact ⟨rfl, HB3.out⟩
  have g1 : ¬ (200 : Int) < (m : Int) := by omega
  have g2 : ¬ (300 : Int) < (L.length : Int) := by omega
  clear hbig h1 h2
  by_cases hf : free < 0 ∨ 64 < free
  · have HFr := Lib.hid hf
    clear hf
    go_enter Try.func3, Try.ntmps3
    go_wp2_with (first
      | (go_at_call 10; refine (ar_new_ok m hmm.out.1 hmm.out.2 _).mono ?_; rintro e w1 ⟨rfl, hb1, hp1⟩
         have HB1 := Lib.hid hb1
         have HP1 := Lib.hid hp1
         clear hb1 hp1)
      | (go_at_call 11; refine (rr_new_ok m hmm.out.1 hmm.out.2 _).mono ?_; rintro e w2 ⟨rfl, hb2, hp2⟩
         have HB2 := Lib.hid (HB1.out.trans (hb2.mono HB1.out.size))
         have HP2 := Lib.hid (HP1.out.below hb2)
         clear hb2 hp2)
      | (go_at_call 13; refine (wi_new_bad w.heap.size (Ars.empty m) _ w2 free HFr.out HP2.out).mono ?_; rintro e w3 ⟨rfl, hb3⟩
         have HB3 := Lib.hid (HB2.out.trans (hb3.mono HB2.out.size))
         clear hb3)
      | (go_at_call 14; refine (rw_new_bad w3 free HFr.out _).mono ?_; rintro e w4 ⟨rfl, hb4⟩
         have HB4 := Lib.hid (HB3.out.trans (hb4.mono HB3.out.size))
         clear hb4)
      | (go_at_call 12; refine (works08 _).mono ?_; rintro e w5 ⟨rfl, hb5⟩
         have HB5 := Lib.hid (HB4.out.trans (hb5.mono HB4.out.size))
         clear hb5))
    go_ret
    exact ⟨rfl, HB5.out⟩
  obtain ⟨f, rfl⟩ := Int.eq_ofNat_of_zero_le (by omega : 0 ≤ free)
  have hf64 : f ≤ 64 := by omega
  clear hf
  go_enter Try.func3, Try.ntmps3
  go_wp2_with fail
  refine (ar_new_ok m hmm.out.1 hmm.out.2 _).mono ?_
  rintro e w1 ⟨rfl, hb1, hp1⟩
  have H1 := Lib.hid (And.intro hb1 hp1)
  clear hb1 hp1
  simp only []
  go_wp2_with fail
  refine (rr_new_ok m hmm.out.1 hmm.out.2 _).mono ?_
  rintro e w2 ⟨rfl, hb2, hp2⟩
  have H2 := Lib.hid (And.intro hb2 (And.intro hp2 (H1.out.2.below hb2)))
  clear hb2 hp2
  simp only []
  go_wp2_with fail
  refine (wi_new_ok w.heap.size (Ars.empty m) _ w2 f hf64 H2.out.2.2).mono ?_
  rintro e w3 ⟨rfl, hg3, hb3⟩
  have H3 := Lib.hid (And.intro hb3 (And.intro hg3 (H2.out.2.1.below hb3)))
  clear hg3 hb3
  simp only []
  go_wp2_with fail
  refine (rw_new_ok w1.heap.size (Ars.empty m) _ w3 f hf64 H3.out.2.2).mono ?_
  rintro e w4 ⟨rfl, ⟨F4, hg4, hn4⟩, hb4⟩
  have hs1 := H1.out.1.size
  have hs2 := H2.out.1.size
  have hs3 := H3.out.1.size
  have hlt1 : w.heap.size < w1.heap.size := H1.out.2.lt w.heap.size (by simp)
  have hlt2 : w1.heap.size < w2.heap.size := H2.out.2.1.lt w1.heap.size (by simp)
  have hlt3 : w2.heap.size < w3.heap.size := H3.out.2.1.lt
  have hTW : PL w w2.heap.size w.heap.size w3.heap.size w1.heap.size w4 := by
    refine ⟨Wir.new (Ars.empty m) f, Wir.Both.new hmm.out.1, w2.heap.size :: [w.heap.size], w3.heap.size :: F4, ⟨⟨_, rfl, H3.out.2.1.below hb4⟩, ⟨_, rfl, hg4⟩, fun b hb => ?_, fun b hb => ?_, fun b hb => by simp at hb, ?_⟩⟩
    · simp only [List.mem_cons, List.not_mem_nil, or_false] at hb
      have hnn : ∀ b, b < w3.heap.size → b ≠ w1.heap.size → b ∉ w3.heap.size :: F4 := fun b h3 h1 hm => by
        rcases List.mem_cons.1 hm with rfl | hm
        · omega
        · rcases hn4 b hm with hm | hm
          · simp at hm; exact h1 hm
          · omega
      rcases hb with rfl | rfl
      · exact ⟨by omega, by simp, hnn _ (by omega) (by omega)⟩
      · exact ⟨by omega, by simp, hnn _ (by omega) (by omega)⟩
    · refine ⟨?_, by simp⟩
      rcases List.mem_cons.1 hb with rfl | hb
      · omega
      · rcases hn4 b hb with hb | hb
        · simp at hb; omega
        · omega
    · exact H1.out.1.trans ((H2.out.1.trans ((H3.out.1.trans (hb4.mono hs3)).mono hs2)).mono hs1)
  have H4 := Lib.hid hTW
  obtain ⟨S0, hS0, ht0⟩ := hTW
  have HT0 := Lib.hid ht0
  clear hg4 hn4 hb4 hS0 ht0
  simp only []
  go_wp2_with fail
  refine (tw_arena HT0.out).mono ?_
  rintro e w5 ⟨rfl, rfl⟩
  simp only []
  go_wp2_with fail
  clear H1 H2 H3 HT0 hs1 hs2 hs3 hlt1 hlt2 hlt3 hmm
  generalize w3.heap.size = R at H4 ⊢
  generalize w2.heap.size = B at H4 ⊢
  generalize w1.heap.size = Q at H4 ⊢
  go_loopw [13] (fun i wr => ∃ k : Nat, i = .int .i64 k ∧ k ≤ L.length ∧ Hid (PL w B w.heap.size R Q wr)) (fun i _ => L.length - (intOf i).toNat)
  case atStart => exact ⟨0, rfl, Nat.zero_le _, H4⟩
  case round =>
    obtain ⟨k, rfl, hk, HR⟩ := hrel
    clear H4
    obtain ⟨S, hbo, ht⟩ := HR.out
    by_cases hlt : k < L.length
    · obtain ⟨b, off, rfl, hbl, p0, p1, p2, p3, p4⟩ := (HL.out.below ht.bel) k hlt
      generalize L.getD k default = x at p0 p1 p2 p3 p4
      obtain ⟨kk, ⟨c, s⟩, d, t⟩ := x
      dsimp only at p0 p1 p2 p3 p4
      have HT := Lib.hid (ht.alloc (.cells #[.int .i64 kk, .int .i64 c, .int .i64 s, .int .i64 d, .int .i64 t] 41))
      have HBO := Lib.hid hbo
      have hok := ht.okl
      obtain ⟨hok', hbo'⟩ := Wir.step_ok hok hbo kk (c, s) (d, t)
      have HO2 := Lib.hid (And.intro hok' hbo')
      clear ht hbo hok hok' hbo'
      go_wp2_with fail
      refine (do_ok w [wr.heap.size] B _ R Q S c s d t _ kk HBO.out HT.out).mono ?_
      rintro e w5 ⟨rfl, h5, hk5⟩
      obtain ⟨m5, f5⟩ := hk5.box (b := wr.heap.size) (by simp)
      have hz5 : wr.heap.size < w5.heap.size := by have := hk5.size; simp at this; omega
      obtain ⟨S', hS'⟩ : ∃ S', S.step kk (c, s) (d, t) = S' := ⟨_, rfl⟩
      rw [hS'] at h5 HO2
      have H5 := Lib.hid h5
      clear h5 hk5 hS'
      obtain ⟨⟨q1, q2⟩, hq⟩ : ∃ q, S'.toP (c, s) = q := ⟨_, rfl⟩
      obtain ⟨ee, he⟩ : ∃ e, S'.toE (c, s) = e := ⟨_, rfl⟩
      have HQ := Lib.hid hq
      have HE := Lib.hid he
      clear hq he
      simp only []
      go_wp2_with fail
      refine (tw_to_l H5.out c s).mono ?_
      rintro e w6 ⟨rfl, h6, hb6⟩
      rw [HQ.out, HE.out]
      obtain ⟨hc6, hf6⟩ := bcell hb6; have hz6 := hb6.size; (try simp at hz6); have hz6a : wr.heap.size < w6.heap.size := (by omega)
      have H6 := Lib.hid ((h6.alloc (.cells #[.int .i64 q1, .int .i64 q2] 39)).sub (Y := []) (by simp))
      clear h6
      simp only []
      go_wp2_with fail
      refine (tw_to_r H6.out c s).mono ?_
      rintro e w7 ⟨rfl, h7, hb7⟩
      rw [HQ.out, HE.out]
      obtain ⟨hc7, hf7⟩ := bcell hb7; have hz7 := hb7.size; (try simp at hz7); have hz7a : wr.heap.size < w7.heap.size := (by omega); have hz7b : w6.heap.size < w7.heap.size := (by omega)
      have H7 := Lib.hid ((h7.alloc (.cells #[.int .i64 q1, .int .i64 q2] 39)).sub (Y := []) (by simp))
      clear h7
      have ew : IntKind.i64.wrap ((L.length : Int) - 1) = (L.length : Int) - 1 := IntWalk.i64_in _ (by omega)
      have hkx : (0 : Int) ≤ (k : Int) := by omega
      simp only []
      by_cases he0 : ee = 0
      · subst he0
        have hbk := Wir.back HO2.out.1 HO2.out.2 HE.out
        rw [HQ.out] at hbk
        have HBK := Lib.hid hbk
        clear hbk
        go_wp2_with fail
        refine (tw_to_l H7.out q1 q2).mono ?_
        rintro e w8 ⟨rfl, h8, hb8⟩
        rw [HBK.out.1, HBK.out.2]
        obtain ⟨hc8, hf8⟩ := bcell hb8; have hz8 := hb8.size; (try simp at hz8); have hz8a : wr.heap.size < w8.heap.size := (by omega); have hz8b : w6.heap.size < w8.heap.size := (by omega); have hz8c : w7.heap.size < w8.heap.size := (by omega)
        have H9 := Lib.hid ((h8.alloc (.cells #[.int .i64 c, .int .i64 s] 39)).sub (Y := []) (by simp))
        clear h8
        simp only []
        by_cases hk8 : k % 8 = 0
        · have e8 : ((k : Int) % 8 == 0) = true := by rw [beq_iff_eq]; omega
          clear hk8
          go_wp2_with fail
          refine (alike08 w B _ R Q S' _ H9.out).mono ?_
          rintro e w10 ⟨rfl, h10⟩
          have H10 := Lib.hid h10
          clear h10
          simp only []
          go_wp2_with fail
          go_roundw
          case measure => simp [intOf]; omega
          case rel => exact ⟨k + 1, by go_num, by omega, S', HO2.out.2, H10.out⟩
        · have e8 : ((k : Int) % 8 == 0) = false := by rw [beq_eq_false_iff_ne]; omega
          clear hk8
          by_cases hkl : k + 1 = L.length
          · have el : ((k : Int) == (L.length : Int) - 1) = true := by rw [beq_iff_eq]; omega
            go_wp2_with fail
            refine (alike08 w B _ R Q S' _ H9.out).mono ?_
            rintro e w10 ⟨rfl, h10⟩
            have H10 := Lib.hid h10
            clear h10
            simp only []
            go_wp2_with fail
            go_roundw
            case measure => simp [intOf]; omega
            case rel => exact ⟨k + 1, by go_num, by omega, S', HO2.out.2, H10.out⟩
          · have el : ((k : Int) == (L.length : Int) - 1) = false := by rw [beq_eq_false_iff_ne]; omega
            go_wp2_with fail
            go_roundw
            case measure => simp [intOf]; omega
            case rel => exact ⟨k + 1, by go_num, by omega, S', HO2.out.2, H9.out⟩
      · have k0 : (ee == 0) = false := by rw [beq_eq_false_iff_ne]; exact he0
        have H9 := H7
        by_cases hk8 : k % 8 = 0
        · have e8 : ((k : Int) % 8 == 0) = true := by rw [beq_iff_eq]; omega
          clear hk8
          go_wp2_with fail
          refine (alike08 w B _ R Q S' _ H9.out).mono ?_
          rintro e w10 ⟨rfl, h10⟩
          have H10 := Lib.hid h10
          clear h10
          simp only []
          go_wp2_with fail
          go_roundw
          case measure => simp [intOf]; omega
          case rel => exact ⟨k + 1, by go_num, by omega, S', HO2.out.2, H10.out⟩
        · have e8 : ((k : Int) % 8 == 0) = false := by rw [beq_eq_false_iff_ne]; omega
          clear hk8
          by_cases hkl : k + 1 = L.length
          · have el : ((k : Int) == (L.length : Int) - 1) = true := by rw [beq_iff_eq]; omega
            go_wp2_with fail
            refine (alike08 w B _ R Q S' _ H9.out).mono ?_
            rintro e w10 ⟨rfl, h10⟩
            have H10 := Lib.hid h10
            clear h10
            simp only []
            go_wp2_with fail
            go_roundw
            case measure => simp [intOf]; omega
            case rel => exact ⟨k + 1, by go_num, by omega, S', HO2.out.2, H10.out⟩
          · have el : ((k : Int) == (L.length : Int) - 1) = false := by rw [beq_eq_false_iff_ne]; omega
            go_wp2_with fail
            go_roundw
            case measure => simp [intOf]; omega
            case rel => exact ⟨k + 1, by go_num, by omega, S', HO2.out.2, H9.out⟩
    · obtain rfl : k = L.length := by omega
      have HB := Lib.hid ht.bel
      clear ht hbo HR
      go_wp2_with (go_at_call 12; refine (works08 _).mono ?_; rintro e w5 ⟨rfl, hb5⟩
                   have HB5 := Lib.hid (HB.out.trans (hb5.mono HB.out.size))
                   clear hb5)
      go_ret
      exact ⟨rfl, HB5.out⟩
end
end Go.Proofs.Ythbobooiedcofaa
