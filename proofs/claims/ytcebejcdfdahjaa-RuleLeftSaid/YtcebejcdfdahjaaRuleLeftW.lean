/-
  The walk of RuleLeft.
-/
import Derived.Test.YtcebejcdfdahjaaRuleWorks
namespace Go.Proofs.Ytcebejcdfdahjaa
open Go.RowKit
attribute [local go_sem] cell_set
set_option maxRecDepth 100000
set_option linter.unusedVariables false

theorem IntsRd.nil1 (w : World) (A : Option Addr) : IntsRd w A [] := fun i hi => by simp at hi
theorem WrRd.nil1 (w : World) (A : Option Addr) : WrRd w A [] := fun i hi => by simp at hi
theorem leftE_of {L : List (ByteArray × Int)} {a b : Int} (h : leftE L a b = 0) : (chk L).1 = 0 ∧ (0 ≤ a ∧ a < L.length) ∧ (0 ≤ b ∧ b < L.length) := by
  unfold leftE at h
  by_cases h0 : (chk L).1 = 0
  · rw [if_neg (by simpa using h0)] at h
    by_cases h1 : a < 0 ∨ b < 0 ∨ (L.length : Int) ≤ a ∨ (L.length : Int) ≤ b
    · rw [if_pos h1] at h; simp at h
    · exact ⟨h0, by omega, by omega⟩
  · rw [if_pos (by simpa using h0)] at h; exact absurd h h0
section
variable (A : Option Addr) (n cap : Nat) (L : List (ByteArray × Int)) (a b : Int) (w : World)
set_option maxHeartbeats 4000000 in
theorem left_walk (hn : n = L.length) (hcap : L.length ≤ cap) (HL : Hid (AgRd w A L)) (hl : L.length ≤ maxLen) :
    Calls Try.prog 8 #[.slice A n cap, .int .i64 a, .int .i64 b] w fun e w' => e = .returned (.bool true) ∧ Below w.heap.size w w' := by
  subst hn
  have hl0 := hl
  unfold maxLen at hl0
  by_cases c1 : 1024 < L.length
  · go_enter Try.func8, Try.ntmps8
    go_wp2_with (go_at_call 45; refine (works15 _).mono ?_; rintro e w9 ⟨rfl, hb9⟩)
    go_ret
    exact ⟨rfl, hb9⟩
  have hl1 : L.length ≤ 1024 := by omega
  clear c1 hl0
  have HSz : Hid (∀ Z, Below w.heap.size w Z → Calls Try.prog 22 #[.slice A L.length cap] Z (SomeI Z)) := fun Z hz => size_agents A _ cap L Z rfl hl (Lib.hid (HL.out.below hz))
  have HEqN : Hid (∀ Z, Calls Try.prog 19 #[.agg #[.slice none 0 0, .int .i64 0, .slice none 0 0], .agg #[.slice none 0 0, .int .i64 0, .slice none 0 0]] Z fun e w' => e = .returned (.bool true) ∧ Below Z.heap.size Z w') := fun Z =>
    eq_net none none none none 0 0 0 0 [] [] 0 0 [] [] Z (by simp) (by simp) (by simp) (by simp) (Lib.hid (IntsRd.nil1 _ _)) (Lib.hid (WrRd.nil1 _ _)) (Lib.hid (IntsRd.nil1 _ _)) (Lib.hid (WrRd.nil1 _ _))
  obtain ⟨E, hE⟩ : ∃ E, leftE L a b = E := ⟨_, rfl⟩
  by_cases hE0 : E = 0
  · rw [hE0] at hE
    clear hE0 E
    obtain ⟨h0, ha, hb⟩ := leftE_of hE
    have hs := chk_sig h0
    obtain ⟨ka, rfl⟩ := Int.eq_ofNat_of_zero_le ha.1
    obtain ⟨kb, rfl⟩ := Int.eq_ofNat_of_zero_le hb.1
    have hka : ka < L.length := by omega
    have hkb : kb < L.length := by omega
    obtain ⟨na, hna⟩ := Int.eq_ofNat_of_zero_le (hs.ar ka hka).1
    obtain ⟨nb, hnb⟩ := Int.eq_ofNat_of_zero_le (hs.ar kb hkb).1
    have hfl : (tidyW (allPs (pnL L) [(ka : Int), (kb : Int)] (na + nb)) (leftK na (na + nb))).length ≤ 100000 := by
      have h1 : (tidyW (allPs (pnL L) [(ka : Int), (kb : Int)] (na + nb)) (leftK na (na + nb))).length ≤ (allPs (pnL L) [(ka : Int), (kb : Int)] (na + nb)).length := List.length_filterMap_le _ _
      have h2 := firstN_le (pnL_le hs) [(ka : Int), (kb : Int)] (na + nb) [(ka : Int), (kb : Int)].length
      rw [allPs_len] at h1
      have ha' := (hs.ar ka hka).2
      have hb' := (hs.ar kb hkb).2
      simp only [List.length_cons, List.length_nil] at h1 h2
      omega
    have HLf : Hid (∀ V2 c2 Z, L.length ≤ c2 → AgRd Z V2 L → Calls Try.prog 46 #[.slice V2 L.length c2, .int .i64 ka, .int .i64 kb] Z fun e w' => ∃ V3 c3 V4 c4, e = .returned (.tuple #[netV V3 c3 [(ka : Int), (kb : Int)] ((na + nb : Nat) : Int) V4 c4 (tidyW (allPs (pnL L) [(ka : Int), (kb : Int)] (na + nb)) (leftK na (na + nb))), .int .i64 0]) ∧ NetFresh Z w' V3 c3 [(ka : Int), (kb : Int)] V4 c4 (tidyW (allPs (pnL L) [(ka : Int), (kb : Int)] (na + nb)) (leftK na (na + nb)))) :=
      fun V2 c2 Z h1 h2 => rule_left_full V2 _ c2 L Z ka kb na nb rfl h1 (Lib.hid h2) hl h0 hka hkb hna hnb
    have HRf : Hid (∀ Z, Below w.heap.size w Z → Calls Try.prog 48 #[.slice A L.length cap, .int .i64 ka, .int .i64 kb] Z fun e w' => ∃ V3 c3 V4 c4, e = .returned (netV V3 c3 [(ka : Int), (kb : Int)] ((na + nb : Nat) : Int) V4 c4 (tidyW (allPs (pnL L) [(ka : Int), (kb : Int)] (na + nb)) (leftK na (na + nb)))) ∧ NetFresh Z w' V3 c3 [(ka : Int), (kb : Int)] V4 c4 (tidyW (allPs (pnL L) [(ka : Int), (kb : Int)] (na + nb)) (leftK na (na + nb)))) :=
      fun Z hz => rleft_full A _ cap L Z ka kb na nb rfl (Lib.hid (HL.out.below hz)) hs hka hkb hna hnb
    have HK := Lib.hid h0
    generalize tidyW (allPs (pnL L) [(ka : Int), (kb : Int)] (na + nb)) (leftK na (na + nb)) = T at HLf HRf hfl
    obtain ⟨M, hM⟩ : ∃ M, M = na + nb := ⟨_, rfl⟩
    rw [← hM] at HLf HRf
    clear hE h0 hs hna hnb ha hb hM
    go_enter Try.func8, Try.ntmps8
    go_wp2_with fail
    refine (HSz.out _ (Below.refl _ _)).mono ?_
    rintro e w1 ⟨m, rfl, rfl⟩
    go_wp2_with fail
    refine (long_is m _).mono ?_
    rintro e w1 ⟨rfl, rfl⟩
    by_cases c2 : 2147483647 < m
    · have d2 : decide (2147483647 < m) = true := by simpa using c2
      rw [d2]
      go_wp2_with (go_at_call 45; refine (works15 _).mono ?_; rintro e w9 ⟨rfl, hb9⟩)
      go_ret
      exact ⟨rfl, hb9⟩
    have d2 : decide (2147483647 < m) = false := by simpa using c2
    rw [d2]
    clear c2 d2
    go_wp2_with fail
    refine (copy_agents A cap L _ HL.out (by omega)).mono ?_
    rintro e w2 ⟨V2, c2, rfl, F2⟩
    have HB2 : Hid (Below w.heap.size w w2) := F2.2.2
    have HA2 : Hid (AgRd w2 (V2) L ∧ L.length ≤ c2) := ⟨F2.1.agents, by obtain ⟨_, _, h, hh⟩ := F2.1.len; simp only [Value.slice.injEq, true_and] at h; omega⟩
    clear F2
    go_wp2_with fail
    refine (HLf.out V2 c2 _ HA2.out.2 HA2.out.1).mono ?_
    rintro e w3 ⟨V3, c3, V4, c4, rfl, hnf⟩
    have hb3 := hnf.1.2.2
    have HB3 : Hid (Below w.heap.size w w3) := HB2.out.trans (hb3.mono HB2.out.size)
    have HN3 : Hid (IntsRd w3 V3 [(ka : Int), (kb : Int)] ∧ WrRd w3 V4 T) := ⟨hnf.1.1.ints, hnf.2.1.wires⟩
    clear hb3 hnf
    go_wp2_with fail
    refine (rcheck_any A _ cap L _ rfl hl hcap (Lib.hid (HL.out.below (HB3.out.alloc HB3.out.size _)))).mono ?_
    rintro e w4 ⟨rfl, hb4⟩
    rw [HK.out]
    have HB34 : Hid (Below w3.heap.size w3 w4) := ((Below.refl _ w3).alloc (Nat.le_refl _) _).trans (hb4.mono (by simp))
    have HB4 : Hid (Below w.heap.size w w4) := HB3.out.trans (HB34.out.mono HB3.out.size)
    have HN4 : Hid (IntsRd w4 V3 [(ka : Int), (kb : Int)] ∧ WrRd w4 V4 T) := ⟨HN3.out.1.below HB34.out, HN3.out.2.below HB34.out⟩
    have q0 : w4.cell? ⟨w3.heap.size, 0, none⟩ = some (.slice V3 2 c3) := (hb4.cell (p := ⟨w3.heap.size, 0, none⟩) (by simp)).trans (by go_simp)
    have q1 : w4.cell? ⟨w3.heap.size, 1, none⟩ = some (.int .i64 (M : Int)) := (hb4.cell (p := ⟨w3.heap.size, 1, none⟩) (by simp)).trans (by go_simp)
    have q2 : w4.cell? ⟨w3.heap.size, 2, none⟩ = some (.slice V4 T.length c4) := (hb4.cell (p := ⟨w3.heap.size, 2, none⟩) (by simp)).trans (by go_simp)
    have hz4 := hb4.size
    simp only [World.size_alloc] at hz4
    clear hb4
    go_upto_region 9 with fail
    have SZ := (show _ ∧ _ ∧ _ from ⟨q0, q1, q2⟩)
    have SZ : w4.drew.cell? ⟨w3.heap.size, 0, none⟩ = some (.slice V3 2 c3) ∧ w4.drew.cell? ⟨w3.heap.size, 1, none⟩ = some (.int .i64 (M : Int)) ∧ w4.drew.cell? ⟨w3.heap.size, 2, none⟩ = some (.slice V4 T.length c4) := SZ
    clear q0 q1 q2
    go_region_held3 (fun X => X.cell? ⟨w3.heap.size, 0, none⟩ = some (.slice V3 2 c3) ∧ X.cell? ⟨w3.heap.size, 1, none⟩ = some (.int .i64 (M : Int)) ∧ X.cell? ⟨w3.heap.size, 2, none⟩ = some (.slice V4 T.length c4))
      (exact SZ)
      (first
        | (go_at_call 48; refine (HRf.out _ HB4.out.drew).mono ?_
           rintro e v1 ⟨V5, c5, V6, c6, rfl, hnf⟩
           have hst := hnf.1.2.2
           have SZ := keep3 hst (by show w3.heap.size < w4.heap.size; omega) SZ
           have HV1 : Hid (Below w4.heap.size w4 v1) := (Below.refl _ w4).drew.trans hst
           have HN5 : Hid (IntsRd v1 V5 [(ka : Int), (kb : Int)] ∧ WrRd v1 V6 T) := ⟨hnf.1.1.ints, hnf.2.1.wires⟩
           clear hst hnf)
        | (go_at_call 19; refine (eq_net V3 V4 V5 V6 c3 c4 c5 c6 [(ka : Int), (kb : Int)] [(ka : Int), (kb : Int)] M M T T _ (by simp) (by simp) hfl hfl (Lib.hid (HN4.out.1.below HV1.out)) (Lib.hid (HN4.out.2.below HV1.out)) (Lib.hid HN5.out.1) (Lib.hid HN5.out.2)).mono ?_
           rintro e v2 ⟨rfl, hv2⟩
           rw [show decide ([(ka : Int), (kb : Int)] = [(ka : Int), (kb : Int)] ∧ (M : Int) = (M : Int) ∧ T = T) = true by simp]
           have SZ := keep3 hv2 (by have := HV1.out.size; omega) SZ
           have HV2 : Hid (Below w4.heap.size w4 v2) := HV1.out.trans (hv2.mono HV1.out.size)
           clear hv2)
        | (go_at_call 45; refine (works15 _).mono ?_
           rintro e v3 ⟨rfl, hv3⟩
           have SZ := keep3 hv3 (by have := HV2.out.size; omega) SZ
           have HV3 : Hid (Below w4.heap.size w4 v3) := HV2.out.trans (hv3.mono HV2.out.size)
           clear hv3))
    all_goals
      go_wp2
      go_ret
      exact ⟨rfl, HB4.out.trans (HV3.out.mono HB4.out.size)⟩
  · have HBad : Hid (∀ V2 c2 Z, L.length ≤ c2 → AgRd Z V2 L → Calls Try.prog 46 #[.slice V2 L.length c2, .int .i64 a, .int .i64 b] Z fun e w' => e = .returned (.tuple #[netV none 0 [] 0 none 0 [], .int .i64 E]) ∧ Below Z.heap.size Z w') :=
      fun V2 c2 Z h1 h2 => rule_left_bad V2 _ c2 L Z a b E rfl h1 (Lib.hid h2) hl hE hE0
    unfold leftE at hE
    by_cases h0 : (chk L).1 = 0
    · rw [if_neg (by simpa using h0)] at hE
      by_cases h1 : a < 0 ∨ b < 0 ∨ (L.length : Int) ≤ a ∨ (L.length : Int) ≤ b
      · rw [if_pos h1] at hE
        subst hE
        have HK := Lib.hid h0
        clear h0 hE0
        rcases (by omega : a < 0 ∨ (0 ≤ a ∧ b < 0) ∨ (0 ≤ a ∧ 0 ≤ b ∧ (L.length : Int) ≤ a) ∨ (0 ≤ a ∧ 0 ≤ b ∧ a < L.length ∧ (L.length : Int) ≤ b)) with h | ⟨h, h'⟩ | ⟨h, h', h2⟩ | ⟨h, h', h2, h3⟩
        · clear h1
          go_enter Try.func8, Try.ntmps8
          go_wp2_with fail
          refine (HSz.out _ (Below.refl _ _)).mono ?_
          rintro e w1 ⟨m, rfl, rfl⟩
          go_wp2_with fail
          refine (long_is m _).mono ?_
          rintro e w1 ⟨rfl, rfl⟩
          by_cases c2 : 2147483647 < m
          · have d2 : decide (2147483647 < m) = true := by simpa using c2
            rw [d2]
            go_wp2_with (go_at_call 45; refine (works15 _).mono ?_; rintro e w9 ⟨rfl, hb9⟩)
            go_ret
            exact ⟨rfl, hb9⟩
          have d2 : decide (2147483647 < m) = false := by simpa using c2
          rw [d2]
          clear c2 d2
          go_wp2_with fail
          refine (copy_agents A cap L _ HL.out (by omega)).mono ?_
          rintro e w2 ⟨V2, c2, rfl, F2⟩
          have HB2 : Hid (Below w.heap.size w w2) := F2.2.2
          have HA2 : Hid (AgRd w2 (V2) L ∧ L.length ≤ c2) := ⟨F2.1.agents, by obtain ⟨_, _, h, hh⟩ := F2.1.len; simp only [Value.slice.injEq, true_and] at h; omega⟩
          clear F2
          go_wp2_with fail
          refine (HBad.out V2 c2 _ HA2.out.2 HA2.out.1).mono ?_
          rintro e w3 ⟨rfl, hb3⟩
          have HB3 : Hid (Below w.heap.size w w3) := HB2.out.trans (hb3.mono HB2.out.size)
          clear hb3
          go_wp2_with fail
          refine (rcheck_any A _ cap L _ rfl hl hcap (Lib.hid (HL.out.below (HB3.out.alloc HB3.out.size _)))).mono ?_
          rintro e w4 ⟨rfl, hb4⟩
          rw [HK.out]
          have HB4 : Hid (Below w.heap.size w w4) := HB3.out.trans ((((Below.refl _ w3).alloc (Nat.le_refl _) _).trans (hb4.mono (by simp))).mono HB3.out.size)
          have q0 : w4.cell? ⟨w3.heap.size, 0, none⟩ = some (.slice none 0 0) := (hb4.cell (p := ⟨w3.heap.size, 0, none⟩) (by simp)).trans (by go_simp)
          have q1 : w4.cell? ⟨w3.heap.size, 1, none⟩ = some (.int .i64 0) := (hb4.cell (p := ⟨w3.heap.size, 1, none⟩) (by simp)).trans (by go_simp)
          have q2 : w4.cell? ⟨w3.heap.size, 2, none⟩ = some (.slice none 0 0) := (hb4.cell (p := ⟨w3.heap.size, 2, none⟩) (by simp)).trans (by go_simp)
          have hz4 := hb4.size
          simp only [World.size_alloc] at hz4
          clear hb4
          go_wp2_with (first
            | (go_at_call 19; refine (HEqN.out _).mono ?_; rintro e v1 ⟨rfl, hv1⟩)
            | (go_at_call 45; refine (works15 _).mono ?_; rintro e v2 ⟨rfl, hv2⟩))
          go_ret
          exact ⟨rfl, HB4.out.trans ((hv1.trans (hv2.mono hv1.size)).mono HB4.out.size)⟩
        · clear h1
          go_enter Try.func8, Try.ntmps8
          go_wp2_with fail
          refine (HSz.out _ (Below.refl _ _)).mono ?_
          rintro e w1 ⟨m, rfl, rfl⟩
          go_wp2_with fail
          refine (long_is m _).mono ?_
          rintro e w1 ⟨rfl, rfl⟩
          by_cases c2 : 2147483647 < m
          · have d2 : decide (2147483647 < m) = true := by simpa using c2
            rw [d2]
            go_wp2_with (go_at_call 45; refine (works15 _).mono ?_; rintro e w9 ⟨rfl, hb9⟩)
            go_ret
            exact ⟨rfl, hb9⟩
          have d2 : decide (2147483647 < m) = false := by simpa using c2
          rw [d2]
          clear c2 d2
          go_wp2_with fail
          refine (copy_agents A cap L _ HL.out (by omega)).mono ?_
          rintro e w2 ⟨V2, c2, rfl, F2⟩
          have HB2 : Hid (Below w.heap.size w w2) := F2.2.2
          have HA2 : Hid (AgRd w2 (V2) L ∧ L.length ≤ c2) := ⟨F2.1.agents, by obtain ⟨_, _, h, hh⟩ := F2.1.len; simp only [Value.slice.injEq, true_and] at h; omega⟩
          clear F2
          go_wp2_with fail
          refine (HBad.out V2 c2 _ HA2.out.2 HA2.out.1).mono ?_
          rintro e w3 ⟨rfl, hb3⟩
          have HB3 : Hid (Below w.heap.size w w3) := HB2.out.trans (hb3.mono HB2.out.size)
          clear hb3
          go_wp2_with fail
          refine (rcheck_any A _ cap L _ rfl hl hcap (Lib.hid (HL.out.below (HB3.out.alloc HB3.out.size _)))).mono ?_
          rintro e w4 ⟨rfl, hb4⟩
          rw [HK.out]
          have HB4 : Hid (Below w.heap.size w w4) := HB3.out.trans ((((Below.refl _ w3).alloc (Nat.le_refl _) _).trans (hb4.mono (by simp))).mono HB3.out.size)
          have q0 : w4.cell? ⟨w3.heap.size, 0, none⟩ = some (.slice none 0 0) := (hb4.cell (p := ⟨w3.heap.size, 0, none⟩) (by simp)).trans (by go_simp)
          have q1 : w4.cell? ⟨w3.heap.size, 1, none⟩ = some (.int .i64 0) := (hb4.cell (p := ⟨w3.heap.size, 1, none⟩) (by simp)).trans (by go_simp)
          have q2 : w4.cell? ⟨w3.heap.size, 2, none⟩ = some (.slice none 0 0) := (hb4.cell (p := ⟨w3.heap.size, 2, none⟩) (by simp)).trans (by go_simp)
          have hz4 := hb4.size
          simp only [World.size_alloc] at hz4
          clear hb4
          go_wp2_with (first
            | (go_at_call 19; refine (HEqN.out _).mono ?_; rintro e v1 ⟨rfl, hv1⟩)
            | (go_at_call 45; refine (works15 _).mono ?_; rintro e v2 ⟨rfl, hv2⟩))
          go_ret
          exact ⟨rfl, HB4.out.trans ((hv1.trans (hv2.mono hv1.size)).mono HB4.out.size)⟩
        · clear h1
          go_enter Try.func8, Try.ntmps8
          go_wp2_with fail
          refine (HSz.out _ (Below.refl _ _)).mono ?_
          rintro e w1 ⟨m, rfl, rfl⟩
          go_wp2_with fail
          refine (long_is m _).mono ?_
          rintro e w1 ⟨rfl, rfl⟩
          by_cases c2 : 2147483647 < m
          · have d2 : decide (2147483647 < m) = true := by simpa using c2
            rw [d2]
            go_wp2_with (go_at_call 45; refine (works15 _).mono ?_; rintro e w9 ⟨rfl, hb9⟩)
            go_ret
            exact ⟨rfl, hb9⟩
          have d2 : decide (2147483647 < m) = false := by simpa using c2
          rw [d2]
          clear c2 d2
          go_wp2_with fail
          refine (copy_agents A cap L _ HL.out (by omega)).mono ?_
          rintro e w2 ⟨V2, c2, rfl, F2⟩
          have HB2 : Hid (Below w.heap.size w w2) := F2.2.2
          have HA2 : Hid (AgRd w2 (V2) L ∧ L.length ≤ c2) := ⟨F2.1.agents, by obtain ⟨_, _, h, hh⟩ := F2.1.len; simp only [Value.slice.injEq, true_and] at h; omega⟩
          clear F2
          go_wp2_with fail
          refine (HBad.out V2 c2 _ HA2.out.2 HA2.out.1).mono ?_
          rintro e w3 ⟨rfl, hb3⟩
          have HB3 : Hid (Below w.heap.size w w3) := HB2.out.trans (hb3.mono HB2.out.size)
          clear hb3
          go_wp2_with fail
          refine (rcheck_any A _ cap L _ rfl hl hcap (Lib.hid (HL.out.below (HB3.out.alloc HB3.out.size _)))).mono ?_
          rintro e w4 ⟨rfl, hb4⟩
          rw [HK.out]
          have HB4 : Hid (Below w.heap.size w w4) := HB3.out.trans ((((Below.refl _ w3).alloc (Nat.le_refl _) _).trans (hb4.mono (by simp))).mono HB3.out.size)
          have q0 : w4.cell? ⟨w3.heap.size, 0, none⟩ = some (.slice none 0 0) := (hb4.cell (p := ⟨w3.heap.size, 0, none⟩) (by simp)).trans (by go_simp)
          have q1 : w4.cell? ⟨w3.heap.size, 1, none⟩ = some (.int .i64 0) := (hb4.cell (p := ⟨w3.heap.size, 1, none⟩) (by simp)).trans (by go_simp)
          have q2 : w4.cell? ⟨w3.heap.size, 2, none⟩ = some (.slice none 0 0) := (hb4.cell (p := ⟨w3.heap.size, 2, none⟩) (by simp)).trans (by go_simp)
          have hz4 := hb4.size
          simp only [World.size_alloc] at hz4
          clear hb4
          go_wp2_with (first
            | (go_at_call 19; refine (HEqN.out _).mono ?_; rintro e v1 ⟨rfl, hv1⟩)
            | (go_at_call 45; refine (works15 _).mono ?_; rintro e v2 ⟨rfl, hv2⟩))
          go_ret
          exact ⟨rfl, HB4.out.trans ((hv1.trans (hv2.mono hv1.size)).mono HB4.out.size)⟩
        · clear h1
          go_enter Try.func8, Try.ntmps8
          go_wp2_with fail
          refine (HSz.out _ (Below.refl _ _)).mono ?_
          rintro e w1 ⟨m, rfl, rfl⟩
          go_wp2_with fail
          refine (long_is m _).mono ?_
          rintro e w1 ⟨rfl, rfl⟩
          by_cases c2 : 2147483647 < m
          · have d2 : decide (2147483647 < m) = true := by simpa using c2
            rw [d2]
            go_wp2_with (go_at_call 45; refine (works15 _).mono ?_; rintro e w9 ⟨rfl, hb9⟩)
            go_ret
            exact ⟨rfl, hb9⟩
          have d2 : decide (2147483647 < m) = false := by simpa using c2
          rw [d2]
          clear c2 d2
          go_wp2_with fail
          refine (copy_agents A cap L _ HL.out (by omega)).mono ?_
          rintro e w2 ⟨V2, c2, rfl, F2⟩
          have HB2 : Hid (Below w.heap.size w w2) := F2.2.2
          have HA2 : Hid (AgRd w2 (V2) L ∧ L.length ≤ c2) := ⟨F2.1.agents, by obtain ⟨_, _, h, hh⟩ := F2.1.len; simp only [Value.slice.injEq, true_and] at h; omega⟩
          clear F2
          go_wp2_with fail
          refine (HBad.out V2 c2 _ HA2.out.2 HA2.out.1).mono ?_
          rintro e w3 ⟨rfl, hb3⟩
          have HB3 : Hid (Below w.heap.size w w3) := HB2.out.trans (hb3.mono HB2.out.size)
          clear hb3
          go_wp2_with fail
          refine (rcheck_any A _ cap L _ rfl hl hcap (Lib.hid (HL.out.below (HB3.out.alloc HB3.out.size _)))).mono ?_
          rintro e w4 ⟨rfl, hb4⟩
          rw [HK.out]
          have HB4 : Hid (Below w.heap.size w w4) := HB3.out.trans ((((Below.refl _ w3).alloc (Nat.le_refl _) _).trans (hb4.mono (by simp))).mono HB3.out.size)
          have q0 : w4.cell? ⟨w3.heap.size, 0, none⟩ = some (.slice none 0 0) := (hb4.cell (p := ⟨w3.heap.size, 0, none⟩) (by simp)).trans (by go_simp)
          have q1 : w4.cell? ⟨w3.heap.size, 1, none⟩ = some (.int .i64 0) := (hb4.cell (p := ⟨w3.heap.size, 1, none⟩) (by simp)).trans (by go_simp)
          have q2 : w4.cell? ⟨w3.heap.size, 2, none⟩ = some (.slice none 0 0) := (hb4.cell (p := ⟨w3.heap.size, 2, none⟩) (by simp)).trans (by go_simp)
          have hz4 := hb4.size
          simp only [World.size_alloc] at hz4
          clear hb4
          go_wp2_with (first
            | (go_at_call 19; refine (HEqN.out _).mono ?_; rintro e v1 ⟨rfl, hv1⟩)
            | (go_at_call 45; refine (works15 _).mono ?_; rintro e v2 ⟨rfl, hv2⟩))
          go_ret
          exact ⟨rfl, HB4.out.trans ((hv1.trans (hv2.mono hv1.size)).mono HB4.out.size)⟩
      · rw [if_neg h1] at hE
        exact absurd hE.symm hE0
    · rw [if_pos (by simpa using h0)] at hE
      have HK := Lib.hid hE
      have hkb : (E != 0) = true := by simpa using hE0
      have hkb2 : (E == 0) = false := by simpa using hE0
      clear h0 hE hE0
      go_enter Try.func8, Try.ntmps8
      go_wp2_with fail
      refine (HSz.out _ (Below.refl _ _)).mono ?_
      rintro e w1 ⟨m, rfl, rfl⟩
      go_wp2_with fail
      refine (long_is m _).mono ?_
      rintro e w1 ⟨rfl, rfl⟩
      by_cases c2 : 2147483647 < m
      · have d2 : decide (2147483647 < m) = true := by simpa using c2
        rw [d2]
        go_wp2_with (go_at_call 45; refine (works15 _).mono ?_; rintro e w9 ⟨rfl, hb9⟩)
        go_ret
        exact ⟨rfl, hb9⟩
      have d2 : decide (2147483647 < m) = false := by simpa using c2
      rw [d2]
      clear c2 d2
      go_wp2_with fail
      refine (copy_agents A cap L _ HL.out (by omega)).mono ?_
      rintro e w2 ⟨V2, c2, rfl, F2⟩
      have HB2 : Hid (Below w.heap.size w w2) := F2.2.2
      have HA2 : Hid (AgRd w2 (V2) L ∧ L.length ≤ c2) := ⟨F2.1.agents, by obtain ⟨_, _, h, hh⟩ := F2.1.len; simp only [Value.slice.injEq, true_and] at h; omega⟩
      clear F2
      go_wp2_with fail
      refine (HBad.out V2 c2 _ HA2.out.2 HA2.out.1).mono ?_
      rintro e w3 ⟨rfl, hb3⟩
      have HB3 : Hid (Below w.heap.size w w3) := HB2.out.trans (hb3.mono HB2.out.size)
      clear hb3
      go_wp2_with fail
      refine (rcheck_any A _ cap L _ rfl hl hcap (Lib.hid (HL.out.below (HB3.out.alloc HB3.out.size _)))).mono ?_
      rintro e w4 ⟨rfl, hb4⟩
      rw [HK.out]
      have HB4 : Hid (Below w.heap.size w w4) := HB3.out.trans ((((Below.refl _ w3).alloc (Nat.le_refl _) _).trans (hb4.mono (by simp))).mono HB3.out.size)
      have q0 : w4.cell? ⟨w3.heap.size, 0, none⟩ = some (.slice none 0 0) := (hb4.cell (p := ⟨w3.heap.size, 0, none⟩) (by simp)).trans (by go_simp)
      have q1 : w4.cell? ⟨w3.heap.size, 1, none⟩ = some (.int .i64 0) := (hb4.cell (p := ⟨w3.heap.size, 1, none⟩) (by simp)).trans (by go_simp)
      have q2 : w4.cell? ⟨w3.heap.size, 2, none⟩ = some (.slice none 0 0) := (hb4.cell (p := ⟨w3.heap.size, 2, none⟩) (by simp)).trans (by go_simp)
      have hz4 := hb4.size
      simp only [World.size_alloc] at hz4
      clear hb4
      go_wp2_with (first
        | (go_at_call 19; refine (HEqN.out _).mono ?_; rintro e v1 ⟨rfl, hv1⟩)
        | (go_at_call 45; refine (works15 _).mono ?_; rintro e v2 ⟨rfl, hv2⟩))
      go_ret
      exact ⟨rfl, HB4.out.trans ((hv1.trans (hv2.mono hv1.size)).mono HB4.out.size)⟩
end
end Go.Proofs.Ytcebejcdfdahjaa
