/-
  skeinref03.Plugged: the loops that give the places.
-/
import Derived.Test.YtcebejcdfdahjaaPlugOut
import Derived.Test.YtcebejcdfdahjaaPlugged1
namespace Go.Proofs.Ytcebejcdfdahjaa
open Go.RowKit
attribute [local go_sem] cell_set
set_option maxRecDepth 100000
set_option linter.unusedVariables false

section
variable (pn : Int → Nat) (csA csB : List Int) (fA fB NA NB NL : Nat) (J : List (Int × Int)) (Q : Exit → Act → World → Prop)
variable (VA VB UA UB : Option Addr) (ca cb da db nA nB : Nat) (WA WB : List (Pt × Pt)) (b5 b6 : Nat)
set_option maxHeartbeats 4000000 in
theorem pg_16 (v0 v3 v8 v10 v17 v18 v20 v22 : Value) (V9 V11 V13 : Option Addr) (c9 c11 c13 : Nat) (l13 : List Int) (Z : World) (U : Nat → Value)
    (hNA : Hid (firstN pn csA fA csA.length = NA)) (hNL : Hid (firstN pn csA fA csA.length + firstN pn csB fB csB.length = NL)) (hfa : fA ≤ NA) (hfb : NA + fB ≤ NL) (hl : NL ≤ 200000) (H13 : Hid (IntsRd Z V13 l13)) (hl13 : Hid (l13.length = NL)) (HT : Hid (TwL pn csA csB fA fB J l13))
    (HA : Hid (NBox Z b5 VA nA ca fA VB WA.length cb)) (HB : Hid (NBox Z b6 UA nB da fB UB WB.length db))
    (hk : Hid (∀ a' X, FrP v0 v3 (.pointer (some ⟨b5, 0, none⟩)) (.pointer (some ⟨b6, 0, none⟩)) v8 (.slice V9 NA c9) v10 (.slice V11 NL c11) (.slice V13 NL c13) (.slice (some ⟨Z.heap.size, 0, none⟩) NL NL) (.int .i64 (cntN (c3 pn csA csB fA fB J) NL)) v20 v22 a' → Below Z.heap.size Z X → Row X 3 1 (.slice (some ⟨Z.heap.size, 0, none⟩) NL NL) NL (ivals (pl3 (c3 pn csA csB fA fB J) NL NL)) → (pgT 24).wp Try.prog Q a' X)) :
    (pgT 16).wp Try.prog Q (FrPL v0 v3 (.pointer (some ⟨b5, 0, none⟩)) (.pointer (some ⟨b6, 0, none⟩)) v8 (.slice V9 NA c9) v10 (.slice V11 NL c11) (.slice V13 NL c13) v17 v18 v20 v22 U) Z := by
  have hmk := run_make_row' (P := Try.prog) 23 3 (.int .i64 0) 8 Try.underlying23 int_info rfl .i64 .i64 NL (by omega) (by omega)
  obtain ⟨c, hc⟩ : ∃ c, c3 pn csA csB fA fB J = c := ⟨_, rfl⟩
  have hcv : ∀ k, c k = (decide (k < fA ∨ (NA ≤ k ∧ k < NA + fB)) && isL J (sideAt pn csA csB fA fB k)) := fun k => by rw [← hc]; unfold c3; rw [hNA.out]
  have hTz : ∀ k, k < NL → (l13.getD k 0 = 0 ↔ isL J (sideAt pn csA csB fA fB k) = true) := fun k hk => HT.out.zero (by rw [hNL.out]; exact hk)
  have HCV := Lib.hid hcv
  have HTz := Lib.hid hTz
  clear hcv hTz
  rw [hc] at hk
  clear hc
  unfold FrPL
  show (Code.seq _ _).wp _ _ _ _
  go_upto_region 17 with fail
  refine absW (fun X => Below Z.heap.size Z X ∧ Row X 3 1 (.slice (some ⟨Z.heap.size, 0, none⟩) NL NL) NL (ivals (pl3 c NL 0))) ⟨(Below.refl _ _).alloc (Nat.le_refl _) _, by rw [pl3_zero, ivals_rep00]; exact row_zeros (heap_alloc_new Z _) (by unfold maxLen; omega)⟩ ?_
  intro X hX
  have HX := Lib.hid hX
  clear hX hmk
  go_wp2_with fail
  go_loopw [18, 19] (fun f i wr => ∃ k : Nat, i = .int .i64 k ∧ k ≤ NL ∧ f = .int .i64 (cntN c k : Int) ∧ Hid (Below Z.heap.size Z wr ∧ Row wr 3 1 (.slice (some ⟨Z.heap.size, 0, none⟩) NL NL) NL (ivals (pl3 c NL k)))) (fun _ i _ => NL - (intOf i).toNat)
  case atStart => exact ⟨0, rfl, Nat.zero_le _, rfl, HX⟩
  case round =>
    obtain ⟨k, rfl, hk', rfl, HR⟩ := hrel
    clear HX
    by_cases hlt : k < NL
    · obtain ⟨hb, hrow⟩ := HR.out
      have hna := HA.out.below hb
      have hnb := HB.out.below hb
      have n1 := hna.c1
      have m1 := hnb.c1
      have nl := hna.lt
      have ml := hnb.lt
      obtain ⟨g, o, rfl, hg, d0⟩ := (H13.out.below hb) k (by rw [hl13.out]; exact hlt)
      have hz := HTz.out k hlt
      generalize l13.getD k 0 = v at d0 hz
      have HZ := Lib.hid hz
      have HRow := Lib.hid hrow
      have HBl := Lib.hid hb
      have hzl : Z.heap.size < wr.heap.size := hrow.lt _ (by simp [ownB])
      have s0 : wr.frozen? ⟨Z.heap.size, k, none⟩ = false := hrow.frozenAt k
      obtain ⟨u1, s2⟩ : ∃ u, wr.cell? ⟨Z.heap.size, k, none⟩ = some u := ⟨_, (hrow.cellAt k (by omega)).trans (List.getElem?_eq_getElem (by rw [hrow.1]; omega))⟩
      have hq := cntN_le c k
      obtain ⟨q, hqe⟩ : ∃ q, cntN c k = q := ⟨_, rfl⟩
      rw [hqe] at hq ⊢
      have HQ := Lib.hid hqe
      have HCk := Lib.hid (HCV.out k)
      have ek : IntKind.i64.wrap ((NA : Int) + (fB : Int)) = (NA : Int) + (fB : Int) := IntWalk.i64_in _ (by omega)
      have eq1 : IntKind.i64.wrap ((q : Int) + 1) = (q : Int) + 1 := IntWalk.i64_in _ (by omega)
      clear hna hnb hrow hb hz hqe HR
      by_cases h1 : (k : Int) < (fA : Int)
      · by_cases hv : v = 0
        · subst hv
          have hck : c k = true := by
            have hi := HZ.out.1 (by omega)
            rw [HCk.out, hi, Bool.and_true, decide_eq_true_eq]
            omega
          have HCt := Lib.hid hck
          clear hck
          go_wp2_with fail
          go_roundw
          case measure => simp [intOf]; omega
          case rel =>
            refine ⟨k + 1, by go_num, by omega, by rw [cntN_succ, if_pos HCt.out, HQ.out]; go_num, Lib.hid ⟨?_, ?_⟩⟩
            · exact (HBl.out).setCell (p := ⟨Z.heap.size, k, none⟩) (Nat.le_refl _) _
            · have hR8 := (HRow.out.set k (.int .i64 ((q : Int) + 1)))
              rw [ivals_set] at hR8
              rw [pl3_yes (by omega) HCt.out, HQ.out]
              exact hR8
        · have hv' : (v == 0) = false := by simpa using hv
          have hck : c k = false := by
            rw [HCk.out]
            first
            | (rw [decide_eq_false (by omega)]; rfl)
            | (have hi := HZ.out
               cases hL : isL J (sideAt pn csA csB fA fB k) with
               | true => exact absurd (hi.2 hL) hv
               | false => rw [Bool.and_false])
          have HCf := Lib.hid hck
          clear hck
          go_wp2_with fail
          go_roundw
          case measure => simp [intOf]; omega
          case rel =>
            refine ⟨k + 1, by go_num, by omega, by rw [cntN_succ, if_neg (by rw [HCf.out]; simp), HQ.out]; rfl, Lib.hid ⟨HBl.out, ?_⟩⟩
            rw [pl3_no HCf.out]
            exact HRow.out
      · by_cases h2 : (NA : Int) ≤ (k : Int)
        · by_cases h3 : (k : Int) < (NA : Int) + (fB : Int)
          · by_cases hv : v = 0
            · subst hv
              have hck : c k = true := by
                have hi := HZ.out.1 (by omega)
                rw [HCk.out, hi, Bool.and_true, decide_eq_true_eq]
                omega
              have HCt := Lib.hid hck
              clear hck
              go_wp2_with fail
              go_roundw
              case measure => simp [intOf]; omega
              case rel =>
                refine ⟨k + 1, by go_num, by omega, by rw [cntN_succ, if_pos HCt.out, HQ.out]; go_num, Lib.hid ⟨?_, ?_⟩⟩
                · exact (HBl.out).setCell (p := ⟨Z.heap.size, k, none⟩) (Nat.le_refl _) _
                · have hR8 := (HRow.out.set k (.int .i64 ((q : Int) + 1)))
                  rw [ivals_set] at hR8
                  rw [pl3_yes (by omega) HCt.out, HQ.out]
                  exact hR8
            · have hv' : (v == 0) = false := by simpa using hv
              have hck : c k = false := by
                rw [HCk.out]
                first
                | (rw [decide_eq_false (by omega)]; rfl)
                | (have hi := HZ.out
                   cases hL : isL J (sideAt pn csA csB fA fB k) with
                   | true => exact absurd (hi.2 hL) hv
                   | false => rw [Bool.and_false])
              have HCf := Lib.hid hck
              clear hck
              go_wp2_with fail
              go_roundw
              case measure => simp [intOf]; omega
              case rel =>
                refine ⟨k + 1, by go_num, by omega, by rw [cntN_succ, if_neg (by rw [HCf.out]; simp), HQ.out]; rfl, Lib.hid ⟨HBl.out, ?_⟩⟩
                rw [pl3_no HCf.out]
                exact HRow.out
          · have hck : c k = false := by
              rw [HCk.out]
              first
              | (rw [decide_eq_false (by omega)]; rfl)
              | (have hi := HZ.out
                 cases hL : isL J (sideAt pn csA csB fA fB k) with
                 | true => exact absurd (hi.2 hL) hv
                 | false => rw [Bool.and_false])
            have HCf := Lib.hid hck
            clear hck
            go_wp2_with fail
            go_roundw
            case measure => simp [intOf]; omega
            case rel =>
              refine ⟨k + 1, by go_num, by omega, by rw [cntN_succ, if_neg (by rw [HCf.out]; simp), HQ.out]; rfl, Lib.hid ⟨HBl.out, ?_⟩⟩
              rw [pl3_no HCf.out]
              exact HRow.out
        · have hck : c k = false := by
            rw [HCk.out]
            first
            | (rw [decide_eq_false (by omega)]; rfl)
            | (have hi := HZ.out
               cases hL : isL J (sideAt pn csA csB fA fB k) with
               | true => exact absurd (hi.2 hL) hv
               | false => rw [Bool.and_false])
          have HCf := Lib.hid hck
          clear hck
          go_wp2_with fail
          go_roundw
          case measure => simp [intOf]; omega
          case rel =>
            refine ⟨k + 1, by go_num, by omega, by rw [cntN_succ, if_neg (by rw [HCf.out]; simp), HQ.out]; rfl, Lib.hid ⟨HBl.out, ?_⟩⟩
            rw [pl3_no HCf.out]
            exact HRow.out
    · have hkl : k = NL := by omega
      subst hkl
      repeat (first
        | exact hk.out _ _ ⟨rfl, rfl, rfl, rfl, rfl, rfl, rfl, rfl, rfl, rfl, rfl, rfl, rfl, rfl, rfl⟩ HR.out.1 HR.out.2
        | go_values | go_skip | go_guarded | go_step | go_upon | go_back)
set_option maxHeartbeats 4000000 in
theorem pg_24 (v0 v3 v8 v10 v13 v20 v22 : Value) (V9 V11 : Option Addr) (c9 c11 : Nat) (Z Y : World) (U : Nat → Value)
    (hNA : Hid (firstN pn csA fA csA.length = NA)) (hfa : fA ≤ NA) (hfb : NA + fB ≤ NL) (hl : NL ≤ 200000)
    (HA : Hid (NBox Z b5 VA nA ca fA VB WA.length cb)) (HB : Hid (NBox Z b6 UA nB da fB UB WB.length db))
    (HY : Hid (Below Z.heap.size Z Y ∧ Row Y 3 1 (.slice (some ⟨Z.heap.size, 0, none⟩) NL NL) NL (ivals (pl3 (c3 pn csA csB fA fB J) NL NL))))
    (hk : Hid (∀ a' X, FrP v0 v3 (.pointer (some ⟨b5, 0, none⟩)) (.pointer (some ⟨b6, 0, none⟩)) v8 (.slice V9 NA c9) v10 (.slice V11 NL c11) v13 (.slice (some ⟨Z.heap.size, 0, none⟩) NL NL) (.int .i64 (cntN (c3 pn csA csB fA fB J) NL)) (.int .i64 ((cntN (c3 pn csA csB fA fB J) NL + cntN (c4 pn csA fA fB) NL : Nat) : Int)) v22 a' → Below Z.heap.size Z X → Row X 3 1 (.slice (some ⟨Z.heap.size, 0, none⟩) NL NL) NL (ivals (pl4 (c3 pn csA csB fA fB J) (c4 pn csA fA fB) NL NL)) → (pgT 31).wp Try.prog Q a' X)) :
    (pgT 24).wp Try.prog Q (FrPL v0 v3 (.pointer (some ⟨b5, 0, none⟩)) (.pointer (some ⟨b6, 0, none⟩)) v8 (.slice V9 NA c9) v10 (.slice V11 NL c11) v13 (.slice (some ⟨Z.heap.size, 0, none⟩) NL NL) (.int .i64 (cntN (c3 pn csA csB fA fB J) NL)) v20 v22 U) Y := by
  have hdc : ∀ i, c4 pn csA fA fB i = true → c3 pn csA csB fA fB J i = false := fun i h => c4_not (by rw [hNA.out]; exact hfa) h
  obtain ⟨d, hd⟩ : ∃ d, c4 pn csA fA fB = d := ⟨_, rfl⟩
  have hdv : ∀ k, d k = decide ((fA ≤ k ∧ k < NA) ∨ NA + fB ≤ k) := fun k => by rw [← hd]; unfold c4; rw [hNA.out]
  rw [hd] at hk hdc
  clear hd
  obtain ⟨c, hc⟩ : ∃ c, c3 pn csA csB fA fB J = c := ⟨_, rfl⟩
  rw [hc] at hk hdc HY ⊢
  clear hc
  have HDV := Lib.hid hdv
  have HDC := Lib.hid hdc
  clear hdv hdc
  have hC := cntN_le c NL
  obtain ⟨C, hCe⟩ : ∃ C, cntN c NL = C := ⟨_, rfl⟩
  rw [hCe] at hk hC ⊢
  have HC := Lib.hid hCe
  clear hCe
  unfold FrPL
  show (Code.seq _ _).wp _ _ _ _
  go_wp2_with fail
  go_loopw [20, 21] (fun f i wr => ∃ k m : Nat, i = .int .i64 k ∧ k ≤ NL ∧ m ≤ C + k ∧ f = .int .i64 m ∧ Hid (C + cntN d k = m) ∧ Hid (Below Z.heap.size Z wr ∧ Row wr 3 1 (.slice (some ⟨Z.heap.size, 0, none⟩) NL NL) NL (ivals (pl4 c d NL k)))) (fun _ i _ => NL - (intOf i).toNat)
  case atStart => exact ⟨0, C, rfl, Nat.zero_le _, by omega, rfl, Lib.hid rfl, by rw [pl4_zero]; exact HY⟩
  case round =>
    obtain ⟨k, m, rfl, hk', hm, rfl, HM, HR⟩ := hrel
    clear HY
    by_cases hlt : k < NL
    · obtain ⟨hb, hrow⟩ := HR.out
      have hna := HA.out.below hb
      have hnb := HB.out.below hb
      have n1 := hna.c1
      have m1 := hnb.c1
      have nl := hna.lt
      have ml := hnb.lt
      have HRow := Lib.hid hrow
      have HBl := Lib.hid hb
      have hzl : Z.heap.size < wr.heap.size := hrow.lt _ (by simp [ownB])
      have s0 : wr.frozen? ⟨Z.heap.size, k, none⟩ = false := hrow.frozenAt k
      obtain ⟨u1, s2⟩ : ∃ u, wr.cell? ⟨Z.heap.size, k, none⟩ = some u := ⟨_, (hrow.cellAt k (by omega)).trans (List.getElem?_eq_getElem (by rw [hrow.1]; omega))⟩
      have HDk := Lib.hid (HDV.out k)
      have ek : IntKind.i64.wrap ((NA : Int) + (fB : Int)) = (NA : Int) + (fB : Int) := IntWalk.i64_in _ (by omega)
      have eq1 : IntKind.i64.wrap ((m : Int) + 1) = (m : Int) + 1 := IntWalk.i64_in _ (by omega)
      clear hna hnb hrow hb HR
      by_cases h1 : (fA : Int) ≤ (k : Int)
      · by_cases h2 : (k : Int) < (NA : Int)
        · have hck : d k = true := by
            rw [HDk.out, decide_eq_true_eq]
            omega
          have HCt := Lib.hid hck
          clear hck
          go_wp2_with fail
          go_roundw
          case measure => simp [intOf]; omega
          case rel =>
            refine ⟨k + 1, m + 1, by go_num, by omega, by omega, by go_num, Lib.hid (by rw [cntN_succ, if_pos HCt.out, ← HM.out]; omega), Lib.hid ⟨HBl.out.setCell (p := ⟨Z.heap.size, k, none⟩) (Nat.le_refl _) _, ?_⟩⟩
            have hR8 := (HRow.out.set k (.int .i64 ((m : Int) + 1)))
            rw [ivals_set] at hR8
            have e1 : (cntN c NL : Int) + (cntN d k : Int) + 1 = (m : Int) + 1 := by have := HM.out; have := HC.out; omega
            rw [pl4_yes (by omega) HCt.out (HDC.out k HCt.out), e1]
            exact hR8
        · by_cases h3 : (NA : Int) + (fB : Int) ≤ (k : Int)
          · have hck : d k = true := by
              rw [HDk.out, decide_eq_true_eq]
              omega
            have HCt := Lib.hid hck
            clear hck
            go_wp2_with fail
            go_roundw
            case measure => simp [intOf]; omega
            case rel =>
              refine ⟨k + 1, m + 1, by go_num, by omega, by omega, by go_num, Lib.hid (by rw [cntN_succ, if_pos HCt.out, ← HM.out]; omega), Lib.hid ⟨HBl.out.setCell (p := ⟨Z.heap.size, k, none⟩) (Nat.le_refl _) _, ?_⟩⟩
              have hR8 := (HRow.out.set k (.int .i64 ((m : Int) + 1)))
              rw [ivals_set] at hR8
              have e1 : (cntN c NL : Int) + (cntN d k : Int) + 1 = (m : Int) + 1 := by have := HM.out; have := HC.out; omega
              rw [pl4_yes (by omega) HCt.out (HDC.out k HCt.out), e1]
              exact hR8
          · have hck : d k = false := by
              rw [HDk.out, decide_eq_false (by omega)]
            have HCf := Lib.hid hck
            clear hck
            go_wp2_with fail
            go_roundw
            case measure => simp [intOf]; omega
            case rel =>
              refine ⟨k + 1, m, by go_num, by omega, by omega, rfl, Lib.hid (by rw [cntN_succ, if_neg (by rw [HCf.out]; simp)]; exact HM.out), Lib.hid ⟨HBl.out, ?_⟩⟩
              rw [pl4_no HCf.out]
              exact HRow.out
      · have h3 : ¬ (NA : Int) + (fB : Int) ≤ (k : Int) := by omega
        have hck : d k = false := by
          rw [HDk.out, decide_eq_false (by omega)]
        have HCf := Lib.hid hck
        clear hck
        go_wp2_with fail
        go_roundw
        case measure => simp [intOf]; omega
        case rel =>
          refine ⟨k + 1, m, by go_num, by omega, by omega, rfl, Lib.hid (by rw [cntN_succ, if_neg (by rw [HCf.out]; simp)]; exact HM.out), Lib.hid ⟨HBl.out, ?_⟩⟩
          rw [pl4_no HCf.out]
          exact HRow.out
    · have hkl : k = NL := by omega
      subst hkl
      have HF := Lib.hid (show Value.int .i64 (m : Int) = .int .i64 ((C + cntN d k : Nat) : Int) by rw [HM.out])
      rw [← HM.out] at hm ⊢
      repeat (first
        | exact hk.out _ _ ⟨rfl, rfl, rfl, rfl, rfl, rfl, rfl, rfl, rfl, rfl, rfl, rfl, rfl, rfl, rfl⟩ HR.out.1 HR.out.2
        | go_values | go_skip | go_guarded | go_step | go_upon | go_back)
end
end Go.Proofs.Ytcebejcdfdahjaa
