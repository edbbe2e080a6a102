/-
  The statement NetPlugs: its walk.
-/
import Derived.Test.YtcebejcdfdahjaaPlugLawE
import Derived.Test.YtcebejcdfdahjaaPlugged6
import Derived.Test.YtcebejcdfdahjaaRefJoins
/-
  The statement NetPlugs: both answers are one net.
-/
namespace Go.Proofs.Ytcebejcdfdahjaa
open Go.RowKit
attribute [local go_sem] cell_set
set_option maxRecDepth 100000
set_option linter.unusedVariables false

section
variable (Q : Exit → Act → World → Prop) (VA VB UA UB V V1 V2 : Option Addr) (na ca wa cb nb da wb db nJ cJ n1 c1 n2 c2 b3 b7 : Nat) (fA fB F : Int) (v0 : Value) (PE : Option Addr → Nat → Option Addr → Nat → World → Prop)
set_option maxHeartbeats 4000000 in
theorem lp_19 (a : Act) (X : World) (htb : TB X b3 VA VB UA UB V na ca wa cb nb da wb db nJ cJ fA fB)
    (HO : Hid (∀ Z, Below X.heap.size X Z → Z.cell? ⟨b7, 0, none⟩ = some (.slice V1 n1 c1) ∧ Z.cell? ⟨b7, 1, none⟩ = some (.int .i64 F) ∧ Z.cell? ⟨b7, 2, none⟩ = some (.slice V2 n2 c2))) (h7 : b7 < X.heap.size)
    (HP : Hid (∀ Z, Below X.heap.size X Z → Calls Try.prog 34 #[v0, .agg #[.slice VA na ca, .int .i64 fA, .slice VB wa cb], .agg #[.slice UA nb da, .int .i64 fB, .slice UB wb db], .slice V nJ cJ] Z fun e w' => ∃ V3 c3 V4 c4, e = .returned (.agg #[.slice V3 n1 c3, .int .i64 F, .slice V4 n2 c4]) ∧ (∀ Z', Below w'.heap.size w' Z' → PE V3 c3 V4 c4 Z') ∧ Below Z.heap.size Z w'))
    (HEq : Hid (∀ V3 c3 V4 c4 Z, Below X.heap.size X Z → PE V3 c3 V4 c4 Z → Calls Try.prog 19 #[.agg #[.slice V1 n1 c1, .int .i64 F, .slice V2 n2 c2], .agg #[.slice V3 n1 c3, .int .i64 F, .slice V4 n2 c4]] Z fun e w' => e = .returned (.bool true) ∧ Below Z.heap.size Z w'))
    (hret : Hid (∀ a' X', FrN 148 [] [(4, .bool true)] a' → Below X.heap.size X X' → Q .ret a' X'))
    (ha : FrN 148 [] [(0, v0), (3, .pointer (some ⟨b3, 0, none⟩)), (6, .pointer (some ⟨b7, 0, none⟩)), (7, .int .i64 0)] a) : (lpT 19).wp Try.prog Q a X := by
  obtain ⟨U, rfl, e0, e3, e6, e7, -⟩ := ha.open148
  have hkp : ∀ W, Below X.heap.size X W → ((W.cell? ⟨b7, 0, none⟩ = some (.slice V1 n1 c1) ∧ W.cell? ⟨b7, 1, none⟩ = some (.int .i64 F) ∧ W.cell? ⟨b7, 2, none⟩ = some (.slice V2 n2 c2)) ∧ W.cell? ⟨b3, 0, none⟩ = some (.slice VA na ca) ∧ W.cell? ⟨b3, 1, none⟩ = some (.int .i64 fA) ∧ W.cell? ⟨b3, 2, none⟩ = some (.slice VB wa cb)) ∧ W.cell? ⟨b3, 3, none⟩ = some (.slice UA nb da) ∧ W.cell? ⟨b3, 4, none⟩ = some (.int .i64 fB) ∧ W.cell? ⟨b3, 5, none⟩ = some (.slice UB wb db) ∧ W.cell? ⟨b3, 6, none⟩ = some (.slice V nJ cJ) := fun W hb => by
    have h := htb.below hb
    exact ⟨⟨HO.out W hb, h.c0, h.c1, h.c2⟩, h.c3, h.c4, h.c5, h.c6⟩
  have HKP := Lib.hid hkp
  have S0 := hkp X (Below.refl _ _)
  have hlt := htb.lt
  unfold FrLL
  simp only [e0, e3, e6, e7]
  clear e0 e3 e6 e7 ha hkp htb
  show (Code.seq _ _).wp _ _ _ _
  go_upto_region 19 with fail
  obtain ⟨⟨⟨m0, m1, m2⟩, a0, a1, a2⟩, b0, b1, b2, b6⟩ := S0
  go_region_held3 (fun W => ((W.cell? ⟨b7, 0, none⟩ = some (.slice V1 n1 c1) ∧ W.cell? ⟨b7, 1, none⟩ = some (.int .i64 F) ∧ W.cell? ⟨b7, 2, none⟩ = some (.slice V2 n2 c2)) ∧ W.cell? ⟨b3, 0, none⟩ = some (.slice VA na ca) ∧ W.cell? ⟨b3, 1, none⟩ = some (.int .i64 fA) ∧ W.cell? ⟨b3, 2, none⟩ = some (.slice VB wa cb)) ∧ W.cell? ⟨b3, 3, none⟩ = some (.slice UA nb da) ∧ W.cell? ⟨b3, 4, none⟩ = some (.int .i64 fB) ∧ W.cell? ⟨b3, 5, none⟩ = some (.slice UB wb db) ∧ W.cell? ⟨b3, 6, none⟩ = some (.slice V nJ cJ))
    (exact HKP.out _ (by (repeat (first | exact Below.refl _ _ | (with_reducible refine Below.drew ?_) | (with_reducible refine Below.alloc ?_ (by (try simp); (try omega)) _) | (with_reducible refine Below.setCell ?_ (by (try simp); (try omega)) _) | (with_reducible refine Below.trans ?_ (Below.mono (by assumption) (by (try simp); (try omega))))))))
    (first
      | ((with_reducible refine (HP.out _ (by (repeat (first | exact Below.refl _ _ | (with_reducible refine Below.drew ?_) | (with_reducible refine Below.alloc ?_ (by (try simp); (try omega)) _) | (with_reducible refine Below.setCell ?_ (by (try simp); (try omega)) _) | (with_reducible refine Below.trans ?_ (Below.mono (by assumption) (by (try simp); (try omega)))))))).mono ?_); rintro e w1 ⟨V3, c3, V4, c4, rfl, hpe, hb1⟩; dsimp only
         have q1 : X.heap.size ≤ w1.heap.size := by have := hb1.size; (try simp at this); omega
         have HPE := Lib.hid hpe
         clear hpe)
      | ((with_reducible refine (HEq.out V3 c3 V4 c4 _ (by (repeat (first | exact Below.refl _ _ | (with_reducible refine Below.drew ?_) | (with_reducible refine Below.alloc ?_ (by (try simp); (try omega)) _) | (with_reducible refine Below.setCell ?_ (by (try simp); (try omega)) _) | (with_reducible refine Below.trans ?_ (Below.mono (by assumption) (by (try simp); (try omega))))))) (HPE.out _ (by (repeat (first | exact Below.refl _ _ | (with_reducible refine Below.drew ?_) | (with_reducible refine Below.alloc ?_ (by (try simp); (try omega)) _) | (with_reducible refine Below.setCell ?_ (by (try simp); (try omega)) _) | (with_reducible refine Below.trans ?_ (Below.mono (by assumption) (by (try simp); (try omega))))))))).mono ?_); rintro e w2 ⟨rfl, hb2⟩; dsimp only
         have q2 : X.heap.size ≤ w2.heap.size := by have := hb2.size; (try simp at this); omega)
      | ((with_reducible refine (works03 _).mono ?_); rintro e w3 ⟨rfl, hb3⟩; dsimp only
         have q3 : X.heap.size ≤ w3.heap.size := by have := hb3.size; (try simp at this); omega))
  all_goals
    go_wp2_with fail
    exact hret.out _ _ ⟨rfl, rfl, rfl, trivial⟩ (by (repeat (first | exact Below.refl _ _ | (with_reducible refine Below.drew ?_) | (with_reducible refine Below.alloc ?_ (by (try simp); (try omega)) _) | (with_reducible refine Below.setCell ?_ (by (try simp); (try omega)) _) | (with_reducible refine Below.trans ?_ (Below.mono (by assumption) (by (try simp); (try omega)))))))
end
end Go.Proofs.Ytcebejcdfdahjaa
namespace Go.Proofs.Ytcebejcdfdahjaa
open Go.RowKit
attribute [local go_sem] cell_set
set_option maxRecDepth 100000
set_option linter.unusedVariables false

theorem tidyF_le (P : List Pt) (lk : Pt → Option Pt) : (tidyF P lk).length ≤ P.length := List.length_filterMap_le _ _
theorem plugE_0 {kA kB : Int} {na nb : Nat} {fA fB : Int} {J : List (Int × Int)} (h : plugE kA kB na nb fA fB J = 0) : kA = 0 ∧ kB = 0 ∧ JOk fA.toNat fB.toNat J ∧ na + nb ≤ 4096 ∧ (leftF fA.toNat fB.toNat J).length ≤ 64 := by
  unfold plugE at h
  by_cases h1 : kA ≠ 0
  · rw [if_pos h1] at h; exact absurd h h1
  rw [if_neg h1] at h
  by_cases h2 : kB ≠ 0
  · rw [if_pos h2] at h; exact absurd h h2
  rw [if_neg h2] at h
  by_cases h3 : ¬ JOk fA.toNat fB.toNat J
  · rw [if_pos h3] at h; exact absurd h (by decide)
  rw [if_neg h3] at h
  by_cases h4 : 4096 < na + nb ∨ 64 < (leftF fA.toNat fB.toNat J).length
  · rw [if_pos h4] at h; exact absurd h (by decide)
  exact ⟨by omega, by omega, Decidable.of_not_not h3, by omega, by omega⟩
set_option maxHeartbeats 4000000 in
theorem plugs_walk (A : Option Addr) (n cap : Nat) (L : List (ByteArray × Int)) (VA VB UA UB V : Option Addr) (ca cb da db nJ cJ : Nat) (csA csB : List Int) (fA fB : Int) (WA WB : List (Pt × Pt)) (J : List (Int × Int)) (w : World)
    (hn : n = L.length) (hcap : L.length ≤ cap) (HL : Hid (AgRd w A L)) (hl : L.length ≤ maxLen) (HCA : Hid (IntsRd w VA csA)) (HWA : Hid (WrRd w VB WA)) (HCB : Hid (IntsRd w UA csB)) (HWB : Hid (WrRd w UB WB)) (hnJ : nJ = J.length) (HJ : Hid (PtsRd w V J)) (hJl : J.length ≤ maxLen)
    (hcA : csA.length ≤ maxLen) (hwA : WA.length ≤ maxLen) (hcB : csB.length ≤ maxLen) (hwB : WB.length ≤ maxLen) :
    Calls Try.prog 5 #[.slice A n cap, .agg #[.slice VA csA.length ca, .int .i64 fA, .slice VB WA.length cb, .slice UA csB.length da, .int .i64 fB, .slice UB WB.length db, .slice V nJ cJ]] w fun e w' => e = .returned (.bool true) ∧ Below w.heap.size w w' := by
  subst hn hnJ
  obtain ⟨kA, hkA⟩ : ∃ k, (netChk (pnL L) L.length (chk L) csA fA WA).1 = k := ⟨_, rfl⟩
  obtain ⟨kB, hkB⟩ : ∃ k, (netChk (pnL L) L.length (chk L) csB fB WB).1 = k := ⟨_, rfl⟩
  obtain ⟨E, hE⟩ : ∃ E, plugE kA kB csA.length csB.length fA fB J = E := ⟨_, rfl⟩
  obtain ⟨F0, hF0⟩ : ∃ F, (leftF fA.toNat fB.toNat J).length = F := ⟨_, rfl⟩
  obtain ⟨T, hT⟩ : ∃ T, tidyF (allPs (pnL L) (csA ++ csB) F0) (mP (pnL L) csA csB fA.toNat fB.toNat WA WB J) = T := ⟨_, rfl⟩
  obtain ⟨C, hC⟩ : ∃ C, (if E = 0 then csA ++ csB else []) = C := ⟨_, rfl⟩
  obtain ⟨F, hF⟩ : ∃ F, (if E = 0 then (F0 : Int) else 0) = F := ⟨_, rfl⟩
  obtain ⟨Wo, hWo⟩ : ∃ W, (if E = 0 then T else []) = W := ⟨_, rfl⟩
  go_enter Try.func5, Try.ntmps5
  refine (show ∀ a, FrN 148 [] [(0, .slice A L.length cap), (1, .agg #[.slice VA csA.length ca, .int .i64 fA, .slice VB WA.length cb, .slice UA csB.length da, .int .i64 fB, .slice UB WB.length db, .slice V J.length cJ])] a → (lpT 0).wp Try.prog _ a w from ?_) _ ⟨rfl, rfl, rfl, rfl, trivial⟩
  intro a ha
  have hret : ∀ a' X, FrN 148 [] [(4, .bool true)] a' → Below w.heap.size w X → bodyPost Try.prog Try.f5 (fun e w' => e = Ending.returned (Value.bool true) ∧ Below w.heap.size w w') .ret a' X := fun a' X hf hb => by
    obtain ⟨hsz, hdf, s4, _⟩ := hf
    refine bodyPost_ret (results_tmp rfl _ _ _) hdf ⟨?_, hb⟩
    rw [Array.getD_eq_getD_getElem?, s4]; rfl
  refine lp_0 _ A _ cap L VA VB UA UB V ca cb da db J.length cJ csA csB fA fB WA WB w a rfl HL hl hcA hwA hcB hwB hJl (Lib.hid hret) (Lib.hid fun hL hcA2 hwA2 hcB2 hwB2 hJ2 a3 X3 hf3 hb3 ht3 => ?_) ha
  refine lp_3 _ VA VB UA UB V csA.length ca WA.length cb csB.length da WB.length db cJ fA fB J _ w a3 X3 hJ2 HJ hb3 ht3 (Lib.hid fun a4 X4 V5 c5 hf4 hb4 ht4 hj4 => ?_) hf3
  refine lp_4 _ VA VB UA UB V V5 ca cb da db L.length J.length cJ c5 csA csB fA fB WA WB A cap w.heap.size C F Wo E (fun A2 cap2 Z => AgRd Z A2 L ∧ L.length ≤ cap2) (fun V1 c1 V2 c2 Z => IntsRd Z V1 csA ∧ WrRd Z V2 WA) (fun V1 c1 V2 c2 Z => IntsRd Z V1 csB ∧ WrRd Z V2 WB) a4 X4 ht4 (Lib.hid ?_) (Lib.hid ?_) (Lib.hid ?_) (Lib.hid ?_) (Lib.hid fun a5 X5 x6 hf5 ho5 => ?_) hf4
  · intro W hW
    refine (copy_agents A cap L W ((HL.out.below hb4).below hW) (by omega)).mono ?_
    rintro e w' ⟨V', c', rfl, hfr⟩
    obtain ⟨_, c0, e0, hcc⟩ := hfr.1.len
    simp only [Value.slice.injEq, true_and] at e0
    obtain ⟨_, rfl⟩ := e0
    exact ⟨V', c', rfl, fun Z hZ => ⟨(hfr.1.agents).below hZ, hcc⟩, hfr.2.2⟩
  · intro W hW
    refine (copy_net VA VB ca cb csA fA WA W (by omega) (by omega) (Lib.hid ((HCA.out.below hb4).below hW)) (Lib.hid ((HWA.out.below hb4).below hW))).mono ?_
    rintro e w' ⟨V1, c1, V2, c2, rfl, h1, h2, _, _, hb⟩
    exact ⟨V1, c1, V2, c2, rfl, fun Z hZ => ⟨h1.below hZ, h2.below hZ⟩, hb⟩
  · intro W hW
    refine (copy_net UA UB da db csB fB WB W (by omega) (by omega) (Lib.hid ((HCB.out.below hb4).below hW)) (Lib.hid ((HWB.out.below hb4).below hW))).mono ?_
    rintro e w' ⟨V1, c1, V2, c2, rfl, h1, h2, _, _, hb⟩
    exact ⟨V1, c1, V2, c2, rfl, fun Z hZ => ⟨h1.below hZ, h2.below hZ⟩, hb⟩
  · intro A2 cap2 V1 c1 V2 c2 V3 c3 V4 c4 W hW h1 h2 h3
    refine (net_plug A2 _ cap2 L V1 V2 V3 V4 V5 c1 c2 c3 c4 J.length c5 csA csB fA fB WA WB J W rfl h1.2 (Lib.hid h1.1) hl (Lib.hid h2.1) (Lib.hid h2.2) (Lib.hid h3.1) (Lib.hid h3.2) rfl (Lib.hid (hj4.below hW)) (by omega) (by omega) (by omega) (by omega) (by omega) kA kB hkA hkB).mono ?_
    rintro e w' ⟨V7, c7, C', F', V8, c8, W', rfl, hnf, hcase⟩
    rw [hE] at hcase ⊢
    have hall : C' = C ∧ F' = F ∧ W' = Wo := by
      rcases hcase with ⟨h0, rfl, rfl, rfl⟩ | ⟨h0, rfl, rfl, rfl⟩
      · rw [← hC, ← hF, ← hWo, if_neg h0, if_neg h0, if_neg h0]; exact ⟨rfl, rfl, rfl⟩
      · rw [← hC, ← hF, ← hWo, if_pos h0, if_pos h0, if_pos h0, ← hT, ← hF0]; exact ⟨rfl, rfl, rfl⟩
    obtain ⟨rfl, rfl, rfl⟩ := hall
    exact ⟨V7, c7, V8, c8, rfl, hnf, hnf.1.2.2⟩
  obtain ⟨b7, V1, c1, V2, c2, rfl, _, hx7, h7, hr1, hr2, hb5⟩ := ho5
  have hw5 := hb4.trans (hb5.mono hb4.size)
  refine lp_5 _ VA VB UA UB V V5 csA.length ca WA.length cb csB.length da WB.length db cJ c5 fA fB J _ _ _ w.heap.size a5 X5 hJ2 (ht4.below hb5) (Lib.hid (HJ.out.below hw5)) (Lib.hid (hj4.below hb5)) (Lib.hid fun a10 X10 hf10 hb10 => ?_) hf5
  have h7l := heap_lt h7
  have hw10 := hw5.trans (hb10.mono hw5.size)
  have hO : ∀ Z, Below X10.heap.size X10 Z → Z.heap[b7]? = some (.cells #[.slice V1 C.length c1, .int .i64 F, .slice V2 Wo.length c2] 26 (0, 0)) ∧ IntsRd Z V1 C ∧ WrRd Z V2 Wo := fun Z hZ => by
    have hbz := hb10.trans (hZ.mono hb10.size)
    exact ⟨(hbz.block b7 h7l).trans h7, hr1.ints.below hbz, hr2.wires.below hbz⟩
  have hO2 : ∀ Z, Below X10.heap.size X10 Z → Z.cell? ⟨b7, 0, none⟩ = some (.slice V1 C.length c1) ∧ Z.cell? ⟨b7, 1, none⟩ = some (.int .i64 F) ∧ Z.cell? ⟨b7, 2, none⟩ = some (.slice V2 Wo.length c2) := fun Z hZ => by
    have h := (hO Z hZ).1
    refine ⟨?_, ?_, ?_⟩ <;> simp [World.cell?, h]
  have h7x : b7 < X10.heap.size := Nat.lt_of_lt_of_le h7l hb10.size
  have ht10 := (ht4.below hb5).below hb10
  have hret10 : ∀ a' X', FrN 148 [] [(4, .bool true)] a' → Below X10.heap.size X10 X' → _ := fun a' X' hf hb => hret a' X' hf (hw10.trans (hb.mono hw10.size))
  refine lp_10 _ VA VB UA UB V V1 V2 csA.length ca WA.length cb csB.length da WB.length db J.length cJ C.length c1 Wo.length c2 w.heap.size b7 fA fB F E _ a10 X10 kA kB (decide (JOk fA.toNat fB.toNat J)) (decide (4096 < csA.length + csB.length ∨ 64 < (leftF fA.toNat fB.toNat J).length)) (by omega) (by omega) hJ2 ht10 (Lib.hid hO2) h7x (Lib.hid ?_) (Lib.hid ?_) (Lib.hid ?_) (Lib.hid ?_) (Lib.hid ?_) (Lib.hid ?_) (Lib.hid ?_) (Lib.hid hret10) (Lib.hid fun hE0 a19 X19 hf19 hb19 => ?_) hf10
  · intro Z hZ
    have hz := hw10.trans (hZ.mono hw10.size)
    refine (rcheck3 A _ cap L VA VB ca cb csA fA WA Z rfl hcap (Lib.hid (HL.out.below hz)) hl (Lib.hid (HCA.out.below hz)) (Lib.hid (HWA.out.below hz)) (by omega) (by omega)).mono ?_
    rintro e w' ⟨rfl, hb⟩
    rw [hkA]
    exact ⟨_, rfl, hb⟩
  · intro Z hZ
    have hz := hw10.trans (hZ.mono hw10.size)
    refine (rcheck3 A _ cap L UA UB da db csB fB WB Z rfl hcap (Lib.hid (HL.out.below hz)) hl (Lib.hid (HCB.out.below hz)) (Lib.hid (HWB.out.below hz)) (by omega) (by omega)).mono ?_
    rintro e w' ⟨rfl, hb⟩
    rw [hkB]
    exact ⟨_, rfl, hb⟩
  · intro hA0 hB0 Z hZ
    have hz := hw10.trans (hZ.mono hw10.size)
    obtain ⟨_, _, hf0A, _, _, _⟩ := netChk_ok (hkA.trans hA0)
    obtain ⟨_, _, hf0B, _, _, _⟩ := netChk_ok (hkB.trans hB0)
    obtain ⟨gA, rfl⟩ := Int.eq_ofNat_of_zero_le hf0A
    obtain ⟨gB, rfl⟩ := Int.eq_ofNat_of_zero_le hf0B
    exact rjoins VA VB UA UB ca cb da db csA csB gA gB WA WB V J.length cJ J Z rfl (Lib.hid (HJ.out.below hz)) (by omega)
  · intro hA0 hB0
    obtain ⟨_, _, hf0A, hf1A, _, _⟩ := netChk_ok (hkA.trans hA0)
    obtain ⟨_, _, hf0B, hf1B, _, _⟩ := netChk_ok (hkB.trans hB0)
    exact ⟨hf0A, hf1A, hf0B, hf1B⟩
  · intro hA0 hB0 hj
    obtain ⟨_, _, hf0A, hf1A, _, _⟩ := netChk_ok (hkA.trans hA0)
    obtain ⟨_, _, hf0B, hf1B, _, _⟩ := netChk_ok (hkB.trans hB0)
    have hfl := leftF_len (of_decide_eq_true hj)
    refine decide_eq_decide.2 ?_
    omega
  · rw [← hE]
    unfold plugE
    simp only [decide_eq_false_iff_not, decide_eq_true_eq]
  · intro hE0 Z hZ
    obtain ⟨_, h1, h2⟩ := hO Z hZ
    have e1 : C = [] := by rw [← hC, if_neg hE0]
    have e2 : F = 0 := by rw [← hF, if_neg hE0]
    have e3 : Wo = [] := by rw [← hWo, if_neg hE0]
    subst e1 e2 e3
    refine (eq_net V1 V2 none none c1 c2 0 0 [] [] 0 0 [] [] Z (by simp) (by simp) (by simp) (by simp) (Lib.hid h1) (Lib.hid h2) (Lib.hid (IntsRd.nil _ _)) (Lib.hid (WrRd.nil _ _))).mono ?_
    rintro e w' ⟨rfl, hb⟩
    exact ⟨by simp, hb⟩
  have hw19 := hw10.trans (hb19.mono hw10.size)
  obtain ⟨hA0, hB0, hj, hs4, hs64⟩ := plugE_0 (hE.trans hE0)
  have e1 : C = csA ++ csB := by rw [← hC, if_pos hE0]
  have e2 : F = (F0 : Int) := by rw [← hF, if_pos hE0]
  have e3 : Wo = T := by rw [← hWo, if_pos hE0]
  obtain ⟨hz, _, hf0A, hf1A, _, okA⟩ := netChk_ok (hkA.trans hA0)
  obtain ⟨_, _, hf0B, hf1B, _, okB⟩ := netChk_ok (hkB.trans hB0)
  obtain ⟨gA, rfl⟩ := Int.eq_ofNat_of_zero_le hf0A
  obtain ⟨gB, rfl⟩ := Int.eq_ofNat_of_zero_le hf0B
  simp only [Int.toNat_natCast] at okA okB hj hs64 hT hF0
  have hs := chk_sig hz
  have okA' : NetOk (pnL L) csA gA WA := okA
  have okB' : NetOk (pnL L) csB gB WB := okB
  have hTl : Wo.length ≤ 100000 ∧ C.length ≤ 5000 := by
    rw [e3, e1, ← hT]
    have h1 := tidyF_le (allPs (pnL L) (csA ++ csB) F0) (mP (pnL L) csA csB gA gB WA WB J)
    have h2 := firstN_le (pnL_le hs) (csA ++ csB) F0 (csA ++ csB).length
    rw [allPs_len] at h1
    rw [List.length_append] at h1 h2 ⊢
    omega
  refine lp_19 _ VA VB UA UB V V1 V2 csA.length ca WA.length cb csB.length da WB.length db J.length cJ C.length c1 Wo.length c2 w.heap.size b7 gA gB F _ (fun V3 c3 V4 c4 Z => IntsRd Z V3 C ∧ WrRd Z V4 Wo) a19 X19 (ht10.below hb19) (Lib.hid fun Z hZ => hO2 Z (hb19.trans (hZ.mono hb19.size))) (Nat.lt_of_lt_of_le h7x hb19.size) (Lib.hid ?_) (Lib.hid ?_) (Lib.hid fun a' X' hf hb => hret a' X' hf (hw19.trans (hb.mono hw19.size))) hf19
  · intro Z hZ
    have hz2 := hw19.trans (hZ.mono hw19.size)
    refine (rplugged A _ cap L VA VB UA UB V ca cb da db J.length cJ csA csB gA gB WA WB J Z rfl (Lib.hid (HL.out.below hz2)) hs (Lib.hid (HCA.out.below hz2)) (Lib.hid (HWA.out.below hz2)) (Lib.hid (HCB.out.below hz2)) (Lib.hid (HWB.out.below hz2)) rfl (Lib.hid (HJ.out.below hz2)) (by omega) (Lib.hid hj) (by omega) (by omega) (by omega) (by omega) (by omega) (Lib.hid okA') (Lib.hid okB') (by omega)).mono ?_
    rintro e w' ⟨V3, c3, V4, c4, rfl, hnf⟩
    rw [hF0, hT] at hnf ⊢
    rw [e1, e2, e3]
    exact ⟨V3, c3, V4, c4, rfl, fun Z' hZ' => ⟨hnf.1.1.ints.below hZ', hnf.2.1.wires.below hZ'⟩, hnf.1.2.2⟩
  · intro V3 c3 V4 c4 Z hZ hpe
    obtain ⟨_, h1, h2⟩ := hO Z (hb19.trans (hZ.mono hb19.size))
    refine (eq_net V1 V2 V3 V4 c1 c2 c3 c4 C C F F Wo Wo Z (by omega) (by omega) hTl.1 hTl.1 (Lib.hid h1) (Lib.hid h2) (Lib.hid hpe.1) (Lib.hid hpe.2)).mono ?_
    rintro e w' ⟨rfl, hb⟩
    exact ⟨by simp, hb⟩
end Go.Proofs.Ytcebejcdfdahjaa
