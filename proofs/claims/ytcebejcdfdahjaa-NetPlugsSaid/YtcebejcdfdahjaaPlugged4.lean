/-
  skeinref03.Plugged: its end: the net that comes.
-/
import Derived.Test.YtcebejcdfdahjaaPlugged2
/-
  skeinref03.Plugged: the loop that lays the links that come.
-/
namespace Go.Proofs.Ytcebejcdfdahjaa
open Go.RowKit
attribute [local go_sem] cell_set
set_option maxRecDepth 100000
set_option linter.unusedVariables false

theorem IntsRd.at' {w : World} {g o : Nat} {l : List Int} (h : IntsRd w (some ⟨g, o, none⟩) l) (i : Nat) (hi : i < l.length) : g < w.heap.size ∧ w.cell? ⟨g, o + i, none⟩ = some (.int .i64 (l.getD i 0)) := by
  obtain ⟨b, off, e, h1, h2⟩ := h i hi
  simp only [Option.some.injEq, Addr.mk.injEq, and_true] at e
  obtain ⟨rfl, rfl⟩ := e
  exact ⟨h1, h2⟩
section
variable (pn : Int → Nat) (csA csB : List Int) (fA fB NA NB NL : Nat) (J : List (Int × Int)) (Q : Exit → Act → World → Prop)
variable (WA WB : List (Pt × Pt))
set_option maxHeartbeats 4000000 in
theorem pg_31 (v0 v3 v5 v6 v8 v9 v10 v18 v22 : Value) (V11 V13 V17 : Option Addr) (c11 c13 c17 M : Nat) (l11 l13 : List Int) (Z : World) (U : Nat → Value)
    (hNL : Hid (firstN pn csA fA csA.length + firstN pn csB fB csB.length = NL)) (hl : NL ≤ 200000) (hM : Hid ((leftS pn csA csB fA fB J).length = M)) (hMl : M ≤ 200000)
    (H11 : Hid (IntsRd Z V11 l11)) (HLk : Hid (LkL (pn := pn) (csA := csA) (csB := csB) (fA := fA) (fB := fB) WA WB l11)) (H13 : Hid (IntsRd Z V13 l13)) (HT : Hid (TwL pn csA csB fA fB J l13)) (H17 : Hid (IntsRd Z V17 (pl4 (c3 pn csA csB fA fB J) (c4 pn csA fA fB) NL NL)))
    (HE : Hid (∀ x ∈ leftS pn csA csB fA fB J, chain (twJ J) (nxS WA WB) (2 * J.length + 1) (nxS WA WB x) = some (endS WA WB J x) ∧ endS WA WB J x ∈ leftS pn csA csB fA fB J)) (HW : Hid (Way (isSd pn csA csB fA fB) (twJ J) (nxS WA WB)))
    (hk : Hid (∀ a' X, FrP v0 v3 v5 v6 v8 v9 v10 (.slice V11 NL c11) (.slice V13 NL c13) (.slice V17 NL c17) v18 (.int .i64 (M : Int)) (.slice (some ⟨Z.heap.size, 0, none⟩) M M) a' → Below Z.heap.size Z X → Row X 3 1 (.slice (some ⟨Z.heap.size, 0, none⟩) M M) M (ivals (outP pn csA csB fA fB WA WB J)) → (pgT 40).wp Try.prog Q a' X)) :
    (pgT 31).wp Try.prog Q (FrPL v0 v3 v5 v6 v8 v9 v10 (.slice V11 NL c11) (.slice V13 NL c13) (.slice V17 NL c17) v18 (.int .i64 (M : Int)) v22 U) Z := by
  have hmk := run_make_row' (P := Try.prog) 23 3 (.int .i64 0) 8 Try.underlying23 int_info rfl .i64 .i64 M (by omega) (by omega)
  unfold FrPL
  show (Code.seq _ _).wp _ _ _ _
  go_upto_region 32 with fail
  refine absW (fun X => Below Z.heap.size Z X ∧ Row X 3 1 (.slice (some ⟨Z.heap.size, 0, none⟩) M M) M (ivals (outQ pn csA csB fA fB WA WB J 0))) ⟨(Below.refl _ _).alloc (Nat.le_refl _) _, by rw [outQ_zero, ivals_rep00, hM.out]; exact row_zeros (heap_alloc_new Z _) (by unfold maxLen; omega)⟩ ?_
  intro X hX
  have HX := Lib.hid hX
  clear hX hmk
  go_wp2_with fail
  go_loopw [23] (fun i wr => ∃ k : Nat, i = .int .i64 k ∧ k ≤ NL ∧ Hid (Below Z.heap.size Z wr ∧ Row wr 3 1 (.slice (some ⟨Z.heap.size, 0, none⟩) M M) M (ivals (outQ pn csA csB fA fB WA WB J k)))) (fun i _ => NL - (intOf i).toNat)
  case atStart => exact ⟨0, rfl, Nat.zero_le _, HX⟩
  case round =>
    obtain ⟨k, rfl, hk', HR⟩ := hrel
    clear HX
    by_cases hlt : k < NL
    · obtain ⟨x, hx, hxk⟩ := side_of (pn := pn) (csA := csA) (csB := csB) (fA := fA) (fB := fB) (i := k) (by rw [hNL.out]; exact hlt)
      obtain ⟨hb, hrow⟩ := HR.out
      have hl11 : l11.length = NL := by rw [HLk.out.len, hNL.out]
      have hl13 : l13.length = NL := by rw [HT.out.len, hNL.out]
      obtain ⟨g17, o17, rfl, q17, f17⟩ := (H17.out.below hb) k (by rw [pl4_len]; exact hlt)
      obtain ⟨g11, o11, rfl, q11, f11⟩ := (H11.out.below hb) k (by rw [hl11]; exact hlt)
      obtain ⟨g13, o13, rfl, q13, f13⟩ := (H13.out.below hb) k (by rw [hl13]; exact hlt)
      have r17 : ∀ y, isSd pn csA csB fA fB y → g17 < wr.heap.size ∧ wr.cell? ⟨g17, o17 + plS pn csA csB fA fB y, none⟩ = some (.int .i64 (if y ∈ leftS pn csA csB fA fB J then ((leftS pn csA csB fA fB J).idxOf y : Int) + 1 else 0)) := fun y hy => by
        have := (H17.out.below hb).at' (plS pn csA csB fA fB y) (by rw [pl4_len, ← hNL.out]; exact plS_lt hy)
        have hp := pl_at (J := J) hy
        rw [hNL.out] at hp
        rw [hp] at this
        exact this
      have r11 : ∀ y, isSd pn csA csB fA fB y → g11 < wr.heap.size ∧ wr.cell? ⟨g11, o11 + plS pn csA csB fA fB y, none⟩ = some (.int .i64 (plS pn csA csB fA fB (nxS WA WB y))) := fun y hy => by
        have := (H11.out.below hb).at' (plS pn csA csB fA fB y) (by rw [hl11, ← hNL.out]; exact plS_lt hy)
        rw [List.getD_eq_getElem?_getD, HLk.out.at_ y hy] at this
        exact this
      have r13 : ∀ y, isSd pn csA csB fA fB y → g13 < wr.heap.size ∧ wr.cell? ⟨g13, o13 + plS pn csA csB fA fB y, none⟩ = some (.int .i64 (match twJ J y with
        | none => 0
        | some z => (plS pn csA csB fA fB z : Int) + 1)) := fun y hy => by
        have := (H13.out.below hb).at' (plS pn csA csB fA fB y) (by rw [hl13, ← hNL.out]; exact plS_lt hy)
        rw [List.getD_eq_getElem?_getD, HT.out.at_ y hy] at this
        exact this
      have R17 := Lib.hid r17
      have R11 := Lib.hid r11
      have R13 := Lib.hid r13
      have HXk := Lib.hid (And.intro hx hxk)
      have HRow := Lib.hid hrow
      have HBl := Lib.hid hb
      obtain ⟨z17, d17⟩ := r17 x hx
      obtain ⟨z11, d11⟩ := r11 x hx
      rw [hxk] at d17 d11
      clear q17 q11 q13 f17 f11 f13 r17 r11 r13 hx hxk hrow hb hl11 hl13 HR
      by_cases hm : x ∈ leftS pn csA csB fA fB J
      · rw [if_pos hm] at d17
        obtain ⟨he1, he2⟩ := HE.out x hm
        have hi := List.idxOf_lt_length_iff.2 hm
        rw [hM.out] at hi
        obtain ⟨i0, hi0⟩ : ∃ i, (leftS pn csA csB fA fB J).idxOf x = i := ⟨_, rfl⟩
        rw [hi0] at d17 hi
        have hnx := HW.out.nv _ HXk.out.1
        have hp1 := plS_lt hnx
        rw [hNL.out] at hp1
        obtain ⟨p1, hpe⟩ : ∃ p, plS pn csA csB fA fB (nxS WA WB x) = p := ⟨_, rfl⟩
        rw [hpe] at d11 hp1
        have HM := Lib.hid (And.intro hm (And.intro hi0 he2))
        have H0 := Lib.hid (And.intro hpe (And.intro hnx he1))
        clear hm hi0 he1 he2 hpe hnx
        have e0 : ((i0 : Int) + 1 == 0) = false := by simp; omega
        go_wp2_with fail
        go_loopg [24] (2 * J.length + 1) (fun n t wr2 => ∃ (y : Sd) (p : Nat), t = .int .i64 (p : Int) ∧ wr2 = wr ∧ p < NL ∧ Hid (plS pn csA csB fA fB y = p ∧ isSd pn csA csB fA fB y ∧ chain (twJ J) (nxS WA WB) n y = some (endS WA WB J x)))
        case atStart => exact ⟨_, p1, rfl, rfl, hp1, H0⟩
        case round =>
          obtain ⟨y, p, rfl, hwr, hp, HY⟩ := hrel
          subst hwr
          obtain ⟨z13, d13⟩ := R13.out y HY.out.2.1
          rw [HY.out.1] at d13
          cases gk with
          | zero => exact absurd HY.out.2.2 (by simp [chain])
          | succ gk =>
            cases ht : twJ J y with
            | none =>
              rw [ht] at d13
              have hye : y = endS WA WB J x := by
                have := HY.out.2.2
                rw [chain, ht] at this
                exact Option.some.inj this
              obtain ⟨_, d17e⟩ := R17.out y HY.out.2.1
              rw [HY.out.1, hye, if_pos HM.out.2.2] at d17e
              obtain ⟨i1, hi1⟩ : ∃ i, (leftS pn csA csB fA fB J).idxOf (endS WA WB J x) = i := ⟨_, rfl⟩
              have hi1' := List.idxOf_lt_length_iff.2 HM.out.2.2
              rw [hi1, hM.out] at hi1'
              rw [hi1] at d17e
              have HI := Lib.hid hi1
              have s0 : wr.frozen? ⟨Z.heap.size, i0, none⟩ = false := HRow.out.frozenAt i0
              have hzl : Z.heap.size < wr.heap.size := HRow.out.lt _ (by simp [ownB])
              obtain ⟨u1, s2⟩ : ∃ u, wr.cell? ⟨Z.heap.size, i0, none⟩ = some u := ⟨_, (HRow.out.cellAt i0 (by omega)).trans (List.getElem?_eq_getElem (by rw [HRow.out.1]; omega))⟩
              have w1 : IntKind.i64.wrap ((i0 : Int) + 1 - 1) = (i0 : Int) := by rw [Int.add_sub_cancel]; exact IntWalk.i64_in _ (by omega)
              have w2 : IntKind.i64.wrap ((i1 : Int) + 1 - 1) = (i1 : Int) := by rw [Int.add_sub_cancel]; exact IntWalk.i64_in _ (by omega)
              clear hye ht hi1
              go_wp2_with fail
              have w3 : IntKind.i64.wrap (i0 : Int) = (i0 : Int) := IntWalk.i64_in _ (by omega)
              have w4 : IntKind.i64.wrap (i1 : Int) = (i1 : Int) := IntWalk.i64_in _ (by omega)
              have j1 : (k : Int) < (NL : Int) := by omega
              have j2 : (p : Int) < (NL : Int) := by omega
              have j3 : (i0 : Int) < (M : Int) := by omega
              have j4 : (0 : Int) ≤ (k : Int) := by omega
              have j5 : (0 : Int) ≤ (p : Int) := by omega
              have j6 : (0 : Int) ≤ (i0 : Int) := by omega
              (refine region_tail 12 (by kernel_rfl) (by kernel_rfl) ?_; simp only [List.take_succ_cons, List.take_zero, List.drop_succ_cons, List.drop_zero]; repeat still_step; try refine wpStill_nil ?_)
              go_wp2_with fail
              go_roundw
              case measure => simp [intOf]; omega
              case rel =>
                refine ⟨k + 1, by go_num, by omega, Lib.hid ⟨?_, ?_⟩⟩
                · exact (HBl.out.trans (Below.drew (Below.refl _ _))).setCell (p := ⟨Z.heap.size, i0, none⟩) (Nat.le_refl _) _
                · have hR8 := (HRow.out.drew.set i0 (.int .i64 (i1 : Int)))
                  rw [ivals_set] at hR8
                  rw [outQ_yes HXk.out.2 HM.out.1, HM.out.2.1, HI.out]
                  exact hR8
            | some z =>
              rw [ht] at d13
              have hz := HW.out.tv _ _ ht
              obtain ⟨_, d11z⟩ := R11.out z hz
              have hpz := plS_lt hz
              have hnz := HW.out.nv _ hz
              have hpn := plS_lt hnz
              rw [hNL.out] at hpz hpn
              have hch : chain (twJ J) (nxS WA WB) gk (nxS WA WB z) = some (endS WA WB J x) := by
                have := HY.out.2.2
                rw [chain, ht] at this
                exact this
              obtain ⟨r, hr⟩ : ∃ r, plS pn csA csB fA fB z = r := ⟨_, rfl⟩
              obtain ⟨r', hr'⟩ : ∃ r, plS pn csA csB fA fB (nxS WA WB z) = r := ⟨_, rfl⟩
              dsimp only at d13
              rw [hr] at d13 d11z hpz
              rw [hr'] at d11z hpn
              have HN := Lib.hid (And.intro hr' (And.intro hnz hch))
              have e1 : ((r : Int) + 1 == 0) = false := by simp; omega
              have w1 : IntKind.i64.wrap ((r : Int) + 1 - 1) = (r : Int) := by rw [Int.add_sub_cancel]; exact IntWalk.i64_in _ (by omega)
              clear hz hnz hch hr hr' ht
              go_wp2_with fail
              go_roundg gk
              case measure => omega
              case rel => exact ⟨_, r', rfl, rfl, hpn, HN⟩
      · rw [if_neg hm] at d17
        have HM := Lib.hid hm
        clear hm
        go_wp2_with fail
        go_roundw
        case measure => simp [intOf]; omega
        case rel =>
          refine ⟨k + 1, by go_num, by omega, Lib.hid ⟨HBl.out, ?_⟩⟩
          rw [outQ_no HXk.out.1 HXk.out.2 HM.out]
          exact HRow.out
    · have hkl : k = NL := by omega
      subst hkl
      have hR := HR.out.2
      rw [← hNL.out, outQ_all] at hR
      have HR2 := Lib.hid (And.intro HR.out.1 hR)
      clear hR HR
      repeat (first
        | exact hk.out _ _ ⟨rfl, rfl, rfl, rfl, rfl, rfl, rfl, rfl, rfl, rfl, rfl, rfl, rfl, rfl, rfl⟩ HR2.out.1 HR2.out.2
        | go_values | go_skip | go_guarded | go_step | go_upon | go_back)
end
end Go.Proofs.Ytcebejcdfdahjaa
namespace Go.Proofs.Ytcebejcdfdahjaa
open Go.RowKit
attribute [local go_sem] cell_set
set_option maxRecDepth 100000
set_option linter.unusedVariables false

section
variable (csA csB : List Int) (fA fB : Nat) (Q : Exit → Act → World → Prop)
variable (VA VB UA UB : Option Addr) (ca cb da db : Nat) (WA WB : List (Pt × Pt)) (b5 b6 b8 : Nat)
set_option maxHeartbeats 4000000 in
theorem pg_40 (v3 v9 v10 v11 v13 v17 v20 : Value) (A : Option Addr) (n cap : Nat) (L : List (ByteArray × Int)) (V22 : Option Addr) (c22 M F : Nat) (l22 : List Int) (w0 Z : World) (U : Nat → Value)
    (hn : n = L.length) (HL : Hid (AgRd Z A L)) (hs : SigOk L) (HA : Hid (NBox Z b5 VA csA.length ca fA VB WA.length cb)) (HB : Hid (NBox Z b6 UA csB.length da fB UB WB.length db))
    (HCA : Hid (IntsRd Z VA csA)) (HCB : Hid (IntsRd Z UA csB)) (hcl : csA.length + csB.length ≤ 5000) (h8 : Hid (Z.heap[b8]? = some (.cells #[.slice none 0 0, .int .i64 0, .slice none 0 0] 26 (0, 0))))
    (hF : F ≤ 100) (H22 : Hid (IntsRd Z V22 l22)) (hM : Hid (M = l22.length)) (hll : Hid (l22.length = (allPs (pnL L) (csA ++ csB) F).length)) (hr : Hid (∀ i, i < l22.length → 0 ≤ l22.getD i 0 ∧ l22.getD i 0 < l22.length))
    (hw0 : Hid (Below w0.heap.size w0 Z)) (hb8 : w0.heap.size ≤ b8)
    (hk : Hid (∀ a' X V1 c1 V2 c2, a'.tmps.size = 211 → a'.defers = [] → a'.tmps[8]? = some (.pointer (some ⟨b8, 0, none⟩)) → X.heap[b8]? = some (.cells #[.slice V1 (csA ++ csB).length c1, .int .i64 (F : Int), .slice V2 (refW (allPs (pnL L) (csA ++ csB) F) l22 l22.length).length c2] 26 (0, 0)) → NetFresh w0 X V1 c1 (csA ++ csB) V2 c2 (refW (allPs (pnL L) (csA ++ csB) F) l22 l22.length) → Q .ret a' X)) :
    (pgT 40).wp Try.prog Q (FrPL (.slice A n cap) v3 (.pointer (some ⟨b5, 0, none⟩)) (.pointer (some ⟨b6, 0, none⟩)) (.pointer (some ⟨b8, 0, none⟩)) v9 v10 v11 v13 v17 (.int .i64 (F : Int)) v20 (.slice V22 M c22) U) Z := by
  subst hn
  obtain ⟨i0, hi0, hi1, hi2, hi3⟩ := info_parts int_info
  have hB0 : Below Z.heap.size Z (Z.alloc (.cells #[] 3)) := by (repeat (first | exact Below.refl _ _ | (with_reducible refine Below.drew ?_) | (with_reducible refine Below.alloc ?_ (by (try simp); (try omega)) _) | (with_reducible refine Below.setCell ?_ (by (try simp); (try omega)) _) | (with_reducible refine Below.trans ?_ (Below.mono (by assumption) (by (try simp); (try omega))))))
  have HSrc := Lib.hid (HCA.out.below hB0).src
  have HRow : Hid (Row (Z.alloc (.cells #[] 3)) 3 1 (.slice (some ⟨Z.heap.size, 0, none⟩) 0 0) 0 []) :=
    ⟨by simp, .inr ⟨Z.heap.size, 0, #[], rfl, by have := heap_alloc_new Z (.cells #[] 3); simpa using this, Nat.le_refl _, by simp [maxLen], by simp, by simp⟩⟩
  have HB63 : 0 + csA.length ≤ maxLen := by simp only [maxLen]; omega
  have HB47 : (0 + csA.length) * 8 ≤ 140737488355328 := by omega
  obtain ⟨n1, nl⟩ : Z.cell? ⟨b5, 0, none⟩ = some (.slice VA csA.length ca) ∧ b5 < Z.heap.size := ⟨HA.out.c0, HA.out.lt⟩
  have HB0 := Lib.hid hB0
  clear hB0
  unfold FrPL
  show (Code.seq _ _).wp _ _ _ _
  go_upto_region 41 with (at_builtin; go_loud (refine inPlain rfl (wpo_row_append _ _ _ rfl i0 _ 8 Try.underlying23 hi0 hi1 hi2 hi3 rfl rfl HRow.out _ csA.length _ rfl (ivals csA) HSrc.out HB63 HB47 ?_)); intro sv5 w5 r5 k5 o5; rw [Nat.zero_add, List.nil_append] at r5; obtain ⟨V1, c1, rfl, hc1⟩ := r5.len
                          change Kp [Z.heap.size] _ w5 at k5
                          change _ = [Z.heap.size] ∨ _ at o5
                          have HK5 := Lib.hid (And.intro k5 (And.intro r5 o5))
                          clear k5 r5 o5)
  have hB5 : Below Z.heap.size Z w5 := HB0.out.trans (HK5.out.1.below HB0.out.size (by intro x hx; simp at hx; omega))
  have hO5 : ∀ b ∈ ownB (.slice V1 csA.length c1), Z.heap.size ≤ b := fun b hb => by
    rcases HK5.out.2.2 with e | e
    · rw [e] at hb; simp at hb; omega
    · rw [e] at hb; simp at hb; omega
  have HRow5 := Lib.hid HK5.out.2.1
  have HSrc5 := Lib.hid (HCB.out.below hB5).src
  have HC63 : csA.length + csB.length ≤ maxLen := by simp only [maxLen]; omega
  have HC47 : (csA.length + csB.length) * 8 ≤ 140737488355328 := by omega
  have hnb := HB.out.below hB5
  have m1 := hnb.c0
  have ml := hnb.lt
  have HX5 := Lib.hid (And.intro hB5 hO5)
  clear hB5 hO5 HK5 hnb n1 nl HB0 HSrc HRow HB63 HB47
  go_upto_region 42 with (at_builtin; go_loud (refine inPlain rfl (wpo_row_append _ _ _ rfl i0 _ 8 Try.underlying23 hi0 hi1 hi2 hi3 rfl rfl HRow5.out _ csB.length _ rfl (ivals csB) HSrc5.out HC63 HC47 ?_)); intro sv6 w6 r6 k6 o6; obtain ⟨V2, c2, rfl, hc2⟩ := r6.len
                          have HK6 := Lib.hid (And.intro k6 (And.intro r6 o6))
                          clear k6 r6 o6)
  have hK6 : Kp (ownB (.slice V1 csA.length c1)) w5 w6 := HK6.out.1
  have hB6 : Below Z.heap.size Z w6 := HX5.out.1.trans (hK6.below HX5.out.1.size HX5.out.2)
  have hO6 : ∀ b ∈ ownB (.slice V2 (csA.length + csB.length) c2), Z.heap.size ≤ b := fun b hb => by
    rcases HK6.out.2.2 with e | e
    · rw [e] at hb; exact HX5.out.2 b hb
    · rw [e] at hb; simp at hb; have := HX5.out.1.size; omega
  have hlen : (csA ++ csB).length = csA.length + csB.length := List.length_append
  have hR6 := HK6.out.2.1
  have hiv : ivals csA ++ ivals csB = ivals (csA ++ csB) := by simp [ivals]
  rw [hiv] at hR6
  obtain ⟨C, hC⟩ : ∃ C, csA ++ csB = C := ⟨_, rfl⟩
  rw [hC] at hlen hR6 hll hk
  rw [← hlen] at hR6 ⊢
  have HR6 := Lib.hid hR6.ints
  have hCl : C.length ≤ 5000 := by omega
  have h8' := (hB6.block b8 (heap_lt h8.out)).trans h8.out
  have h8lt := heap_lt h8'
  have hbw : Below w0.heap.size w0 w6 := hw0.out.trans (hB6.mono hw0.out.size)
  have H8 := Lib.hid h8'
  have HL6 := Lib.hid (HL.out.below hB6)
  have H226 := Lib.hid (H22.out.below hB6)
  have HBW := Lib.hid hbw
  clear hlen hR6 hiv hC h8' hbw hK6 hB6 hO6 HK6 HX5 HRow5 HSrc5 m1 ml HC63 HC47
  go_wp2_with (go_at_call 77; refine (rnet A _ cap L V2 c2 C.length C F V22 c22 M l22 w6 rfl rfl hM.out HL6 hs HR6 H226 hCl hF hll hr).mono ?_; rintro e w7 ⟨V3, c3', V4, c4', rfl, hnf⟩
               have hb7 := hnf.1.2.2
               have hz7 := hb7.size
               have q8 := (hb7.block b8 h8lt).trans H8.out
               have n0 : w7.cell? ⟨b8, 0, none⟩ = some (.slice none 0 0) := by simp [World.cell?, q8]
               have n1 : w7.cell? ⟨b8, 1, none⟩ = some (.int .i64 0) := by simp [World.cell?, q8]
               have n2 : w7.cell? ⟨b8, 2, none⟩ = some (.slice none 0 0) := by simp [World.cell?, q8]
               have n3 : w7.frozen? ⟨b8, 0, none⟩ = false := by simp [World.frozen?, q8]
               have n4 : w7.frozen? ⟨b8, 1, none⟩ = false := by simp [World.frozen?, q8]
               have n5 : w7.frozen? ⟨b8, 2, none⟩ = false := by simp [World.frozen?, q8]
               have HN := Lib.hid hnf
               have H7 := Lib.hid q8
               clear hb7 hnf q8)
  have hbX : Below w0.heap.size w0 (((w7.setCell ⟨b8, 0, none⟩ (.slice V3 C.length c3')).setCell ⟨b8, 1, none⟩ (.int .i64 (F : Int))).setCell ⟨b8, 2, none⟩ (.slice V4 (refW (allPs (pnL L) C F) l22 l22.length).length c4')) :=
    (((HBW.out.trans (HN.out.1.2.2.mono HBW.out.size)).setCell (p := ⟨b8, 0, none⟩) hb8 _).setCell (p := ⟨b8, 1, none⟩) hb8 _).setCell (p := ⟨b8, 2, none⟩) hb8 _
  have hkeep : ∀ b, w6.heap.size ≤ b → (((w7.setCell ⟨b8, 0, none⟩ (.slice V3 C.length c3')).setCell ⟨b8, 1, none⟩ (.int .i64 (F : Int))).setCell ⟨b8, 2, none⟩ (.slice V4 (refW (allPs (pnL L) C F) l22 l22.length).length c4')).heap[b]? = w7.heap[b]? := fun b hb => by
    rw [Below.heap_setCell _ _ _ _ (by show _ ≠ b8; omega), Below.heap_setCell _ _ _ _ (by show _ ≠ b8; omega), Below.heap_setCell _ _ _ _ (by show _ ≠ b8; omega)]
  have hw6 := HBW.out.size
  refine hk.out _ _ V3 c3' V4 c4' rfl rfl rfl ?_ ⟨⟨HN.out.1.1.keep fun b hb => hkeep b (HN.out.1.2.1 b hb), fun b hb => Nat.le_trans hw6 (HN.out.1.2.1 b hb), hbX⟩, ⟨HN.out.2.1.keep fun b hb => hkeep b (HN.out.2.2.1 b hb), fun b hb => Nat.le_trans hw6 (HN.out.2.2.1 b hb), hbX⟩⟩
  simp [World.setCell, Array.getElem?_modify, H7.out]
end
end Go.Proofs.Ytcebejcdfdahjaa
