/-
  The statement NetLaws: the wires in their order.
-/
import Derived.Test.YtcebejcdfdahjaaLawsB
namespace Go.Proofs.Ytcebejcdfdahjaa
open Go.RowKit
attribute [local go_sem] cell_set
set_option maxRecDepth 100000
set_option linter.unusedVariables false

set_option maxHeartbeats 400000 in
theorem before03 (a b c d : Int) (w : World) : Calls Try.prog 57 #[.agg #[.int .i64 a, .int .i64 b], .agg #[.int .i64 c, .int .i64 d]] w fun e w' => e = .returned (.bool (bef (a, b) (c, d))) ∧ Below w.heap.size w w' := by
  have HB : Hid (bef (a, b) (c, d) = decide (a < c ∨ a = c ∧ b < d)) := rfl
  rcases (by omega : a < c ∨ (¬ a < c ∧ a ≠ c) ∨ (¬ a < c ∧ a = c)) with h | ⟨h, h'⟩ | ⟨h, rfl⟩
  · go_enter Try.func57, Try.ntmps57
    go_wp2
    go_ret
    exact ⟨ret_b (by rw [HB.out]; simp; omega), by (repeat (first | exact Below.refl _ _ | (with_reducible refine Below.drew ?_) | (with_reducible refine Below.alloc ?_ (by (try simp); (try omega)) _) | (with_reducible refine Below.setCell ?_ (by (try simp); (try omega)) _) | (with_reducible refine Below.trans ?_ (Below.mono (by assumption) (by (try simp); (try omega))))))⟩
  · have h2 : (a == c) = false := by rw [beq_eq_false_iff_ne]; exact h'
    go_enter Try.func57, Try.ntmps57
    go_wp2
    go_ret
    exact ⟨ret_b (by rw [HB.out]; simp; omega), by (repeat (first | exact Below.refl _ _ | (with_reducible refine Below.drew ?_) | (with_reducible refine Below.alloc ?_ (by (try simp); (try omega)) _) | (with_reducible refine Below.setCell ?_ (by (try simp); (try omega)) _) | (with_reducible refine Below.trans ?_ (Below.mono (by assumption) (by (try simp); (try omega))))))⟩
  · go_enter Try.func57, Try.ntmps57
    go_wp2
    go_ret
    exact ⟨ret_b (by rw [HB.out]; simp), by (repeat (first | exact Below.refl _ _ | (with_reducible refine Below.drew ?_) | (with_reducible refine Below.alloc ?_ (by (try simp); (try omega)) _) | (with_reducible refine Below.setCell ?_ (by (try simp); (try omega)) _) | (with_reducible refine Below.trans ?_ (Below.mono (by assumption) (by (try simp); (try omega))))))⟩
theorem op_here {o : Oper} {l : List Oper} : (o :: l).toArray[0]? = some o := rfl
theorem op_next {o x : Oper} {l : List Oper} {i : Nat} (h : l.toArray[i]? = some o) : (x :: l).toArray[i + 1]? = some o := by
  rw [List.getElem?_toArray] at h ⊢
  rw [List.getElem?_cons_succ]; exact h
/-- A wire's box. -/
def WBx (Y : World) (b : Nat) (x : Pt × Pt) : Prop := Y.cell? ⟨b, 0, none⟩ = some (.int .i64 x.1.1) ∧ Y.cell? ⟨b, 1, none⟩ = some (.int .i64 x.1.2) ∧ Y.cell? ⟨b, 2, none⟩ = some (.int .i64 x.2.1) ∧ Y.cell? ⟨b, 3, none⟩ = some (.int .i64 x.2.2)
theorem WBx.below {X Y : World} {b : Nat} {x : Pt × Pt} (h : WBx X b x) (hl : b < X.heap.size) (hb : Below X.heap.size X Y) : WBx Y b x := by
  have hc : ∀ i, Y.cell? ⟨b, i, none⟩ = X.cell? ⟨b, i, none⟩ := fun i => hb.cell (p := ⟨b, i, none⟩) hl
  exact ⟨(hc 0).trans h.1, (hc 1).trans h.2.1, (hc 2).trans h.2.2.1, (hc 3).trans h.2.2.2⟩
section
variable (Q : Exit → Act → World → Prop) (v0 : Value) (b : Nat) (V1 V2 : Option Addr) (n1 c1 n2 c2 b7 : Nat) (F : Int) (T : List (Pt × Pt))
set_option maxHeartbeats 4000000 in
theorem nl_11 (a : Act) (X : World) (htb : NBx X b7 V1 n1 c1 F V2 T.length c2) (HW : Hid (WrRd X V2 T)) (hT : T.length ≤ 100000)
    (hb1 : Hid (∀ i, i < T.length → bef (T.getD i default).1 (T.getD i default).2 = true)) (hb2 : Hid (∀ i, i + 1 < T.length → bef (T.getD i default).1 (T.getD (i + 1) default).1 = true))
    (hnext : Hid (∀ a' X', FrN 286 [] [(0, v0), (4, .pointer (some ⟨b, 0, none⟩)), (5, .pointer (some ⟨b + 1, 0, none⟩)), (7, .pointer (some ⟨b7, 0, none⟩))] a' → Below X.heap.size X X' → (nlT 17).wp Try.prog Q a' X'))
    (ha : FrN 286 [] [(0, v0), (4, .pointer (some ⟨b, 0, none⟩)), (5, .pointer (some ⟨b + 1, 0, none⟩)), (7, .pointer (some ⟨b7, 0, none⟩))] a) : (nlT 11).wp Try.prog Q a X := by
  obtain ⟨U, rfl, e0, e4, e5, e7, -⟩ := ha.open286
  have HT := Lib.hid htb
  have HX0 := Lib.hid (Below.refl X.heap.size X)
  unfold FrNL
  simp only [e0, e4, e5, e7]
  clear e0 e4 e5 e7 ha htb
  show (Code.seq _ _).wp _ _ _ _
  go_wp2_with fail
  go_loopw [14] (fun i wr => ∃ k : Nat, i = .int .i64 k ∧ k ≤ T.length ∧ Hid (Below X.heap.size X wr)) (fun i _ => T.length - (intOf i).toNat)
  case atStart => exact ⟨0, rfl, Nat.zero_le _, HX0⟩
  case round =>
    obtain ⟨k, rfl, hk, HB⟩ := hrel
    clear HX0
    obtain ⟨m0, m1, m2, mlt⟩ := HT.out.below HB.out
    by_cases hlt : k < T.length
    · obtain ⟨g, o, hV, hg, p0, p1, p2, p3⟩ := (HW.out.below HB.out) k hlt
      have hbk := hb1.out k hlt
      generalize hx : T.getD k default = x at p0 p1 p2 p3 hbk
      have HXE := Lib.hid hx
      have HVE := Lib.hid hV
      subst hV
      clear hx
      go_upto_region 15 with fail
      refine absW (fun Y => Below wr.heap.size wr Y ∧ WBx Y wr.heap.size x ∧ wr.heap.size < Y.heap.size) ⟨by (repeat (first | exact Below.refl _ _ | (with_reducible refine Below.drew ?_) | (with_reducible refine Below.alloc ?_ (by (try simp); (try omega)) _) | (with_reducible refine Below.setCell ?_ (by (try simp); (try omega)) _) | (with_reducible refine Below.trans ?_ (Below.mono (by assumption) (by (try simp); (try omega)))))), ⟨by go_simp, by go_simp, by go_simp, by go_simp⟩, by simp⟩ ?_
      rintro Y ⟨hbY, hwb, hly⟩
      have HBY := Lib.hid (HB.out.trans (hbY.mono HB.out.size))
      have HWB := Lib.hid hwb
      have hcl := hbY.size
      generalize wr.heap.size = bx at hly HWB hwb ⊢
      clear m0 m1 m2 p0 p1 p2 p3 hbY hwb hcl hg mlt
      have hfin : ∀ Z, Below Y.heap.size Y Z → Below X.heap.size X Z := fun Z hZ => HBY.out.trans (hZ.mono HBY.out.size)
      have HFIN := Lib.hid hfin
      clear hfin
      rcases k with _ | j
      · have hkp : ∀ W, Below Y.heap.size Y W → (W.cell? ⟨bx, 0, none⟩ = some (.int .i64 x.1.1) ∧ W.cell? ⟨bx, 1, none⟩ = some (.int .i64 x.1.2)) ∧ W.cell? ⟨bx, 2, none⟩ = some (.int .i64 x.2.1) ∧ W.cell? ⟨bx, 3, none⟩ = some (.int .i64 x.2.2) := fun W hb => by
          have h := HWB.out.below hly hb
          exact ⟨⟨h.1, h.2.1⟩, h.2.2.1, h.2.2.2⟩
        have HKP := Lib.hid hkp
        have S0 := hkp Y (Below.refl _ _)
        obtain ⟨⟨q0, q1⟩, q2, q3⟩ := S0
        clear hkp
        refine wp_region_noPanic ?_
        refine wp_region_held_drew (S := fun W => (W.cell? ⟨bx, 0, none⟩ = some (.int .i64 x.1.1) ∧ W.cell? ⟨bx, 1, none⟩ = some (.int .i64 x.1.2)) ∧ W.cell? ⟨bx, 2, none⟩ = some (.int .i64 x.2.1) ∧ W.cell? ⟨bx, 3, none⟩ = some (.int .i64 x.2.2)) (by kernel_rfl) (HKP.out _ (by (repeat (first | exact Below.refl _ _ | (with_reducible refine Below.drew ?_) | (with_reducible refine Below.alloc ?_ (by (try simp); (try omega)) _) | (with_reducible refine Below.setCell ?_ (by (try simp); (try omega)) _) | (with_reducible refine Below.trans ?_ (Below.mono (by assumption) (by (try simp); (try omega)))))))) (fun hHeld => ?_)
        refine wpAnyH_take (i := 0) (oi := ?oi0) ?hi0 (by kernel_rfl) (by kernel_rfl) (by kernel_rfl) (fun _ _ _ h => h) (v := ?v0) (Or.inl ⟨?hw0, ?hy0⟩) (by assumption) ?rest0
        case hi0 => repeat (first | exact op_here | refine op_next ?_)
        case hw0 => rfl
        case hy0 => intro w hSw; (try dsimp only at hSw); go_simp; try (with_reducible rfl)
        try simp only [Act.put, List.setIfInBounds_toArray, List.set_cons_zero, List.set_cons_succ]
        refine wpAnyH_take (i := 1) (oi := ?oi1) ?hi1 (by kernel_rfl) (by kernel_rfl) (by kernel_rfl) (fun _ _ _ h => h) (v := ?v1) (Or.inl ⟨?hw1, ?hy1⟩) (by assumption) ?rest1
        case hi1 => repeat (first | exact op_here | refine op_next ?_)
        case hw1 => rfl
        case hy1 => intro w hSw; (try dsimp only at hSw); go_simp; try (with_reducible rfl)
        try simp only [Act.put, List.setIfInBounds_toArray, List.set_cons_zero, List.set_cons_succ]
        refine wpAnyH_take (i := 2) (oi := ?oi2) ?hi2 (by kernel_rfl) (by kernel_rfl) (by kernel_rfl) (fun _ _ _ h => h) (v := ?v2) (Or.inl ⟨?hw2, ?hy2⟩) (by assumption) ?rest2
        case hi2 => repeat (first | exact op_here | refine op_next ?_)
        case hw2 => rfl
        case hy2 => intro w hSw; (try dsimp only at hSw); go_simp; try (with_reducible rfl)
        try simp only [Act.put, List.setIfInBounds_toArray, List.set_cons_zero, List.set_cons_succ]
        refine wpAnyH_take (i := 3) (oi := ?oi3) ?hi3 (by kernel_rfl) (by kernel_rfl) (by kernel_rfl) (fun _ _ _ h => h) (v := ?v3) (Or.inl ⟨?hw3, ?hy3⟩) (by assumption) ?rest3
        case hi3 => repeat (first | exact op_here | refine op_next ?_)
        case hw3 => rfl
        case hy3 => intro w hSw; (try dsimp only at hSw); go_simp; try (with_reducible rfl)
        try simp only [Act.put, List.setIfInBounds_toArray, List.set_cons_zero, List.set_cons_succ]
        refine wpAnyH_ready (rs := [4]) (by kernel_rfl) (by simp) ?_
        refine AllReadyH.cons rfl (fun K hK => ?_) AllReadyH.nil
        refine inDraw (by rfl) ?_
        unfold Oper.wp
        go_simp
        go_at_call 57
        refine (before03 _ _ _ _ _).mono ?_
        rintro e w1 ⟨rfl, hb1⟩
        dsimp only
        rw [hbk]
        refine hK.out _ _ (HKP.out _ (by (repeat (first | exact Below.refl _ _ | (with_reducible refine Below.drew ?_) | (with_reducible refine Below.alloc ?_ (by (try simp); (try omega)) _) | (with_reducible refine Below.setCell ?_ (by (try simp); (try omega)) _) | (with_reducible refine Below.trans ?_ (Below.mono (by assumption) (by (try simp); (try omega)))))))) (fun hHeld => ?_)
        clear hK K
        try simp only [Act.put, List.setIfInBounds_toArray, List.set_cons_zero, List.set_cons_succ]
        refine wpAnyH_take (i := 5) (oi := ?oi5) ?hi5 (by kernel_rfl) (by kernel_rfl) (by kernel_rfl) (fun _ _ _ h => h) (v := ?v5) (Or.inl ⟨?hw5, ?hy5⟩) (by assumption) ?rest5
        case hi5 => repeat (first | exact op_here | refine op_next ?_)
        case hw5 => rfl
        case hy5 => intro w hSw; (try dsimp only at hSw); go_simp; try (with_reducible rfl)
        try simp only [Act.put, List.setIfInBounds_toArray, List.set_cons_zero, List.set_cons_succ]
        refine wpAnyH_take (i := 6) (oi := ?oi6) ?hi6 (by kernel_rfl) (by kernel_rfl) (by kernel_rfl) (fun _ _ _ h => h) (v := ?v6) (Or.inl ⟨?hw6, ?hy6⟩) (by assumption) ?rest6
        case hi6 => repeat (first | exact op_here | refine op_next ?_)
        case hw6 => rfl
        case hy6 => intro w hSw; (try dsimp only at hSw); go_simp; try (with_reducible rfl)
        try simp only [Act.put, List.setIfInBounds_toArray, List.set_cons_zero, List.set_cons_succ]
        refine wpAnyH_take (i := 7) (oi := ?oi7) ?hi7 (by kernel_rfl) (by kernel_rfl) (by kernel_rfl) (fun _ _ _ h => h) (v := ?v7) (Or.inl ⟨?hw7, ?hy7⟩) (by assumption) ?rest7
        case hi7 => repeat (first | exact op_here | refine op_next ?_)
        case hw7 => rfl
        case hy7 => intro w hSw; (try dsimp only at hSw); go_simp; try (with_reducible rfl)
        try simp only [Act.put, List.setIfInBounds_toArray, List.set_cons_zero, List.set_cons_succ]
        refine wpAnyH_take (i := 8) (oi := ?oi8) ?hi8 (by kernel_rfl) (by kernel_rfl) (by kernel_rfl) (fun _ _ _ h => h) (v := ?v8) (Or.inl ⟨?hw8, ?hy8⟩) (by assumption) ?rest8
        case hi8 => repeat (first | exact op_here | refine op_next ?_)
        case hw8 => rfl
        case hy8 => intro w hSw; (try dsimp only at hSw); go_simp; try (with_reducible rfl)
        try simp only [Act.put, List.setIfInBounds_toArray, List.set_cons_zero, List.set_cons_succ]
        refine wpAnyH_take (i := 9) (oi := ?oi9) ?hi9 (by kernel_rfl) (by kernel_rfl) (by kernel_rfl) (fun _ _ _ h => h) (v := ?v9) (Or.inl ⟨?hw9, ?hy9⟩) (by assumption) ?rest9
        case hi9 => repeat (first | exact op_here | refine op_next ?_)
        case hw9 => rfl
        case hy9 => intro w hSw; (try dsimp only at hSw); go_simp; try (with_reducible rfl)
        try simp only [Act.put, List.setIfInBounds_toArray, List.set_cons_zero, List.set_cons_succ]
        refine wpAnyH_take (i := 10) (oi := ?oi10) ?hi10 (by kernel_rfl) (by kernel_rfl) (by kernel_rfl) (fun _ _ _ h => h) (Or.inr ⟨?hw10, rfl⟩) (by assumption) ?rest10
        case hi10 => repeat (first | exact op_here | refine op_next ?_)
        case hw10 => rfl
        try simp only [Act.put, List.setIfInBounds_toArray, List.set_cons_zero, List.set_cons_succ]
        refine wpAnyH_take (i := 11) (oi := ?oi11) ?hi11 (by kernel_rfl) (by kernel_rfl) (by kernel_rfl) (fun _ _ _ h => h) (Or.inr ⟨?hw11, rfl⟩) (by assumption) ?rest11
        case hi11 => repeat (first | exact op_here | refine op_next ?_)
        case hw11 => rfl
        try simp only [Act.put, List.setIfInBounds_toArray, List.set_cons_zero, List.set_cons_succ]
        refine wpAnyH_take (i := 12) (oi := ?oi12) ?hi12 (by kernel_rfl) (by kernel_rfl) (by kernel_rfl) (fun _ _ _ h => h) (Or.inr ⟨?hw12, rfl⟩) (by assumption) ?rest12
        case hi12 => repeat (first | exact op_here | refine op_next ?_)
        case hw12 => rfl
        try simp only [Act.put, List.setIfInBounds_toArray, List.set_cons_zero, List.set_cons_succ]
        refine wpAnyH_take (i := 13) (oi := ?oi13) ?hi13 (by kernel_rfl) (by kernel_rfl) (by kernel_rfl) (fun _ _ _ h => h) (Or.inr ⟨?hw13, rfl⟩) (by assumption) ?rest13
        case hi13 => repeat (first | exact op_here | refine op_next ?_)
        case hw13 => rfl
        try simp only [Act.put, List.setIfInBounds_toArray, List.set_cons_zero, List.set_cons_succ]
        refine wpAnyH_take (i := 14) (oi := ?oi14) ?hi14 (by kernel_rfl) (by kernel_rfl) (by kernel_rfl) (fun _ _ _ h => h) (Or.inr ⟨?hw14, rfl⟩) (by assumption) ?rest14
        case hi14 => repeat (first | exact op_here | refine op_next ?_)
        case hw14 => rfl
        try simp only [Act.put, List.setIfInBounds_toArray, List.set_cons_zero, List.set_cons_succ]
        refine wpAnyH_take (i := 15) (oi := ?oi15) ?hi15 (by kernel_rfl) (by kernel_rfl) (by kernel_rfl) (fun _ _ _ h => h) (Or.inr ⟨?hw15, rfl⟩) (by assumption) ?rest15
        case hi15 => repeat (first | exact op_here | refine op_next ?_)
        case hw15 => rfl
        try simp only [Act.put, List.setIfInBounds_toArray, List.set_cons_zero, List.set_cons_succ]
        refine wpAnyH_take (i := 16) (oi := ?oi16) ?hi16 (by kernel_rfl) (by kernel_rfl) (by kernel_rfl) (fun _ _ _ h => h) (Or.inr ⟨?hw16, rfl⟩) (by assumption) ?rest16
        case hi16 => repeat (first | exact op_here | refine op_next ?_)
        case hw16 => rfl
        try simp only [Act.put, List.setIfInBounds_toArray, List.set_cons_zero, List.set_cons_succ]
        refine wpAnyH_take (i := 17) (oi := ?oi17) ?hi17 (by kernel_rfl) (by kernel_rfl) (by kernel_rfl) (fun _ _ _ h => h) (Or.inr ⟨?hw17, rfl⟩) (by assumption) ?rest17
        case hi17 => repeat (first | exact op_here | refine op_next ?_)
        case hw17 => rfl
        try simp only [Act.put, List.setIfInBounds_toArray, List.set_cons_zero, List.set_cons_succ]
        refine wpAnyH_take (i := 18) (oi := ?oi18) ?hi18 (by kernel_rfl) (by kernel_rfl) (by kernel_rfl) (fun _ _ _ h => h) (Or.inr ⟨?hw18, rfl⟩) (by assumption) ?rest18
        case hi18 => repeat (first | exact op_here | refine op_next ?_)
        case hw18 => rfl
        try simp only [Act.put, List.setIfInBounds_toArray, List.set_cons_zero, List.set_cons_succ]
        refine wpAnyH_take (i := 19) (oi := ?oi19) ?hi19 (by kernel_rfl) (by kernel_rfl) (by kernel_rfl) (fun _ _ _ h => h) (Or.inr ⟨?hw19, rfl⟩) (by assumption) ?rest19
        case hi19 => repeat (first | exact op_here | refine op_next ?_)
        case hw19 => rfl
        try simp only [Act.put, List.setIfInBounds_toArray, List.set_cons_zero, List.set_cons_succ]
        refine wpAnyH_take (i := 20) (oi := ?oi20) ?hi20 (by kernel_rfl) (by kernel_rfl) (by kernel_rfl) (fun _ _ _ h => h) (Or.inr ⟨?hw20, rfl⟩) (by assumption) ?rest20
        case hi20 => repeat (first | exact op_here | refine op_next ?_)
        case hw20 => rfl
        try simp only [Act.put, List.setIfInBounds_toArray, List.set_cons_zero, List.set_cons_succ]
        refine wpAnyH_take (i := 21) (oi := ?oi21) ?hi21 (by kernel_rfl) (by kernel_rfl) (by kernel_rfl) (fun _ _ _ h => h) (v := ?v21) (Or.inl ⟨?hw21, ?hy21⟩) (by assumption) ?rest21
        case hi21 => repeat (first | exact op_here | refine op_next ?_)
        case hw21 => rfl
        case hy21 => intro w hSw; (try dsimp only at hSw); go_simp; try (with_reducible rfl)
        try simp only [Act.put, List.setIfInBounds_toArray, List.set_cons_zero, List.set_cons_succ]
        refine wpAnyH_take (i := 22) (oi := ?oi22) ?hi22 (by kernel_rfl) (by kernel_rfl) (by kernel_rfl) (fun _ _ _ h => h) (v := ?v22) (Or.inl ⟨?hw22, ?hy22⟩) (by assumption) ?rest22
        case hi22 => repeat (first | exact op_here | refine op_next ?_)
        case hw22 => rfl
        case hy22 => intro w hSw; (try dsimp only at hSw); go_simp; try (with_reducible rfl)
        try simp only [Act.put, List.setIfInBounds_toArray, List.set_cons_zero, List.set_cons_succ]
        refine wpAnyH_done (by kernel_rfl) ?_ _
        refine NoPanic.normal ?_
        go_wp2_with fail
        go_roundw
        case measure => simp [intOf]; omega
        case rel => exact ⟨1, by go_num, by omega, Lib.hid (HFIN.out _ (by (repeat (first | exact Below.refl _ _ | (with_reducible refine Below.drew ?_) | (with_reducible refine Below.alloc ?_ (by (try simp); (try omega)) _) | (with_reducible refine Below.setCell ?_ (by (try simp); (try omega)) _) | (with_reducible refine Below.trans ?_ (Below.mono (by assumption) (by (try simp); (try omega))))))))⟩
      · obtain ⟨g, o, hV2, hg2, s0, s1, s2, s3⟩ := (HW.out.below HBY.out) j (by omega)
        rw [HVE.out] at hV2
        simp only [Option.some.injEq, Addr.mk.injEq, and_true] at hV2
        obtain ⟨rfl, rfl⟩ := hV2
        have hbj := hb2.out j hlt
        rw [HXE.out] at hbj
        generalize T.getD j default = y at s0 s1 s2 s3 hbj
        have w1 : IntKind.i64.wrap ((j : Int) + 1 - 1) = (j : Int) := by rw [show (j : Int) + 1 - 1 = j by omega]; exact IntWalk.i64_in _ (by omega)
        have w2 : IntKind.i64.wrap (j : Int) = (j : Int) := IntWalk.i64_in _ (by omega)
        have z0 : (0 : Int) ≤ (j : Int) := by omega
        have z1 : (j : Int) < (T.length : Int) := by omega
        have z2 : j < T.length := by omega
        have HN7 := Lib.hid (HT.out.below HBY.out)
        have hkp : ∀ W, Below Y.heap.size Y W → (W.cell? ⟨bx, 0, none⟩ = some (.int .i64 x.1.1) ∧ W.cell? ⟨bx, 1, none⟩ = some (.int .i64 x.1.2) ∧ W.cell? ⟨bx, 2, none⟩ = some (.int .i64 x.2.1) ∧ W.cell? ⟨bx, 3, none⟩ = some (.int .i64 x.2.2)) ∧ W.cell? ⟨b7, 2, none⟩ = some (.slice (some ⟨g, o, none⟩) T.length c2) ∧ W.cell? ⟨g, o + j * 4, none⟩ = some (.int .i64 y.1.1) ∧ W.cell? ⟨g, o + j * 4 + 1, none⟩ = some (.int .i64 y.1.2) := fun W hb => by
          have h := HWB.out.below hly hb
          exact ⟨h, (HN7.out.below hb).c2, (hb.cell (p := ⟨g, _, none⟩) hg2).trans s0, (hb.cell (p := ⟨g, _, none⟩) hg2).trans s1⟩
        have HKP := Lib.hid hkp
        have S0 := hkp Y (Below.refl _ _)
        clear hkp s0 s1 s2 s3
        obtain ⟨⟨q0, q1, q2, q3⟩, m2, s0, s1⟩ := S0
        go_region_held3 (fun W => (W.cell? ⟨bx, 0, none⟩ = some (.int .i64 x.1.1) ∧ W.cell? ⟨bx, 1, none⟩ = some (.int .i64 x.1.2) ∧ W.cell? ⟨bx, 2, none⟩ = some (.int .i64 x.2.1) ∧ W.cell? ⟨bx, 3, none⟩ = some (.int .i64 x.2.2)) ∧ W.cell? ⟨b7, 2, none⟩ = some (.slice (some ⟨g, o, none⟩) T.length c2) ∧ W.cell? ⟨g, o + j * 4, none⟩ = some (.int .i64 y.1.1) ∧ W.cell? ⟨g, o + j * 4 + 1, none⟩ = some (.int .i64 y.1.2))
          (exact HKP.out _ (by (repeat (first | exact Below.refl _ _ | (with_reducible refine Below.drew ?_) | (with_reducible refine Below.alloc ?_ (by (try simp); (try omega)) _) | (with_reducible refine Below.setCell ?_ (by (try simp); (try omega)) _) | (with_reducible refine Below.trans ?_ (Below.mono (by assumption) (by (try simp); (try omega))))))))
          (first
            | ((with_reducible refine (before03 _ _ _ _ _).mono ?_); rintro e w1 ⟨rfl, hb1⟩; dsimp only
               first | rw [hbk] | rw [hbj]
               have y1 : Y.heap.size ≤ w1.heap.size := by have := hb1.size; (try simp at this); omega))
        all_goals
          go_wp2_with fail
          go_roundw
          case measure => simp [intOf]; omega
          case rel => exact ⟨j + 1 + 1, by go_num, by omega, Lib.hid (HFIN.out _ (by (repeat (first | exact Below.refl _ _ | (with_reducible refine Below.drew ?_) | (with_reducible refine Below.alloc ?_ (by (try simp); (try omega)) _) | (with_reducible refine Below.setCell ?_ (by (try simp); (try omega)) _) | (with_reducible refine Below.trans ?_ (Below.mono (by assumption) (by (try simp); (try omega))))))))⟩
    · have hkl : k = T.length := by omega
      subst hkl
      repeat (first
        | exact hnext.out _ _ ⟨rfl, rfl, rfl, rfl, rfl, rfl, trivial⟩ HB.out
        | go_values | go_skip | go_guarded | go_step | go_upon | go_back)
end
end Go.Proofs.Ytcebejcdfdahjaa
