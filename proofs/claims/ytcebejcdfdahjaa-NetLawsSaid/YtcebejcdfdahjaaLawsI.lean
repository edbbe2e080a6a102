/-
  The statement NetLaws: plugged with lines; the end.
-/
import Derived.Test.YtcebejcdfdahjaaLawsB
namespace Go.Proofs.Ytcebejcdfdahjaa
open Go.RowKit
attribute [local go_sem] cell_set
set_option maxRecDepth 100000
set_option linter.unusedVariables false

section
variable (Q : Exit → Act → World → Prop) (v0 : Value) (b : Nat) (VA VB VX VY V1 V2 V5 V6 V7 V8 VJ : Option Addr) (nc ca nw cb nx cx ny cy n1 c1 n2 c2 b7 n7 c5 n8 c6 b22 b25 b26 c7 c8 f cJ : Nat) (F F7 : Int) (PS PL : Option Addr → Nat → Option Addr → Nat → World → Prop)
set_option maxHeartbeats 4000000 in
theorem nl_41 (a : Act) (X : World) (hf : f ≤ 32) (htb : LB X b VA nc ca (f : Int) VB nw cb VX nx cx VY ny cy) (ht7 : NBx X b7 V1 n1 c1 F V2 n2 c2) (ht22 : NBx X b22 V5 n7 c5 F7 V6 n8 c6)
    (HP : Hid (∀ Z, Below X.heap.size X Z → Calls Try.prog 32 #[v0, .agg #[.slice V1 n1 c1, .int .i64 F, .slice V2 n2 c2], .agg #[.slice V5 n7 c5, .int .i64 F7, .slice V6 n8 c6], .slice VJ f cJ] Z fun e w' => ∃ V7 c7 V8 c8, e = .returned (.tuple #[.agg #[.slice V7 n1 c7, .int .i64 F, .slice V8 n2 c8], .int .i64 0]) ∧ (∀ Z', Below w'.heap.size w' Z' → PS V7 c7 V8 c8 Z') ∧ Below Z.heap.size Z w'))
    (HW : Hid (∀ Z, Calls Try.prog 58 #[.int .i64 (-1 - (f : Int))] Z fun e w' => e = .returned (.agg #[.slice none 0 0, .int .i64 0, .slice none 0 0]) ∧ Below Z.heap.size Z w'))
    (hnext : Hid (∀ a' X' V7 c7 V8 c8 b25 b26, FrN 286 [] [(4, .pointer (some ⟨b, 0, none⟩)), (7, .pointer (some ⟨b7, 0, none⟩)), (8, .int .i64 0), (22, .pointer (some ⟨b22, 0, none⟩)), (25, .pointer (some ⟨b25, 0, none⟩)), (26, .pointer (some ⟨b26, 0, none⟩))] a' → Below X.heap.size X X' → NBx X' b25 V7 n1 c7 F V8 n2 c8 → NBx X' b26 none 0 0 0 none 0 0 → (∀ Z', Below X'.heap.size X' Z' → PS V7 c7 V8 c8 Z') → (nlT 43).wp Try.prog Q a' X'))
    (ha : FrN 286 [] [(0, v0), (4, .pointer (some ⟨b, 0, none⟩)), (7, .pointer (some ⟨b7, 0, none⟩)), (22, .pointer (some ⟨b22, 0, none⟩)), (23, .slice VJ f cJ)] a) : (nlT 41).wp Try.prog Q a X := by
  obtain ⟨U, rfl, e0, e4, e7, e22, e23, -⟩ := ha.open286
  have HT := Lib.hid htb
  obtain ⟨m0, m1, m2, mlt⟩ := ht7
  obtain ⟨k0, k1, k2, klt⟩ := ht22
  have HX0 := Lib.hid (Below.refl X.heap.size X)
  have ew : IntKind.i64.wrap (-1 - (f : Int)) = -1 - (f : Int) := IntWalk.i64_in _ (by omega)
  unfold FrNL
  simp only [e0, e4, e7, e22, e23]
  clear e0 e4 e7 e22 e23 ha htb
  show (Code.seq _ _).wp _ _ _ _
  go_wp2_with fail
  refine (HP.out _ HX0.out).mono ?_
  rintro e w1 ⟨V7, k7, V8, k8, rfl, hp, hb1⟩
  have HB1 := Lib.hid hb1
  have HPS := Lib.hid hp
  clear hb1 hp m0 m1 m2 mlt k0 k1 k2 klt
  go_upto_region 42 with fail
  refine absW (fun X' => Below X.heap.size X X' ∧ (∀ Z, Below X'.heap.size X' Z → PS V7 k7 V8 k8 Z) ∧ NBx X' w1.heap.size V7 n1 k7 F V8 n2 k8 ∧ LB X' b VA nc ca (f : Int) VB nw cb VX nx cx VY ny cy) ⟨HB1.out.alloc HB1.out.size _, fun Z hZ => HPS.out Z (((Below.refl _ _).alloc (Nat.le_refl _) _).trans (hZ.mono (by simp))), ⟨by go_simp, by go_simp, by go_simp, by simp⟩, HT.out.below (HB1.out.alloc HB1.out.size _)⟩ ?_
  rintro X2 ⟨hb2, hp2, h9, htb⟩
  have HP2 := Lib.hid hp2
  have HB2 := Lib.hid hb2
  have HN9 := Lib.hid h9
  generalize w1.heap.size = b25 at HN9 h9 ⊢
  obtain ⟨c0, c1, c2, d0, d1, clt⟩ := htb
  have clt0 : b < X2.heap.size := by omega
  clear hb2 hp2 h9
  go_wp2_with fail
  refine (HW.out _).mono ?_
  rintro e w2 ⟨rfl, hb3⟩
  have HB3 := Lib.hid hb3
  have HB4 := Lib.hid (HB2.out.trans (hb3.mono HB2.out.size))
  clear hb3 c0 c1 c2 d0 d1 clt clt0
  simp only []
  go_at_K
  repeat (first
    | exact hnext.out _ _ V7 k7 V8 k8 _ _ ⟨rfl, rfl, rfl, rfl, rfl, rfl, rfl, rfl, trivial⟩ (HB4.out.alloc HB4.out.size _) (HN9.out.below (HB3.out.alloc HB3.out.size _)) ⟨by go_simp, by go_simp, by go_simp, by simp⟩ (fun Z' hZ => HP2.out Z' ((HB3.out.alloc HB3.out.size _).trans (hZ.mono (Nat.le_trans HB3.out.size (by simp)))))
    | go_values | go_skip | go_guarded | go_step | go_upon | go_back)
set_option maxHeartbeats 4000000 in
theorem nl_43 (a : Act) (X : World) (htb : LB X b VA nc ca (f : Int) VB nw cb VX nx cx VY ny cy) (ht7 : NBx X b7 V1 n1 c1 F V2 n2 c2) (ht22 : NBx X b22 V5 n7 c5 F7 V6 n8 c6) (ht25 : NBx X b25 V7 n1 c7 F V8 n2 c8) (ht26 : NBx X b26 none 0 0 0 none 0 0)
    (HE1 : Hid (∀ Z, Below X.heap.size X Z → Calls Try.prog 19 #[.agg #[.slice V7 n1 c7, .int .i64 F, .slice V8 n2 c8], .agg #[.slice V1 n1 c1, .int .i64 F, .slice V2 n2 c2]] Z fun e w' => e = .returned (.bool true) ∧ Below Z.heap.size Z w'))
    (HL : Hid (∀ Z, Below X.heap.size X Z → Calls Try.prog 59 #[.int .i64 (f : Int)] Z fun e w' => ∃ V9 c9 V10 c10, e = .returned (.agg #[.slice V9 n7 c9, .int .i64 F7, .slice V10 n8 c10]) ∧ (∀ Z', Below w'.heap.size w' Z' → PL V9 c9 V10 c10 Z') ∧ Below Z.heap.size Z w'))
    (HE2 : Hid (∀ V9 c9 V10 c10 Z, Below X.heap.size X Z → PL V9 c9 V10 c10 Z → Calls Try.prog 19 #[.agg #[.slice V5 n7 c5, .int .i64 F7, .slice V6 n8 c6], .agg #[.slice V9 n7 c9, .int .i64 F7, .slice V10 n8 c10]] Z fun e w' => e = .returned (.bool true) ∧ Below Z.heap.size Z w'))
    (HE0 : Hid (∀ Z, Calls Try.prog 19 #[.agg #[.slice none 0 0, .int .i64 0, .slice none 0 0], .agg #[.slice none 0 0, .int .i64 0, .slice none 0 0]] Z fun e w' => e = .returned (.bool true) ∧ Below Z.heap.size Z w'))
    (HW : Hid (∀ Z, Calls Try.prog 58 #[.int .i64 33] Z fun e w' => e = .returned (.agg #[.slice none 0 0, .int .i64 0, .slice none 0 0]) ∧ Below Z.heap.size Z w'))
    (hret : Hid (∀ a' X', FrN 286 [] [(6, .bool true)] a' → Below X.heap.size X X' → Q .ret a' X'))
    (ha : FrN 286 [] [(4, .pointer (some ⟨b, 0, none⟩)), (7, .pointer (some ⟨b7, 0, none⟩)), (8, .int .i64 0), (22, .pointer (some ⟨b22, 0, none⟩)), (25, .pointer (some ⟨b25, 0, none⟩)), (26, .pointer (some ⟨b26, 0, none⟩))] a) : (nlT 43).wp Try.prog Q a X := by
  obtain ⟨U, rfl, e4, e7, e8, e22, e25, e26, -⟩ := ha.open286
  have hkp : ∀ W, Below X.heap.size X W → ((W.cell? ⟨b25, 0, none⟩ = some (.slice V7 n1 c7) ∧ W.cell? ⟨b25, 1, none⟩ = some (.int .i64 F) ∧ W.cell? ⟨b25, 2, none⟩ = some (.slice V8 n2 c8)) ∧ W.cell? ⟨b7, 0, none⟩ = some (.slice V1 n1 c1) ∧ W.cell? ⟨b7, 1, none⟩ = some (.int .i64 F) ∧ W.cell? ⟨b7, 2, none⟩ = some (.slice V2 n2 c2)) ∧ (W.cell? ⟨b22, 0, none⟩ = some (.slice V5 n7 c5) ∧ W.cell? ⟨b22, 1, none⟩ = some (.int .i64 F7) ∧ W.cell? ⟨b22, 2, none⟩ = some (.slice V6 n8 c6)) ∧ (W.cell? ⟨b26, 0, none⟩ = some (.slice none 0 0) ∧ W.cell? ⟨b26, 1, none⟩ = some (.int .i64 0) ∧ W.cell? ⟨b26, 2, none⟩ = some (.slice none 0 0)) ∧ W.cell? ⟨b, 1, none⟩ = some (.int .i64 (f : Int)) := fun W hb => by
    have h := htb.below hb
    have h7 := ht7.below hb
    have h22 := ht22.below hb
    have h25 := ht25.below hb
    have h26 := ht26.below hb
    exact ⟨⟨⟨h25.c0, h25.c1, h25.c2⟩, h7.c0, h7.c1, h7.c2⟩, ⟨h22.c0, h22.c1, h22.c2⟩, ⟨h26.c0, h26.c1, h26.c2⟩, h.c1⟩
  have HKP := Lib.hid hkp
  have S0 := hkp X (Below.refl _ _)
  unfold FrNL
  simp only [e4, e7, e8, e22, e25, e26]
  clear e4 e7 e8 e22 e25 e26 ha hkp htb ht7 ht22 ht25 ht26
  show (Code.seq _ _).wp _ _ _ _
  go_upto_region 43 with fail
  obtain ⟨⟨⟨m0, m1, m2⟩, a0, a1, a2⟩, ⟨b0, b1, b2⟩, ⟨k0, k1, k2⟩, q1⟩ := S0
  go_region_held3 (fun W => ((W.cell? ⟨b25, 0, none⟩ = some (.slice V7 n1 c7) ∧ W.cell? ⟨b25, 1, none⟩ = some (.int .i64 F) ∧ W.cell? ⟨b25, 2, none⟩ = some (.slice V8 n2 c8)) ∧ W.cell? ⟨b7, 0, none⟩ = some (.slice V1 n1 c1) ∧ W.cell? ⟨b7, 1, none⟩ = some (.int .i64 F) ∧ W.cell? ⟨b7, 2, none⟩ = some (.slice V2 n2 c2)) ∧ (W.cell? ⟨b22, 0, none⟩ = some (.slice V5 n7 c5) ∧ W.cell? ⟨b22, 1, none⟩ = some (.int .i64 F7) ∧ W.cell? ⟨b22, 2, none⟩ = some (.slice V6 n8 c6)) ∧ (W.cell? ⟨b26, 0, none⟩ = some (.slice none 0 0) ∧ W.cell? ⟨b26, 1, none⟩ = some (.int .i64 0) ∧ W.cell? ⟨b26, 2, none⟩ = some (.slice none 0 0)) ∧ W.cell? ⟨b, 1, none⟩ = some (.int .i64 (f : Int)))
    (exact HKP.out _ (by (repeat (first | exact Below.refl _ _ | (with_reducible refine Below.drew ?_) | (with_reducible refine Below.alloc ?_ (by (try simp); (try omega)) _) | (with_reducible refine Below.setCell ?_ (by (try simp); (try omega)) _) | (with_reducible refine Below.trans ?_ (Below.mono (by assumption) (by (try simp); (try omega))))))))
    (first
      | ((with_reducible refine (HL.out _ (by (repeat (first | exact Below.refl _ _ | (with_reducible refine Below.drew ?_) | (with_reducible refine Below.alloc ?_ (by (try simp); (try omega)) _) | (with_reducible refine Below.setCell ?_ (by (try simp); (try omega)) _) | (with_reducible refine Below.trans ?_ (Below.mono (by assumption) (by (try simp); (try omega)))))))).mono ?_); rintro e w1 ⟨V9, c9, V10, c10, rfl, hpl, hb1⟩; dsimp only
         have r1 : X.heap.size ≤ w1.heap.size := by have := hb1.size; (try simp at this); omega
         have HPL := Lib.hid hpl
         clear hpl)
      | ((with_reducible refine (HE2.out V9 c9 V10 c10 _ (by (repeat (first | exact Below.refl _ _ | (with_reducible refine Below.drew ?_) | (with_reducible refine Below.alloc ?_ (by (try simp); (try omega)) _) | (with_reducible refine Below.setCell ?_ (by (try simp); (try omega)) _) | (with_reducible refine Below.trans ?_ (Below.mono (by assumption) (by (try simp); (try omega))))))) (HPL.out _ (by (repeat (first | exact Below.refl _ _ | (with_reducible refine Below.drew ?_) | (with_reducible refine Below.alloc ?_ (by (try simp); (try omega)) _) | (with_reducible refine Below.setCell ?_ (by (try simp); (try omega)) _) | (with_reducible refine Below.trans ?_ (Below.mono (by assumption) (by (try simp); (try omega))))))))).mono ?_); rintro e w2 ⟨rfl, hb2⟩; dsimp only
         have r2 : X.heap.size ≤ w2.heap.size := by have := hb2.size; (try simp at this); omega)
      | ((with_reducible refine (HE1.out _ (by (repeat (first | exact Below.refl _ _ | (with_reducible refine Below.drew ?_) | (with_reducible refine Below.alloc ?_ (by (try simp); (try omega)) _) | (with_reducible refine Below.setCell ?_ (by (try simp); (try omega)) _) | (with_reducible refine Below.trans ?_ (Below.mono (by assumption) (by (try simp); (try omega)))))))).mono ?_); rintro e w3 ⟨rfl, hb3⟩; dsimp only
         have r3 : X.heap.size ≤ w3.heap.size := by have := hb3.size; (try simp at this); omega)
      | ((with_reducible refine (HW.out _).mono ?_); rintro e w4 ⟨rfl, hb4⟩; dsimp only
         have r4 : X.heap.size ≤ w4.heap.size := by have := hb4.size; (try simp at this); omega)
      | ((with_reducible refine (works03 _).mono ?_); rintro e w5 ⟨rfl, hb5⟩; dsimp only
         have r5 : X.heap.size ≤ w5.heap.size := by have := hb5.size; (try simp at this); omega)
      | ((with_reducible refine (HE0.out _).mono ?_); rintro e w6 ⟨rfl, hb6⟩; dsimp only
         have r6 : X.heap.size ≤ w6.heap.size := by have := hb6.size; (try simp at this); omega))
  all_goals
    go_wp2_with fail
    exact hret.out _ _ ⟨rfl, rfl, rfl, trivial⟩ (by (repeat (first | exact Below.refl _ _ | (with_reducible refine Below.drew ?_) | (with_reducible refine Below.alloc ?_ (by (try simp); (try omega)) _) | (with_reducible refine Below.setCell ?_ (by (try simp); (try omega)) _) | (with_reducible refine Below.trans ?_ (Below.mono (by assumption) (by (try simp); (try omega)))))))
end
end Go.Proofs.Ytcebejcdfdahjaa
