/-
  The statement NetPlugs: copies, and Plug.
-/
import Derived.Test.YtcebejcdfdahjaaPlugLawB
namespace Go.Proofs.Ytcebejcdfdahjaa
open Go.RowKit
attribute [local go_sem] cell_set
set_option maxRecDepth 100000
set_option linter.unusedVariables false

/-- What came out of Plug: in a box. -/
def OutL (X : World) (C : List Int) (F : Int) (Wo : List (Pt × Pt)) (E : Int) (x6 x7 : Value) (Y : World) : Prop :=
  ∃ b7 V1 c1 V2 c2, x6 = .pointer (some ⟨b7, 0, none⟩) ∧ x7 = .int .i64 E ∧ X.heap.size ≤ b7 ∧ Y.heap[b7]? = some (.cells #[.slice V1 C.length c1, .int .i64 F, .slice V2 Wo.length c2] 26 (0, 0)) ∧ Row Y 3 1 (.slice V1 C.length c1) C.length (ivals C) ∧ Row Y 90 4 (.slice V2 Wo.length c2) Wo.length (wrvals Wo) ∧ Below X.heap.size X Y
theorem OutL.set {X W Y : World} {C : List Int} {F : Int} {Wo : List (Pt × Pt)} {E : Int} {b7 : Nat} {V1 V2 : Option Addr} {c1 c2 : Nat} (hn : NetFresh W Y V1 c1 C V2 c2 Wo) (hb : Below X.heap.size X Y) (hx : X.heap.size ≤ b7) (hw : b7 < W.heap.size) (h7 : Y.heap[b7]? = some (.cells #[.slice none 0 0, .int .i64 0, .slice none 0 0] 26 (0, 0))) :
    OutL X C F Wo E (.pointer (some ⟨b7, 0, none⟩)) (.int .i64 E) (((Y.setCell ⟨b7, 0, none⟩ (.slice V1 C.length c1)).setCell ⟨b7, 1, none⟩ (.int .i64 F)).setCell ⟨b7, 2, none⟩ (.slice V2 Wo.length c2)) := by
  have e : ∀ c, c ≠ b7 → (((Y.setCell ⟨b7, 0, none⟩ (.slice V1 C.length c1)).setCell ⟨b7, 1, none⟩ (.int .i64 F)).setCell ⟨b7, 2, none⟩ (.slice V2 Wo.length c2)).heap[c]? = Y.heap[c]? := fun c hc =>
    (Below.heap_setCell _ _ _ c hc).trans ((Below.heap_setCell _ _ _ c hc).trans (Below.heap_setCell _ _ _ c hc))
  refine ⟨b7, V1, c1, V2, c2, rfl, rfl, hx, ?_, hn.1.1.keep fun c hc => e c (by have := hn.1.2.1 c hc; omega), hn.2.1.keep fun c hc => e c (by have := hn.2.2.1 c hc; omega), ((hb.setCell (p := ⟨b7, 0, none⟩) hx _).setCell (p := ⟨b7, 1, none⟩) hx _).setCell (p := ⟨b7, 2, none⟩) hx _⟩
  simp [World.setCell, Array.getElem?_modify, h7]
theorem OutL.new {X W Y : World} {C : List Int} {F : Int} {Wo : List (Pt × Pt)} {E : Int} {V1 V2 : Option Addr} {c1 c2 : Nat} (hn : NetFresh W Y V1 c1 C V2 c2 Wo) (hb : Below X.heap.size X Y) :
    OutL X C F Wo E (.pointer (some ⟨Y.heap.size, 0, none⟩)) (.int .i64 E) (Y.alloc (.cells #[.slice V1 C.length c1, .int .i64 F, .slice V2 Wo.length c2] 26)) :=
  ⟨_, V1, c1, V2, c2, rfl, rfl, hb.size, heap_alloc_new _ _, hn.1.1.alloc _, hn.2.1.alloc _, hb.alloc hb.size _⟩
section
variable (Q : Exit → Act → World → Prop) (VA VB UA UB V V5 : Option Addr) (ca cb da db nL nJ cJ c5 : Nat) (csA csB : List Int) (fA fB : Int) (WA WB : List (Pt × Pt)) (A : Option Addr) (cap b3 : Nat) (C : List Int) (F : Int) (Wo : List (Pt × Pt)) (E : Int) (P1 : Option Addr → Nat → World → Prop) (P2 P3 : Option Addr → Nat → Option Addr → Nat → World → Prop)
set_option maxHeartbeats 8000000 in
theorem lp_4 (a : Act) (X : World) (htb : TB X b3 VA VB UA UB V csA.length ca WA.length cb csB.length da WB.length db nJ cJ fA fB)
    (HC1 : Hid (∀ W, Below X.heap.size X W → Calls Try.prog 14 #[.slice A nL cap] W fun e w' => ∃ A2 cap2, e = .returned (.slice A2 nL cap2) ∧ (∀ Z, Below w'.heap.size w' Z → P1 A2 cap2 Z) ∧ Below W.heap.size W w'))
    (HC2 : Hid (∀ W, Below X.heap.size X W → Calls Try.prog 15 #[.agg #[.slice VA csA.length ca, .int .i64 fA, .slice VB WA.length cb]] W fun e w' => ∃ V1 c1 V2 c2, e = .returned (.agg #[.slice V1 csA.length c1, .int .i64 fA, .slice V2 WA.length c2]) ∧ (∀ Z, Below w'.heap.size w' Z → P2 V1 c1 V2 c2 Z) ∧ Below W.heap.size W w'))
    (HC3 : Hid (∀ W, Below X.heap.size X W → Calls Try.prog 15 #[.agg #[.slice UA csB.length da, .int .i64 fB, .slice UB WB.length db]] W fun e w' => ∃ V1 c1 V2 c2, e = .returned (.agg #[.slice V1 csB.length c1, .int .i64 fB, .slice V2 WB.length c2]) ∧ (∀ Z, Below w'.heap.size w' Z → P3 V1 c1 V2 c2 Z) ∧ Below W.heap.size W w'))
    (HC4 : Hid (∀ A2 cap2 V1 c1 V2 c2 V3 c3 V4 c4 W, Below X.heap.size X W → P1 A2 cap2 W → P2 V1 c1 V2 c2 W → P3 V3 c3 V4 c4 W → Calls Try.prog 32 #[.slice A2 nL cap2, .agg #[.slice V1 csA.length c1, .int .i64 fA, .slice V2 WA.length c2], .agg #[.slice V3 csB.length c3, .int .i64 fB, .slice V4 WB.length c4], .slice V5 nJ c5] W fun e w' => ∃ V7 c7 V8 c8, e = .returned (.tuple #[.agg #[.slice V7 C.length c7, .int .i64 F, .slice V8 Wo.length c8], .int .i64 E]) ∧ NetFresh W w' V7 c7 C V8 c8 Wo ∧ Below W.heap.size W w'))
    (hnext : Hid (∀ a' X' x6, FrN 148 [] [(0, .slice A nL cap), (3, .pointer (some ⟨b3, 0, none⟩)), (5, .slice V5 nJ c5), (6, x6), (7, .int .i64 E)] a' → OutL X C F Wo E x6 (.int .i64 E) X' → (lpT 5).wp Try.prog Q a' X'))
    (ha : FrN 148 [] [(0, .slice A nL cap), (3, .pointer (some ⟨b3, 0, none⟩)), (5, .slice V5 nJ c5)] a) : (lpT 4).wp Try.prog Q a X := by
  obtain ⟨U, rfl, e0, e3, e5, -⟩ := ha.open148
  have hkp : ∀ W, Below X.heap.size X W → (W.cell? ⟨b3, 0, none⟩ = some (.slice VA csA.length ca) ∧ W.cell? ⟨b3, 1, none⟩ = some (.int .i64 fA) ∧ W.cell? ⟨b3, 2, none⟩ = some (.slice VB WA.length cb)) ∧ W.cell? ⟨b3, 3, none⟩ = some (.slice UA csB.length da) ∧ W.cell? ⟨b3, 4, none⟩ = some (.int .i64 fB) ∧ W.cell? ⟨b3, 5, none⟩ = some (.slice UB WB.length db) := fun W hb => by
    have h := htb.below hb
    exact ⟨⟨h.c0, h.c1, h.c2⟩, h.c3, h.c4, h.c5⟩
  have HKP := Lib.hid hkp
  have S0 := hkp X (Below.refl _ _)
  have hlt := htb.lt
  unfold FrLL
  simp only [e0, e3, e5]
  clear e0 e3 e5 ha hkp htb
  show (Code.seq _ _).wp _ _ _ _
  go_upto_region 4 with fail
  go_cut [6, 7] from 31 to 147 (fun u v wx => OutL X C F Wo E u v wx)
  case first =>
    obtain ⟨⟨a0, a1, a2⟩, b0, b1, b2⟩ := S0
    go_region_held3 (fun W => (W.cell? ⟨b3, 0, none⟩ = some (.slice VA csA.length ca) ∧ W.cell? ⟨b3, 1, none⟩ = some (.int .i64 fA) ∧ W.cell? ⟨b3, 2, none⟩ = some (.slice VB WA.length cb)) ∧ W.cell? ⟨b3, 3, none⟩ = some (.slice UA csB.length da) ∧ W.cell? ⟨b3, 4, none⟩ = some (.int .i64 fB) ∧ W.cell? ⟨b3, 5, none⟩ = some (.slice UB WB.length db))
      (exact HKP.out _ (by (repeat (first | exact Below.refl _ _ | (with_reducible refine Below.drew ?_) | (with_reducible refine Below.alloc ?_ (by (try simp); (try omega)) _) | (with_reducible refine Below.setCell ?_ (by (try simp); (try omega)) _) | (with_reducible refine Below.trans ?_ (Below.mono (by assumption) (by (try simp); (try omega))))))))
      (first
        | ((with_reducible refine (HC1.out _ (by (repeat (first | exact Below.refl _ _ | (with_reducible refine Below.drew ?_) | (with_reducible refine Below.alloc ?_ (by (try simp); (try omega)) _) | (with_reducible refine Below.setCell ?_ (by (try simp); (try omega)) _) | (with_reducible refine Below.trans ?_ (Below.mono (by assumption) (by (try simp); (try omega)))))))).mono ?_); rintro e w1 ⟨A2, cap2, rfl, hA2, hb1⟩; dsimp only
           have HA2 := Lib.hid hA2
           clear hA2
           obtain ⟨hc1, hf1⟩ := bcell hb1
           have hz1 := hb1.size
           try simp at hz1
           have q0 : X.heap.size ≤ w1.heap.size := by omega
           try have q1 : X.heap.size < w1.heap.size := by omega)
        | ((with_reducible refine (HC2.out _ (by (repeat (first | exact Below.refl _ _ | (with_reducible refine Below.drew ?_) | (with_reducible refine Below.alloc ?_ (by (try simp); (try omega)) _) | (with_reducible refine Below.setCell ?_ (by (try simp); (try omega)) _) | (with_reducible refine Below.trans ?_ (Below.mono (by assumption) (by (try simp); (try omega)))))))).mono ?_); rintro e w2 ⟨V1, c1, V2, c2, rfl, hA3, hb2⟩; dsimp only
           have HA3 := Lib.hid hA3
           clear hA3
           obtain ⟨hc2, hf2⟩ := bcell hb2
           have hz2 := hb2.size
           try simp at hz2
           have r0 : w1.heap.size ≤ w2.heap.size := by omega
           try have r1 : X.heap.size < w2.heap.size := by omega
           try have r2 : w1.heap.size < w2.heap.size := by omega)
        | ((with_reducible refine (HC3.out _ (by (repeat (first | exact Below.refl _ _ | (with_reducible refine Below.drew ?_) | (with_reducible refine Below.alloc ?_ (by (try simp); (try omega)) _) | (with_reducible refine Below.setCell ?_ (by (try simp); (try omega)) _) | (with_reducible refine Below.trans ?_ (Below.mono (by assumption) (by (try simp); (try omega)))))))).mono ?_); rintro e w3 ⟨V3, c3, V4, c4, rfl, hA4, hb3⟩; dsimp only
           have HA4 := Lib.hid hA4
           clear hA4
           obtain ⟨hc3, hf3⟩ := bcell hb3
           have hz3 := hb3.size
           try simp at hz3
           have t0 : w2.heap.size ≤ w3.heap.size := by omega
           try have t1 : X.heap.size < w3.heap.size := by omega
           try have t2 : w1.heap.size < w3.heap.size := by omega
           try have t3 : w2.heap.size < w3.heap.size := by omega)
        | ((with_reducible refine (HC4.out A2 cap2 V1 c1 V2 c2 V3 c3 V4 c4 _ (by (repeat (first | exact Below.refl _ _ | (with_reducible refine Below.drew ?_) | (with_reducible refine Below.alloc ?_ (by (try simp); (try omega)) _) | (with_reducible refine Below.setCell ?_ (by (try simp); (try omega)) _) | (with_reducible refine Below.trans ?_ (Below.mono (by assumption) (by (try simp); (try omega))))))) (HA2.out _ (by (repeat (first | exact Below.refl _ _ | (with_reducible refine Below.drew ?_) | (with_reducible refine Below.alloc ?_ (by (try simp); (try omega)) _) | (with_reducible refine Below.setCell ?_ (by (try simp); (try omega)) _) | (with_reducible refine Below.trans ?_ (Below.mono (by assumption) (by (try simp); (try omega)))))))) (HA3.out _ (by (repeat (first | exact Below.refl _ _ | (with_reducible refine Below.drew ?_) | (with_reducible refine Below.alloc ?_ (by (try simp); (try omega)) _) | (with_reducible refine Below.setCell ?_ (by (try simp); (try omega)) _) | (with_reducible refine Below.trans ?_ (Below.mono (by assumption) (by (try simp); (try omega)))))))) (HA4.out _ (by (repeat (first | exact Below.refl _ _ | (with_reducible refine Below.drew ?_) | (with_reducible refine Below.alloc ?_ (by (try simp); (try omega)) _) | (with_reducible refine Below.setCell ?_ (by (try simp); (try omega)) _) | (with_reducible refine Below.trans ?_ (Below.mono (by assumption) (by (try simp); (try omega))))))))).mono ?_); rintro e w4 ⟨V7, c7, V8, c8, rfl, hnf, hb4⟩; dsimp only
           have HNF := Lib.hid hnf
           clear hnf
           obtain ⟨hc4, hf4⟩ := bcell hb4
           have hz4 := hb4.size
           try simp at hz4
           try have s1 : X.heap.size < w4.heap.size := by omega
           try have s2 : w1.heap.size < w4.heap.size := by omega
           try have s3 : w2.heap.size < w4.heap.size := by omega
           try have s4 : w3.heap.size < w4.heap.size := by omega))
    all_goals
      go_wp2_with fail
      go_meet
      case rel =>
        first
        | exact OutL.new HNF.out (by (repeat (first | exact Below.refl _ _ | (with_reducible refine Below.drew ?_) | (with_reducible refine Below.alloc ?_ (by (try simp); (try omega)) _) | (with_reducible refine Below.setCell ?_ (by (try simp); (try omega)) _) | (with_reducible refine Below.trans ?_ (Below.mono (by assumption) (by (try simp); (try omega)))))))
        | (refine OutL.set HNF.out ?_ ?_ ?_ ?_
           · (repeat (first | exact Below.refl _ _ | (with_reducible refine Below.drew ?_) | (with_reducible refine Below.alloc ?_ (by (try simp); (try omega)) _) | (with_reducible refine Below.setCell ?_ (by (try simp); (try omega)) _) | (with_reducible refine Below.trans ?_ (Below.mono (by assumption) (by (try simp); (try omega))))))
           · (try simp) <;> omega
           · (try simp) <;> omega
           · repeat (first
               | exact heap_alloc_new _ _
               | (with_reducible refine (hb1.block _ (by first | omega | (simp; done) | (simp; omega))).trans ?_)
               | (with_reducible refine (hb2.block _ (by first | omega | (simp; done) | (simp; omega))).trans ?_)
               | (with_reducible refine (hb3.block _ (by first | omega | (simp; done) | (simp; omega))).trans ?_)
               | (with_reducible refine (hb4.block _ (by first | omega | (simp; done) | (simp; omega))).trans ?_)
               | (with_reducible refine (Below.heap_alloc _ _ _ (by first | omega | (simp; done) | (simp; omega))).trans ?_)))
  case rest =>
    have HO := Lib.hid hcut
    obtain ⟨b7, W1, d1, W2, d2, rfl, rfl, _⟩ := hcut
    clear S0
    repeat (first
      | exact hnext.out _ _ _ ⟨rfl, rfl, rfl, rfl, rfl, rfl, rfl, trivial⟩ HO.out
      | go_values | go_skip | go_guarded | go_step | go_upon | go_back)
end
end Go.Proofs.Ytcebejcdfdahjaa
