/-
  Contracts of rule.Tidy, skeinref15.Neat, and of skeinref00's CopyNet, CopyRule, EqRule.
-/
import Derived.Test.YtcebejcdfdahjaaRuleChk
import Derived.Test.YtcebejcdfdahjaaRulePlain
import Derived.Deep.RegionHeld3
namespace Go.Proofs.Ytcebejcdfdahjaa
open Go.RowKit
attribute [local go_sem] cell_set
set_option maxRecDepth 100000
set_option linter.unusedVariables false

/-- An empty rule in a box, and free to be written. -/
def RZ (b : Nat) (X : World) : Prop := X.heap[b]? = some (.cells #[.int .i64 0, .int .i64 0, .slice none 0 0, .int .i64 0, .slice none 0 0] 44 (0, 0))
theorem RZ.below {b : Nat} {X X' : World} (h : RZ b X) (hb : Below X.heap.size X X') : RZ b X' := (hb.block _ (heap_lt h)).trans h
theorem RZ.new (X : World) : RZ X.heap.size (X.alloc (.cells #[.int .i64 0, .int .i64 0, .slice none 0 0, .int .i64 0, .slice none 0 0] 44)) := heap_alloc_new _ _
theorem RZ.lt {b : Nat} {X : World} (h : RZ b X) : b < X.heap.size := heap_lt h
theorem RZ.all {b : Nat} {X : World} (h : RZ b X) : X.cell? ⟨b, 0, none⟩ = some (.int .i64 0) ∧ X.cell? ⟨b, 1, none⟩ = some (.int .i64 0) ∧ X.cell? ⟨b, 2, none⟩ = some (.slice none 0 0) ∧ X.cell? ⟨b, 3, none⟩ = some (.int .i64 0) ∧ X.cell? ⟨b, 4, none⟩ = some (.slice none 0 0) ∧
    X.frozen? ⟨b, 0, none⟩ = false ∧ X.frozen? ⟨b, 1, none⟩ = false ∧ X.frozen? ⟨b, 2, none⟩ = false ∧ X.frozen? ⟨b, 3, none⟩ = false ∧ X.frozen? ⟨b, 4, none⟩ = false := by
  have h' : X.heap[b]? = _ := h
  simp [World.cell?, World.frozen?, h']
theorem NetFresh.from {w0 w w' : World} {V1 V2 : Option Addr} {c1 c2 : Nat} {cells : List Int} {W : List (Pt × Pt)} (h : NetFresh w w' V1 c1 cells V2 c2 W) (h0 : Below w0.heap.size w0 w) : NetFresh w0 w' V1 c1 cells V2 c2 W := ⟨h.1.from h0, h.2.from h0⟩
/-- Five cells written into a box that was there before the net. -/
theorem set5 (w : World) {c b : Nat} (h : c ≠ b) (u0 u1 u2 u3 u4 : Value) : (((((w.setCell ⟨b, 0, none⟩ u0).setCell ⟨b, 1, none⟩ u1).setCell ⟨b, 2, none⟩ u2).setCell ⟨b, 3, none⟩ u3).setCell ⟨b, 4, none⟩ u4).heap[c]? = w.heap[c]? :=
  (Below.heap_setCell _ _ _ c h).trans ((Below.heap_setCell _ _ _ c h).trans ((Below.heap_setCell _ _ _ c h).trans ((Below.heap_setCell _ _ _ c h).trans (Below.heap_setCell _ _ _ c h))))
theorem keep5s {w : World} {b b' : Nat} {x y z u v u0 u1 u2 u3 u4 : Value} (hc : w.cell? ⟨b, 0, none⟩ = some x ∧ w.cell? ⟨b, 1, none⟩ = some y ∧ w.cell? ⟨b, 2, none⟩ = some z ∧ w.cell? ⟨b, 3, none⟩ = some u ∧ w.cell? ⟨b, 4, none⟩ = some v) (hne : b ≠ b') :
    (((((w.setCell ⟨b', 0, none⟩ u0).setCell ⟨b', 1, none⟩ u1).setCell ⟨b', 2, none⟩ u2).setCell ⟨b', 3, none⟩ u3).setCell ⟨b', 4, none⟩ u4).cell? ⟨b, 0, none⟩ = some x ∧ (((((w.setCell ⟨b', 0, none⟩ u0).setCell ⟨b', 1, none⟩ u1).setCell ⟨b', 2, none⟩ u2).setCell ⟨b', 3, none⟩ u3).setCell ⟨b', 4, none⟩ u4).cell? ⟨b, 1, none⟩ = some y ∧ (((((w.setCell ⟨b', 0, none⟩ u0).setCell ⟨b', 1, none⟩ u1).setCell ⟨b', 2, none⟩ u2).setCell ⟨b', 3, none⟩ u3).setCell ⟨b', 4, none⟩ u4).cell? ⟨b, 2, none⟩ = some z ∧ (((((w.setCell ⟨b', 0, none⟩ u0).setCell ⟨b', 1, none⟩ u1).setCell ⟨b', 2, none⟩ u2).setCell ⟨b', 3, none⟩ u3).setCell ⟨b', 4, none⟩ u4).cell? ⟨b, 3, none⟩ = some u ∧ (((((w.setCell ⟨b', 0, none⟩ u0).setCell ⟨b', 1, none⟩ u1).setCell ⟨b', 2, none⟩ u2).setCell ⟨b', 3, none⟩ u3).setCell ⟨b', 4, none⟩ u4).cell? ⟨b, 4, none⟩ = some v := by
  have e : (((((w.setCell ⟨b', 0, none⟩ u0).setCell ⟨b', 1, none⟩ u1).setCell ⟨b', 2, none⟩ u2).setCell ⟨b', 3, none⟩ u3).setCell ⟨b', 4, none⟩ u4).heap[b]? = w.heap[b]? := Go.Proofs.Ytcebejcdfdahjaa.set5 w hne u0 u1 u2 u3 u4
  generalize (((((w.setCell ⟨b', 0, none⟩ u0).setCell ⟨b', 1, none⟩ u1).setCell ⟨b', 2, none⟩ u2).setCell ⟨b', 3, none⟩ u3).setCell ⟨b', 4, none⟩ u4) = X at e ⊢
  exact ⟨(World.cell?_of_block e).trans hc.1, (World.cell?_of_block e).trans hc.2.1, (World.cell?_of_block e).trans hc.2.2.1, (World.cell?_of_block e).trans hc.2.2.2.1, (World.cell?_of_block e).trans hc.2.2.2.2⟩
theorem NetFresh.set5 {w0 w w' : World} {V1 V2 : Option Addr} {c1 c2 : Nat} {cells : List Int} {W : List (Pt × Pt)} (h : NetFresh w w' V1 c1 cells V2 c2 W) (h0 : Below w0.heap.size w0 w) {b : Nat} (hb : w0.heap.size ≤ b) (hb2 : b < w.heap.size) (u0 u1 u2 u3 u4 : Value) :
    NetFresh w0 (((((w'.setCell ⟨b, 0, none⟩ u0).setCell ⟨b, 1, none⟩ u1).setCell ⟨b, 2, none⟩ u2).setCell ⟨b, 3, none⟩ u3).setCell ⟨b, 4, none⟩ u4) V1 c1 cells V2 c2 W :=
  h.mv h0 (fun c hc _ => Go.Proofs.Ytcebejcdfdahjaa.set5 w' (by omega) _ _ _ _ _)
    ((((((h0.trans (h.1.2.2.mono h0.size)).setCell (p := ⟨b, 0, none⟩) hb _).setCell (p := ⟨b, 1, none⟩) hb _).setCell (p := ⟨b, 2, none⟩) hb _).setCell (p := ⟨b, 3, none⟩) hb _).setCell (p := ⟨b, 4, none⟩) hb _)
theorem NetFresh.alloc {w w' : World} {V1 V2 : Option Addr} {c1 c2 : Nat} {cells : List Int} {W : List (Pt × Pt)} (h : NetFresh w w' V1 c1 cells V2 c2 W) (o : Obj) : NetFresh w (w'.alloc o) V1 c1 cells V2 c2 W :=
  ⟨h.1.later ((Below.refl _ _).alloc (Nat.le_refl _) _), h.2.later ((Below.refl _ _).alloc (Nat.le_refl _) _)⟩
theorem NetFresh.drew {w w' : World} {V1 V2 : Option Addr} {c1 c2 : Nat} {cells : List Int} {W : List (Pt × Pt)} (h : NetFresh w w' V1 c1 cells V2 c2 W) : NetFresh w w'.drew V1 c1 cells V2 c2 W :=
  ⟨h.1.later (Below.refl _ _).drew, h.2.later (Below.refl _ _).drew⟩
theorem NetFresh.later {w w' w'' : World} {V1 V2 : Option Addr} {c1 c2 : Nat} {cells : List Int} {W : List (Pt × Pt)} (h : NetFresh w w' V1 c1 cells V2 c2 W) (hb : Below w'.heap.size w' w'') : NetFresh w w'' V1 c1 cells V2 c2 W := ⟨h.1.later hb, h.2.later hb⟩
section
variable (A : Option Addr) (n cap : Nat) (L : List (ByteArray × Int)) (a b : Int) (VA VB : Option Addr) (ca cb : Nat) (cells : List Int) (free : Int) (W : List (Pt × Pt)) (w : World)
set_option maxHeartbeats 1000000 in
theorem rule_tidy_bad (hn : n = L.length) (hcap : L.length ≤ cap) (HL : Hid (AgRd w A L)) (hl : L.length ≤ maxLen) (HC : Hid (IntsRd w VA cells)) (HW : Hid (WrRd w VB W)) (hc : cells.length ≤ 10000) (hw : W.length ≤ 40000)
    (hk : (ruleChk L a b cells free W).1 ≠ 0) :
    Calls Try.prog 51 #[.slice A n cap, ruleV a b VA ca cells free VB cb W] w fun e w' => e = .returned (.tuple #[ruleV 0 0 none 0 [] 0 none 0 [], .int .i64 (ruleChk L a b cells free W).1]) ∧ Below w.heap.size w w' := by
  subst hn
  have hbA : Below w.heap.size w ((w.alloc (.cells #[.int .i64 a, .int .i64 b, .slice VA cells.length ca, .int .i64 free, .slice VB W.length cb] 44)).alloc (.cells #[.int .i64 0, .int .i64 0, .slice none 0 0, .int .i64 0, .slice none 0 0] 44)) := by (repeat (first | exact Below.refl _ _ | (with_reducible refine Below.drew ?_) | (with_reducible refine Below.alloc ?_ (by (try simp); (try omega)) _) | (with_reducible refine Below.setCell ?_ (by (try simp); (try omega)) _) | (with_reducible refine Below.trans ?_ (Below.mono (by assumption) (by (try simp); (try omega))))))
  have hz0 := RZ.new (w.alloc (.cells #[.int .i64 a, .int .i64 b, .slice VA cells.length ca, .int .i64 free, .slice VB W.length cb] 44))
  rw [World.size_alloc] at hz0
  generalize hK : ruleChk L a b cells free W = K at hk
  have hkb : (K.1 != 0) = true := by simpa using hk
  have HK := Lib.hid hK
  have HZ0 := Lib.hid hz0
  clear hK hk hz0
  go_enter Try.func51, Try.ntmps51
  go_wp2_with (go_at_call 50; refine (rule_check A _ cap L a b VA VB ca cb cells free W _ rfl hcap (Lib.hid (HL.out.below hbA)) hl (Lib.hid (HC.out.below hbA)) (Lib.hid (HW.out.below hbA)) hc hw).mono ?_; rintro e w1 ⟨rfl, hb1⟩; rw [HK.out]
               obtain ⟨r0, r1, r2, r3, r4, g0, g1, g2, g3, g4⟩ := (HZ0.out.below hb1).all
               have HB1 : Hid (Below w.heap.size w w1) := hbA.trans (hb1.mono (by simp <;> omega))
               clear hb1)
  exact bodyPost_ret (v := .tuple #[ruleV 0 0 none 0 [] 0 none 0 [], .int .i64 K.1]) (by simp only [results, Try.results51]; go_simp) rfl ⟨rfl, by have := HB1.out; (repeat (first | exact Below.refl _ _ | (with_reducible refine Below.drew ?_) | (with_reducible refine Below.alloc ?_ (by (try simp); (try omega)) _) | (with_reducible refine Below.setCell ?_ (by (try simp); (try omega)) _) | (with_reducible refine Below.trans ?_ (Below.mono (by assumption) (by (try simp); (try omega))))))⟩
set_option maxHeartbeats 1000000 in
theorem rule_tidy_ok (hn : n = L.length) (hcap : L.length ≤ cap) (HL : Hid (AgRd w A L)) (hl : L.length ≤ maxLen) (HC : Hid (IntsRd w VA cells)) (HW : Hid (WrRd w VB W)) (hc : cells.length ≤ 10000) (hw : W.length ≤ 40000)
    (hk : (ruleChk L a b cells free W).1 = 0) :
    Calls Try.prog 51 #[.slice A n cap, ruleV a b VA ca cells free VB cb W] w fun e w' => ∃ V1 c1 V2 c2, e = .returned (.tuple #[ruleV a b V1 c1 cells free V2 c2 (tidyW (allPs (pnL L) cells free.toNat) W), .int .i64 0]) ∧ NetFresh w w' V1 c1 cells V2 c2 (tidyW (allPs (pnL L) cells free.toNat) W) := by
  subst hn
  have hbA : Below w.heap.size w ((w.alloc (.cells #[.int .i64 a, .int .i64 b, .slice VA cells.length ca, .int .i64 free, .slice VB W.length cb] 44)).alloc (.cells #[.int .i64 0, .int .i64 0, .slice none 0 0, .int .i64 0, .slice none 0 0] 44)) := by (repeat (first | exact Below.refl _ _ | (with_reducible refine Below.drew ?_) | (with_reducible refine Below.alloc ?_ (by (try simp); (try omega)) _) | (with_reducible refine Below.setCell ?_ (by (try simp); (try omega)) _) | (with_reducible refine Below.trans ?_ (Below.mono (by assumption) (by (try simp); (try omega))))))
  have hz0 := RZ.new (w.alloc (.cells #[.int .i64 a, .int .i64 b, .slice VA cells.length ca, .int .i64 free, .slice VB W.length cb] 44))
  rw [World.size_alloc] at hz0
  have hR0 : RBx ((w.alloc (.cells #[.int .i64 a, .int .i64 b, .slice VA cells.length ca, .int .i64 free, .slice VB W.length cb] 44)).alloc (.cells #[.int .i64 0, .int .i64 0, .slice none 0 0, .int .i64 0, .slice none 0 0] 44)) w.heap.size a b VA cells.length ca free VB W.length cb := ⟨by simp <;> omega, by go_simp, by go_simp, by go_simp, by go_simp, by go_simp⟩
  have HNT : Hid (∀ Z, Below w.heap.size w Z → Calls Try.prog 54 #[.slice A L.length cap, netV VA ca cells free VB cb W] Z fun e w' => ∃ V1 c1 V2 c2, e = .returned (.tuple #[netV V1 c1 cells free V2 c2 (tidyW (allPs (pnL L) cells free.toNat) W), .int .i64 0]) ∧ NetFresh Z w' V1 c1 cells V2 c2 (tidyW (allPs (pnL L) cells free.toNat) W)) := fun Z hz =>
    net_tidy_ok A _ cap L VA VB ca cb cells free W Z rfl hcap (Lib.hid (HL.out.below hz)) hl (Lib.hid (HC.out.below hz)) (Lib.hid (HW.out.below hz)) hc hw (rc_of hk).2.2.2.1
  generalize tidyW (allPs (pnL L) cells free.toNat) W = T at HNT
  have HK := Lib.hid hk
  have HZ0 := Lib.hid hz0
  have HR0 := Lib.hid hR0
  clear hk hz0 hR0
  go_enter Try.func51, Try.ntmps51
  go_upto_region 4 with (go_at_call 50; refine (rule_check A _ cap L a b VA VB ca cb cells free W _ rfl hcap (Lib.hid (HL.out.below hbA)) hl (Lib.hid (HC.out.below hbA)) (Lib.hid (HW.out.below hbA)) hc hw).mono ?_; rintro e w1 ⟨rfl, hb1⟩; rw [HK.out]
                         have HZ1 := Lib.hid (HZ0.out.below hb1)
                         have HR1 := Lib.hid (HR0.out.below hb1)
                         have HB1 : Hid (Below w.heap.size w w1) := hbA.trans (hb1.mono (by simp <;> omega))
                         clear hb1)
  clear hbA HZ0 HR0
  obtain ⟨x0, x1, x2, x3, x4, x5⟩ := HR1.out
  go_wp2_with (go_at_call 54; refine (HNT.out _ HB1.out).mono ?_; rintro e w2 ⟨V1, c1, V2, c2, rfl, hnf⟩
               have HNF := Lib.hid hnf
               have hb2 := hnf.1.2.2
               clear x0 x1 x2 x3 x4 x5 hnf
               obtain ⟨x0, x1, x2, x3, x4, x5⟩ := HR1.out.below hb2
               have HZ2 := Lib.hid (HZ1.out.below hb2)
               obtain ⟨r0, r1, r2, r3, r4, g0, g1, g2, g3, g4⟩ := HZ2.out.all
               have hzl := HZ2.out.lt
               clear hb2)
  exact bodyPost_ret (v := .tuple #[ruleV a b V1 c1 cells free V2 c2 T, .int .i64 0]) (by simp only [results, Try.results51]; go_simp) rfl ⟨V1, c1, V2, c2, rfl, (HNF.out.set5 HB1.out (by omega) HZ1.out.lt _ _ _ _ _).alloc _⟩
/-! ### skeinref00 -/
set_option maxHeartbeats 1000000 in
theorem copy_net2 (l1 : cells.length ≤ 100000) (l3 : W.length ≤ 100000) (H1 : Hid (IntsRd w VA cells)) (H2 : Hid (WrRd w VB W)) :
    Calls Try.prog 15 #[netV VA ca cells free VB cb W] w fun e w' => ∃ V1 c1 V2 c2, e = .returned (netV V1 c1 cells free V2 c2 W) ∧ NetFresh w w' V1 c1 cells V2 c2 W := by
  have hbA : ∀ o o' : Obj, Below w.heap.size w ((w.alloc o).alloc o') := fun o o' => ((Below.refl _ _).alloc (Nat.le_refl _) o).alloc (by simp) o'
  go_enter Try.func15, Try.ntmps15
  go_wp2_with (first
    | (go_at_call 16; refine (copy_ints _ _ cells _ (H1.out.below (hbA _ _)) l1).mono ?_; rintro e w1 ⟨V1, c1, rfl, F1⟩; have hb1 := F1.2.2; obtain ⟨hc1, hf1⟩ := bcell hb1; have hz1 := hb1.size; (try simp at hz1); have hz1a : w.heap.size < w1.heap.size := (by omega); have hz1b : w.heap.size + 1 < w1.heap.size := (by omega)
       have HB1 : Hid (Below w.heap.size w w1) := (hbA _ _).trans (hb1.mono (by simp; omega))
       have HF1 := Lib.hid F1
       have nf1z : Hid (∀ b ∈ ownB (.slice V1 cells.length c1), w.heap.size + 1 < b) := fun b hb => by have := F1.2.1 b hb; simp at this; omega
       have nf1 : w1.frozen? ⟨w.heap.size, 0, none⟩ = false := by rw [hf1 _ _ (by simp; omega)]; go_simp)
    | (go_at_call 65; go_loud (refine (copy_wires _ _ W _ (H2.out.below (HB1.out.setCell (Nat.le_refl _) _)) l3).mono ?_); rintro e w2 ⟨V2, c2, rfl, F2⟩; have hb2 := F2.2.2; have HF2 := Lib.hid F2; clear F2 F1; obtain ⟨hc2, hf2⟩ := bcell hb2; have hz2 := hb2.size; (try simp at hz2); have hz2a : w.heap.size < w2.heap.size := (by omega); have hz2b : w.heap.size + 1 < w2.heap.size := (by omega)))
  have hzz := HF2.out.2.2.size
  have hzy := HB1.out.size
  simp at hzz
  have R1 := HF1.out.1
  have k1 : ∀ b ∈ ownB (.slice V1 cells.length c1), b < w1.heap.size := fun b hb => R1.lt b hb
  have R2 : Row w2 3 1 (.slice V1 cells.length c1) cells.length (ivals cells) := R1.keep fun b hb =>
    (HF2.out.2.2.block b (by have := k1 b hb; simpa using this)).trans (Below.heap_setCell w1 _ _ b (by have := nf1z.out b hb; show b ≠ w.heap.size; omega))
  have k2 : ∀ b ∈ ownB (.slice V2 W.length c2), b < w2.heap.size := fun b hb => HF2.out.1.lt b hb
  have o2 : ∀ b ∈ ownB (.slice V2 W.length c2), w1.heap.size ≤ b := fun b hb => by have := HF2.out.2.1 b hb; simpa using this
  refine bodyPost_ret (v := netV V1 c1 cells free V2 c2 W) (by simp only [results, Try.results15]; go_simp) rfl ?_
  have bw : Below w.heap.size w w2 := (HB1.out.setCell (Nat.le_refl _) _).trans (HF2.out.2.2.mono (by simpa using hzy))
  have hX : ∀ p1 p2 p3 p4 : Addr, ∀ u1 u2 u3 u4 : Value, p1.block ≤ w.heap.size + 1 → p2.block ≤ w.heap.size + 1 → p3.block ≤ w.heap.size + 1 → p4.block ≤ w.heap.size + 1 → ∀ b, w.heap.size + 1 < b → b < w2.heap.size → ((((w2.setCell p1 u1).setCell p2 u2).setCell p3 u3).setCell p4 u4).heap[b]? = w2.heap[b]? :=
    fun p1 p2 p3 p4 u1 u2 u3 u4 h1 h2 h3 h4 b hb _ => (Below.heap_setCell _ p4 u4 b (by omega)).trans ((Below.heap_setCell _ p3 u3 b (by omega)).trans ((Below.heap_setCell _ p2 u2 b (by omega)).trans (Below.heap_setCell _ p1 u1 b (by omega))))
  have hQ := hX ⟨w.heap.size, 2, none⟩ ⟨w.heap.size + 1, 0, none⟩ ⟨w.heap.size + 1, 1, none⟩ ⟨w.heap.size + 1, 2, none⟩ (.slice V2 W.length c2) (.slice V1 cells.length c1) (.int .i64 free) (.slice V2 W.length c2) (by simp) (by simp) (by simp) (by simp)
  have hBw : Below w.heap.size w ((((w2.setCell ⟨w.heap.size, 2, none⟩ (.slice V2 W.length c2)).setCell ⟨w.heap.size + 1, 0, none⟩ (.slice V1 cells.length c1)).setCell ⟨w.heap.size + 1, 1, none⟩ (.int .i64 free)).setCell ⟨w.heap.size + 1, 2, none⟩ (.slice V2 W.length c2)) := by (repeat (first | exact Below.refl _ _ | (with_reducible refine Below.drew ?_) | (with_reducible refine Below.alloc ?_ (by (try simp); (try omega)) _) | (with_reducible refine Below.setCell ?_ (by (try simp); (try omega)) _) | (with_reducible refine Below.trans ?_ (Below.mono (by assumption) (by (try simp); (try omega))))))
  exact ⟨V1, c1, V2, c2, rfl, ⟨R2.keep fun b hb => hQ b (nf1z.out b hb) (R2.lt b hb), fun b hb => by have := nf1z.out b hb; omega, hBw⟩, ⟨HF2.out.1.keep fun b hb => hQ b (by have := o2 b hb; omega) (k2 b hb), fun b hb => by have := o2 b hb; omega, hBw⟩⟩
set_option maxHeartbeats 1000000 in
theorem copy_rule (l1 : cells.length ≤ 100000) (l3 : W.length ≤ 100000) (H1 : Hid (IntsRd w VA cells)) (H2 : Hid (WrRd w VB W)) :
    Calls Try.prog 25 #[ruleV a b VA ca cells free VB cb W] w fun e w' => ∃ V1 c1 V2 c2, e = .returned (ruleV a b V1 c1 cells free V2 c2 W) ∧ NetFresh w w' V1 c1 cells V2 c2 W := by
  have hbA : Below w.heap.size w ((w.alloc (.cells #[.int .i64 a, .int .i64 b, .slice VA cells.length ca, .int .i64 free, .slice VB W.length cb] 44)).alloc (.cells #[.int .i64 0, .int .i64 0, .slice none 0 0, .int .i64 0, .slice none 0 0] 44)) := by (repeat (first | exact Below.refl _ _ | (with_reducible refine Below.drew ?_) | (with_reducible refine Below.alloc ?_ (by (try simp); (try omega)) _) | (with_reducible refine Below.setCell ?_ (by (try simp); (try omega)) _) | (with_reducible refine Below.trans ?_ (Below.mono (by assumption) (by (try simp); (try omega))))))
  have hz0 := RZ.new (w.alloc (.cells #[.int .i64 a, .int .i64 b, .slice VA cells.length ca, .int .i64 free, .slice VB W.length cb] 44))
  rw [World.size_alloc] at hz0
  have HZ0 := Lib.hid hz0
  have hR0 : Hid (((w.alloc (.cells #[.int .i64 a, .int .i64 b, .slice VA cells.length ca, .int .i64 free, .slice VB W.length cb] 44)).alloc (.cells #[.int .i64 0, .int .i64 0, .slice none 0 0, .int .i64 0, .slice none 0 0] 44)).heap[w.heap.size]? = some (.cells #[.int .i64 a, .int .i64 b, .slice VA cells.length ca, .int .i64 free, .slice VB W.length cb] 44 (0, 0))) := (Below.heap_alloc _ _ _ (by simp)).trans (heap_alloc_new _ _)
  clear hz0
  go_enter Try.func25, Try.ntmps25
  go_wp2_with (go_at_call 15; refine (copy_net2 VA VB ca cb cells free W _ l1 l3 (Lib.hid (H1.out.below hbA)) (Lib.hid (H2.out.below hbA))).mono ?_; rintro e w1 ⟨V1, c1, V2, c2, rfl, hnf⟩
               have HNF := Lib.hid hnf
               have hb2 := hnf.1.2.2
               obtain ⟨r0, r1, r2, r3, r4, g0, g1, g2, g3, g4⟩ := (HZ0.out.below hb2).all
               have hh := (hb2.block _ (by simp <;> omega)).trans hR0.out
               have x0 : w1.cell? ⟨w.heap.size, 0, none⟩ = some (.int .i64 a) := by simp [World.cell?, hh]
               have x1 : w1.cell? ⟨w.heap.size, 1, none⟩ = some (.int .i64 b) := by simp [World.cell?, hh]
               have x2 : w1.cell? ⟨w.heap.size, 2, none⟩ = some (.slice VA cells.length ca) := by simp [World.cell?, hh]
               have x3 : w1.cell? ⟨w.heap.size, 3, none⟩ = some (.int .i64 free) := by simp [World.cell?, hh]
               have x4 : w1.cell? ⟨w.heap.size, 4, none⟩ = some (.slice VB W.length cb) := by simp [World.cell?, hh]
               have y2 : w1.frozen? ⟨w.heap.size, 2, none⟩ = false := by simp [World.frozen?, hh]
               have y3 : w1.frozen? ⟨w.heap.size, 3, none⟩ = false := by simp [World.frozen?, hh]
               have y4 : w1.frozen? ⟨w.heap.size, 4, none⟩ = false := by simp [World.frozen?, hh]
               have HB2 : Hid (Below w.heap.size w w1) := hbA.trans (hb2.mono (by simp <;> omega))
               clear hb2 hnf hh)
  refine bodyPost_ret (v := ruleV a b V1 c1 cells free V2 c2 W) (by simp only [results, Try.results25]; go_simp) rfl ⟨V1, c1, V2, c2, rfl, ?_⟩
  refine NetFresh.mv HNF.out hbA ?_ ?_
  rotate_left
  · have := HB2.out; (repeat (first | (with_reducible exact Below.refl _ _) | (with_reducible assumption) | (with_reducible refine Below.drew ?_) | (with_reducible refine Below.alloc ?_ (by (try simp); (try omega)) _) | (with_reducible refine Below.setCell ?_ (by (try simp); (try omega)) _)))
  intro b' hb' hb2'
  simp only [World.size_alloc] at hb'
  refine (set5 _ (by omega) _ _ _ _ _).trans ?_
  exact (Below.heap_setCell _ _ _ _ (by show _ ≠ w.heap.size; omega)).trans ((Below.heap_setCell _ _ _ _ (by show _ ≠ w.heap.size; omega)).trans (Below.heap_setCell _ _ _ _ (by show _ ≠ w.heap.size; omega)))
end
theorem eq_rule (a b a' b' : Int) (VA VB WA WB : Option Addr) (ca cb da db : Nat) (c1 c2 : List Int) (f1 f2 : Int) (W1 W2 : List (Pt × Pt)) (w : World) (l1 : c1.length ≤ 100000) (l2 : c2.length ≤ 100000) (l3 : W1.length ≤ 100000) (l4 : W2.length ≤ 100000)
    (H1 : Hid (IntsRd w VA c1)) (H2 : Hid (WrRd w VB W1)) (H3 : Hid (IntsRd w WA c2)) (H4 : Hid (WrRd w WB W2)) (h : a = a' ∧ b = b' ∧ c1 = c2 ∧ f1 = f2 ∧ W1 = W2) :
    Calls Try.prog 30 #[ruleV a b VA ca c1 f1 VB cb W1, ruleV a' b' WA da c2 f2 WB db W2] w fun e w' => e = .returned (.bool true) ∧ Below w.heap.size w w' := by
  have hbA : ∀ o o' : Obj, Below w.heap.size w ((w.alloc o).alloc o') := fun o o' => ((Below.refl _ _).alloc (Nat.le_refl _) o).alloc (by simp) o'
  obtain ⟨rfl, rfl, rfl, rfl, rfl⟩ := h
  have hd : decide (c1 = c1 ∧ f1 = f1 ∧ W1 = W1) = true := by simp
  go_enter Try.func30, Try.ntmps30
  go_wp2_with (go_at_call 19; refine (eq_net VA VB WA WB ca cb da db c1 c1 f1 f1 W1 W1 _ l1 l2 l3 l4 (Lib.hid (H1.out.below (hbA _ _))) (Lib.hid (H2.out.below (hbA _ _))) (Lib.hid (H3.out.below (hbA _ _))) (Lib.hid (H4.out.below (hbA _ _)))).mono ?_; rintro e w1 ⟨rfl, hb1⟩; rw [hd]
               have HB1 : Hid (Below w.heap.size w w1) := (hbA _ _).trans (hb1.mono (by simp; omega))
               clear hb1)
  go_ret
  exact ⟨rfl, HB1.out⟩
end Go.Proofs.Ytcebejcdfdahjaa
