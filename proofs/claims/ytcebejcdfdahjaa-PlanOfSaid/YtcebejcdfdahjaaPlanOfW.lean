/-
  The walk of PlanOf.
-/
import Derived.Test.YtcebejcdfdahjaaPlanWorks
import Derived.Deep.DeepCutAuto
import Derived.Deep.RegionHeld3
namespace Go.Proofs.Ytcebejcdfdahjaa
open Go.RowKit
attribute [local go_sem] cell_set
set_option maxRecDepth 100000
set_option linter.unusedVariables false

theorem below_a2 {X X' : World} {o : Obj} (h : Below (X.alloc o).heap.size (X.alloc o) X') : Below X.heap.size X X' := (alB X o).trans (h.mono (by simp))
theorem below_d2 {X X' : World} (h : Below X.drew.heap.size X.drew X') : Below X.heap.size X X' := (Below.refl _ X).drew.trans h
theorem below_da2 {X X' : World} {o : Obj} (h : Below (X.alloc o).drew.heap.size (X.alloc o).drew X') : Below X.heap.size X X' := below_a2 (below_d2 h)
/-- What came of plan.Of, in a box. -/
def OutP (w : World) (a b : Int) (cs : List Int) (F : List Pt) (I : List (Pt × Pt)) (E : Int) (x5 x6 : Value) (X : World) : Prop :=
  ∃ Pb V1 c1 V2 c2 V3 c3, x5 = .pointer (some ⟨Pb, 0, none⟩) ∧ x6 = .int .i64 E ∧ w.heap.size + 1 ≤ Pb ∧ X.heap[Pb]? = some (.cells #[.int .i64 a, .int .i64 b, .slice V1 cs.length c1, .slice V2 F.length c2, .slice V3 I.length c3] 49 (0, 0)) ∧ PLs V1 V2 V3 cs F I X ∧ Below w.heap.size w X
section
variable {w X Z : World} {a b : Int} {cs : List Int} {F : List Pt} {I : List (Pt × Pt)} {E : Int} {V1 V2 V3 : Option Addr} {c1 c2 c3 : Nat}
theorem OutP.of_new (hp : PLsF Z V1 V2 V3 cs F I X) (hb : Below w.heap.size w X) (hz : w.heap.size + 1 ≤ X.heap.size) :
    OutP w a b cs F I E (.pointer (some ⟨X.heap.size, 0, none⟩)) (.int .i64 E) (X.alloc (.cells #[.int .i64 a, .int .i64 b, .slice V1 cs.length c1, .slice V2 F.length c2, .slice V3 I.length c3] 49)) :=
  ⟨_, V1, c1, V2, c2, V3, c3, rfl, rfl, hz, heap_alloc_new _ _, hp.ls.below (alB _ _), hb.alloc hb.size _⟩
theorem OutP.of_set {b7 : Nat} (hN : PZ b7 X) (hp : PLsF Z V1 V2 V3 cs F I X) (hZ : b7 < Z.heap.size) (hb : Below w.heap.size w X) (h7 : w.heap.size + 1 ≤ b7) :
    OutP w a b cs F I E (.pointer (some ⟨b7, 0, none⟩)) (.int .i64 E) (((((X.setCell ⟨b7, 0, none⟩ (.int .i64 a)).setCell ⟨b7, 1, none⟩ (.int .i64 b)).setCell ⟨b7, 2, none⟩ (.slice V1 cs.length c1)).setCell ⟨b7, 3, none⟩ (.slice V2 F.length c2)).setCell ⟨b7, 4, none⟩ (.slice V3 I.length c3)) := by
  have h' : X.heap[b7]? = _ := hN
  refine ⟨b7, V1, c1, V2, c2, V3, c3, rfl, rfl, h7, by simp [World.setCell, Array.getElem?_modify, h'], hp _ fun b hb _ => set5 X (by omega) _ _ _ _ _, ?_⟩
  exact ((((hb.setCell (p := ⟨b7, 0, none⟩) (by show _ ≤ b7; omega) _).setCell (p := ⟨b7, 1, none⟩) (by show _ ≤ b7; omega) _).setCell (p := ⟨b7, 2, none⟩) (by show _ ≤ b7; omega) _).setCell (p := ⟨b7, 3, none⟩) (by show _ ≤ b7; omega) _).setCell (p := ⟨b7, 4, none⟩) (by show _ ≤ b7; omega) _
end
/-- What came of plan.Rule, in a box. -/
def OutR (w : World) (a b : Int) (cs : List Int) (M : Int) (T : List (Pt × Pt)) (x9 x6 : Value) (X : World) : Prop :=
  ∃ Rb U1 d1 U2 d2, x9 = .pointer (some ⟨Rb, 0, none⟩) ∧ x6 = .int .i64 0 ∧ w.heap.size + 1 ≤ Rb ∧ X.heap[Rb]? = some (.cells #[.int .i64 a, .int .i64 b, .slice U1 cs.length d1, .int .i64 M, .slice U2 T.length d2] 44 (0, 0)) ∧ IntsRd X U1 cs ∧ WrRd X U2 T ∧ Below w.heap.size w X
section
variable {w X Z : World} {a b : Int} {cs : List Int} {M : Int} {T : List (Pt × Pt)} {U1 U2 : Option Addr} {d1 d2 : Nat}
theorem OutR.of_new (hp : NetFresh Z X U1 d1 cs U2 d2 T) (hb : Below w.heap.size w X) (hz : w.heap.size + 1 ≤ X.heap.size) :
    OutR w a b cs M T (.pointer (some ⟨X.heap.size, 0, none⟩)) (.int .i64 0) (X.alloc (.cells #[.int .i64 a, .int .i64 b, .slice U1 cs.length d1, .int .i64 M, .slice U2 T.length d2] 44)) :=
  ⟨_, U1, d1, U2, d2, rfl, rfl, hz, heap_alloc_new _ _, hp.1.1.ints.below (alB _ _), hp.2.1.wires.below (alB _ _), hb.alloc hb.size _⟩
theorem OutR.of_set {b7 : Nat} (hN : RZ b7 X) (hp : NetFresh Z X U1 d1 cs U2 d2 T) (hZ : b7 < Z.heap.size) (hb : Below w.heap.size w X) (h7 : w.heap.size + 1 ≤ b7) :
    OutR w a b cs M T (.pointer (some ⟨b7, 0, none⟩)) (.int .i64 0) (((((X.setCell ⟨b7, 0, none⟩ (.int .i64 a)).setCell ⟨b7, 1, none⟩ (.int .i64 b)).setCell ⟨b7, 2, none⟩ (.slice U1 cs.length d1)).setCell ⟨b7, 3, none⟩ (.int .i64 M)).setCell ⟨b7, 4, none⟩ (.slice U2 T.length d2)) := by
  have h' : X.heap[b7]? = _ := hN
  refine ⟨b7, U1, d1, U2, d2, rfl, rfl, h7, by simp [World.setCell, Array.getElem?_modify, h'], Row.ints (cap := d1) (hp.1.1.keep fun b hb => set5 X ?_ _ _ _ _ _), Row.wires (cap := d2) (hp.2.1.keep fun b hb => set5 X ?_ _ _ _ _ _), ?_⟩
  · have := hp.1.2.1 b hb; omega
  · have := hp.2.2.1 b hb; omega
  · exact ((((hb.setCell (p := ⟨b7, 0, none⟩) (by show _ ≤ b7; omega) _).setCell (p := ⟨b7, 1, none⟩) (by show _ ≤ b7; omega) _).setCell (p := ⟨b7, 2, none⟩) (by show _ ≤ b7; omega) _).setCell (p := ⟨b7, 3, none⟩) (by show _ ≤ b7; omega) _).setCell (p := ⟨b7, 4, none⟩) (by show _ ≤ b7; omega) _
end
/-- The contracts that the good way asks. -/
structure GoodC (L : List (ByteArray × Int)) (a b : Int) (cells : List Int) (free : Int) (W T : List (Pt × Pt)) (F : List Pt) (I : List (Pt × Pt)) : Prop where
  rof : ∀ A cap VA ca VB cb Z, L.length ≤ cap → AgRd Z A L → IntsRd Z VA cells → WrRd Z VB W → Calls Try.prog 28 #[.slice A L.length cap, ruleV a b VA ca cells free VB cb W] Z fun e w' => ∃ V1 c1 V2 c2 V3 c3, e = .returned (planV a b V1 cells.length c1 V2 F.length c2 V3 I.length c3) ∧ PLs V1 V2 V3 cells F I w' ∧ Below Z.heap.size Z w'
  rl : ∀ A cap V1 c1 V2 c2 V3 c3 Z, L.length ≤ cap → AgRd Z A L → PLs V1 V2 V3 cells F I Z → Calls Try.prog 29 #[.slice A L.length cap, planV a b V1 cells.length c1 V2 F.length c2 V3 I.length c3] Z fun e w' => ∃ U1 d1 U2 d2, e = .returned (.tuple #[ruleV a b U1 d1 cells free U2 d2 T, .int .i64 0]) ∧ NetFresh Z w' U1 d1 cells U2 d2 T
  rtd : ∀ A cap VA ca VB cb Z, L.length ≤ cap → AgRd Z A L → IntsRd Z VA cells → WrRd Z VB W → Calls Try.prog 31 #[.slice A L.length cap, ruleV a b VA ca cells free VB cb W] Z fun e w' => ∃ V1 c1 V2 c2, e = .returned (ruleV a b V1 c1 cells free V2 c2 T) ∧ NetFresh Z w' V1 c1 cells V2 c2 T
  l1 : cells.length ≤ 100
  l2 : F.length ≤ 100
  l3 : I.length ≤ 1000
  l4 : T.length ≤ 1000
end Go.Proofs.Ytcebejcdfdahjaa
