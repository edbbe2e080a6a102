/-
  The statement AgendaPlays: what is asked behind each step.
-/
import Derived.Test.YtkonfogebepccaaDoorAgBoth
import Derived.Test.YtkonfogebepccaaDoorAgOpen
import Derived.Test.YtkonfogebepccaaDoorTwos
import Derived.Test.YtkonfogebepccaaDoorTails
import Derived.Test.YtkonfogebepccaaDoorBagA
namespace Go.Proofs.YtkonfogebepccaaDoor
open Go.RowKit
attribute [local go_sem] cell_set
attribute [local go_sem high] run_neq_pr
set_option maxRecDepth 100000
set_option linter.unusedVariables false

noncomputable def apT (n : Nat) : Code := ((Tryd.f3.body).bind (tailQ n)).getD .skip
def FrAP (ds : List Deferred) (U : Nat → Value) : Act := { tmps := (U 0 :: U 1 :: U 2 :: U 3 :: U 4 :: U 5 :: U 6 :: U 7 :: U 8 :: U 9 :: U 10 :: U 11 :: U 12 :: U 13 :: U 14 :: U 15 :: U 16 :: U 17 :: U 18 :: U 19 :: U 20 :: U 21 :: U 22 :: U 23 :: U 24 :: U 25 :: U 26 :: U 27 :: U 28 :: U 29 :: U 30 :: U 31 :: U 32 :: U 33 :: U 34 :: U 35 :: U 36 :: U 37 :: U 38 :: U 39 :: U 40 :: U 41 :: U 42 :: U 43 :: U 44 :: U 45 :: U 46 :: U 47 :: U 48 :: U 49 :: U 50 :: U 51 :: U 52 :: U 53 :: U 54 :: U 55 :: U 56 :: U 57 :: U 58 :: U 59 :: U 60 :: U 61 :: U 62 :: U 63 :: U 64 :: U 65 :: U 66 :: U 67 :: U 68 :: U 69 :: U 70 :: U 71 :: U 72 :: U 73 :: U 74 :: U 75 :: U 76 :: U 77 :: U 78 :: U 79 :: U 80 :: U 81 :: U 82 :: U 83 :: U 84 :: U 85 :: U 86 :: U 87 :: U 88 :: U 89 :: U 90 :: U 91 :: U 92 :: U 93 :: U 94 :: U 95 :: U 96 :: U 97 :: U 98 :: U 99 :: U 100 :: U 101 :: U 102 :: U 103 :: U 104 :: U 105 :: U 106 :: U 107 :: U 108 :: U 109 :: U 110 :: U 111 :: U 112 :: U 113 :: U 114 :: U 115 :: U 116 :: U 117 :: U 118 :: U 119 :: U 120 :: U 121 :: U 122 :: U 123 :: U 124 :: U 125 :: U 126 :: U 127 :: U 128 :: U 129 :: U 130 :: U 131 :: U 132 :: U 133 :: U 134 :: U 135 :: U 136 :: U 137 :: U 138 :: U 139 :: U 140 :: U 141 :: U 142 :: U 143 :: U 144 :: U 145 :: U 146 :: U 147 :: U 148 :: U 149 :: []).toArray, defers := ds }
theorem FrN.openAP {ds : List Deferred} {L : List (Nat × Value)} {a : Act} (h : FrN 150 ds L a) : ∃ U, a = FrAP ds U ∧ Us U L := h.open_
theorem eqP_self (p : Pt) : eqP p p = true := by unfold eqP; simp
/-- A pair's box. -/
def prO (u v : Int) : Obj := .cells #[.int .i64 u, .int .i64 v] 35 (0, 0)
def stO (d x y : Int) : Obj := .cells #[.int .i64 d, .int .i64 x, .int .i64 y] 31 (0, 0)
section
variable (Q : Exit → Act → World → Prop) (A R : Nat) (v0 v5 : Value) (w : World)
set_option maxHeartbeats 4000000 in
theorem al_18 (a : Act) (X : World) (b6 : Nat) (d x y : Int) (ps : List (Int × Int)) (hl : ps.length < 65536)
    (hgo : Hid (∀ a' X', FrN 150 [] [(0, v0), (3, .pointer (some ⟨A, 0, none⟩)), (4, .pointer (some ⟨R, 0, none⟩)), (5, v5)] a' → ApS w X' A R [] ps ps → Q .normal a' X'))
    (hs : Hid (ApS w X A R [(b6, stO d x y)] ps ps))
    (ha : FrN 150 [] [(0, v0), (3, .pointer (some ⟨A, 0, none⟩)), (4, .pointer (some ⟨R, 0, none⟩)), (5, v5), (6, .pointer (some ⟨b6, 0, none⟩))] a) : (apT 18).wp Tryd.prog Q a X := by
  obtain ⟨U, rfl, e0, e3, e4, e5, e6, -⟩ := ha.openAP
  unfold FrAP
  simp only [e0, e3, e4, e5, e6]
  clear e0 e3 e4 e5 e6 ha
  show (Code.seq _ _).wp _ _ _ _
  obtain ⟨u, v, j, c, hp, hr⟩ := both_pick ps hl x
  have P1 : Hid (Calls Tryd.prog 12 #[.pointer (some ⟨A, 0, none⟩), .int .i64 x] X fun e w' => e = .returned (.tuple #[.agg #[.int .i64 u, .int .i64 v], .int .i64 j, .int .i64 c]) ∧ ApS w w' A R [(b6, stO d x y)] ps ps ∧ Below X.heap.size X w') := hs.out.readA hp
  have P2 : Hid (∀ Z B, ApS w Z A R B ps ps → Calls Tryd.prog 13 #[.pointer (some ⟨R, 0, none⟩), .int .i64 x] Z fun e w' => e = .returned (.tuple #[.agg #[.int .i64 u, .int .i64 v], .int .i64 j, .int .i64 c]) ∧ ApS w w' A R B ps ps ∧ Below Z.heap.size Z w') := fun Z B h => h.readR hr
  have P3 : Hid (∀ Z B, ApS w Z A R B ps ps → Calls Tryd.prog 14 #[.pointer (some ⟨A, 0, none⟩)] Z fun e w' => e = .returned (.int .i64 ps.length) ∧ ApS w w' A R B ps ps ∧ Below Z.heap.size Z w') := fun Z B h => h.readA0 fun A F w hA => ag_len A ps F w hA
  clear hp hr hl
  have c1 : X.cell? ⟨b6, 1, none⟩ = some (.int .i64 x) := by rw [cells_of (hs.out.bx _ (List.mem_cons_self))]; rfl
  have hb6 := heap_lt (hs.out.bx _ (List.mem_cons_self))
  dsimp only at hb6
  go_wp2_with fail
  refine P1.out.mono ?_
  rintro e w1 ⟨rfl, h1, -⟩
  have S1 := Lib.hid (h1.box #[.int .i64 u, .int .i64 v] 35)
  clear h1 c1 hb6 P1 hs
  simp only []
  go_upto_region 19 with fail
  refine absW (fun Y => ApS w Y A R [(w1.heap.size, prO u v), (b6, stO d x y)] ps ps) S1.out ?_
  intro Y hY
  have c1 : Y.cell? ⟨b6, 1, none⟩ = some (.int .i64 x) := by rw [cells_of (hY.bx (b6, stO d x y) (by simp))]; rfl
  have hb6 := heap_lt (hY.bx (b6, stO d x y) (by simp))
  dsimp only at hb6
  have HY := Lib.hid hY
  clear hY S1
  go_wp2_with fail
  refine (P2.out _ _ HY.out).mono ?_
  rintro e w2 ⟨rfl, h2, -⟩
  have S2 := Lib.hid (h2.box #[.int .i64 u, .int .i64 v] 35)
  clear h2 c1 hb6 P2 HY
  simp only []
  go_upto_region 20 with fail
  refine absW (fun Y => ApS w Y A R [(w2.heap.size, prO u v), (w1.heap.size, prO u v), (b6, stO d x y)] ps ps) S2.out ?_
  intro Z hZ
  clear S2
  obtain ⟨bp, hbp⟩ : ∃ b, b = w1.heap.size := ⟨_, rfl⟩
  obtain ⟨bq, hbq⟩ : ∃ b, b = w2.heap.size := ⟨_, rfl⟩
  rw [← hbp, ← hbq] at hZ ⊢
  have hK : ∀ Z, ApS w Z A R [(bq, prO u v), (bp, prO u v), (b6, stO d x y)] ps ps → Z.cell? ⟨bp, 0, none⟩ = some (.int .i64 u) ∧ Z.cell? ⟨bp, 1, none⟩ = some (.int .i64 v) ∧ Z.cell? ⟨bq, 0, none⟩ = some (.int .i64 u) ∧ Z.cell? ⟨bq, 1, none⟩ = some (.int .i64 v) ∧ bp < Z.heap.size ∧ bq < Z.heap.size := fun Z h => by
    have h1 := h.bx (bp, prO u v) (by simp)
    have h2 := h.bx (bq, prO u v) (by simp)
    exact ⟨by rw [cells_of h1]; rfl, by rw [cells_of h1]; rfl, by rw [cells_of h2]; rfl, by rw [cells_of h2]; rfl, heap_lt h1, heap_lt h2⟩
  obtain ⟨V, cc, r0, hRl⟩ := hZ.rcell
  obtain ⟨q0, q1, q2, q3, hl1, hl2⟩ := hK Z hZ
  have hne : eqP (u, v) (u, v) = true := eqP_self _
  have HZ : Hid (ApS w Z.drew A R [(bq, prO u v), (bp, prO u v), (b6, stO d x y)] ps ps) := hZ.below ((Below.refl _ _).drew)
  have hK2 : ∀ W, Below Z.heap.size Z W → W.cell? ⟨bp, 0, none⟩ = some (.int .i64 u) ∧ W.cell? ⟨bp, 1, none⟩ = some (.int .i64 v) ∧ W.cell? ⟨bq, 0, none⟩ = some (.int .i64 u) ∧ W.cell? ⟨bq, 1, none⟩ = some (.int .i64 v) ∧ W.cell? ⟨R, 0, none⟩ = some (.slice V ps.length cc) := fun W hW =>
    ⟨(hW.cell (p := ⟨bp, 0, none⟩) hl1).trans q0, (hW.cell (p := ⟨bp, 1, none⟩) hl1).trans q1, (hW.cell (p := ⟨bq, 0, none⟩) hl2).trans q2, (hW.cell (p := ⟨bq, 1, none⟩) hl2).trans q3, (hW.cell (p := ⟨R, 0, none⟩) hRl).trans r0⟩
  have HK2 := Lib.hid hK2
  have HDZ : Hid (∀ W, Below Z.drew.heap.size Z.drew W → Below Z.heap.size Z W) := fun W hW => (Below.refl _ Z).drew.trans hW
  have SZ := Lib.hid (hK2 Z.drew ((Below.refl _ _).drew))
  clear hK hK2 hZ hbp hbq
  go_region_held3 (fun W => W.cell? ⟨bp, 0, none⟩ = some (.int .i64 u) ∧ W.cell? ⟨bp, 1, none⟩ = some (.int .i64 v) ∧ W.cell? ⟨bq, 0, none⟩ = some (.int .i64 u) ∧ W.cell? ⟨bq, 1, none⟩ = some (.int .i64 v) ∧ W.cell? ⟨R, 0, none⟩ = some (.slice V ps.length cc)) (exact SZ.out)
    (first | (go_at_call 14; with_reducible refine (P3.out _ _ HZ.out).mono ?_; rintro e w3 ⟨rfl, h3, hb3⟩; have HZ := Lib.hid h3; have SZ := Lib.hid (HK2.out w3 (HDZ.out w3 hb3)); dsimp only))
  all_goals
    repeat (first
      | exact hgo.out _ _ ⟨rfl, rfl, rfl, rfl, rfl, rfl, trivial⟩ (HZ.out.less (by simp))
      | go_values | go_skip | go_guarded | go_step | go_upon | go_back)
end
end Go.Proofs.YtkonfogebepccaaDoor
