/-
  The statement NetChecks: its six calls.
-/
import Derived.Test.YtkonfogebepccaaDoorNetPlainK
import Derived.Test.YtkonfogebepccaaDoorRef02
import Derived.Test.YtkonfogebepccaaDoorNetPairs
import Derived.Test.YtkonfogebepccaaDoorNetMuch
import Derived.Deep.Cut
import Derived.Test.YtkonfogebepccaaDoorTwos
import Derived.Test.YtkonfogebepccaaDoorBagA
import Derived.Test.YtkonfogebepccaaDoorNetPorts
import Derived.Test.YtkonfogebepccaaDoorNetEnds
import Derived.Test.YtkonfogebepccaaDoorWideW
import Derived.Test.YtkonfogebepccaaDoorPlanRows
/-
  Contract of skeinlaw03.works.
-/
/-
  The small net of skeinlaw03.works: as data, and in memory.
-/
namespace Go.Proofs.YtkonfogebepccaaDoor
open Go.RowKit
attribute [local go_sem] cell_set
set_option maxRecDepth 100000
set_option linter.unusedVariables false

def L3 : List (ByteArray × Int) := [(⟨#[90]⟩, 0), (⟨#[83]⟩, 1)]
def W3 : List (Pt × Pt) := [((1, 0), (0, 0)), ((0, 1), (-1, 0))]
theorem net3 : (netChk (pnL L3) L3.length (chk L3) [1, 0] 1 W3).1 = 0 := by decide +kernel
theorem tidy3 : tidyW (allPs (pnL L3) [1, 0] 1) W3 = [((-1, 0), (0, 1)), ((0, 0), (1, 0))] := by decide +kernel
theorem ag_lit {w : World} {b : Nat} {c : Nat × Nat} (h : w.heap[b]? = some (.cells #[.string ⟨#[90]⟩, .int .i64 0, .string ⟨#[83]⟩, .int .i64 1] 106 c)) : AgRd w (some ⟨b, 0, none⟩) L3 := fun i hi => by
  have hi2 : i = 0 ∨ i = 1 := by simp [L3] at hi; omega
  refine ⟨b, 0, rfl, heap_lt h, ?_, ?_⟩ <;> rcases hi2 with rfl | rfl <;> simp [World.cell?, h, L3, agN, agA]
theorem ints_lit {w : World} {b : Nat} {c : Nat × Nat} (h : w.heap[b]? = some (.cells #[.int .i64 1, .int .i64 0] 3 c)) : IntsRd w (some ⟨b, 0, none⟩) [1, 0] := fun i hi => by
  have hi2 : i = 0 ∨ i = 1 := by simp at hi; omega
  refine ⟨b, 0, rfl, heap_lt h, ?_⟩
  rcases hi2 with rfl | rfl <;> simp [World.cell?, h]
theorem wires_lit {w : World} {b : Nat} {c : Nat × Nat} (h : w.heap[b]? = some (.cells #[.int .i64 1, .int .i64 0, .int .i64 0, .int .i64 0, .int .i64 0, .int .i64 1, .int .i64 (-1), .int .i64 0] 108 c)) : WrRd w (some ⟨b, 0, none⟩) W3 := fun i hi => by
  have hi2 : i = 0 ∨ i = 1 := by simp [W3] at hi; omega
  refine ⟨b, 0, rfl, heap_lt h, ?_, ?_, ?_, ?_⟩ <;> rcases hi2 with rfl | rfl <;> simp [World.cell?, h, W3]

theorem heap4 (w : World) (a b c d : Obj) : ((((w.alloc a).alloc b).alloc c).alloc d).heap[w.heap.size]? = some a ∧ ((((w.alloc a).alloc b).alloc c).alloc d).heap[w.heap.size + 1]? = some b ∧ ((((w.alloc a).alloc b).alloc c).alloc d).heap[w.heap.size + 2]? = some c ∧ ((((w.alloc a).alloc b).alloc c).alloc d).heap[w.heap.size + 3]? = some d := by
  have e1 := heap_alloc_new w a
  have e2 := heap_alloc_new (w.alloc a) b
  have e3 := heap_alloc_new ((w.alloc a).alloc b) c
  have e4 := heap_alloc_new (((w.alloc a).alloc b).alloc c) d
  simp only [World.size_alloc, Nat.add_assoc, Nat.reduceAdd] at e2 e3 e4
  refine ⟨?_, ?_, ?_, e4⟩
  · exact (Below.heap_alloc _ _ _ (by simp <;> omega)).trans ((Below.heap_alloc _ _ _ (by simp <;> omega)).trans ((Below.heap_alloc _ _ _ (by simp <;> omega)).trans e1))
  · exact (Below.heap_alloc _ _ _ (by simp <;> omega)).trans ((Below.heap_alloc _ _ _ (by simp <;> omega)).trans e2)
  · exact (Below.heap_alloc _ _ _ (by simp <;> omega)).trans e3
/-- The net of 'works' lies in memory. -/
def Lit3 (b : Nat) (X : World) : Prop := X.heap[b]? = some (.cells #[.string ⟨#[90]⟩, .int .i64 0, .string ⟨#[83]⟩, .int .i64 1] 106 (0, 0)) ∧ X.heap[b + 1]? = some (.cells #[.int .i64 1, .int .i64 0] 3 (0, 0)) ∧
  X.heap[b + 2]? = some (.cells #[.int .i64 1, .int .i64 0, .int .i64 0, .int .i64 0, .int .i64 0, .int .i64 1, .int .i64 (-1), .int .i64 0] 108 (0, 0)) ∧ X.heap[b + 3]? = some (.cells #[.slice (some ⟨b + 1, 0, none⟩) 2 2, .int .i64 1, .slice (some ⟨b + 2, 0, none⟩) 2 2] 64 (0, 0))
theorem Lit3.below {b : Nat} {X X' : World} (h : Lit3 b X) (hb : Below X.heap.size X X') : Lit3 b X' :=
  ⟨(hb.block _ (heap_lt h.1)).trans h.1, (hb.block _ (heap_lt h.2.1)).trans h.2.1, (hb.block _ (heap_lt h.2.2.1)).trans h.2.2.1, (hb.block _ (heap_lt h.2.2.2)).trans h.2.2.2⟩
end Go.Proofs.YtkonfogebepccaaDoor
namespace Go.Proofs.YtkonfogebepccaaDoor
open Go.RowKit
attribute [local go_sem] cell_set
attribute [local go_sem high] run_eql_wire
set_option maxRecDepth 100000
set_option linter.unusedVariables false

theorem pairs3 : pairsOf [((-1, 0), (0, 1)), ((0, 0), (1, 0))] = [(0, 1)] := by decide +kernel
theorem lit3_tidy {b : Nat} {X : World} (h : Lit3 b X) : Calls Tryd.prog 27 #[.slice (some ⟨b, 0, none⟩) 2 2, .agg #[.slice (some ⟨b + 1, 0, none⟩) 2 2, .int .i64 1, .slice (some ⟨b + 2, 0, none⟩) 2 2]] X fun e w' => ∃ V1 c1 V2 c2, e = .returned (.tuple #[.agg #[.slice V1 2 c1, .int .i64 1, .slice V2 2 c2], .int .i64 0]) ∧ WrRd w' V2 [((-1, 0), (0, 1)), ((0, 0), (1, 0))] ∧ Below X.heap.size X w' := by
  refine (net_tidy_ok (some ⟨b, 0, none⟩) 2 2 L3 (some ⟨b + 1, 0, none⟩) (some ⟨b + 2, 0, none⟩) 2 2 [1, 0] 1 W3 X rfl (by decide) (Lib.hid (ag_lit h.1)) (by decide) (Lib.hid (ints_lit h.2.1)) (Lib.hid (wires_lit h.2.2.1)) (by decide) (by decide) net3).mono ?_
  rintro e w' ⟨V1, c1, V2, c2, rfl, hnf⟩
  have ht : tidyW (allPs (pnL L3) [1, 0] (1 : Int).toNat) W3 = [((-1, 0), (0, 1)), ((0, 0), (1, 0))] := tidy3
  rw [ht] at hnf ⊢
  exact ⟨V1, c1, V2, c2, rfl, hnf.2.1.wires, hnf.1.2.2⟩
theorem lit3_pairs {b : Nat} {X : World} (h : Lit3 b X) : Calls Tryd.prog 28 #[.slice (some ⟨b, 0, none⟩) 2 2, .agg #[.slice (some ⟨b + 1, 0, none⟩) 2 2, .int .i64 1, .slice (some ⟨b + 2, 0, none⟩) 2 2]] X fun e w' => ∃ V c, e = .returned (.tuple #[.slice V 1 c, .int .i64 0]) ∧ (∃ g, V = some ⟨g, 0, none⟩ ∧ w'.cell? ⟨g, 0, none⟩ = some (.int .i64 0) ∧ w'.cell? ⟨g, 1, none⟩ = some (.int .i64 1)) ∧ Below X.heap.size X w' := by
  refine (net_pairs_ok (some ⟨b, 0, none⟩) 2 2 L3 (some ⟨b + 1, 0, none⟩) (some ⟨b + 2, 0, none⟩) 2 2 [1, 0] 1 W3 X rfl (by decide) (Lib.hid (ag_lit h.1)) (by decide) (Lib.hid (ints_lit h.2.1)) (Lib.hid (wires_lit h.2.2.1)) (by decide) (by decide) net3).mono ?_
  rintro e w' ⟨V, c, rfl, hf⟩
  have ht : pairsOf (tidyW (allPs (pnL L3) [1, 0] (1 : Int).toNat) W3) = [(0, 1)] := by rw [show ((1 : Int)).toNat = 1 from rfl, tidy3, pairs3]
  rw [ht] at hf ⊢
  refine ⟨V, c, rfl, ?_, hf.2.2⟩
  obtain ⟨g, c', cur, e, hg, _⟩ := hf.1.some_ (by decide)
  simp only [Value.slice.injEq, true_and] at e
  obtain ⟨rfl, rfl⟩ := e
  exact ⟨g, rfl, hf.1.cellAt 0 (by decide), hf.1.cellAt 1 (by decide)⟩

set_option maxHeartbeats 2000000 in
theorem works03 (w : World) : Calls Tryd.prog 20 #[] w fun e w' => e = .returned (.bool true) ∧ Below w.heap.size w w' := by
  go_enter Tryd.func20, Tryd.ntmps20
  go_upto_region 3 with fail
  refine absW (fun X => Lit3 w.heap.size X ∧ Below w.heap.size w X) ⟨heap4 w _ _ _ _, by (repeat (first | exact Below.refl _ _ | (with_reducible refine Below.drew ?_) | (with_reducible refine Below.alloc ?_ (by (try simp); (try omega)) _) | (with_reducible refine Below.setCell ?_ (by (try simp); (try omega)) _) | (with_reducible refine Below.trans ?_ (Below.mono (by assumption) (by (try simp); (try omega))))))⟩ ?_
  rintro X ⟨hlit, hbx⟩
  have HL := Lib.hid hlit
  have HB := Lib.hid hbx
  have n0 : X.cell? ⟨w.heap.size + 3, 0, none⟩ = some (.slice (some ⟨w.heap.size + 1, 0, none⟩) 2 2) := by simp [World.cell?, hlit.2.2.2]
  have n1 : X.cell? ⟨w.heap.size + 3, 1, none⟩ = some (.int .i64 1) := by simp [World.cell?, hlit.2.2.2]
  have n2 : X.cell? ⟨w.heap.size + 3, 2, none⟩ = some (.slice (some ⟨w.heap.size + 2, 0, none⟩) 2 2) := by simp [World.cell?, hlit.2.2.2]
  clear hlit hbx
  go_wp2_with fail
  refine (lit3_tidy HL.out).mono ?_
  rintro e w1 ⟨V1, c1, V2, c2, rfl, hw1, hb1⟩
  have HW1 := Lib.hid hw1
  have HB1 := Lib.hid (HB.out.trans (hb1.mono HB.out.size))
  have HL1 := Lib.hid (HL.out.below hb1)
  have hl3 := heap_lt HL1.out.2.2.2
  clear n0 n1 n2 hw1 hb1
  have n0 : w1.cell? ⟨w.heap.size + 3, 0, none⟩ = some (.slice (some ⟨w.heap.size + 1, 0, none⟩) 2 2) := by simp [World.cell?, HL1.out.2.2.2]
  have n1 : w1.cell? ⟨w.heap.size + 3, 1, none⟩ = some (.int .i64 1) := by simp [World.cell?, HL1.out.2.2.2]
  have n2 : w1.cell? ⟨w.heap.size + 3, 2, none⟩ = some (.slice (some ⟨w.heap.size + 2, 0, none⟩) 2 2) := by simp [World.cell?, HL1.out.2.2.2]
  go_wp2_with fail
  refine (lit3_pairs (HL1.out.below ((Below.refl _ _).alloc (Nat.le_refl _) _))).mono ?_
  rintro e w2 ⟨V, c, rfl, ⟨g, rfl, p0, p1⟩, hb2⟩
  have q2 : w2.cell? ⟨w1.heap.size, 2, none⟩ = some (.slice V2 2 c2) := (hb2.cell (p := ⟨w1.heap.size, 2, none⟩) (by simp)).trans (by go_simp)
  have HW2 := Lib.hid (HW1.out.below (((Below.refl _ _).alloc (Nat.le_refl _) _).trans (hb2.mono (by simp))))
  have HB2 := Lib.hid (HB1.out.trans ((((Below.refl _ w1).alloc (Nat.le_refl _) _).trans (hb2.mono (by simp))).mono HB1.out.size))
  obtain ⟨b, off, rfl, hb, e0, e1, e2, e3⟩ := HW2.out 0 (by decide)
  obtain ⟨b', off', e', hb', f0, f1, f2, f3⟩ := HW2.out 1 (by decide)
  simp only [Option.some.injEq, Addr.mk.injEq, and_true] at e'
  obtain ⟨rfl, rfl⟩ := e'
  have hE1 : eqW ((-1, 0), (0, 1)) ((-1, 0), (0, 1)) = true := by decide
  have hE2 : eqW ((0, 0), (1, 0)) ((0, 0), (1, 0)) = true := by decide
  simp only [List.getD_cons_zero, List.getD_cons_succ, Nat.zero_mul, Nat.one_mul, Nat.add_zero, Nat.add_assoc, Nat.reduceAdd] at e0 e1 e2 e3 f0 f1 f2 f3
  clear n0 n1 n2 hb2
  go_wp2
  go_ret
  exact ⟨rfl, HB2.out⟩
end Go.Proofs.YtkonfogebepccaaDoor
/-
  The statement NetChecks: its beginning; its six calls, where the net is none.
-/
namespace Go.Proofs.YtkonfogebepccaaDoor
open Go.RowKit Go.Shelf
attribute [local go_sem] cell_set
set_option maxRecDepth 100000
set_option linter.unusedVariables false

noncomputable def ncT (n : Nat) : Code := ((Tryd.f4.body).bind (tailQ n)).getD .skip
def FrNC (ds : List Deferred) (U : Nat → Value) : Act := { tmps := (U 0 :: U 1 :: U 2 :: U 3 :: U 4 :: U 5 :: U 6 :: U 7 :: U 8 :: U 9 :: U 10 :: U 11 :: U 12 :: U 13 :: U 14 :: U 15 :: U 16 :: U 17 :: U 18 :: U 19 :: U 20 :: U 21 :: U 22 :: U 23 :: U 24 :: U 25 :: U 26 :: U 27 :: U 28 :: U 29 :: U 30 :: U 31 :: U 32 :: U 33 :: U 34 :: U 35 :: U 36 :: U 37 :: U 38 :: U 39 :: U 40 :: U 41 :: U 42 :: U 43 :: U 44 :: U 45 :: U 46 :: U 47 :: U 48 :: U 49 :: U 50 :: U 51 :: U 52 :: U 53 :: U 54 :: U 55 :: U 56 :: U 57 :: U 58 :: U 59 :: U 60 :: U 61 :: U 62 :: U 63 :: U 64 :: U 65 :: U 66 :: U 67 :: U 68 :: U 69 :: U 70 :: U 71 :: U 72 :: U 73 :: U 74 :: U 75 :: U 76 :: U 77 :: U 78 :: U 79 :: U 80 :: U 81 :: U 82 :: U 83 :: U 84 :: U 85 :: U 86 :: U 87 :: U 88 :: U 89 :: U 90 :: U 91 :: U 92 :: U 93 :: U 94 :: U 95 :: U 96 :: U 97 :: U 98 :: U 99 :: U 100 :: U 101 :: U 102 :: U 103 :: U 104 :: U 105 :: U 106 :: U 107 :: U 108 :: U 109 :: U 110 :: U 111 :: U 112 :: U 113 :: U 114 :: U 115 :: U 116 :: U 117 :: U 118 :: U 119 :: U 120 :: U 121 :: U 122 :: U 123 :: U 124 :: U 125 :: U 126 :: U 127 :: U 128 :: U 129 :: U 130 :: U 131 :: U 132 :: U 133 :: U 134 :: U 135 :: U 136 :: U 137 :: U 138 :: U 139 :: U 140 :: U 141 :: U 142 :: U 143 :: U 144 :: U 145 :: U 146 :: U 147 :: U 148 :: U 149 :: U 150 :: U 151 :: U 152 :: U 153 :: U 154 :: U 155 :: U 156 :: U 157 :: U 158 :: U 159 :: U 160 :: U 161 :: U 162 :: U 163 :: U 164 :: U 165 :: U 166 :: U 167 :: U 168 :: U 169 :: U 170 :: U 171 :: U 172 :: U 173 :: U 174 :: U 175 :: U 176 :: U 177 :: U 178 :: U 179 :: U 180 :: U 181 :: U 182 :: U 183 :: U 184 :: U 185 :: U 186 :: U 187 :: U 188 :: U 189 :: U 190 :: U 191 :: U 192 :: U 193 :: U 194 :: U 195 :: U 196 :: U 197 :: U 198 :: U 199 :: U 200 :: U 201 :: U 202 :: U 203 :: U 204 :: U 205 :: U 206 :: U 207 :: U 208 :: U 209 :: U 210 :: U 211 :: U 212 :: U 213 :: []).toArray, defers := ds }
theorem FrN.openNC {ds : List Deferred} {L : List (Nat × Value)} {a : Act} (h : FrN 214 ds L a) : ∃ U, a = FrNC ds U ∧ Us U L := h.open_
/-- What the statement keeps: the net's box, the box of its twin with marks behind, the signature's copy. -/
structure CkS (w X : World) (bx b6 g1 g2 : Nat) (VA VB V5 : Option Addr) (ca cb : Nat) (L : List (ByteArray × Int)) (cells : List Int) (free : Int) (W : List (Pt × Pt)) : Prop where
  bel : Below w.heap.size w X
  nb : NBox X bx VA cells.length ca free VB W.length cb
  n6 : NBox X b6 (some ⟨g1, 0, none⟩) cells.length (cells.length + 64) free (some ⟨g2, 0, none⟩) W.length (W.length + 64)
  ag : AgRd X V5 L
  wd : WideN X g1 g2 cells W
theorem CkS.below {w X Y : World} {bx b6 g1 g2 : Nat} {VA VB V5 : Option Addr} {ca cb : Nat} {L : List (ByteArray × Int)} {cells : List Int} {free : Int} {W : List (Pt × Pt)} (h : CkS w X bx b6 g1 g2 VA VB V5 ca cb L cells free W) (hb : Below X.heap.size X Y) : CkS w Y bx b6 g1 g2 VA VB V5 ca cb L cells free W :=
  ⟨h.bel.trans (hb.mono h.bel.size), h.nb.below hb, h.n6.below hb, h.ag.below hb, h.wd.below hb⟩
section
variable (Q : Exit → Act → World → Prop) (A : Option Addr) (n cap : Nat) (L : List (ByteArray × Int)) (VA VB : Option Addr) (ca cb : Nat) (cells : List Int) (free : Int) (W : List (Pt × Pt)) (w : World)
set_option maxHeartbeats 4000000 in
theorem nc_0 (a : Act) (hn : n = L.length) (HL : Hid (AgRd w A L)) (hl : L.length ≤ maxLen) (hcA : cells.length ≤ maxLen) (hwA : W.length ≤ maxLen) (HC : Hid (IntsRd w VA cells)) (HW : Hid (WrRd w VB W))
    (hret : Hid (∀ a' X, FrN 214 [] [(4, .bool true)] a' → Below w.heap.size w X → Q .ret a' X))
    (hnext : Hid (L.length ≤ 1024 → cells.length ≤ 8192 → W.length ≤ 32768 → ∀ a' X b6 g1 g2 V5 c5, L.length ≤ c5 → FrN 214 [] [(0, .slice A n cap), (3, .pointer (some ⟨w.heap.size, 0, none⟩)), (5, .slice V5 L.length c5), (6, .pointer (some ⟨b6, 0, none⟩))] a' → CkS w X w.heap.size b6 g1 g2 VA VB V5 ca cb L cells free W → (ncT 5).wp Tryd.prog Q a' X))
    (ha : FrN 214 [] [(0, .slice A n cap), (1, netV VA ca cells free VB cb W)] a) : (ncT 0).wp Tryd.prog Q a w := by
  subst hn
  obtain ⟨U, rfl, e0, e1, -⟩ := ha.openNC
  have HM : Hid (∀ Z, Below w.heap.size w Z → Calls Tryd.prog 19 #[.slice A L.length cap, .agg #[.slice VA cells.length ca, .int .i64 free, .slice VB W.length cb]] Z (SomeB (fun r => r = false → L.length ≤ 1024 ∧ cells.length ≤ 8192 ∧ W.length ≤ 32768) Z)) := fun Z hz =>
    much_is A _ cap L VA VB cells.length W.length ca cb free Z rfl hl (Lib.hid (HL.out.below hz)) hcA hwA
  unfold FrNC
  simp only [e0, e1]
  clear e0 e1 ha
  show (Code.seq _ _).wp _ _ _ _
  go_upto_region 1 with fail
  refine absW (fun X => Below w.heap.size w X ∧ NBox X w.heap.size VA cells.length ca free VB W.length cb) ⟨by (repeat (first | exact Below.refl _ _ | (with_reducible refine Below.drew ?_) | (with_reducible refine Below.alloc ?_ (by (try simp); (try omega)) _) | (with_reducible refine Below.setCell ?_ (by (try simp); (try omega)) _) | (with_reducible refine Below.trans ?_ (Below.mono (by assumption) (by (try simp); (try omega)))))), ⟨by simp, by go_simp, by go_simp, by go_simp⟩⟩ ?_
  rintro X ⟨hbX, hnb⟩
  have c0 := hnb.c0
  have c1 := hnb.c1
  have c2 := hnb.c2
  have clt := hnb.lt
  have HX := Lib.hid (And.intro hbX hnb)
  have hlM := Lib.hid (And.intro hcA hwA)
  clear hbX hnb
  go_wp2_with fail
  refine (HM.out _ HX.out.1).mono ?_
  rintro e w1 ⟨r, rfl, hr, hb1⟩
  have HX1 : Hid (Below w.heap.size w w1 ∧ NBox w1 w.heap.size VA cells.length ca free VB W.length cb) := ⟨HX.out.1.trans (hb1.mono HX.out.1.size), HX.out.2.below hb1⟩
  clear hb1 c0 c1 c2 clt
  have c0 := HX1.out.2.c0
  have c1 := HX1.out.2.c1
  have c2 := HX1.out.2.c2
  have clt := HX1.out.2.lt
  cases r with
  | true =>
    go_wp2_with (go_at_call 20; refine (works03 _).mono ?_; rintro e w9 ⟨rfl, hb9⟩
                 have HB9 := Lib.hid hb9
                 clear hb9)
    exact hret.out _ _ ⟨rfl, rfl, rfl, trivial⟩ (HX1.out.1.trans (HB9.out.mono HX1.out.1.size))
  | false =>
    have HR1 := Lib.hid (hr rfl)
    have HN := Lib.hid (hnext.out HR1.out.1 HR1.out.2.1 HR1.out.2.2)
    have HL1 := Lib.hid (HL.out.below HX1.out.1)
    have HC1 := Lib.hid (HC.out.below HX1.out.1)
    have HW1 := Lib.hid (HW.out.below HX1.out.1)
    clear hr
    go_wp2_with (go_at_call 21; refine (copy_agents A cap L _ HL1.out (by have := HR1.out.1; omega)).mono ?_; rintro e w2 ⟨V5, c5, rfl, hf5⟩
                 have HF5 := Lib.hid hf5
                 have hb2 := hf5.2.2
                 have HB2 : Hid (Below w.heap.size w w2 ∧ NBox w2 w.heap.size VA cells.length ca free VB W.length cb) := ⟨HX1.out.1.trans (hb2.mono HX1.out.1.size), HX1.out.2.below hb2⟩
                 clear hf5 hb2 c0 c1 c2 clt
                 have c0 := HB2.out.2.c0
                 have c1 := HB2.out.2.c1
                 have c2 := HB2.out.2.c2
                 have clt := HB2.out.2.lt)
    refine (wide_net VA VB ca cb cells free W _ (by have := HR1.out.2.1; omega) (by have := HR1.out.2.2; omega) (Lib.hid (HC1.out.below HF5.out.2.2)) (Lib.hid (HW1.out.below HF5.out.2.2))).mono ?_
    rintro e w3 ⟨g1, g2, rfl, hg1, hg2, hwd, hb3⟩
    have HB3 := Lib.hid (And.intro (HB2.out.1.trans (hb3.mono HB2.out.1.size)) (And.intro (HB2.out.2.below hb3) (And.intro hwd (HF5.out.1.keep fun b hb => hb3.block b (HF5.out.1.lt b hb)))))
    clear hg1 hg2 hwd hb3 c0 c1 c2 clt
    iterate 80 (first | (with_reducible refine at_seq3 5 ?_) | (with_reducible refine at_seq2 5 ?_) | (with_reducible refine at_seq 5 ?_) | go_values | go_skip | go_guarded | go_step | go_upon | go_back | go_simp)
    refine HN.out _ _ w3.heap.size g1 g2 V5 c5 ?_ ⟨rfl, rfl, rfl, rfl, rfl, rfl, trivial⟩ ?_
    · obtain ⟨A9, c9, e9, h9⟩ := HF5.out.1.len
      injection e9 with _ _ e9
      omega
    · have hO : ∀ o : Obj, Below w3.heap.size w3 (w3.alloc o) := fun o => (Below.refl _ _).alloc (Nat.le_refl _) o
      refine ⟨HB3.out.1.trans ((hO _).mono HB3.out.1.size), HB3.out.2.1.below (hO _), ⟨by simp, by go_simp, by go_simp, by go_simp⟩, (Row.agents HB3.out.2.2.2).below (hO _), HB3.out.2.2.1.below (hO _)⟩
end
end Go.Proofs.YtkonfogebepccaaDoor
namespace Go.Proofs.YtkonfogebepccaaDoor
open Go.RowKit Go.Shelf
attribute [local go_sem] cell_set
set_option maxRecDepth 100000
set_option linter.unusedVariables false

section
variable (Q : Exit → Act → World → Prop) (A : Option Addr) (n cap : Nat) (L : List (ByteArray × Int)) (VA VB : Option Addr) (ca cb : Nat) (cells : List Int) (free : Int) (W : List (Pt × Pt)) (w : World)
set_option maxHeartbeats 4000000 in
/-- Both checks. -/
theorem nc_5 (a : Act) (X : World) (b6 g1 g2 : Nat) (V5 : Option Addr) (c5 : Nat) (hn : n = L.length) (hcap : L.length ≤ cap) (HL : Hid (AgRd w A L)) (hl : L.length ≤ 1024) (hcA : cells.length ≤ 8192) (hwA : W.length ≤ 32768) (HC : Hid (IntsRd w VA cells)) (HW : Hid (WrRd w VB W)) (h5 : L.length ≤ c5)
    (hnext : Hid (∀ a' X', FrN 214 [] [(0, .slice A n cap), (3, .pointer (some ⟨w.heap.size, 0, none⟩)), (5, .slice V5 L.length c5), (6, .pointer (some ⟨b6, 0, none⟩)), (7, .int .i64 (netChk (pnL L) L.length (chk L) cells free W).1), (8, .int .i64 (netChk (pnL L) L.length (chk L) cells free W).2), (9, .int .i64 (netChk (pnL L) L.length (chk L) cells free W).1), (10, .int .i64 (netChk (pnL L) L.length (chk L) cells free W).2)] a' → CkS w X' w.heap.size b6 g1 g2 VA VB V5 ca cb L cells free W → (ncT 7).wp Tryd.prog Q a' X'))
    (hs : Hid (CkS w X w.heap.size b6 g1 g2 VA VB V5 ca cb L cells free W))
    (ha : FrN 214 [] [(0, .slice A n cap), (3, .pointer (some ⟨w.heap.size, 0, none⟩)), (5, .slice V5 L.length c5), (6, .pointer (some ⟨b6, 0, none⟩))] a) : (ncT 5).wp Tryd.prog Q a X := by
  subst hn
  obtain ⟨U, rfl, e0, e3, e5, e6, -⟩ := ha.openNC
  have HS := hs
  unfold FrNC
  simp only [e0, e3, e5, e6]
  clear e0 e3 e5 e6 ha hs
  show (Code.seq _ _).wp _ _ _ _
  generalize hK : netChk (pnL L) L.length (chk L) cells free W = K at hnext
  obtain ⟨k1, k2⟩ := K
  have H1 : Hid (∀ Z, CkS w Z w.heap.size b6 g1 g2 VA VB V5 ca cb L cells free W → Calls Tryd.prog 23 #[.slice V5 L.length c5, .agg #[.slice (some ⟨g1, 0, none⟩) cells.length (cells.length + 64), .int .i64 free, .slice (some ⟨g2, 0, none⟩) W.length (W.length + 64)]] Z fun e w' => e = .returned (.tuple #[.int .i64 k1, .int .i64 k2]) ∧ Below Z.heap.size Z w') := fun Z hz => by
    have := net_check V5 _ c5 L (some ⟨g1, 0, none⟩) (some ⟨g2, 0, none⟩) (cells.length + 64) (W.length + 64) cells free W Z rfl h5 (Lib.hid hz.ag) (by unfold maxLen; omega) (Lib.hid hz.wd.ints) (Lib.hid hz.wd.wires) (by omega) (by omega)
    rw [hK] at this
    exact this
  have H2 : Hid (∀ Z, CkS w Z w.heap.size b6 g1 g2 VA VB V5 ca cb L cells free W → Calls Tryd.prog 24 #[.slice A L.length cap, .agg #[.slice VA cells.length ca, .int .i64 free, .slice VB W.length cb]] Z fun e w' => e = .returned (.tuple #[.int .i64 k1, .int .i64 k2]) ∧ Below Z.heap.size Z w') := fun Z hz => by
    have := rcheck3 A _ cap L VA VB ca cb cells free W Z rfl hcap (Lib.hid (HL.out.below hz.bel)) (by unfold maxLen; omega) (Lib.hid (HC.out.below hz.bel)) (Lib.hid (HW.out.below hz.bel)) (by omega) (by omega)
    rw [hK] at this
    exact this
  clear hK
  have c0 := HS.out.nb.c0
  have c1 := HS.out.nb.c1
  have c2 := HS.out.nb.c2
  have clt := HS.out.nb.lt
  have d0 := HS.out.n6.c0
  have d1 := HS.out.n6.c1
  have d2 := HS.out.n6.c2
  have dlt := HS.out.n6.lt
  go_wp2_with fail
  refine (H1.out _ HS.out).mono ?_
  rintro e w1 ⟨rfl, hb1⟩
  have HS := Lib.hid (HS.out.below hb1)
  clear c0 c1 c2 clt d0 d1 d2 dlt
  have c0 := HS.out.nb.c0
  have c1 := HS.out.nb.c1
  have c2 := HS.out.nb.c2
  have clt := HS.out.nb.lt
  have d0 := HS.out.n6.c0
  have d1 := HS.out.n6.c1
  have d2 := HS.out.n6.c2
  have dlt := HS.out.n6.lt
  clear hb1
  go_wp2_with fail
  refine (H2.out _ HS.out).mono ?_
  rintro e w2 ⟨rfl, hb2⟩
  have HS := Lib.hid (HS.out.below hb2)
  clear c0 c1 c2 clt d0 d1 d2 dlt
  have c0 := HS.out.nb.c0
  have c1 := HS.out.nb.c1
  have c2 := HS.out.nb.c2
  have clt := HS.out.nb.lt
  have d0 := HS.out.n6.c0
  have d1 := HS.out.n6.c1
  have d2 := HS.out.n6.c2
  have dlt := HS.out.n6.lt
  clear hb2
  iterate 80 (first | (with_reducible refine at_seq3 7 ?_) | (with_reducible refine at_seq2 7 ?_) | (with_reducible refine at_seq 7 ?_) | go_values | go_skip | go_guarded | go_step | go_upon | go_back | go_simp)
  exact hnext.out _ _ ⟨rfl, rfl, rfl, rfl, rfl, rfl, rfl, rfl, rfl, rfl, trivial⟩ HS.out
end
end Go.Proofs.YtkonfogebepccaaDoor
