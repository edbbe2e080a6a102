/-
  net.Plug: its head: both nets checked.
-/
import Derived.Test.YtcebejcdfdahjaaPlugMap
import Derived.Test.YtcebejcdfdahjaaPlugged1
import Derived.Test.YtcebejcdfdahjaaNetMoveW
/-
  net.Plug: its frames; its boxes.
-/
namespace Go.Proofs.Ytcebejcdfdahjaa
open Go.RowKit
attribute [local go_sem] cell_set
set_option maxRecDepth 100000
set_option linter.unusedVariables false

noncomputable def gpT (n : Nat) : Code := ((Try.f32.body).bind (tailP n)).getD .skip
/-- What slots of a frame hold. -/
def Sl (a : Act) : List (Nat × Value) → Prop
  | [] => True
  | (i, v) :: r => a.tmps[i]? = some v ∧ Sl a r
def Us (U : Nat → Value) : List (Nat × Value) → Prop
  | [] => True
  | (i, v) :: r => U i = v ∧ Us U r
structure FrN (n : Nat) (ds : List Deferred) (L : List (Nat × Value)) (a : Act) : Prop where
  sz : a.tmps.size = n
  df : a.defers = ds
  sl : Sl a L
theorem sl_us {a : Act} {U : Nat → Value} (h : ∀ i v, a.tmps[i]? = some v → U i = v) : ∀ L, Sl a L → Us U L
  | [], _ => trivial
  | (i, v) :: r, hs => ⟨h i v hs.1, sl_us h r hs.2⟩
def FrGL (ds : List Deferred) (U : Nat → Value) : Act := { tmps := (U 0 :: U 1 :: U 2 :: U 3 :: U 4 :: U 5 :: U 6 :: U 7 :: U 8 :: U 9 :: U 10 :: U 11 :: U 12 :: U 13 :: U 14 :: U 15 :: U 16 :: U 17 :: U 18 :: U 19 :: U 20 :: U 21 :: U 22 :: U 23 :: U 24 :: U 25 :: U 26 :: U 27 :: U 28 :: U 29 :: U 30 :: U 31 :: U 32 :: U 33 :: U 34 :: U 35 :: U 36 :: U 37 :: U 38 :: U 39 :: U 40 :: U 41 :: U 42 :: U 43 :: U 44 :: U 45 :: U 46 :: U 47 :: U 48 :: U 49 :: U 50 :: U 51 :: U 52 :: U 53 :: U 54 :: U 55 :: U 56 :: U 57 :: U 58 :: U 59 :: U 60 :: U 61 :: U 62 :: U 63 :: U 64 :: U 65 :: U 66 :: U 67 :: U 68 :: U 69 :: U 70 :: U 71 :: U 72 :: U 73 :: U 74 :: U 75 :: U 76 :: U 77 :: U 78 :: U 79 :: U 80 :: U 81 :: U 82 :: U 83 :: U 84 :: U 85 :: U 86 :: U 87 :: U 88 :: U 89 :: U 90 :: U 91 :: U 92 :: U 93 :: U 94 :: U 95 :: U 96 :: U 97 :: U 98 :: U 99 :: U 100 :: U 101 :: U 102 :: U 103 :: U 104 :: U 105 :: U 106 :: U 107 :: U 108 :: U 109 :: U 110 :: U 111 :: U 112 :: U 113 :: U 114 :: U 115 :: U 116 :: U 117 :: U 118 :: U 119 :: U 120 :: U 121 :: U 122 :: U 123 :: U 124 :: U 125 :: U 126 :: U 127 :: U 128 :: U 129 :: U 130 :: U 131 :: U 132 :: U 133 :: U 134 :: U 135 :: U 136 :: U 137 :: U 138 :: U 139 :: U 140 :: U 141 :: U 142 :: U 143 :: U 144 :: U 145 :: U 146 :: U 147 :: U 148 :: U 149 :: U 150 :: U 151 :: U 152 :: U 153 :: U 154 :: U 155 :: U 156 :: U 157 :: U 158 :: U 159 :: U 160 :: U 161 :: U 162 :: U 163 :: U 164 :: U 165 :: U 166 :: U 167 :: U 168 :: U 169 :: U 170 :: U 171 :: U 172 :: U 173 :: U 174 :: U 175 :: U 176 :: U 177 :: U 178 :: U 179 :: U 180 :: U 181 :: U 182 :: U 183 :: U 184 :: U 185 :: U 186 :: U 187 :: U 188 :: U 189 :: U 190 :: U 191 :: U 192 :: U 193 :: U 194 :: U 195 :: U 196 :: U 197 :: U 198 :: U 199 :: U 200 :: U 201 :: U 202 :: U 203 :: U 204 :: U 205 :: U 206 :: U 207 :: U 208 :: U 209 :: U 210 :: U 211 :: U 212 :: U 213 :: U 214 :: U 215 :: U 216 :: U 217 :: U 218 :: U 219 :: U 220 :: U 221 :: U 222 :: U 223 :: U 224 :: U 225 :: U 226 :: U 227 :: U 228 :: U 229 :: U 230 :: U 231 :: U 232 :: U 233 :: []).toArray, defers := ds }
theorem FrN.open {ds : List Deferred} {L : List (Nat × Value)} {a : Act} (h : FrN 234 ds L a) : ∃ U, a = FrGL ds U ∧ Us U L := by
  obtain ⟨⟨l⟩, df⟩ := a
  obtain ⟨sz, rfl, sl⟩ := h
  have e := list_of_range l undef
  obtain ⟨U, hU⟩ : ∃ U : Nat → Value, (fun i => (l[i]?).getD undef) = U := ⟨_, rfl⟩
  have g : ∀ i v, ((⟨⟨l⟩, df⟩ : Act)).tmps[i]? = some v → U i = v := fun i v h => by
    have h' : l[i]? = some v := by simpa using h
    rw [← hU]; simp [h']
  simp only [List.size_toArray] at sz
  rw [sz, hU] at e
  refine ⟨U, ?_, sl_us g L sl⟩
  rw [e]
  rfl
/-- The boxes of both nets, and of the result, which is no net yet. -/
structure GB (w : World) (VA VB UA UB : Option Addr) (na ca wa cb nb da wb db : Nat) (fA fB : Int) (X : World) : Prop where
  bel : Below w.heap.size w X
  a : NBox X w.heap.size VA na ca fA VB wa cb
  b : NBox X (w.heap.size + 1) UA nb da fB UB wb db
  r : X.heap[w.heap.size + 2]? = some (.cells #[.slice none 0 0, .int .i64 0, .slice none 0 0] 26 (0, 0))
section
variable {w X Y : World} {VA VB UA UB : Option Addr} {na ca wa cb nb da wb db : Nat} {fA fB : Int}
theorem GB.lt (h : GB w VA VB UA UB na ca wa cb nb da wb db fA fB X) : w.heap.size + 3 ≤ X.heap.size := heap_lt h.r
theorem GB.below (h : GB w VA VB UA UB na ca wa cb nb da wb db fA fB X) (hb : Below (w.heap.size + 3) X Y) : GB w VA VB UA UB na ca wa cb nb da wb db fA fB Y := by
  have h3 : Below w.heap.size X Y := ⟨hb.os, hb.tape, hb.output, hb.size, fun k hk => hb.block k (by omega)⟩
  have k0 : ∀ j, Y.cell? ⟨w.heap.size, j, none⟩ = X.cell? ⟨w.heap.size, j, none⟩ := fun j => World.cell?_of_block (hb.block _ (by show w.heap.size < _; omega))
  have k1 : ∀ j, Y.cell? ⟨w.heap.size + 1, j, none⟩ = X.cell? ⟨w.heap.size + 1, j, none⟩ := fun j => World.cell?_of_block (hb.block _ (by show w.heap.size + 1 < _; omega))
  have := hb.size
  exact ⟨h.bel.trans h3, ⟨by have := h.a.lt; omega, (k0 0).trans h.a.c0, (k0 1).trans h.a.c1, (k0 2).trans h.a.c2⟩, ⟨by have := h.b.lt; omega, (k1 0).trans h.b.c0, (k1 1).trans h.b.c1, (k1 2).trans h.b.c2⟩, (hb.block _ (by omega)).trans h.r⟩
theorem GB.zero (h : GB w VA VB UA UB na ca wa cb nb da wb db fA fB X) : (X.cell? ⟨w.heap.size + 2, 0, none⟩ = some (.slice none 0 0) ∧ X.cell? ⟨w.heap.size + 2, 1, none⟩ = some (.int .i64 0) ∧ X.cell? ⟨w.heap.size + 2, 2, none⟩ = some (.slice none 0 0)) ∧ X.frozen? ⟨w.heap.size + 2, 0, none⟩ = false ∧ X.frozen? ⟨w.heap.size + 2, 1, none⟩ = false ∧ X.frozen? ⟨w.heap.size + 2, 2, none⟩ = false := by
  have hr := h.r
  refine ⟨⟨?_, ?_, ?_⟩, ?_, ?_, ?_⟩ <;> simp [World.cell?, World.frozen?, hr]
/-- Zeroes written where zeroes are. -/
theorem GB.again (h : GB w VA VB UA UB na ca wa cb nb da wb db fA fB X) : GB w VA VB UA UB na ca wa cb nb da wb db fA fB (((X.setCell ⟨w.heap.size + 2, 0, none⟩ (.slice none 0 0)).setCell ⟨w.heap.size + 2, 1, none⟩ (.int .i64 0)).setCell ⟨w.heap.size + 2, 2, none⟩ (.slice none 0 0)) := by
  have hne : ∀ b, b ≠ w.heap.size + 2 → (((X.setCell ⟨w.heap.size + 2, 0, none⟩ (.slice none 0 0)).setCell ⟨w.heap.size + 2, 1, none⟩ (.int .i64 0)).setCell ⟨w.heap.size + 2, 2, none⟩ (.slice none 0 0)).heap[b]? = X.heap[b]? := fun b hb =>
    (Below.heap_setCell _ _ _ b hb).trans ((Below.heap_setCell _ _ _ b hb).trans (Below.heap_setCell _ _ _ b hb))
  have k0 : ∀ j, (((X.setCell ⟨w.heap.size + 2, 0, none⟩ (.slice none 0 0)).setCell ⟨w.heap.size + 2, 1, none⟩ (.int .i64 0)).setCell ⟨w.heap.size + 2, 2, none⟩ (.slice none 0 0)).cell? ⟨w.heap.size, j, none⟩ = X.cell? ⟨w.heap.size, j, none⟩ := fun j => World.cell?_of_block (hne w.heap.size (by omega))
  have k1 : ∀ j, (((X.setCell ⟨w.heap.size + 2, 0, none⟩ (.slice none 0 0)).setCell ⟨w.heap.size + 2, 1, none⟩ (.int .i64 0)).setCell ⟨w.heap.size + 2, 2, none⟩ (.slice none 0 0)).cell? ⟨w.heap.size + 1, j, none⟩ = X.cell? ⟨w.heap.size + 1, j, none⟩ := fun j => World.cell?_of_block (hne (w.heap.size + 1) (by omega))
  have hr := h.r
  refine ⟨((h.bel.setCell (p := ⟨w.heap.size + 2, 0, none⟩) (by simp) _).setCell (p := ⟨w.heap.size + 2, 1, none⟩) (by simp) _).setCell (p := ⟨w.heap.size + 2, 2, none⟩) (by simp) _, ⟨by simpa using h.a.lt, (k0 0).trans h.a.c0, (k0 1).trans h.a.c1, (k0 2).trans h.a.c2⟩, ⟨by simpa using h.b.lt, (k1 0).trans h.b.c0, (k1 1).trans h.b.c1, (k1 2).trans h.b.c2⟩, ?_⟩
  simp [World.setCell, Array.getElem?_modify, hr]
end
end Go.Proofs.Ytcebejcdfdahjaa
namespace Go.Proofs.Ytcebejcdfdahjaa
open Go.RowKit
attribute [local go_sem] cell_set
set_option maxRecDepth 100000
set_option linter.unusedVariables false

section
variable (Q : Exit → Act → World → Prop)
set_option maxHeartbeats 4000000 in
theorem gp_0 (A : Option Addr) (n cap : Nat) (L : List (ByteArray × Int)) (VA VB UA UB : Option Addr) (ca cb da db : Nat) (csA csB : List Int) (fA fB : Int) (WA WB : List (Pt × Pt)) (v3 : Value) (w : World) (a : Act)
    (hn : n = L.length) (hcap : L.length ≤ cap) (HL : Hid (AgRd w A L)) (hl : L.length ≤ maxLen) (HCA : Hid (IntsRd w VA csA)) (HWA : Hid (WrRd w VB WA)) (HCB : Hid (IntsRd w UA csB)) (HWB : Hid (WrRd w UB WB))
    (hcA : csA.length ≤ 10000) (hwA : WA.length ≤ 40000) (hcB : csB.length ≤ 10000) (hwB : WB.length ≤ 40000) (kA kB : Int) (hkA : Hid ((netChk (pnL L) L.length (chk L) csA fA WA).1 = kA)) (hkB : Hid ((netChk (pnL L) L.length (chk L) csB fB WB).1 = kB))
    (hbad : Hid (∀ a' X k, k = (if kA ≠ 0 then kA else kB) → k ≠ 0 → FrN 234 [] [(8, .pointer (some ⟨w.heap.size + 2, 0, none⟩)), (9, .int .i64 k)] a' → GB w VA VB UA UB csA.length ca WA.length cb csB.length da WB.length db fA fB X → Q .ret a' X))
    (hnext : Hid (kA = 0 → kB = 0 → ∀ a' X, FrN 234 [] [(0, .slice A n cap), (3, v3), (5, .pointer (some ⟨w.heap.size, 0, none⟩)), (6, .pointer (some ⟨w.heap.size + 1, 0, none⟩)), (8, .pointer (some ⟨w.heap.size + 2, 0, none⟩))] a' → GB w VA VB UA UB csA.length ca WA.length cb csB.length da WB.length db fA fB X → (gpT 7).wp Try.prog Q a' X))
    (ha : FrN 234 [] [(0, .slice A n cap), (1, netV VA ca csA fA VB cb WA), (2, netV UA da csB fB UB db WB), (3, v3)] a) :
    (gpT 0).wp Try.prog Q a w := by
  subst hn
  obtain ⟨U, rfl, e0, e1, e2, e3, -⟩ := ha.open
  unfold FrGL
  simp only [e0, e1, e2, e3]
  clear e0 e1 e2 e3 ha
  show (Code.seq _ _).wp _ _ _ _
  go_upto_region 1 with fail
  refine absW (fun X => GB w VA VB UA UB csA.length ca WA.length cb csB.length da WB.length db fA fB X) ?_ ?_
  · refine ⟨by (repeat (first | exact Below.refl _ _ | (with_reducible refine Below.drew ?_) | (with_reducible refine Below.alloc ?_ (by (try simp); (try omega)) _) | (with_reducible refine Below.setCell ?_ (by (try simp); (try omega)) _) | (with_reducible refine Below.trans ?_ (Below.mono (by assumption) (by (try simp); (try omega)))))), ⟨by simp <;> omega, by go_simp, by go_simp, by go_simp⟩, ⟨by simp <;> omega, by go_simp, by go_simp, by go_simp⟩, ?_⟩
    have := heap_alloc_new ((w.alloc (.cells #[.slice VA csA.length ca, .int .i64 fA, .slice VB WA.length cb] 26)).alloc (.cells #[.slice UA csB.length da, .int .i64 fB, .slice UB WB.length db] 26)) (.cells #[.slice none 0 0, .int .i64 0, .slice none 0 0] 26)
    simpa using this
  intro X hX
  have hXA := hX.a
  have n0 := hXA.c0
  have n1 := hXA.c1
  have n2 := hXA.c2
  have hXl := hX.lt
  have hlA : w.heap.size < X.heap.size := by omega
  have HX := Lib.hid hX
  have hb0 := Lib.hid hX.bel
  clear hX hXA
  go_upto_region 2 with (go_at_call 61; refine (net_fine A _ cap L VA VB ca cb csA fA WA X rfl hcap (Lib.hid (HL.out.below hb0.out)) hl (Lib.hid (HCA.out.below hb0.out)) (Lib.hid (HWA.out.below hb0.out)) hcA hwA).mono ?_; rintro e w1 ⟨rfl, hb1⟩; rw [hkA.out]
                         have HX1 : Hid (GB w VA VB UA UB csA.length ca WA.length cb csB.length da WB.length db fA fB w1) := HX.out.below (hb1.mono hXl)
                         have hb01 := Lib.hid HX1.out.bel
                         obtain ⟨⟨z0, z1, z2⟩, y0, y1, y2⟩ := HX1.out.zero
                         have hlR : w.heap.size + 2 < w1.heap.size := by have := HX1.out.lt; omega
                         clear hb1)
  clear n0 n1 n2
  by_cases hkz : kA = 0
  · subst hkz
    have hb := HX1.out.b
    have n0 := hb.c0
    have n1 := hb.c1
    have n2 := hb.c2
    have hlB : w.heap.size + 1 < w1.heap.size := by omega
    clear hb
    clear z0 z1 z2 y0 y1 y2
    go_upto_region 5 with (go_at_call 61; refine (net_fine A _ cap L UA UB da db csB fB WB w1 rfl hcap (Lib.hid (HL.out.below hb01.out)) hl (Lib.hid (HCB.out.below hb01.out)) (Lib.hid (HWB.out.below hb01.out)) hcB hwB).mono ?_; rintro e w2 ⟨rfl, hb2⟩; rw [hkB.out]
                           have HX2 : Hid (GB w VA VB UA UB csA.length ca WA.length cb csB.length da WB.length db fA fB w2) := HX1.out.below (hb2.mono HX1.out.lt)
                           obtain ⟨⟨z0, z1, z2⟩, y0, y1, y2⟩ := HX2.out.zero
                           have hlR2 : w.heap.size + 2 < w2.heap.size := by have := HX2.out.lt; omega
                           clear hb2)
    clear n0 n1 n2
    by_cases hkz2 : kB = 0
    · subst hkz2
      clear z0 z1 z2 y0 y1 y2
      have HN := hnext.out (by first | trivial | rfl) (by first | trivial | rfl)
      have HNx := Lib.hid HN
      clear HN
      repeat (first
        | exact HNx.out _ _ ⟨rfl, rfl, rfl, rfl, rfl, rfl, rfl, trivial⟩ HX2.out
        | go_values | go_skip | go_guarded | go_step | go_upon | go_back)
    · have hkb : (kB != 0) = true := by simpa using hkz2
      have HZ := Lib.hid hkz2
      clear hkz2
      go_wp2_with fail
      exact hbad.out _ _ _ (by simp) HZ.out ⟨rfl, rfl, rfl, rfl, trivial⟩ HX2.out.again
  · have hka : (kA != 0) = true := by simpa using hkz
    have HZ := Lib.hid hkz
    clear hkz
    go_wp2_with fail
    exact hbad.out _ _ _ (by rw [if_pos HZ.out]) HZ.out ⟨rfl, rfl, rfl, rfl, trivial⟩ HX1.out.again
end
end Go.Proofs.Ytcebejcdfdahjaa
