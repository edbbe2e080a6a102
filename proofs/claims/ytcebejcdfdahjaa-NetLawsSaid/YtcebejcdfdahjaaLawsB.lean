/-
  The statement NetLaws: tidy; tidy again, the ports, the ends.
-/
import Derived.Test.YtcebejcdfdahjaaPlugR
import Derived.Test.YtcebejcdfdahjaaNetMovesW
/-
  The statement NetLaws: its frames; its head.
-/
namespace Go.Proofs.Ytcebejcdfdahjaa
open Go.RowKit
attribute [local go_sem] cell_set
set_option maxRecDepth 100000
set_option linter.unusedVariables false

noncomputable def nlT (n : Nat) : Code := ((Try.f10.body).bind (tailP n)).getD .skip
def FrNL (ds : List Deferred) (U : Nat → Value) : Act := { tmps := (U 0 :: U 1 :: U 2 :: U 3 :: U 4 :: U 5 :: U 6 :: U 7 :: U 8 :: U 9 :: U 10 :: U 11 :: U 12 :: U 13 :: U 14 :: U 15 :: U 16 :: U 17 :: U 18 :: U 19 :: U 20 :: U 21 :: U 22 :: U 23 :: U 24 :: U 25 :: U 26 :: U 27 :: U 28 :: U 29 :: U 30 :: U 31 :: U 32 :: U 33 :: U 34 :: U 35 :: U 36 :: U 37 :: U 38 :: U 39 :: U 40 :: U 41 :: U 42 :: U 43 :: U 44 :: U 45 :: U 46 :: U 47 :: U 48 :: U 49 :: U 50 :: U 51 :: U 52 :: U 53 :: U 54 :: U 55 :: U 56 :: U 57 :: U 58 :: U 59 :: U 60 :: U 61 :: U 62 :: U 63 :: U 64 :: U 65 :: U 66 :: U 67 :: U 68 :: U 69 :: U 70 :: U 71 :: U 72 :: U 73 :: U 74 :: U 75 :: U 76 :: U 77 :: U 78 :: U 79 :: U 80 :: U 81 :: U 82 :: U 83 :: U 84 :: U 85 :: U 86 :: U 87 :: U 88 :: U 89 :: U 90 :: U 91 :: U 92 :: U 93 :: U 94 :: U 95 :: U 96 :: U 97 :: U 98 :: U 99 :: U 100 :: U 101 :: U 102 :: U 103 :: U 104 :: U 105 :: U 106 :: U 107 :: U 108 :: U 109 :: U 110 :: U 111 :: U 112 :: U 113 :: U 114 :: U 115 :: U 116 :: U 117 :: U 118 :: U 119 :: U 120 :: U 121 :: U 122 :: U 123 :: U 124 :: U 125 :: U 126 :: U 127 :: U 128 :: U 129 :: U 130 :: U 131 :: U 132 :: U 133 :: U 134 :: U 135 :: U 136 :: U 137 :: U 138 :: U 139 :: U 140 :: U 141 :: U 142 :: U 143 :: U 144 :: U 145 :: U 146 :: U 147 :: U 148 :: U 149 :: U 150 :: U 151 :: U 152 :: U 153 :: U 154 :: U 155 :: U 156 :: U 157 :: U 158 :: U 159 :: U 160 :: U 161 :: U 162 :: U 163 :: U 164 :: U 165 :: U 166 :: U 167 :: U 168 :: U 169 :: U 170 :: U 171 :: U 172 :: U 173 :: U 174 :: U 175 :: U 176 :: U 177 :: U 178 :: U 179 :: U 180 :: U 181 :: U 182 :: U 183 :: U 184 :: U 185 :: U 186 :: U 187 :: U 188 :: U 189 :: U 190 :: U 191 :: U 192 :: U 193 :: U 194 :: U 195 :: U 196 :: U 197 :: U 198 :: U 199 :: U 200 :: U 201 :: U 202 :: U 203 :: U 204 :: U 205 :: U 206 :: U 207 :: U 208 :: U 209 :: U 210 :: U 211 :: U 212 :: U 213 :: U 214 :: U 215 :: U 216 :: U 217 :: U 218 :: U 219 :: U 220 :: U 221 :: U 222 :: U 223 :: U 224 :: U 225 :: U 226 :: U 227 :: U 228 :: U 229 :: U 230 :: U 231 :: U 232 :: U 233 :: U 234 :: U 235 :: U 236 :: U 237 :: U 238 :: U 239 :: U 240 :: U 241 :: U 242 :: U 243 :: U 244 :: U 245 :: U 246 :: U 247 :: U 248 :: U 249 :: U 250 :: U 251 :: U 252 :: U 253 :: U 254 :: U 255 :: U 256 :: U 257 :: U 258 :: U 259 :: U 260 :: U 261 :: U 262 :: U 263 :: U 264 :: U 265 :: U 266 :: U 267 :: U 268 :: U 269 :: U 270 :: U 271 :: U 272 :: U 273 :: U 274 :: U 275 :: U 276 :: U 277 :: U 278 :: U 279 :: U 280 :: U 281 :: U 282 :: U 283 :: U 284 :: U 285 :: []).toArray, defers := ds }
theorem FrN.open286 {ds : List Deferred} {L : List (Nat × Value)} {a : Act} (h : FrN 286 ds L a) : ∃ U, a = FrNL ds U ∧ Us U L := by
  obtain ⟨⟨l⟩, df⟩ := a
  obtain ⟨sz, rfl, sl⟩ := h
  have e := list_of_range l undef
  obtain ⟨U, hU⟩ : ∃ U : Nat → Value, (fun i => (l[i]?).getD undef) = U := ⟨_, rfl⟩
  have g : ∀ i v, ((⟨⟨l⟩, df⟩ : Act)).tmps[i]? = some v → U i = v := fun i v h => by
    have h' : l[i]? = some v := by simpa using h
    rw [← hU]; simp [h']
  simp only [List.size_toArray] at sz
  rw [sz, hU] at e
  refine ⟨U, ?_, sl_us g L sl⟩
  rw [e]
  rfl
/-- The arguments' boxes. -/
structure LB (X : World) (b : Nat) (VA : Option Addr) (nc ca : Nat) (fr : Int) (VB : Option Addr) (nw cb : Nat) (VX : Option Addr) (nx cx : Nat) (VY : Option Addr) (ny cy : Nat) : Prop where
  c0 : X.cell? ⟨b, 0, none⟩ = some (.slice VA nc ca)
  c1 : X.cell? ⟨b, 1, none⟩ = some (.int .i64 fr)
  c2 : X.cell? ⟨b, 2, none⟩ = some (.slice VB nw cb)
  d0 : X.cell? ⟨b + 1, 0, none⟩ = some (.slice VX nx cx)
  d1 : X.cell? ⟨b + 1, 1, none⟩ = some (.slice VY ny cy)
  lt : b + 1 < X.heap.size
theorem LB.below {X Y : World} {b : Nat} {VA : Option Addr} {nc ca : Nat} {fr : Int} {VB : Option Addr} {nw cb : Nat} {VX : Option Addr} {nx cx : Nat} {VY : Option Addr} {ny cy : Nat} (h : LB X b VA nc ca fr VB nw cb VX nx cx VY ny cy) (hb : Below X.heap.size X Y) : LB Y b VA nc ca fr VB nw cb VX nx cx VY ny cy := by
  have hl := h.lt
  have hc : ∀ i, Y.cell? ⟨b, i, none⟩ = X.cell? ⟨b, i, none⟩ := fun i => hb.cell (p := ⟨b, i, none⟩) (by show b < _; omega)
  have hd : ∀ i, Y.cell? ⟨b + 1, i, none⟩ = X.cell? ⟨b + 1, i, none⟩ := fun i => hb.cell (p := ⟨b + 1, i, none⟩) h.lt
  exact ⟨(hc 0).trans h.c0, (hc 1).trans h.c1, (hc 2).trans h.c2, (hd 0).trans h.d0, (hd 1).trans h.d1, Nat.lt_of_lt_of_le h.lt hb.size⟩
section
variable (Q : Exit → Act → World → Prop) (A : Option Addr) (n cap : Nat) (L : List (ByteArray × Int)) (VA VB VX VY : Option Addr) (ca cb nx cx ny cy : Nat) (cells : List Int) (fr : Int) (W : List (Pt × Pt)) (w : World)
set_option maxHeartbeats 4000000 in
theorem nl_0 (a : Act) (hn : n = L.length) (HL : Hid (AgRd w A L)) (hl : L.length ≤ maxLen) (hcA : cells.length ≤ maxLen) (hwA : W.length ≤ maxLen)
    (hret : Hid (∀ a' X, FrN 286 [] [(6, .bool true)] a' → Below w.heap.size w X → Q .ret a' X))
    (hnext : Hid (L.length ≤ 1024 → cells.length ≤ 8192 → W.length ≤ 32768 → nx = cells.length → (ny : Int) = fr → ∀ a' X, FrN 286 [] [(0, .slice A n cap), (4, .pointer (some ⟨w.heap.size, 0, none⟩)), (5, .pointer (some ⟨w.heap.size + 1, 0, none⟩))] a' → Below w.heap.size w X → LB X w.heap.size VA cells.length ca fr VB W.length cb VX nx cx VY ny cy → (nlT 3).wp Try.prog Q a' X))
    (ha : FrN 286 [] [(0, .slice A n cap), (1, netV VA ca cells fr VB cb W), (2, .agg #[.slice VX nx cx, .slice VY ny cy])] a) : (nlT 0).wp Try.prog Q a w := by
  subst hn
  obtain ⟨U, rfl, e0, e1, e2, -⟩ := ha.open286
  have HM : Hid (∀ Z, Below w.heap.size w Z → Calls Try.prog 11 #[.slice A L.length cap, .agg #[.slice VA cells.length ca, .int .i64 fr, .slice VB W.length cb]] Z (SomeB (fun r => r = false → L.length ≤ 1024 ∧ cells.length ≤ 8192 ∧ W.length ≤ 32768) Z)) := fun Z hz =>
    much_is A _ cap L VA VB cells.length W.length ca cb fr Z rfl hl (Lib.hid (HL.out.below hz)) hcA hwA
  unfold FrNL
  simp only [e0, e1, e2]
  clear e0 e1 e2 ha
  show (Code.seq _ _).wp _ _ _ _
  go_upto_region 1 with fail
  refine absW (fun X => Below w.heap.size w X ∧ LB X w.heap.size VA cells.length ca fr VB W.length cb VX nx cx VY ny cy) ⟨by (repeat (first | exact Below.refl _ _ | (with_reducible refine Below.drew ?_) | (with_reducible refine Below.alloc ?_ (by (try simp); (try omega)) _) | (with_reducible refine Below.setCell ?_ (by (try simp); (try omega)) _) | (with_reducible refine Below.trans ?_ (Below.mono (by assumption) (by (try simp); (try omega)))))), by go_simp, by go_simp, by go_simp, by go_simp, by go_simp, by simp⟩ ?_
  rintro X ⟨hbX, htb⟩
  obtain ⟨c0, c1, c2, d0, d1, clt⟩ := htb
  have HX : Hid (Below w.heap.size w X ∧ LB X w.heap.size VA cells.length ca fr VB W.length cb VX nx cx VY ny cy) := ⟨hbX, c0, c1, c2, d0, d1, clt⟩
  clear hbX
  have hlM := Lib.hid (And.intro hcA hwA)
  go_wp2_with fail
  refine (HM.out _ HX.out.1).mono ?_
  rintro e w1 ⟨r, rfl, hr, hb1⟩
  have HX1 : Hid (Below w.heap.size w w1 ∧ LB w1 w.heap.size VA cells.length ca fr VB W.length cb VX nx cx VY ny cy) := ⟨HX.out.1.trans (hb1.mono HX.out.1.size), HX.out.2.below hb1⟩
  clear hb1 c0 c1 c2 d0 d1 clt
  obtain ⟨c0, c1, c2, d0, d1, clt⟩ := HX1.out.2
  cases r with
  | true =>
    go_wp2_with (go_at_call 12; refine (works03 _).mono ?_; rintro e w9 ⟨rfl, hb9⟩
                 have HB9 := Lib.hid hb9
                 clear hb9)
    exact hret.out _ _ ⟨rfl, rfl, rfl, trivial⟩ (HX1.out.1.trans (HB9.out.mono HX1.out.1.size))
  | false =>
    have HR1 := Lib.hid (hr rfl)
    clear hr
    by_cases h1 : nx = cells.length
    · by_cases h2 : (ny : Int) = fr
      · have HN := Lib.hid (hnext.out HR1.out.1 HR1.out.2.1 HR1.out.2.2 h1 h2)
        have g1 : ((nx : Int) != (cells.length : Int)) = false := bne_eq_false_iff_eq.2 (by omega)
        have g2 : ((ny : Int) != fr) = false := bne_eq_false_iff_eq.2 h2
        have H1 := Lib.hid h1
        have H2 := Lib.hid h2
        clear h1 h2
        simp only []
        go_at_K
        repeat (first
          | exact HN.out _ _ ⟨rfl, rfl, rfl, rfl, rfl, trivial⟩ HX1.out.1 HX1.out.2
          | go_values | go_skip | go_guarded | go_step | go_upon | go_back)
      · have g1 : ((nx : Int) != (cells.length : Int)) = false := bne_eq_false_iff_eq.2 (by omega)
        have g2 : ((ny : Int) != fr) = true := bne_iff_ne.2 h2
        have H2 := Lib.hid h2
        have H1 := Lib.hid h1
        clear h1 h2
        go_wp2_with (go_at_call 12; refine (works03 _).mono ?_; rintro e w9 ⟨rfl, hb9⟩
                     have HB9 := Lib.hid hb9
                     clear hb9)
        exact hret.out _ _ ⟨rfl, rfl, rfl, trivial⟩ (HX1.out.1.trans (HB9.out.mono HX1.out.1.size))
    · have g1 : ((nx : Int) != (cells.length : Int)) = true := bne_iff_ne.2 (by omega)
      go_wp2_with (go_at_call 12; refine (works03 _).mono ?_; rintro e w9 ⟨rfl, hb9⟩
                   have HB9 := Lib.hid hb9
                   clear hb9)
      exact hret.out _ _ ⟨rfl, rfl, rfl, trivial⟩ (HX1.out.1.trans (HB9.out.mono HX1.out.1.size))
end
end Go.Proofs.Ytcebejcdfdahjaa
namespace Go.Proofs.Ytcebejcdfdahjaa
open Go.RowKit
attribute [local go_sem] cell_set
set_option maxRecDepth 100000
set_option linter.unusedVariables false

/-- A net's box. -/
structure NBx (X : World) (b : Nat) (V1 : Option Addr) (n1 c1 : Nat) (F : Int) (V2 : Option Addr) (n2 c2 : Nat) : Prop where
  c0 : X.cell? ⟨b, 0, none⟩ = some (.slice V1 n1 c1)
  c1 : X.cell? ⟨b, 1, none⟩ = some (.int .i64 F)
  c2 : X.cell? ⟨b, 2, none⟩ = some (.slice V2 n2 c2)
  lt : b < X.heap.size
theorem NBx.below {X Y : World} {b : Nat} {V1 : Option Addr} {n1 c1 : Nat} {F : Int} {V2 : Option Addr} {n2 c2 : Nat} (h : NBx X b V1 n1 c1 F V2 n2 c2) (hb : Below X.heap.size X Y) : NBx Y b V1 n1 c1 F V2 n2 c2 := by
  have hc : ∀ i, Y.cell? ⟨b, i, none⟩ = X.cell? ⟨b, i, none⟩ := fun i => hb.cell (p := ⟨b, i, none⟩) h.lt
  exact ⟨(hc 0).trans h.c0, (hc 1).trans h.c1, (hc 2).trans h.c2, Nat.lt_of_lt_of_le h.lt hb.size⟩
section
variable (Q : Exit → Act → World → Prop) (v0 : Value) (b : Nat) (VA VB VX VY V1 V2 : Option Addr) (nc ca nw cb nx cx ny cy n1 c1 n2 c2 b7 m : Nat) (fr F E : Int) (P P3 : Option Addr → Nat → Option Addr → Nat → World → Prop)
set_option maxHeartbeats 4000000 in
theorem nl_3 (a : Act) (X : World) (htb : LB X b VA nc ca fr VB nw cb VX nx cx VY ny cy)
    (HT : Hid (∀ Z, Below X.heap.size X Z → Calls Try.prog 54 #[v0, .agg #[.slice VA nc ca, .int .i64 fr, .slice VB nw cb]] Z fun e w' => ∃ V1 c1 V2 c2, e = .returned (.tuple #[.agg #[.slice V1 n1 c1, .int .i64 F, .slice V2 n2 c2], .int .i64 E]) ∧ (∀ Z', Below w'.heap.size w' Z' → P V1 c1 V2 c2 Z') ∧ Below Z.heap.size Z w'))
    (hret : Hid (∀ a' X', FrN 286 [] [(6, .bool true)] a' → Below X.heap.size X X' → Q .ret a' X'))
    (hnext : Hid (E = 0 → ∀ a' X' V1 c1 V2 c2 b7, FrN 286 [] [(0, v0), (4, .pointer (some ⟨b, 0, none⟩)), (5, .pointer (some ⟨b + 1, 0, none⟩)), (7, .pointer (some ⟨b7, 0, none⟩))] a' → Below X.heap.size X X' → NBx X' b7 V1 n1 c1 F V2 n2 c2 → (∀ Z', Below X'.heap.size X' Z' → P V1 c1 V2 c2 Z') → (nlT 6).wp Try.prog Q a' X'))
    (ha : FrN 286 [] [(0, v0), (4, .pointer (some ⟨b, 0, none⟩)), (5, .pointer (some ⟨b + 1, 0, none⟩))] a) : (nlT 3).wp Try.prog Q a X := by
  obtain ⟨U, rfl, e0, e4, e5, -⟩ := ha.open286
  obtain ⟨c0, c1, c2, d0, d1, clt⟩ := htb
  have HX0 := Lib.hid (Below.refl X.heap.size X)
  unfold FrNL
  simp only [e0, e4, e5]
  clear e0 e4 e5 ha
  show (Code.seq _ _).wp _ _ _ _
  go_wp2_with fail
  refine (HT.out _ HX0.out).mono ?_
  rintro e w1 ⟨V1, k1, V2, k2, rfl, hp, hb1⟩
  have HB1 := Lib.hid hb1
  have HP := Lib.hid hp
  clear hb1 hp c0 c1 c2 d0 d1
  by_cases hE : E = 0
  · subst hE
    have HN := Lib.hid (hnext.out rfl)
    simp only []
    go_at_K
    repeat (first
      | exact HN.out _ _ V1 k1 V2 k2 _ ⟨rfl, rfl, rfl, rfl, rfl, rfl, trivial⟩ (HB1.out.alloc HB1.out.size _) ⟨by go_simp, by go_simp, by go_simp, by simp⟩ (fun Z' hZ => HP.out Z' (((Below.refl _ _).alloc (Nat.le_refl _) _).trans (hZ.mono (by simp))))
      | go_values | go_skip | go_guarded | go_step | go_upon | go_back)
  · have g1 : (E != 0) = true := bne_iff_ne.2 hE
    go_wp2_with (go_at_call 12; refine (works03 _).mono ?_; rintro e w9 ⟨rfl, hb9⟩
                 have HB9 := Lib.hid hb9
                 clear hb9)
    exact hret.out _ _ ⟨rfl, rfl, rfl, trivial⟩ ((HB1.out.alloc HB1.out.size _).trans (HB9.out.mono (Nat.le_trans HB1.out.size (by simp))))
set_option maxHeartbeats 4000000 in
theorem nl_6 (a : Act) (X : World) (htb : NBx X b7 V1 n1 c1 F V2 n2 c2) (hm : n2 * 2 = m) (hm2 : m ≤ 1000000)
    (HT : Hid (∀ Z, Below X.heap.size X Z → Calls Try.prog 54 #[v0, .agg #[.slice V1 n1 c1, .int .i64 F, .slice V2 n2 c2]] Z fun e w' => ∃ V3 c3 V4 c4, e = .returned (.tuple #[.agg #[.slice V3 n1 c3, .int .i64 F, .slice V4 n2 c4], .int .i64 0]) ∧ (∀ Z', Below w'.heap.size w' Z' → P3 V3 c3 V4 c4 Z') ∧ Below Z.heap.size Z w'))
    (HPo : Hid (∀ Z, Below X.heap.size X Z → Calls Try.prog 55 #[v0, .agg #[.slice V1 n1 c1, .int .i64 F, .slice V2 n2 c2]] Z fun e w' => ∃ V c, e = .returned (.tuple #[.slice V m c, .int .i64 0]) ∧ Below Z.heap.size Z w'))
    (HEn : Hid (∀ Z, Below X.heap.size X Z → Calls Try.prog 56 #[v0, .agg #[.slice V1 n1 c1, .int .i64 F, .slice V2 n2 c2]] Z fun e w' => ∃ V c, e = .returned (.tuple #[.slice V m c, .int .i64 0]) ∧ Below Z.heap.size Z w'))
    (HEq : Hid (∀ V3 c3 V4 c4 Z, Below X.heap.size X Z → P3 V3 c3 V4 c4 Z → Calls Try.prog 19 #[.agg #[.slice V3 n1 c3, .int .i64 F, .slice V4 n2 c4], .agg #[.slice V1 n1 c1, .int .i64 F, .slice V2 n2 c2]] Z fun e w' => e = .returned (.bool true) ∧ Below Z.heap.size Z w'))
    (hnext : Hid (∀ a' X', FrN 286 [] [(0, v0), (4, .pointer (some ⟨b, 0, none⟩)), (5, .pointer (some ⟨b + 1, 0, none⟩)), (7, .pointer (some ⟨b7, 0, none⟩))] a' → Below X.heap.size X X' → (nlT 11).wp Try.prog Q a' X'))
    (ha : FrN 286 [] [(0, v0), (4, .pointer (some ⟨b, 0, none⟩)), (5, .pointer (some ⟨b + 1, 0, none⟩)), (7, .pointer (some ⟨b7, 0, none⟩))] a) : (nlT 6).wp Try.prog Q a X := by
  obtain ⟨U, rfl, e0, e4, e5, e7, -⟩ := ha.open286
  have HN7 := Lib.hid htb
  obtain ⟨m0, m1, m2, mlt⟩ := htb
  have HX0 := Lib.hid (Below.refl X.heap.size X)
  unfold FrNL
  simp only [e0, e4, e5, e7]
  clear e0 e4 e5 e7 ha
  show (Code.seq _ _).wp _ _ _ _
  go_upto_region 7 with (go_at_call 54; refine (HT.out _ HX0.out).mono ?_; rintro e w1 ⟨V3, c3, V4, c4, rfl, hp, hb1⟩
                         have HB1 := Lib.hid hb1
                         have HP3 := Lib.hid hp
                         clear hb1 hp)
  clear m0 m1 m2
  refine absW (fun X' => Below X.heap.size X X' ∧ P3 V3 c3 V4 c4 X' ∧ (∀ Z, Below X'.heap.size X' Z → P3 V3 c3 V4 c4 Z) ∧ NBx X' w1.heap.size V3 n1 c3 F V4 n2 c4 ∧ NBx X' b7 V1 n1 c1 F V2 n2 c2) ⟨HB1.out.alloc HB1.out.size _, HP3.out _ ((Below.refl _ _).alloc (Nat.le_refl _) _), fun Z hZ => HP3.out Z (((Below.refl _ _).alloc (Nat.le_refl _) _).trans (hZ.mono (by simp))), ⟨by go_simp, by go_simp, by go_simp, by simp⟩, HN7.out.below (HB1.out.alloc HB1.out.size _)⟩ ?_
  rintro X2 ⟨hb2, -, hp2, h9, h7⟩
  have HP2 := Lib.hid hp2
  have HN9 := Lib.hid h9
  have HN72 := Lib.hid h7
  have HB2 := Lib.hid hb2
  generalize w1.heap.size = b9 at HN9 h9 ⊢
  obtain ⟨m0, m1, m2, mlt2⟩ := h7
  clear hb2 hp2 h9
  go_upto_region 8 with (go_at_call 55; refine (HPo.out _ HB2.out).mono ?_; rintro e w2 ⟨V5, c5, rfl, hb3⟩
                         have HB3 := Lib.hid hb3
                         clear hb3)
  clear m0 m1 m2
  obtain ⟨m0, m1, m2, mlt3⟩ := HN72.out.below HB3.out
  go_upto_region 9 with (go_at_call 56; refine (HEn.out _ (HB2.out.trans (HB3.out.mono HB2.out.size))).mono ?_; rintro e w3 ⟨V6, c6, rfl, hb4⟩
                         have HB4 := Lib.hid hb4
                         clear hb4)
  clear m0 m1 m2
  have HB5 := Lib.hid (HB3.out.trans (HB4.out.mono HB3.out.size))
  have HB6 := Lib.hid (HB2.out.trans (HB5.out.mono HB2.out.size))
  obtain ⟨m0, m1, m2, mlt4⟩ := HN72.out.below HB5.out
  obtain ⟨k0, k1, k2, klt4⟩ := HN9.out.below HB5.out
  have r1 : IntKind.i64.wrap ((n2 : Int) * 2) = (m : Int) := by rw [IntWalk.i64_in _ (by omega)]; omega
  have HM := Lib.hid hm
  have hm3 : (0 : Int) ≤ (m : Int) := by omega
  clear hm
  repeat (first
    | exact hnext.out _ _ ⟨rfl, rfl, rfl, rfl, rfl, rfl, trivial⟩ (HB6.out.trans (HB7.out.mono HB6.out.size))
    | (go_at_call 19; refine (HEq.out V3 c3 V4 c4 _ HB6.out (HP2.out _ HB5.out)).mono ?_; rintro e w4 ⟨rfl, hb5⟩
       have HB7 := Lib.hid hb5
       clear hb5 m0 m1 m2 k0 k1 k2
       obtain ⟨m0, m1, m2, mlt5⟩ := HN72.out.below (HB5.out.trans (HB7.out.mono HB5.out.size))
       simp only []
       go_at_K)
    | go_values | go_skip | go_guarded | go_step | go_upon | go_back)
end
end Go.Proofs.Ytcebejcdfdahjaa
