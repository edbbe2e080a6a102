/-
  net.Plug: its head: both nets checked.
-/
import Derived.Test.YtcebejcdfdahjaaRef03L
import Derived.Test.YtcebejcdfdahjaaNetPlain
import Derived.Test.YtcebejcdfdahjaaPlugTwin
import Derived.Test.YtcebejcdfdahjaaRef03N
import Derived.Test.YtcebejcdfdahjaaNetTop
import Derived.Deep.QuietTactic
import Derived.BigQuiet
import Derived.Deep.LoopGhost
import Derived.Test.YtcebejcdfdahjaaPlugMap
import Derived.Test.YtcebejcdfdahjaaNetMoveW
/-
  skeinref03.Plugged: its frame; the loop that lays the twins.
-/
/-
  Rows of ports and of ints that 'make' makes; a list of ints, filled so far.
-/
namespace Go.Proofs.Ytcebejcdfdahjaa
open Go.RowKit
attribute [local go_sem] cell_set
set_option maxRecDepth 100000
set_option linter.unusedVariables false

theorem pvals_set (l : List Pt) (s : Nat) (p : Pt) : ((pvals l).set (s * 2) (.int .i64 p.1)).set (s * 2 + 1) (.int .i64 p.2) = pvals (l.set s p) := by
  induction l generalizing s with
  | nil => simp [pvals]
  | cons x r ih =>
    have hc : pvals (x :: r) = .int .i64 x.1 :: .int .i64 x.2 :: pvals r := rfl
    cases s with
    | zero => rw [hc]; rfl
    | succ s =>
      rw [hc, show (s + 1) * 2 = s * 2 + 1 + 1 by omega]
      simp only [List.set_cons_succ]
      rw [ih s]
      rfl
theorem pvals_rep (M : Nat) : pvals (List.replicate M (0, 0)) = List.replicate (M * 2) (.int .i64 0) := by
  induction M with
  | zero => rfl
  | succ M ih =>
    rw [List.replicate_succ, show (M + 1) * 2 = M * 2 + 1 + 1 by omega, List.replicate_succ, List.replicate_succ, ← ih]
    rfl
theorem made2 (z : Value) (n : Nat) : (madeCells #[z, z] n).toList = List.replicate n z := by
  refine List.ext_getElem (by simp [size_madeCells]) fun i h1 h2 => ?_
  simp only [List.getElem_replicate]
  have hi : i < n := by simpa [size_madeCells] using h1
  simp only [madeCells, Array.toList_map, List.getElem_map, Array.toList_range, List.getElem_range]
  rcases (by omega : i % 2 = 0 ∨ i % 2 = 1) with h | h
  · simp [h]
  · simp [h]
theorem row_ports {X : World} {F M : Nat} (h : X.heap[F]? = some (.cells (madeCells #[.int .i64 0, .int .i64 0] (M * 2)) 78 (0, 0))) (hM : M ≤ maxLen) : Row X 78 2 (.slice (some ⟨F, 0, none⟩) M M) M (pvals (List.replicate M (0, 0))) :=
  ⟨by rw [pvals_rep]; simp, .inr ⟨F, M, _, rfl, h, Nat.le_refl _, hM, by simp [size_madeCells], by rw [made2, pvals_rep]; simp⟩⟩
theorem row_zeros {X : World} {C n : Nat} (h : X.heap[C]? = some (.cells (madeCells #[.int .i64 0] n) 3 (0, 0))) (hM : n ≤ maxLen) : Row X 3 1 (.slice (some ⟨C, 0, none⟩) n n) n (List.replicate n (.int .i64 0)) :=
  ⟨by simp, .inr ⟨C, n, _, rfl, h, Nat.le_refl _, hM, by simp [size_madeCells], by rw [toList_madeCells_one]; simp⟩⟩
theorem make_ports (n : Nat) (hn : n ≤ 1000000) (w : World) : (Instr.makeSlice 47 (.int .i64 (n : Int)) (.int .i64 (n : Int))).run Try.prog w = .ok (.slice (some ⟨w.heap.size, 0, none⟩) n n) (w.alloc (.cells (madeCells #[.int .i64 0, .int .i64 0] (n * 2)) 78)) := by
  obtain ⟨i, hi, hz, hs, hb⟩ := info_parts port_info
  have hb' : (i.bytes : Int) * (n : Int) ≤ 281474976710656 := by rw [hb]; omega
  have hr := run_make (P := Try.prog) w 47 78 i _ Try.underlying47 hi hz .i64 .i64 n n (by omega) (Int.le_refl _) hb' (by omega)
  simp only [Int.toNat_natCast, hs] at hr
  exact hr
/-- A list that is written from its head on. -/
def partL (l : List Int) (k : Nat) : List Int := l.take k ++ List.replicate (l.length - k) 0
theorem partL_0 (l : List Int) : partL l 0 = List.replicate l.length 0 := by simp [partL]
theorem partL_len {l : List Int} {k : Nat} (h : k ≤ l.length) : (partL l k).length = l.length := by simp [partL]; omega
theorem partL_all (l : List Int) : partL l l.length = l := by simp [partL]
theorem partL_succ {l : List Int} {k : Nat} (h : k < l.length) : partL l (k + 1) = (partL l k).set k (l.getD k 0) := by
  have e : l.length - k = (l.length - (k + 1)) + 1 := by omega
  unfold partL
  rw [e, List.replicate_succ, List.set_append_right _ _ (by simp; omega)]
  simp only [List.length_take]
  rw [show k - min k l.length = 0 by omega, List.set_cons_zero, List.take_add_one, List.getElem?_eq_getElem h]
  simp only [List.getD_eq_getElem?_getD, List.getElem?_eq_getElem h, Option.toList_some, Option.getD_some, List.append_assoc, List.singleton_append]
theorem partL_alln {l : List Int} {n : Nat} (h : l.length = n) : partL l n = l := h ▸ partL_all l
end Go.Proofs.Ytcebejcdfdahjaa
namespace Go.Proofs.Ytcebejcdfdahjaa
open Go.RowKit
attribute [local go_sem] cell_set
set_option maxRecDepth 100000
set_option linter.unusedVariables false

def leadP : Code → Option Nat
  | .region id _ _ => some id
  | .seq a _ => leadP a
  | _ => none
/-- What is left of a code from region n on. -/
def tailP (n : Nat) : Code → Option Code
  | .seq a b => if leadP a = some n then some (.seq a b) else (tailP n a).or (tailP n b)
  | .cond _ a b => (tailP n a).or (tailP n b)
  | .block _ a => tailP n a
  | .loop a => tailP n a
  | _ => none
noncomputable def pgT (n : Nat) : Code := ((Try.f34.body).bind (tailP n)).getD .skip
theorem list_of_range (l : List Value) (d : Value) : l = (List.range l.length).map fun i => (l[i]?).getD d := by
  refine List.ext_getElem (by simp) fun i h1 h2 => ?_
  simp [h1]
structure FrP (v0 v3 v5 v6 v8 v9 v10 v11 v13 v17 v18 v20 v22 : Value) (a : Act) : Prop where
  sz : a.tmps.size = 211
  df : a.defers = []
  t0 : a.tmps[0]? = some (v0)
  t3 : a.tmps[3]? = some (v3)
  t5 : a.tmps[5]? = some (v5)
  t6 : a.tmps[6]? = some (v6)
  t8 : a.tmps[8]? = some (v8)
  t9 : a.tmps[9]? = some (v9)
  t10 : a.tmps[10]? = some (v10)
  t11 : a.tmps[11]? = some (v11)
  t13 : a.tmps[13]? = some (v13)
  t17 : a.tmps[17]? = some (v17)
  t18 : a.tmps[18]? = some (v18)
  t20 : a.tmps[20]? = some (v20)
  t22 : a.tmps[22]? = some (v22)
def FrPL (v0 v3 v5 v6 v8 v9 v10 v11 v13 v17 v18 v20 v22 : Value) (U : Nat → Value) : Act := { tmps := (v0 :: U 1 :: U 2 :: v3 :: U 4 :: v5 :: v6 :: U 7 :: v8 :: v9 :: v10 :: v11 :: U 12 :: v13 :: U 14 :: U 15 :: U 16 :: v17 :: v18 :: U 19 :: v20 :: U 21 :: v22 :: U 23 :: U 24 :: U 25 :: U 26 :: U 27 :: U 28 :: U 29 :: U 30 :: U 31 :: U 32 :: U 33 :: U 34 :: U 35 :: U 36 :: U 37 :: U 38 :: U 39 :: U 40 :: U 41 :: U 42 :: U 43 :: U 44 :: U 45 :: U 46 :: U 47 :: U 48 :: U 49 :: U 50 :: U 51 :: U 52 :: U 53 :: U 54 :: U 55 :: U 56 :: U 57 :: U 58 :: U 59 :: U 60 :: U 61 :: U 62 :: U 63 :: U 64 :: U 65 :: U 66 :: U 67 :: U 68 :: U 69 :: U 70 :: U 71 :: U 72 :: U 73 :: U 74 :: U 75 :: U 76 :: U 77 :: U 78 :: U 79 :: U 80 :: U 81 :: U 82 :: U 83 :: U 84 :: U 85 :: U 86 :: U 87 :: U 88 :: U 89 :: U 90 :: U 91 :: U 92 :: U 93 :: U 94 :: U 95 :: U 96 :: U 97 :: U 98 :: U 99 :: U 100 :: U 101 :: U 102 :: U 103 :: U 104 :: U 105 :: U 106 :: U 107 :: U 108 :: U 109 :: U 110 :: U 111 :: U 112 :: U 113 :: U 114 :: U 115 :: U 116 :: U 117 :: U 118 :: U 119 :: U 120 :: U 121 :: U 122 :: U 123 :: U 124 :: U 125 :: U 126 :: U 127 :: U 128 :: U 129 :: U 130 :: U 131 :: U 132 :: U 133 :: U 134 :: U 135 :: U 136 :: U 137 :: U 138 :: U 139 :: U 140 :: U 141 :: U 142 :: U 143 :: U 144 :: U 145 :: U 146 :: U 147 :: U 148 :: U 149 :: U 150 :: U 151 :: U 152 :: U 153 :: U 154 :: U 155 :: U 156 :: U 157 :: U 158 :: U 159 :: U 160 :: U 161 :: U 162 :: U 163 :: U 164 :: U 165 :: U 166 :: U 167 :: U 168 :: U 169 :: U 170 :: U 171 :: U 172 :: U 173 :: U 174 :: U 175 :: U 176 :: U 177 :: U 178 :: U 179 :: U 180 :: U 181 :: U 182 :: U 183 :: U 184 :: U 185 :: U 186 :: U 187 :: U 188 :: U 189 :: U 190 :: U 191 :: U 192 :: U 193 :: U 194 :: U 195 :: U 196 :: U 197 :: U 198 :: U 199 :: U 200 :: U 201 :: U 202 :: U 203 :: U 204 :: U 205 :: U 206 :: U 207 :: U 208 :: U 209 :: U 210 :: []).toArray, defers := [] }
theorem FrP.lit {v0 v3 v5 v6 v8 v9 v10 v11 v13 v17 v18 v20 v22 : Value} {a : Act} (h : FrP v0 v3 v5 v6 v8 v9 v10 v11 v13 v17 v18 v20 v22 a) : ∃ U, a = FrPL v0 v3 v5 v6 v8 v9 v10 v11 v13 v17 v18 v20 v22 U := by
  obtain ⟨⟨l⟩, df⟩ := a
  obtain ⟨sz, rfl, t0, t3, t5, t6, t8, t9, t10, t11, t13, t17, t18, t20, t22⟩ := h
  simp only [List.size_toArray, List.getElem?_toArray] at sz t0 t3 t5 t6 t8 t9 t10 t11 t13 t17 t18 t20 t22
  have e := list_of_range l undef
  rw [sz] at e
  obtain ⟨U, hU⟩ : ∃ U : Nat → Value, (fun i => (l[i]?).getD undef) = U := ⟨_, rfl⟩
  have g : ∀ i v, l[i]? = some v → U i = v := fun i v h => by rw [← hU]; simp [h]
  have g0 := g _ _ t0
  have g3 := g _ _ t3
  have g5 := g _ _ t5
  have g6 := g _ _ t6
  have g8 := g _ _ t8
  have g9 := g _ _ t9
  have g10 := g _ _ t10
  have g11 := g _ _ t11
  have g13 := g _ _ t13
  have g17 := g _ _ t17
  have g18 := g _ _ t18
  have g20 := g _ _ t20
  have g22 := g _ _ t22
  rw [hU] at e
  clear hU g sz t0 t3 t5 t6 t8 t9 t10 t11 t13 t17 t18 t20 t22
  refine ⟨U, ?_⟩
  rw [e]
  unfold FrPL
  rw [← g0, ← g3, ← g5, ← g6, ← g8, ← g9, ← g10, ← g11, ← g13, ← g17, ← g18, ← g20, ← g22]
  rfl
theorem ivals_rep00 (n : Nat) : ivals (List.replicate n 0) = List.replicate n (.int .i64 0) := by simp [ivals]
section
variable (pn : Int → Nat) (csA csB : List Int) (fA fB NA NB NL : Nat) (J : List (Int × Int)) (Q : Exit → Act → World → Prop)
variable (VA VB UA UB : Option Addr) (ca cb da db : Nat) (WA WB : List (Pt × Pt)) (b5 b6 : Nat)
set_option maxHeartbeats 4000000 in
theorem pg_8 (v0 v5 v6 v8 v9 v10 v13 v17 v18 v20 v22 : Value) (V3 V11 V9 : Option Addr) (n3 c3' c9 c11 : Nat) (Z : World) (U : Nat → Value) (h9 : v9 = .slice V9 NA c9) (hn3 : n3 = J.length)
    (hJ : Hid (JOk fA fB J)) (hNA : Hid (firstN pn csA fA csA.length = NA)) (hNL : Hid (firstN pn csA fA csA.length + firstN pn csB fB csB.length = NL)) (hfa : fA ≤ NA) (hfb : NA + fB ≤ NL) (hl : NL ≤ 200000) (hJl : J.length ≤ 100000) (H3 : Hid (PtsRd Z V3 J))
    (hk : Hid (∀ a' X l13, FrP v0 (.slice V3 n3 c3') v5 v6 v8 v9 v10 (.slice V11 NL c11) (.slice (some ⟨Z.heap.size, 0, none⟩) NL NL) v17 v18 v20 v22 a' → Below Z.heap.size Z X → l13.length = NL → IntsRd X (some ⟨Z.heap.size, 0, none⟩) l13 → TwL pn csA csB fA fB J l13 → (pgT 16).wp Try.prog Q a' X)) :
    (pgT 8).wp Try.prog Q (FrPL v0 (.slice V3 n3 c3') v5 v6 v8 v9 v10 (.slice V11 NL c11) v13 v17 v18 v20 v22 U) Z := by
  subst h9 hn3
  have hmk := run_make_row' (P := Try.prog) 23 3 (.int .i64 0) 8 Try.underlying23 int_info rfl .i64 .i64 NL (by omega) (by omega)
  unfold FrPL
  show (Code.seq _ _).wp _ _ _ _
  go_upto_region 9 with fail
  refine absW (fun X => Below Z.heap.size Z X ∧ ∃ l, Row X 3 1 (.slice (some ⟨Z.heap.size, 0, none⟩) NL NL) NL (ivals l) ∧ TwL pn csA csB fA fB [] l) ⟨(Below.refl _ _).alloc (Nat.le_refl _) _, List.replicate NL 0, by rw [ivals_rep00]; exact row_zeros (heap_alloc_new Z _) (by unfold maxLen; omega), by rw [← hNL.out]; exact TwL.nil⟩ ?_
  intro X hX
  have HX := Lib.hid hX
  clear hX hmk
  go_wp2_with fail
  go_loopw [14, 15, 16] (fun i _ _ wr => ∃ k : Nat, i = .int .i64 k ∧ k ≤ J.length ∧ Hid (Below Z.heap.size Z wr ∧ ∃ l, Row wr 3 1 (.slice (some ⟨Z.heap.size, 0, none⟩) NL NL) NL (ivals l) ∧ TwL pn csA csB fA fB (J.take k) l)) (fun i _ _ _ => J.length - (intOf i).toNat)
  case atStart => exact ⟨0, rfl, Nat.zero_le _, HX⟩
  case round =>
    obtain ⟨k, rfl, hk', HR⟩ := hrel
    clear HX
    by_cases hlt : k < J.length
    · obtain ⟨hb, l, hrow, htw⟩ := HR.out
      have hll : l.length = NL := by rw [htw.len, hNL.out]
      obtain ⟨g, o, rfl, hg, c0, c1⟩ := (H3.out.below hb) k hlt
      have hj := hJ.out.r (J.getD k default) (by rw [List.getD_eq_getElem?_getD, List.getElem?_eq_getElem hlt]; exact List.getElem_mem hlt)
      have htk : J.take (k + 1) = J.take k ++ [J.getD k default] := by rw [List.take_add_one, List.getD_eq_getElem?_getD, List.getElem?_eq_getElem hlt]; rfl
      have hsn := htw.snoc (j := J.getD k default) (by rw [← htk]; exact jOkTake hJ.out _)
      rw [← htk] at hsn
      have e1 : plS pn csA csB fA fB (false, (-1, (J.getD k default).1)) = (J.getD k default).1.toNat := by simp [plS, plc]
      have e2 : plS pn csA csB fA fB (true, (-1, (J.getD k default).2)) = NA + (J.getD k default).2.toNat := by simp [plS, plc, hNA.out]
      rw [e1, e2] at hsn
      clear e1 e2 htk htw
      generalize J.getD k default = x at c0 c1 hj hsn
      obtain ⟨a, b⟩ := x
      dsimp only at c0 c1 hj hsn
      obtain ⟨r1, r2, r3, r4⟩ := hj
      obtain ⟨a, rfl⟩ := Int.eq_ofNat_of_zero_le r1
      obtain ⟨b, rfl⟩ := Int.eq_ofNat_of_zero_le r3
      rw [Int.toNat_natCast, Int.toNat_natCast] at hsn
      have HSn := Lib.hid hsn
      have HRow := Lib.hid hrow
      have HB := Lib.hid hb
      have hzl : Z.heap.size < wr.heap.size := hrow.lt _ (by simp [ownB])
      have hab : ¬ a = NA + b := by omega
      have la : a < NL := by omega
      have lb : NA + b < NL := by omega
      have s0 : wr.frozen? ⟨Z.heap.size, a, none⟩ = false := hrow.frozenAt a
      have s1 : wr.frozen? ⟨Z.heap.size, NA + b, none⟩ = false := hrow.frozenAt _
      obtain ⟨u1, s2⟩ : ∃ u, wr.cell? ⟨Z.heap.size, a, none⟩ = some u := ⟨_, (hrow.cellAt a (by omega)).trans (List.getElem?_eq_getElem (by rw [hrow.1]; omega))⟩
      obtain ⟨u2, s3⟩ : ∃ u, wr.cell? ⟨Z.heap.size, NA + b, none⟩ = some u := ⟨_, (hrow.cellAt (NA + b) (by omega)).trans (List.getElem?_eq_getElem (by rw [hrow.1]; omega))⟩
      have ew : IntKind.i64.wrap ((b : Int) + (NA : Int)) = (b : Int) + (NA : Int) := IntWalk.i64_in _ (by omega)
      have ew1 : IntKind.i64.wrap ((b : Int) + (NA : Int) + 1) = (b : Int) + (NA : Int) + 1 := IntWalk.i64_in _ (by omega)
      have eb : ((b : Int) + (NA : Int)).toNat = NA + b := by omega
      have eb0 : 0 ≤ (b : Int) + (NA : Int) := by omega
      have eb1 : (b : Int) + (NA : Int) < (NL : Int) := by omega
      clear hsn hrow hb r1 r2 r3 r4 HR
      go_wp2_with fail
      go_roundw
      case rel =>
        refine ⟨k + 1, by go_num, by omega, (HB.out.setCell (p := ⟨Z.heap.size, a, none⟩) (Nat.le_refl _) _).setCell (p := ⟨Z.heap.size, NA + b, none⟩) (Nat.le_refl _) _, _, ?_, HSn.out⟩
        have hR8 := (HRow.out.set a (.int .i64 ((b : Int) + (NA : Int) + 1))).set (NA + b) (.int .i64 ((a : Int) + 1))
        rw [ivals_set, ivals_set] at hR8
        have ev : ((NA + b : Nat) : Int) + 1 = (b : Int) + (NA : Int) + 1 := by omega
        rw [ev]
        exact hR8
      case measure => simp [intOf]; omega
    · obtain ⟨hb, l, hrow, htw⟩ := HR.out
      have hkl : k = J.length := by omega
      rw [hkl, List.take_length] at htw
      have hll : l.length = NL := by rw [htw.len, hNL.out]
      have HF := Lib.hid (And.intro hb (And.intro hrow (And.intro htw hll)))
      clear hb hrow htw hll hkl HR
      have HI : IntsRd wr (some ⟨Z.heap.size, 0, none⟩) l := Row.ints (cap := NL) (by rw [HF.out.2.2.2]; exact HF.out.2.1)
      have HI := Lib.hid HI
      repeat (first
        | exact hk.out _ _ l ⟨rfl, rfl, rfl, rfl, rfl, rfl, rfl, rfl, rfl, rfl, rfl, rfl, rfl, rfl, rfl⟩ HF.out.1 HF.out.2.2.2 HI.out HF.out.2.2.1
        | go_values | go_skip | go_guarded | go_step | go_upon | go_back)
end
end Go.Proofs.Ytcebejcdfdahjaa
/-
  net.Plug: its frames; its boxes.
-/
namespace Go.Proofs.Ytcebejcdfdahjaa
open Go.RowKit
attribute [local go_sem] cell_set
set_option maxRecDepth 100000
set_option linter.unusedVariables false

noncomputable def gpT (n : Nat) : Code := ((Try.f32.body).bind (tailP n)).getD .skip
/-- What slots of a frame hold. -/
def Sl (a : Act) : List (Nat × Value) → Prop
  | [] => True
  | (i, v) :: r => a.tmps[i]? = some v ∧ Sl a r
def Us (U : Nat → Value) : List (Nat × Value) → Prop
  | [] => True
  | (i, v) :: r => U i = v ∧ Us U r
structure FrN (n : Nat) (ds : List Deferred) (L : List (Nat × Value)) (a : Act) : Prop where
  sz : a.tmps.size = n
  df : a.defers = ds
  sl : Sl a L
theorem sl_us {a : Act} {U : Nat → Value} (h : ∀ i v, a.tmps[i]? = some v → U i = v) : ∀ L, Sl a L → Us U L
  | [], _ => trivial
  | (i, v) :: r, hs => ⟨h i v hs.1, sl_us h r hs.2⟩
def FrGL (ds : List Deferred) (U : Nat → Value) : Act := { tmps := (U 0 :: U 1 :: U 2 :: U 3 :: U 4 :: U 5 :: U 6 :: U 7 :: U 8 :: U 9 :: U 10 :: U 11 :: U 12 :: U 13 :: U 14 :: U 15 :: U 16 :: U 17 :: U 18 :: U 19 :: U 20 :: U 21 :: U 22 :: U 23 :: U 24 :: U 25 :: U 26 :: U 27 :: U 28 :: U 29 :: U 30 :: U 31 :: U 32 :: U 33 :: U 34 :: U 35 :: U 36 :: U 37 :: U 38 :: U 39 :: U 40 :: U 41 :: U 42 :: U 43 :: U 44 :: U 45 :: U 46 :: U 47 :: U 48 :: U 49 :: U 50 :: U 51 :: U 52 :: U 53 :: U 54 :: U 55 :: U 56 :: U 57 :: U 58 :: U 59 :: U 60 :: U 61 :: U 62 :: U 63 :: U 64 :: U 65 :: U 66 :: U 67 :: U 68 :: U 69 :: U 70 :: U 71 :: U 72 :: U 73 :: U 74 :: U 75 :: U 76 :: U 77 :: U 78 :: U 79 :: U 80 :: U 81 :: U 82 :: U 83 :: U 84 :: U 85 :: U 86 :: U 87 :: U 88 :: U 89 :: U 90 :: U 91 :: U 92 :: U 93 :: U 94 :: U 95 :: U 96 :: U 97 :: U 98 :: U 99 :: U 100 :: U 101 :: U 102 :: U 103 :: U 104 :: U 105 :: U 106 :: U 107 :: U 108 :: U 109 :: U 110 :: U 111 :: U 112 :: U 113 :: U 114 :: U 115 :: U 116 :: U 117 :: U 118 :: U 119 :: U 120 :: U 121 :: U 122 :: U 123 :: U 124 :: U 125 :: U 126 :: U 127 :: U 128 :: U 129 :: U 130 :: U 131 :: U 132 :: U 133 :: U 134 :: U 135 :: U 136 :: U 137 :: U 138 :: U 139 :: U 140 :: U 141 :: U 142 :: U 143 :: U 144 :: U 145 :: U 146 :: U 147 :: U 148 :: U 149 :: U 150 :: U 151 :: U 152 :: U 153 :: U 154 :: U 155 :: U 156 :: U 157 :: U 158 :: U 159 :: U 160 :: U 161 :: U 162 :: U 163 :: U 164 :: U 165 :: U 166 :: U 167 :: U 168 :: U 169 :: U 170 :: U 171 :: U 172 :: U 173 :: U 174 :: U 175 :: U 176 :: U 177 :: U 178 :: U 179 :: U 180 :: U 181 :: U 182 :: U 183 :: U 184 :: U 185 :: U 186 :: U 187 :: U 188 :: U 189 :: U 190 :: U 191 :: U 192 :: U 193 :: U 194 :: U 195 :: U 196 :: U 197 :: U 198 :: U 199 :: U 200 :: U 201 :: U 202 :: U 203 :: U 204 :: U 205 :: U 206 :: U 207 :: U 208 :: U 209 :: U 210 :: U 211 :: U 212 :: U 213 :: U 214 :: U 215 :: U 216 :: U 217 :: U 218 :: U 219 :: U 220 :: U 221 :: U 222 :: U 223 :: U 224 :: U 225 :: U 226 :: U 227 :: U 228 :: U 229 :: U 230 :: U 231 :: U 232 :: U 233 :: []).toArray, defers := ds }
theorem FrN.open {ds : List Deferred} {L : List (Nat × Value)} {a : Act} (h : FrN 234 ds L a) : ∃ U, a = FrGL ds U ∧ Us U L := by
  obtain ⟨⟨l⟩, df⟩ := a
  obtain ⟨sz, rfl, sl⟩ := h
  have e := list_of_range l undef
  obtain ⟨U, hU⟩ : ∃ U : Nat → Value, (fun i => (l[i]?).getD undef) = U := ⟨_, rfl⟩
  have g : ∀ i v, ((⟨⟨l⟩, df⟩ : Act)).tmps[i]? = some v → U i = v := fun i v h => by
    have h' : l[i]? = some v := by simpa using h
    rw [← hU]; simp [h']
  simp only [List.size_toArray] at sz
  rw [sz, hU] at e
  refine ⟨U, ?_, sl_us g L sl⟩
  rw [e]
  rfl
/-- The boxes of both nets, and of the result, which is no net yet. -/
structure GB (w : World) (VA VB UA UB : Option Addr) (na ca wa cb nb da wb db : Nat) (fA fB : Int) (X : World) : Prop where
  bel : Below w.heap.size w X
  a : NBox X w.heap.size VA na ca fA VB wa cb
  b : NBox X (w.heap.size + 1) UA nb da fB UB wb db
  r : X.heap[w.heap.size + 2]? = some (.cells #[.slice none 0 0, .int .i64 0, .slice none 0 0] 26 (0, 0))
section
variable {w X Y : World} {VA VB UA UB : Option Addr} {na ca wa cb nb da wb db : Nat} {fA fB : Int}
theorem GB.lt (h : GB w VA VB UA UB na ca wa cb nb da wb db fA fB X) : w.heap.size + 3 ≤ X.heap.size := heap_lt h.r
theorem GB.below (h : GB w VA VB UA UB na ca wa cb nb da wb db fA fB X) (hb : Below (w.heap.size + 3) X Y) : GB w VA VB UA UB na ca wa cb nb da wb db fA fB Y := by
  have h3 : Below w.heap.size X Y := ⟨hb.os, hb.tape, hb.output, hb.size, fun k hk => hb.block k (by omega)⟩
  have k0 : ∀ j, Y.cell? ⟨w.heap.size, j, none⟩ = X.cell? ⟨w.heap.size, j, none⟩ := fun j => World.cell?_of_block (hb.block _ (by show w.heap.size < _; omega))
  have k1 : ∀ j, Y.cell? ⟨w.heap.size + 1, j, none⟩ = X.cell? ⟨w.heap.size + 1, j, none⟩ := fun j => World.cell?_of_block (hb.block _ (by show w.heap.size + 1 < _; omega))
  have := hb.size
  exact ⟨h.bel.trans h3, ⟨by have := h.a.lt; omega, (k0 0).trans h.a.c0, (k0 1).trans h.a.c1, (k0 2).trans h.a.c2⟩, ⟨by have := h.b.lt; omega, (k1 0).trans h.b.c0, (k1 1).trans h.b.c1, (k1 2).trans h.b.c2⟩, (hb.block _ (by omega)).trans h.r⟩
theorem GB.zero (h : GB w VA VB UA UB na ca wa cb nb da wb db fA fB X) : (X.cell? ⟨w.heap.size + 2, 0, none⟩ = some (.slice none 0 0) ∧ X.cell? ⟨w.heap.size + 2, 1, none⟩ = some (.int .i64 0) ∧ X.cell? ⟨w.heap.size + 2, 2, none⟩ = some (.slice none 0 0)) ∧ X.frozen? ⟨w.heap.size + 2, 0, none⟩ = false ∧ X.frozen? ⟨w.heap.size + 2, 1, none⟩ = false ∧ X.frozen? ⟨w.heap.size + 2, 2, none⟩ = false := by
  have hr := h.r
  refine ⟨⟨?_, ?_, ?_⟩, ?_, ?_, ?_⟩ <;> simp [World.cell?, World.frozen?, hr]
/-- Zeroes written where zeroes are. -/
theorem GB.again (h : GB w VA VB UA UB na ca wa cb nb da wb db fA fB X) : GB w VA VB UA UB na ca wa cb nb da wb db fA fB (((X.setCell ⟨w.heap.size + 2, 0, none⟩ (.slice none 0 0)).setCell ⟨w.heap.size + 2, 1, none⟩ (.int .i64 0)).setCell ⟨w.heap.size + 2, 2, none⟩ (.slice none 0 0)) := by
  have hne : ∀ b, b ≠ w.heap.size + 2 → (((X.setCell ⟨w.heap.size + 2, 0, none⟩ (.slice none 0 0)).setCell ⟨w.heap.size + 2, 1, none⟩ (.int .i64 0)).setCell ⟨w.heap.size + 2, 2, none⟩ (.slice none 0 0)).heap[b]? = X.heap[b]? := fun b hb =>
    (Below.heap_setCell _ _ _ b hb).trans ((Below.heap_setCell _ _ _ b hb).trans (Below.heap_setCell _ _ _ b hb))
  have k0 : ∀ j, (((X.setCell ⟨w.heap.size + 2, 0, none⟩ (.slice none 0 0)).setCell ⟨w.heap.size + 2, 1, none⟩ (.int .i64 0)).setCell ⟨w.heap.size + 2, 2, none⟩ (.slice none 0 0)).cell? ⟨w.heap.size, j, none⟩ = X.cell? ⟨w.heap.size, j, none⟩ := fun j => World.cell?_of_block (hne w.heap.size (by omega))
  have k1 : ∀ j, (((X.setCell ⟨w.heap.size + 2, 0, none⟩ (.slice none 0 0)).setCell ⟨w.heap.size + 2, 1, none⟩ (.int .i64 0)).setCell ⟨w.heap.size + 2, 2, none⟩ (.slice none 0 0)).cell? ⟨w.heap.size + 1, j, none⟩ = X.cell? ⟨w.heap.size + 1, j, none⟩ := fun j => World.cell?_of_block (hne (w.heap.size + 1) (by omega))
  have hr := h.r
  refine ⟨((h.bel.setCell (p := ⟨w.heap.size + 2, 0, none⟩) (by simp) _).setCell (p := ⟨w.heap.size + 2, 1, none⟩) (by simp) _).setCell (p := ⟨w.heap.size + 2, 2, none⟩) (by simp) _, ⟨by simpa using h.a.lt, (k0 0).trans h.a.c0, (k0 1).trans h.a.c1, (k0 2).trans h.a.c2⟩, ⟨by simpa using h.b.lt, (k1 0).trans h.b.c0, (k1 1).trans h.b.c1, (k1 2).trans h.b.c2⟩, ?_⟩
  simp [World.setCell, Array.getElem?_modify, hr]
end
end Go.Proofs.Ytcebejcdfdahjaa
namespace Go.Proofs.Ytcebejcdfdahjaa
open Go.RowKit
attribute [local go_sem] cell_set
set_option maxRecDepth 100000
set_option linter.unusedVariables false

section
variable (Q : Exit → Act → World → Prop)
set_option maxHeartbeats 4000000 in
theorem gp_0 (A : Option Addr) (n cap : Nat) (L : List (ByteArray × Int)) (VA VB UA UB : Option Addr) (ca cb da db : Nat) (csA csB : List Int) (fA fB : Int) (WA WB : List (Pt × Pt)) (v3 : Value) (w : World) (a : Act)
    (hn : n = L.length) (hcap : L.length ≤ cap) (HL : Hid (AgRd w A L)) (hl : L.length ≤ maxLen) (HCA : Hid (IntsRd w VA csA)) (HWA : Hid (WrRd w VB WA)) (HCB : Hid (IntsRd w UA csB)) (HWB : Hid (WrRd w UB WB))
    (hcA : csA.length ≤ 10000) (hwA : WA.length ≤ 40000) (hcB : csB.length ≤ 10000) (hwB : WB.length ≤ 40000) (kA kB : Int) (hkA : Hid ((netChk (pnL L) L.length (chk L) csA fA WA).1 = kA)) (hkB : Hid ((netChk (pnL L) L.length (chk L) csB fB WB).1 = kB))
    (hbad : Hid (∀ a' X k, k = (if kA ≠ 0 then kA else kB) → k ≠ 0 → FrN 234 [] [(8, .pointer (some ⟨w.heap.size + 2, 0, none⟩)), (9, .int .i64 k)] a' → GB w VA VB UA UB csA.length ca WA.length cb csB.length da WB.length db fA fB X → Q .ret a' X))
    (hnext : Hid (kA = 0 → kB = 0 → ∀ a' X, FrN 234 [] [(0, .slice A n cap), (3, v3), (5, .pointer (some ⟨w.heap.size, 0, none⟩)), (6, .pointer (some ⟨w.heap.size + 1, 0, none⟩)), (8, .pointer (some ⟨w.heap.size + 2, 0, none⟩))] a' → GB w VA VB UA UB csA.length ca WA.length cb csB.length da WB.length db fA fB X → (gpT 7).wp Try.prog Q a' X))
    (ha : FrN 234 [] [(0, .slice A n cap), (1, netV VA ca csA fA VB cb WA), (2, netV UA da csB fB UB db WB), (3, v3)] a) :
    (gpT 0).wp Try.prog Q a w := by
  subst hn
  obtain ⟨U, rfl, e0, e1, e2, e3, -⟩ := ha.open
  unfold FrGL
  simp only [e0, e1, e2, e3]
  clear e0 e1 e2 e3 ha
  show (Code.seq _ _).wp _ _ _ _
  go_upto_region 1 with fail
  refine absW (fun X => GB w VA VB UA UB csA.length ca WA.length cb csB.length da WB.length db fA fB X) ?_ ?_
  · refine ⟨by (repeat (first | exact Below.refl _ _ | (with_reducible refine Below.drew ?_) | (with_reducible refine Below.alloc ?_ (by (try simp); (try omega)) _) | (with_reducible refine Below.setCell ?_ (by (try simp); (try omega)) _) | (with_reducible refine Below.trans ?_ (Below.mono (by assumption) (by (try simp); (try omega)))))), ⟨by simp <;> omega, by go_simp, by go_simp, by go_simp⟩, ⟨by simp <;> omega, by go_simp, by go_simp, by go_simp⟩, ?_⟩
    have := heap_alloc_new ((w.alloc (.cells #[.slice VA csA.length ca, .int .i64 fA, .slice VB WA.length cb] 26)).alloc (.cells #[.slice UA csB.length da, .int .i64 fB, .slice UB WB.length db] 26)) (.cells #[.slice none 0 0, .int .i64 0, .slice none 0 0] 26)
    simpa using this
  intro X hX
  have hXA := hX.a
  have n0 := hXA.c0
  have n1 := hXA.c1
  have n2 := hXA.c2
  have hXl := hX.lt
  have hlA : w.heap.size < X.heap.size := by omega
  have HX := Lib.hid hX
  have hb0 := Lib.hid hX.bel
  clear hX hXA
  go_upto_region 2 with (go_at_call 61; refine (net_fine A _ cap L VA VB ca cb csA fA WA X rfl hcap (Lib.hid (HL.out.below hb0.out)) hl (Lib.hid (HCA.out.below hb0.out)) (Lib.hid (HWA.out.below hb0.out)) hcA hwA).mono ?_; rintro e w1 ⟨rfl, hb1⟩; rw [hkA.out]
                         have HX1 : Hid (GB w VA VB UA UB csA.length ca WA.length cb csB.length da WB.length db fA fB w1) := HX.out.below (hb1.mono hXl)
                         have hb01 := Lib.hid HX1.out.bel
                         obtain ⟨⟨z0, z1, z2⟩, y0, y1, y2⟩ := HX1.out.zero
                         have hlR : w.heap.size + 2 < w1.heap.size := by have := HX1.out.lt; omega
                         clear hb1)
  clear n0 n1 n2
  by_cases hkz : kA = 0
  · subst hkz
    have hb := HX1.out.b
    have n0 := hb.c0
    have n1 := hb.c1
    have n2 := hb.c2
    have hlB : w.heap.size + 1 < w1.heap.size := by omega
    clear hb
    clear z0 z1 z2 y0 y1 y2
    go_upto_region 5 with (go_at_call 61; refine (net_fine A _ cap L UA UB da db csB fB WB w1 rfl hcap (Lib.hid (HL.out.below hb01.out)) hl (Lib.hid (HCB.out.below hb01.out)) (Lib.hid (HWB.out.below hb01.out)) hcB hwB).mono ?_; rintro e w2 ⟨rfl, hb2⟩; rw [hkB.out]
                           have HX2 : Hid (GB w VA VB UA UB csA.length ca WA.length cb csB.length da WB.length db fA fB w2) := HX1.out.below (hb2.mono HX1.out.lt)
                           obtain ⟨⟨z0, z1, z2⟩, y0, y1, y2⟩ := HX2.out.zero
                           have hlR2 : w.heap.size + 2 < w2.heap.size := by have := HX2.out.lt; omega
                           clear hb2)
    clear n0 n1 n2
    by_cases hkz2 : kB = 0
    · subst hkz2
      clear z0 z1 z2 y0 y1 y2
      have HN := hnext.out (by first | trivial | rfl) (by first | trivial | rfl)
      have HNx := Lib.hid HN
      clear HN
      repeat (first
        | exact HNx.out _ _ ⟨rfl, rfl, rfl, rfl, rfl, rfl, rfl, trivial⟩ HX2.out
        | go_values | go_skip | go_guarded | go_step | go_upon | go_back)
    · have hkb : (kB != 0) = true := by simpa using hkz2
      have HZ := Lib.hid hkz2
      clear hkz2
      go_wp2_with fail
      exact hbad.out _ _ _ (by simp) HZ.out ⟨rfl, rfl, rfl, rfl, trivial⟩ HX2.out.again
  · have hka : (kA != 0) = true := by simpa using hkz
    have HZ := Lib.hid hkz
    clear hkz
    go_wp2_with fail
    exact hbad.out _ _ _ (by rw [if_pos HZ.out]) HZ.out ⟨rfl, rfl, rfl, rfl, trivial⟩ HX1.out.again
end
end Go.Proofs.Ytcebejcdfdahjaa
