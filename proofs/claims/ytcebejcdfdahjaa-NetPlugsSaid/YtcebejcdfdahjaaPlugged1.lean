/-
  skeinref03.Plugged: its frame; the loop that lays the twins.
-/
import Derived.Test.YtcebejcdfdahjaaRef03L
import Derived.Test.YtcebejcdfdahjaaNetPlain
import Derived.Test.YtcebejcdfdahjaaPlugTwin
import Derived.Test.YtcebejcdfdahjaaRef03N
import Derived.Test.YtcebejcdfdahjaaNetTop
import Derived.Deep.QuietTactic
import Derived.BigQuiet
import Derived.Deep.LoopGhost
/-
  Rows of ports and of ints that 'make' makes; a list of ints, filled so far.
-/
namespace Go.Proofs.Ytcebejcdfdahjaa
open Go.RowKit
attribute [local go_sem] cell_set
set_option maxRecDepth 100000
set_option linter.unusedVariables false

theorem pvals_set (l : List Pt) (s : Nat) (p : Pt) : ((pvals l).set (s * 2) (.int .i64 p.1)).set (s * 2 + 1) (.int .i64 p.2) = pvals (l.set s p) := by
  induction l generalizing s with
  | nil => simp [pvals]
  | cons x r ih =>
    have hc : pvals (x :: r) = .int .i64 x.1 :: .int .i64 x.2 :: pvals r := rfl
    cases s with
    | zero => rw [hc]; rfl
    | succ s =>
      rw [hc, show (s + 1) * 2 = s * 2 + 1 + 1 by omega]
      simp only [List.set_cons_succ]
      rw [ih s]
      rfl
theorem pvals_rep (M : Nat) : pvals (List.replicate M (0, 0)) = List.replicate (M * 2) (.int .i64 0) := by
  induction M with
  | zero => rfl
  | succ M ih =>
    rw [List.replicate_succ, show (M + 1) * 2 = M * 2 + 1 + 1 by omega, List.replicate_succ, List.replicate_succ, ← ih]
    rfl
theorem made2 (z : Value) (n : Nat) : (madeCells #[z, z] n).toList = List.replicate n z := by
  refine List.ext_getElem (by simp [size_madeCells]) fun i h1 h2 => ?_
  simp only [List.getElem_replicate]
  have hi : i < n := by simpa [size_madeCells] using h1
  simp only [madeCells, Array.toList_map, List.getElem_map, Array.toList_range, List.getElem_range]
  rcases (by omega : i % 2 = 0 ∨ i % 2 = 1) with h | h
  · simp [h]
  · simp [h]
theorem row_ports {X : World} {F M : Nat} (h : X.heap[F]? = some (.cells (madeCells #[.int .i64 0, .int .i64 0] (M * 2)) 78 (0, 0))) (hM : M ≤ maxLen) : Row X 78 2 (.slice (some ⟨F, 0, none⟩) M M) M (pvals (List.replicate M (0, 0))) :=
  ⟨by rw [pvals_rep]; simp, .inr ⟨F, M, _, rfl, h, Nat.le_refl _, hM, by simp [size_madeCells], by rw [made2, pvals_rep]; simp⟩⟩
theorem row_zeros {X : World} {C n : Nat} (h : X.heap[C]? = some (.cells (madeCells #[.int .i64 0] n) 3 (0, 0))) (hM : n ≤ maxLen) : Row X 3 1 (.slice (some ⟨C, 0, none⟩) n n) n (List.replicate n (.int .i64 0)) :=
  ⟨by simp, .inr ⟨C, n, _, rfl, h, Nat.le_refl _, hM, by simp [size_madeCells], by rw [toList_madeCells_one]; simp⟩⟩
theorem make_ports (n : Nat) (hn : n ≤ 1000000) (w : World) : (Instr.makeSlice 47 (.int .i64 (n : Int)) (.int .i64 (n : Int))).run Try.prog w = .ok (.slice (some ⟨w.heap.size, 0, none⟩) n n) (w.alloc (.cells (madeCells #[.int .i64 0, .int .i64 0] (n * 2)) 78)) := by
  obtain ⟨i, hi, hz, hs, hb⟩ := info_parts port_info
  have hb' : (i.bytes : Int) * (n : Int) ≤ 281474976710656 := by rw [hb]; omega
  have hr := run_make (P := Try.prog) w 47 78 i _ Try.underlying47 hi hz .i64 .i64 n n (by omega) (Int.le_refl _) hb' (by omega)
  simp only [Int.toNat_natCast, hs] at hr
  exact hr
/-- A list that is written from its head on. -/
def partL (l : List Int) (k : Nat) : List Int := l.take k ++ List.replicate (l.length - k) 0
theorem partL_0 (l : List Int) : partL l 0 = List.replicate l.length 0 := by simp [partL]
theorem partL_len {l : List Int} {k : Nat} (h : k ≤ l.length) : (partL l k).length = l.length := by simp [partL]; omega
theorem partL_all (l : List Int) : partL l l.length = l := by simp [partL]
theorem partL_succ {l : List Int} {k : Nat} (h : k < l.length) : partL l (k + 1) = (partL l k).set k (l.getD k 0) := by
  have e : l.length - k = (l.length - (k + 1)) + 1 := by omega
  unfold partL
  rw [e, List.replicate_succ, List.set_append_right _ _ (by simp; omega)]
  simp only [List.length_take]
  rw [show k - min k l.length = 0 by omega, List.set_cons_zero, List.take_add_one, List.getElem?_eq_getElem h]
  simp only [List.getD_eq_getElem?_getD, List.getElem?_eq_getElem h, Option.toList_some, Option.getD_some, List.append_assoc, List.singleton_append]
theorem partL_alln {l : List Int} {n : Nat} (h : l.length = n) : partL l n = l := h ▸ partL_all l
end Go.Proofs.Ytcebejcdfdahjaa
namespace Go.Proofs.Ytcebejcdfdahjaa
open Go.RowKit
attribute [local go_sem] cell_set
set_option maxRecDepth 100000
set_option linter.unusedVariables false

def leadP : Code → Option Nat
  | .region id _ _ => some id
  | .seq a _ => leadP a
  | _ => none
/-- What is left of a code from region n on. -/
def tailP (n : Nat) : Code → Option Code
  | .seq a b => if leadP a = some n then some (.seq a b) else (tailP n a).or (tailP n b)
  | .cond _ a b => (tailP n a).or (tailP n b)
  | .block _ a => tailP n a
  | .loop a => tailP n a
  | _ => none
noncomputable def pgT (n : Nat) : Code := ((Try.f34.body).bind (tailP n)).getD .skip
theorem list_of_range (l : List Value) (d : Value) : l = (List.range l.length).map fun i => (l[i]?).getD d := by
  refine List.ext_getElem (by simp) fun i h1 h2 => ?_
  simp [h1]
structure FrP (v0 v3 v5 v6 v8 v9 v10 v11 v13 v17 v18 v20 v22 : Value) (a : Act) : Prop where
  sz : a.tmps.size = 211
  df : a.defers = []
  t0 : a.tmps[0]? = some (v0)
  t3 : a.tmps[3]? = some (v3)
  t5 : a.tmps[5]? = some (v5)
  t6 : a.tmps[6]? = some (v6)
  t8 : a.tmps[8]? = some (v8)
  t9 : a.tmps[9]? = some (v9)
  t10 : a.tmps[10]? = some (v10)
  t11 : a.tmps[11]? = some (v11)
  t13 : a.tmps[13]? = some (v13)
  t17 : a.tmps[17]? = some (v17)
  t18 : a.tmps[18]? = some (v18)
  t20 : a.tmps[20]? = some (v20)
  t22 : a.tmps[22]? = some (v22)
def FrPL (v0 v3 v5 v6 v8 v9 v10 v11 v13 v17 v18 v20 v22 : Value) (U : Nat → Value) : Act := { tmps := (v0 :: U 1 :: U 2 :: v3 :: U 4 :: v5 :: v6 :: U 7 :: v8 :: v9 :: v10 :: v11 :: U 12 :: v13 :: U 14 :: U 15 :: U 16 :: v17 :: v18 :: U 19 :: v20 :: U 21 :: v22 :: U 23 :: U 24 :: U 25 :: U 26 :: U 27 :: U 28 :: U 29 :: U 30 :: U 31 :: U 32 :: U 33 :: U 34 :: U 35 :: U 36 :: U 37 :: U 38 :: U 39 :: U 40 :: U 41 :: U 42 :: U 43 :: U 44 :: U 45 :: U 46 :: U 47 :: U 48 :: U 49 :: U 50 :: U 51 :: U 52 :: U 53 :: U 54 :: U 55 :: U 56 :: U 57 :: U 58 :: U 59 :: U 60 :: U 61 :: U 62 :: U 63 :: U 64 :: U 65 :: U 66 :: U 67 :: U 68 :: U 69 :: U 70 :: U 71 :: U 72 :: U 73 :: U 74 :: U 75 :: U 76 :: U 77 :: U 78 :: U 79 :: U 80 :: U 81 :: U 82 :: U 83 :: U 84 :: U 85 :: U 86 :: U 87 :: U 88 :: U 89 :: U 90 :: U 91 :: U 92 :: U 93 :: U 94 :: U 95 :: U 96 :: U 97 :: U 98 :: U 99 :: U 100 :: U 101 :: U 102 :: U 103 :: U 104 :: U 105 :: U 106 :: U 107 :: U 108 :: U 109 :: U 110 :: U 111 :: U 112 :: U 113 :: U 114 :: U 115 :: U 116 :: U 117 :: U 118 :: U 119 :: U 120 :: U 121 :: U 122 :: U 123 :: U 124 :: U 125 :: U 126 :: U 127 :: U 128 :: U 129 :: U 130 :: U 131 :: U 132 :: U 133 :: U 134 :: U 135 :: U 136 :: U 137 :: U 138 :: U 139 :: U 140 :: U 141 :: U 142 :: U 143 :: U 144 :: U 145 :: U 146 :: U 147 :: U 148 :: U 149 :: U 150 :: U 151 :: U 152 :: U 153 :: U 154 :: U 155 :: U 156 :: U 157 :: U 158 :: U 159 :: U 160 :: U 161 :: U 162 :: U 163 :: U 164 :: U 165 :: U 166 :: U 167 :: U 168 :: U 169 :: U 170 :: U 171 :: U 172 :: U 173 :: U 174 :: U 175 :: U 176 :: U 177 :: U 178 :: U 179 :: U 180 :: U 181 :: U 182 :: U 183 :: U 184 :: U 185 :: U 186 :: U 187 :: U 188 :: U 189 :: U 190 :: U 191 :: U 192 :: U 193 :: U 194 :: U 195 :: U 196 :: U 197 :: U 198 :: U 199 :: U 200 :: U 201 :: U 202 :: U 203 :: U 204 :: U 205 :: U 206 :: U 207 :: U 208 :: U 209 :: U 210 :: []).toArray, defers := [] }
theorem FrP.lit {v0 v3 v5 v6 v8 v9 v10 v11 v13 v17 v18 v20 v22 : Value} {a : Act} (h : FrP v0 v3 v5 v6 v8 v9 v10 v11 v13 v17 v18 v20 v22 a) : ∃ U, a = FrPL v0 v3 v5 v6 v8 v9 v10 v11 v13 v17 v18 v20 v22 U := by
  obtain ⟨⟨l⟩, df⟩ := a
  obtain ⟨sz, rfl, t0, t3, t5, t6, t8, t9, t10, t11, t13, t17, t18, t20, t22⟩ := h
  simp only [List.size_toArray, List.getElem?_toArray] at sz t0 t3 t5 t6 t8 t9 t10 t11 t13 t17 t18 t20 t22
  have e := list_of_range l undef
  rw [sz] at e
  obtain ⟨U, hU⟩ : ∃ U : Nat → Value, (fun i => (l[i]?).getD undef) = U := ⟨_, rfl⟩
  have g : ∀ i v, l[i]? = some v → U i = v := fun i v h => by rw [← hU]; simp [h]
  have g0 := g _ _ t0
  have g3 := g _ _ t3
  have g5 := g _ _ t5
  have g6 := g _ _ t6
  have g8 := g _ _ t8
  have g9 := g _ _ t9
  have g10 := g _ _ t10
  have g11 := g _ _ t11
  have g13 := g _ _ t13
  have g17 := g _ _ t17
  have g18 := g _ _ t18
  have g20 := g _ _ t20
  have g22 := g _ _ t22
  rw [hU] at e
  clear hU g sz t0 t3 t5 t6 t8 t9 t10 t11 t13 t17 t18 t20 t22
  refine ⟨U, ?_⟩
  rw [e]
  unfold FrPL
  rw [← g0, ← g3, ← g5, ← g6, ← g8, ← g9, ← g10, ← g11, ← g13, ← g17, ← g18, ← g20, ← g22]
  rfl
theorem ivals_rep00 (n : Nat) : ivals (List.replicate n 0) = List.replicate n (.int .i64 0) := by simp [ivals]
section
variable (pn : Int → Nat) (csA csB : List Int) (fA fB NA NB NL : Nat) (J : List (Int × Int)) (Q : Exit → Act → World → Prop)
variable (VA VB UA UB : Option Addr) (ca cb da db : Nat) (WA WB : List (Pt × Pt)) (b5 b6 : Nat)
set_option maxHeartbeats 4000000 in
theorem pg_8 (v0 v5 v6 v8 v9 v10 v13 v17 v18 v20 v22 : Value) (V3 V11 V9 : Option Addr) (n3 c3' c9 c11 : Nat) (Z : World) (U : Nat → Value) (h9 : v9 = .slice V9 NA c9) (hn3 : n3 = J.length)
    (hJ : Hid (JOk fA fB J)) (hNA : Hid (firstN pn csA fA csA.length = NA)) (hNL : Hid (firstN pn csA fA csA.length + firstN pn csB fB csB.length = NL)) (hfa : fA ≤ NA) (hfb : NA + fB ≤ NL) (hl : NL ≤ 200000) (hJl : J.length ≤ 100000) (H3 : Hid (PtsRd Z V3 J))
    (hk : Hid (∀ a' X l13, FrP v0 (.slice V3 n3 c3') v5 v6 v8 v9 v10 (.slice V11 NL c11) (.slice (some ⟨Z.heap.size, 0, none⟩) NL NL) v17 v18 v20 v22 a' → Below Z.heap.size Z X → l13.length = NL → IntsRd X (some ⟨Z.heap.size, 0, none⟩) l13 → TwL pn csA csB fA fB J l13 → (pgT 16).wp Try.prog Q a' X)) :
    (pgT 8).wp Try.prog Q (FrPL v0 (.slice V3 n3 c3') v5 v6 v8 v9 v10 (.slice V11 NL c11) v13 v17 v18 v20 v22 U) Z := by
  subst h9 hn3
  have hmk := run_make_row' (P := Try.prog) 23 3 (.int .i64 0) 8 Try.underlying23 int_info rfl .i64 .i64 NL (by omega) (by omega)
  unfold FrPL
  show (Code.seq _ _).wp _ _ _ _
  go_upto_region 9 with fail
  refine absW (fun X => Below Z.heap.size Z X ∧ ∃ l, Row X 3 1 (.slice (some ⟨Z.heap.size, 0, none⟩) NL NL) NL (ivals l) ∧ TwL pn csA csB fA fB [] l) ⟨(Below.refl _ _).alloc (Nat.le_refl _) _, List.replicate NL 0, by rw [ivals_rep00]; exact row_zeros (heap_alloc_new Z _) (by unfold maxLen; omega), by rw [← hNL.out]; exact TwL.nil⟩ ?_
  intro X hX
  have HX := Lib.hid hX
  clear hX hmk
  go_wp2_with fail
  go_loopw [14, 15, 16] (fun i _ _ wr => ∃ k : Nat, i = .int .i64 k ∧ k ≤ J.length ∧ Hid (Below Z.heap.size Z wr ∧ ∃ l, Row wr 3 1 (.slice (some ⟨Z.heap.size, 0, none⟩) NL NL) NL (ivals l) ∧ TwL pn csA csB fA fB (J.take k) l)) (fun i _ _ _ => J.length - (intOf i).toNat)
  case atStart => exact ⟨0, rfl, Nat.zero_le _, HX⟩
  case round =>
    obtain ⟨k, rfl, hk', HR⟩ := hrel
    clear HX
    by_cases hlt : k < J.length
    · obtain ⟨hb, l, hrow, htw⟩ := HR.out
      have hll : l.length = NL := by rw [htw.len, hNL.out]
      obtain ⟨g, o, rfl, hg, c0, c1⟩ := (H3.out.below hb) k hlt
      have hj := hJ.out.r (J.getD k default) (by rw [List.getD_eq_getElem?_getD, List.getElem?_eq_getElem hlt]; exact List.getElem_mem hlt)
      have htk : J.take (k + 1) = J.take k ++ [J.getD k default] := by rw [List.take_add_one, List.getD_eq_getElem?_getD, List.getElem?_eq_getElem hlt]; rfl
      have hsn := htw.snoc (j := J.getD k default) (by rw [← htk]; exact jOkTake hJ.out _)
      rw [← htk] at hsn
      have e1 : plS pn csA csB fA fB (false, (-1, (J.getD k default).1)) = (J.getD k default).1.toNat := by simp [plS, plc]
      have e2 : plS pn csA csB fA fB (true, (-1, (J.getD k default).2)) = NA + (J.getD k default).2.toNat := by simp [plS, plc, hNA.out]
      rw [e1, e2] at hsn
      clear e1 e2 htk htw
      generalize J.getD k default = x at c0 c1 hj hsn
      obtain ⟨a, b⟩ := x
      dsimp only at c0 c1 hj hsn
      obtain ⟨r1, r2, r3, r4⟩ := hj
      obtain ⟨a, rfl⟩ := Int.eq_ofNat_of_zero_le r1
      obtain ⟨b, rfl⟩ := Int.eq_ofNat_of_zero_le r3
      rw [Int.toNat_natCast, Int.toNat_natCast] at hsn
      have HSn := Lib.hid hsn
      have HRow := Lib.hid hrow
      have HB := Lib.hid hb
      have hzl : Z.heap.size < wr.heap.size := hrow.lt _ (by simp [ownB])
      have hab : ¬ a = NA + b := by omega
      have la : a < NL := by omega
      have lb : NA + b < NL := by omega
      have s0 : wr.frozen? ⟨Z.heap.size, a, none⟩ = false := hrow.frozenAt a
      have s1 : wr.frozen? ⟨Z.heap.size, NA + b, none⟩ = false := hrow.frozenAt _
      obtain ⟨u1, s2⟩ : ∃ u, wr.cell? ⟨Z.heap.size, a, none⟩ = some u := ⟨_, (hrow.cellAt a (by omega)).trans (List.getElem?_eq_getElem (by rw [hrow.1]; omega))⟩
      obtain ⟨u2, s3⟩ : ∃ u, wr.cell? ⟨Z.heap.size, NA + b, none⟩ = some u := ⟨_, (hrow.cellAt (NA + b) (by omega)).trans (List.getElem?_eq_getElem (by rw [hrow.1]; omega))⟩
      have ew : IntKind.i64.wrap ((b : Int) + (NA : Int)) = (b : Int) + (NA : Int) := IntWalk.i64_in _ (by omega)
      have ew1 : IntKind.i64.wrap ((b : Int) + (NA : Int) + 1) = (b : Int) + (NA : Int) + 1 := IntWalk.i64_in _ (by omega)
      have eb : ((b : Int) + (NA : Int)).toNat = NA + b := by omega
      have eb0 : 0 ≤ (b : Int) + (NA : Int) := by omega
      have eb1 : (b : Int) + (NA : Int) < (NL : Int) := by omega
      clear hsn hrow hb r1 r2 r3 r4 HR
      go_wp2_with fail
      go_roundw
      case rel =>
        refine ⟨k + 1, by go_num, by omega, (HB.out.setCell (p := ⟨Z.heap.size, a, none⟩) (Nat.le_refl _) _).setCell (p := ⟨Z.heap.size, NA + b, none⟩) (Nat.le_refl _) _, _, ?_, HSn.out⟩
        have hR8 := (HRow.out.set a (.int .i64 ((b : Int) + (NA : Int) + 1))).set (NA + b) (.int .i64 ((a : Int) + 1))
        rw [ivals_set, ivals_set] at hR8
        have ev : ((NA + b : Nat) : Int) + 1 = (b : Int) + (NA : Int) + 1 := by omega
        rw [ev]
        exact hR8
      case measure => simp [intOf]; omega
    · obtain ⟨hb, l, hrow, htw⟩ := HR.out
      have hkl : k = J.length := by omega
      rw [hkl, List.take_length] at htw
      have hll : l.length = NL := by rw [htw.len, hNL.out]
      have HF := Lib.hid (And.intro hb (And.intro hrow (And.intro htw hll)))
      clear hb hrow htw hll hkl HR
      have HI : IntsRd wr (some ⟨Z.heap.size, 0, none⟩) l := Row.ints (cap := NL) (by rw [HF.out.2.2.2]; exact HF.out.2.1)
      have HI := Lib.hid HI
      repeat (first
        | exact hk.out _ _ l ⟨rfl, rfl, rfl, rfl, rfl, rfl, rfl, rfl, rfl, rfl, rfl, rfl, rfl, rfl, rfl⟩ HF.out.1 HF.out.2.2.2 HI.out HF.out.2.2.1
        | go_values | go_skip | go_guarded | go_step | go_upon | go_back)
end
end Go.Proofs.Ytcebejcdfdahjaa
