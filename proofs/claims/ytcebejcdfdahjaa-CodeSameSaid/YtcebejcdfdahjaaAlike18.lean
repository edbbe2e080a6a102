/-
  skeinlaw12.alike: the test of a pair (region 18).
-/
import Derived.Test.YtcebejcdfdahjaaAlikeMem
import Derived.Deep.LoopGhost
namespace Go.Proofs.Ytcebejcdfdahjaa
open Go.RowKit
attribute [local go_sem] cell_set
set_option maxRecDepth 100000
set_option linter.unusedVariables false

/-- The region n of a code. -/
def regionOf (n : Nat) : Code → Option Code
  | .region id ops dr => if id = n then some (.region id ops dr) else none
  | .seq a b => (regionOf n a).or (regionOf n b)
  | .cond _ a b => (regionOf n a).or (regionOf n b)
  | .block _ a => regionOf n a
  | .loop a => regionOf n a
  | _ => none
noncomputable def alk18 : Code := (((Try.f44.body).bind (regionOf 18)).getD .skip)
theorem st_yes {P : Program} {ops : Array Oper} {w : World} {Q : Act → Prop} {o : Oper} {rest : List Oper} {a : Act} {v : Value} (hw : Region.wanted o (yielded ops a.tmps) = true) (hy : (execOp a.eval o).run P w = .ok (.value v) w) (h : wpStill P ops w Q rest (a.put o.dst v)) : wpStill P ops w Q (o :: rest) a := by
  unfold wpStill
  rw [if_pos hw]
  unfold Oper.still Oper.stillUpon
  rw [hy]
  exact ⟨rfl, h⟩
theorem st_no {P : Program} {ops : Array Oper} {w : World} {Q : Act → Prop} {o : Oper} {rest : List Oper} {a : Act} (hw : Region.wanted o (yielded ops a.tmps) = false) (h : wpStill P ops w Q rest (a.put o.dst undef)) : wpStill P ops w Q (o :: rest) a := by
  unfold wpStill
  rw [if_neg (by rw [hw]; decide)]
  exact h
theorem want_yes {o : Oper} {ops : Array Oper} {tmps : Array Value} {j d : Nat} {b : Bool} (hg : o.guard = some (j, b)) (hd : (ops[j]?).bind (·.dst) = some d) (ht : tmps[d]? = some (.bool b)) : Region.wanted o (yielded ops tmps) = true := by
  unfold Region.wanted yielded
  rw [hg]
  simp only [hd, Option.bind_some, ht]
  cases b <;> rfl
theorem want_no {o : Oper} {ops : Array Oper} {tmps : Array Value} {j d : Nat} {b : Bool} (hg : o.guard = some (j, b)) (hd : (ops[j]?).bind (·.dst) = some d) (ht : tmps[d]? = some (.bool (!b))) : Region.wanted o (yielded ops tmps) = false := by
  unfold Region.wanted yielded
  rw [hg]
  simp only [hd, Option.bind_some, ht]
  cases b <;> rfl
theorem want_un {o : Oper} {ops : Array Oper} {tmps : Array Value} {j d : Nat} {b : Bool} (hg : o.guard = some (j, b)) (hd : (ops[j]?).bind (·.dst) = some d) (ht : tmps[d]? = some undef) : Region.wanted o (yielded ops tmps) = false := by
  unfold Region.wanted yielded
  rw [hg]
  simp only [hd, Option.bind_some, ht]
  rfl
theorem want_none {o : Oper} {y : Nat → Option Bool} (hg : o.guard = none) : Region.wanted o y = true := by
  unfold Region.wanted
  rw [hg]
theorem region_still2 {id : Nat} {Q : Exit → Act → World → Prop} {a : Act} {w : World} {P : Program} {l : List Oper} (hm : P.follows .mixedOrders = true) (hB : Region.lexB .any l.toArray = true)
    (h : ∀ ops : Array Oper, (∀ j : Nat, ops[j]? = l[j]?) → wpStill P ops w.drew (fun a' => Q .normal a' w.drew) l a) : (Code.region id l.toArray true).wp P Q a w :=
  region_still hm hB (h l.toArray fun j => by simp)

section
variable {u0 u1 u2 u3 u4 u5 u8 u9 u10 u11 u12 u15 u18 u19 u20 u21 u22 u23 u24 u25 u26 u27 u28 u29 u30 u31 u32 u33 u34 u35 u36 u37 u38 u39 u40 u41 u42 u43 u44 u45 u46 u47 u48 u49 u50 u51 u52 u53 u54 u55 u56 u57 u58 u59 u60 u61 u62 u63 u64 u65 u66 u67 u68 u69 u70 u71 u72 u73 u74 u75 u76 u77 u78 u79 u80 u81 u82 u83 u84 u85 u86 u87 u88 u89 u90 u91 u92 u93 u94 u95 u96 u97 u98 u99 u100 u101 u102 u103 u104 u105 u106 u107 u108 u109 u110 u111 u112 u113 u114 u115 u116 u117 u118 u119 u120 u121 u122 u123 u124 u125 u126 u127 u128 u129 u130 u131 u132 u133 u134 u135 u136 u137 u138 u139 u140 u141 u142 u143 u144 u145 u146 u147 u148 u149 u150 u151 u152 u153 u154 u155 u156 u157 u158 u159 u160 u161 u162 u163 u164 u165 u166 u167 u168 u169 u170 u171 u172 u173 u174 u175 u176 u177 u178 u179 u180 u181 u182 u183 u184 u185 u186 u187 u188 u189 u190 u191 u192 u193 u194 u195 u196 u197 u198 u199 u200 u201 u202 u203 u204 u205 u206 u207 u208 u209 u210 u211 u212 u213 u214 u215 u216 : Value} {K : Act → World → Prop} {Q' : Exit → Act → World → Prop}
set_option maxHeartbeats 8000000 in
theorem alk_18 {w : World} {b6 b7 bt bf t1 t2 nA nB lA lB cA cB c d e1 e2 e3 e4 : Nat} {u v x1 x2 tc fd : Int}
    (z0 : w.cell? ⟨t1, 0, none⟩ = some (.int .i64 (c : Int))) (z1 : w.cell? ⟨t1, 1, none⟩ = some (.int .i64 u)) (y0 : w.cell? ⟨t2, 0, none⟩ = some (.int .i64 (d : Int))) (y1 : w.cell? ⟨t2, 1, none⟩ = some (.int .i64 v))
    (n0 : w.cell? ⟨b6, 0, none⟩ = some (.slice (some ⟨e1, e2, none⟩) nA cA)) (m0 : w.cell? ⟨b7, 0, none⟩ = some (.slice (some ⟨e3, e4, none⟩) nB cB)) (q0 : w.cell? ⟨e1, e2 + c, none⟩ = some (.int .i64 x1)) (q1 : w.cell? ⟨e3, e4 + d, none⟩ = some (.int .i64 x2))
    (r0 : w.cell? ⟨bt, c, none⟩ = some (.int .i64 tc)) (w0 : w.cell? ⟨bf, d, none⟩ = some (.int .i64 fd)) (hc : c < nA) (hd : d < nB)
    (s1 : IntKind.i64.wrap ((c : Int) + 1) = (c : Int) + 1) (s2 : IntKind.i64.wrap ((d : Int) + 1) = (d : Int) + 1)
    (hk : ∀ y93 y94 y95 y96 y97 y98 y99 y100 y101 y102 y103 y104 y105 y106 y107 y108 y109 y110 y111 y112 y113 y114 y115 y116 y117 y118 y119 y120 y121 y122 y123 y124 y125 y126 y127 y128 y129 y130 y131 y132 y133 y134 y135 y136 y137 y138 y139 y140 y141 y142 y143 y144 y145 y146 y147 y148 y149 : Value, K { tmps := (u0 :: u1 :: u2 :: u3 :: u4 :: u5 :: .pointer (some ⟨b6, 0, none⟩) :: .pointer (some ⟨b7, 0, none⟩) :: u8 :: u9 :: u10 :: u11 :: u12 :: .slice (some ⟨bt, 0, none⟩) nA nA :: .slice (some ⟨bf, 0, none⟩) nB nB :: u15 :: .pointer (some ⟨t1, 0, none⟩) :: .pointer (some ⟨t2, 0, none⟩) :: u18 :: u19 :: u20 :: u21 :: u22 :: u23 :: u24 :: u25 :: u26 :: u27 :: u28 :: u29 :: u30 :: u31 :: u32 :: u33 :: u34 :: u35 :: u36 :: u37 :: u38 :: u39 :: u40 :: u41 :: u42 :: u43 :: u44 :: u45 :: u46 :: u47 :: u48 :: u49 :: u50 :: u51 :: u52 :: u53 :: u54 :: u55 :: u56 :: u57 :: u58 :: u59 :: u60 :: u61 :: u62 :: u63 :: u64 :: u65 :: u66 :: u67 :: u68 :: u69 :: u70 :: u71 :: u72 :: u73 :: u74 :: u75 :: u76 :: u77 :: u78 :: u79 :: u80 :: u81 :: u82 :: u83 :: u84 :: u85 :: u86 :: u87 :: u88 :: u89 :: u90 :: u91 :: u92 :: y93 :: y94 :: y95 :: y96 :: y97 :: y98 :: y99 :: y100 :: y101 :: y102 :: y103 :: y104 :: y105 :: y106 :: y107 :: y108 :: y109 :: y110 :: y111 :: y112 :: y113 :: y114 :: y115 :: y116 :: y117 :: y118 :: y119 :: y120 :: y121 :: y122 :: y123 :: y124 :: y125 :: y126 :: y127 :: y128 :: y129 :: y130 :: y131 :: y132 :: y133 :: y134 :: y135 :: y136 :: y137 :: y138 :: y139 :: y140 :: y141 :: y142 :: y143 :: y144 :: y145 :: y146 :: y147 :: y148 :: y149 :: .bool (decide (u ≠ v ∨ x1 ≠ x2 ∨ (tc ≠ 0 ∧ tc ≠ (d : Int) + 1) ∨ (fd ≠ 0 ∧ fd ≠ (c : Int) + 1))) :: u151 :: u152 :: u153 :: u154 :: u155 :: u156 :: u157 :: u158 :: u159 :: u160 :: u161 :: u162 :: u163 :: u164 :: u165 :: u166 :: u167 :: u168 :: u169 :: u170 :: u171 :: u172 :: u173 :: u174 :: u175 :: u176 :: u177 :: u178 :: u179 :: u180 :: u181 :: u182 :: u183 :: u184 :: u185 :: u186 :: u187 :: u188 :: u189 :: u190 :: u191 :: u192 :: u193 :: u194 :: u195 :: u196 :: u197 :: u198 :: u199 :: u200 :: u201 :: u202 :: u203 :: u204 :: u205 :: u206 :: u207 :: u208 :: u209 :: u210 :: u211 :: u212 :: u213 :: u214 :: u215 :: u216 :: []).toArray, defers := [] } w.drew) :
    alk18.wp Try.prog (Exit.then K Q') { tmps := (u0 :: u1 :: u2 :: u3 :: u4 :: u5 :: .pointer (some ⟨b6, 0, none⟩) :: .pointer (some ⟨b7, 0, none⟩) :: u8 :: u9 :: u10 :: u11 :: u12 :: .slice (some ⟨bt, 0, none⟩) nA nA :: .slice (some ⟨bf, 0, none⟩) nB nB :: u15 :: .pointer (some ⟨t1, 0, none⟩) :: .pointer (some ⟨t2, 0, none⟩) :: u18 :: u19 :: u20 :: u21 :: u22 :: u23 :: u24 :: u25 :: u26 :: u27 :: u28 :: u29 :: u30 :: u31 :: u32 :: u33 :: u34 :: u35 :: u36 :: u37 :: u38 :: u39 :: u40 :: u41 :: u42 :: u43 :: u44 :: u45 :: u46 :: u47 :: u48 :: u49 :: u50 :: u51 :: u52 :: u53 :: u54 :: u55 :: u56 :: u57 :: u58 :: u59 :: u60 :: u61 :: u62 :: u63 :: u64 :: u65 :: u66 :: u67 :: u68 :: u69 :: u70 :: u71 :: u72 :: u73 :: u74 :: u75 :: u76 :: u77 :: u78 :: u79 :: u80 :: u81 :: u82 :: u83 :: u84 :: u85 :: u86 :: u87 :: u88 :: u89 :: u90 :: u91 :: u92 :: u93 :: u94 :: u95 :: u96 :: u97 :: u98 :: u99 :: u100 :: u101 :: u102 :: u103 :: u104 :: u105 :: u106 :: u107 :: u108 :: u109 :: u110 :: u111 :: u112 :: u113 :: u114 :: u115 :: u116 :: u117 :: u118 :: u119 :: u120 :: u121 :: u122 :: u123 :: u124 :: u125 :: u126 :: u127 :: u128 :: u129 :: u130 :: u131 :: u132 :: u133 :: u134 :: u135 :: u136 :: u137 :: u138 :: u139 :: u140 :: u141 :: u142 :: u143 :: u144 :: u145 :: u146 :: u147 :: u148 :: u149 :: u150 :: u151 :: u152 :: u153 :: u154 :: u155 :: u156 :: u157 :: u158 :: u159 :: u160 :: u161 :: u162 :: u163 :: u164 :: u165 :: u166 :: u167 :: u168 :: u169 :: u170 :: u171 :: u172 :: u173 :: u174 :: u175 :: u176 :: u177 :: u178 :: u179 :: u180 :: u181 :: u182 :: u183 :: u184 :: u185 :: u186 :: u187 :: u188 :: u189 :: u190 :: u191 :: u192 :: u193 :: u194 :: u195 :: u196 :: u197 :: u198 :: u199 :: u200 :: u201 :: u202 :: u203 :: u204 :: u205 :: u206 :: u207 :: u208 :: u209 :: u210 :: u211 :: u212 :: u213 :: u214 :: u215 :: u216 :: []).toArray, defers := [] } w := by
  show (Code.region _ _ _).wp _ _ _ _
  refine region_still2 (by kernel_rfl) (by kernel_rfl) ?_
  intro ops hops
  have hd5 : (ops[5]?).bind (·.dst) = some 98 := by rw [hops]; rfl
  have hd20 : (ops[20]?).bind (·.dst) = some 113 := by rw [hops]; rfl
  have hd27 : (ops[27]?).bind (·.dst) = some 120 := by rw [hops]; rfl
  have hd39 : (ops[39]?).bind (·.dst) = some 132 := by rw [hops]; rfl
  have hd46 : (ops[46]?).bind (·.dst) = some 139 := by rw [hops]; rfl
  clear hops
  have HK := Lib.hid hk
  clear hk
  iterate 4 (refine st_yes (v := ?_) (want_none rfl) ?_ ?_; rotate_left; (· go_simp; try with_reducible rfl); (try simp only [Act.put, List.setIfInBounds_toArray, List.set_cons_zero, List.set_cons_succ]))
  by_cases k1 : u = v
  · have k1b : (u != v) = false := by simp [k1]
    iterate 2 (refine st_yes (v := ?_) (want_none rfl) ?_ ?_; rotate_left; (· go_simp; try with_reducible rfl); (try simp only [Act.put, List.setIfInBounds_toArray, List.set_cons_zero, List.set_cons_succ]))
    iterate 12 (refine st_yes (v := ?_) (want_yes rfl hd5 (by simp only [List.getElem?_toArray, List.getElem?_cons_succ, List.getElem?_cons_zero]; try rfl)) ?_ ?_; rotate_left; (· go_simp; try with_reducible rfl); (try simp only [Act.put, List.setIfInBounds_toArray, List.set_cons_zero, List.set_cons_succ]))
    by_cases k2 : x1 = x2
    · have k2b : (x1 != x2) = false := by simp [k2]
      iterate 1 (refine st_yes (v := ?_) (want_yes rfl hd5 (by simp only [List.getElem?_toArray, List.getElem?_cons_succ, List.getElem?_cons_zero]; try rfl)) ?_ ?_; rotate_left; (· go_simp; try with_reducible rfl); (try simp only [Act.put, List.setIfInBounds_toArray, List.set_cons_zero, List.set_cons_succ]))
      iterate 2 (refine st_yes (v := ?_) (want_none rfl) ?_ ?_; rotate_left; (· go_simp; try with_reducible rfl); (try simp only [Act.put, List.setIfInBounds_toArray, List.set_cons_zero, List.set_cons_succ]))
      iterate 5 (refine st_yes (v := ?_) (want_yes rfl hd20 (by simp only [List.getElem?_toArray, List.getElem?_cons_succ, List.getElem?_cons_zero]; try rfl)) ?_ ?_; rotate_left; (· go_simp; try with_reducible rfl); (try simp only [Act.put, List.setIfInBounds_toArray, List.set_cons_zero, List.set_cons_succ]))
      by_cases k3 : tc = 0
      · have k3b : (tc != 0) = false := by simp [k3]
        iterate 2 (refine st_yes (v := ?_) (want_yes rfl hd20 (by simp only [List.getElem?_toArray, List.getElem?_cons_succ, List.getElem?_cons_zero]; try rfl)) ?_ ?_; rotate_left; (· go_simp; try with_reducible rfl); (try simp only [Act.put, List.setIfInBounds_toArray, List.set_cons_zero, List.set_cons_succ]))
        iterate 9 (refine st_no (want_no rfl hd27 (by simp only [List.getElem?_toArray, List.getElem?_cons_succ, List.getElem?_cons_zero]; try rfl)) ?_; (try simp only [Act.put, List.setIfInBounds_toArray, List.set_cons_zero, List.set_cons_succ]))
        iterate 1 (refine st_yes (v := ?_) (want_yes rfl hd20 (by simp only [List.getElem?_toArray, List.getElem?_cons_succ, List.getElem?_cons_zero]; try rfl)) ?_ ?_; rotate_left; (· go_simp; try with_reducible rfl); (try simp only [Act.put, List.setIfInBounds_toArray, List.set_cons_zero, List.set_cons_succ]))
        iterate 2 (refine st_yes (v := ?_) (want_none rfl) ?_ ?_; rotate_left; (· go_simp; try with_reducible rfl); (try simp only [Act.put, List.setIfInBounds_toArray, List.set_cons_zero, List.set_cons_succ]))
        iterate 5 (refine st_yes (v := ?_) (want_yes rfl hd39 (by simp only [List.getElem?_toArray, List.getElem?_cons_succ, List.getElem?_cons_zero]; try rfl)) ?_ ?_; rotate_left; (· go_simp; try with_reducible rfl); (try simp only [Act.put, List.setIfInBounds_toArray, List.set_cons_zero, List.set_cons_succ]))
        by_cases k5 : fd = 0
        · have k5b : (fd != 0) = false := by simp [k5]
          iterate 2 (refine st_yes (v := ?_) (want_yes rfl hd39 (by simp only [List.getElem?_toArray, List.getElem?_cons_succ, List.getElem?_cons_zero]; try rfl)) ?_ ?_; rotate_left; (· go_simp; try with_reducible rfl); (try simp only [Act.put, List.setIfInBounds_toArray, List.set_cons_zero, List.set_cons_succ]))
          iterate 9 (refine st_no (want_no rfl hd46 (by simp only [List.getElem?_toArray, List.getElem?_cons_succ, List.getElem?_cons_zero]; try rfl)) ?_; (try simp only [Act.put, List.setIfInBounds_toArray, List.set_cons_zero, List.set_cons_succ]))
          iterate 1 (refine st_yes (v := ?_) (want_yes rfl hd39 (by simp only [List.getElem?_toArray, List.getElem?_cons_succ, List.getElem?_cons_zero]; try rfl)) ?_ ?_; rotate_left; (· go_simp; try with_reducible rfl); (try simp only [Act.put, List.setIfInBounds_toArray, List.set_cons_zero, List.set_cons_succ]))
          iterate 1 (refine st_yes (v := ?_) (want_none rfl) ?_ ?_; rotate_left; (· go_simp; try with_reducible rfl); (try simp only [Act.put, List.setIfInBounds_toArray, List.set_cons_zero, List.set_cons_succ]))
          refine wpStill_nil ?_
          have hP : decide (u ≠ v ∨ x1 ≠ x2 ∨ (tc ≠ 0 ∧ tc ≠ (d : Int) + 1) ∨ (fd ≠ 0 ∧ fd ≠ (c : Int) + 1)) = false := decide_eq_false (by omega)
          have hk := HK.out
          rw [hP] at hk
          exact hk ..
        · have k5b : (fd != 0) = true := by simp [k5]
          iterate 2 (refine st_yes (v := ?_) (want_yes rfl hd39 (by simp only [List.getElem?_toArray, List.getElem?_cons_succ, List.getElem?_cons_zero]; try rfl)) ?_ ?_; rotate_left; (· go_simp; try with_reducible rfl); (try simp only [Act.put, List.setIfInBounds_toArray, List.set_cons_zero, List.set_cons_succ]))
          iterate 8 (refine st_yes (v := ?_) (want_yes rfl hd46 (by simp only [List.getElem?_toArray, List.getElem?_cons_succ, List.getElem?_cons_zero]; try rfl)) ?_ ?_; rotate_left; (· go_simp; try with_reducible rfl); (try simp only [Act.put, List.setIfInBounds_toArray, List.set_cons_zero, List.set_cons_succ]))
          by_cases k6 : fd = (c : Int) + 1
          · have k6b : (fd != (c : Int) + 1) = false := by simp [k6]
            iterate 1 (refine st_yes (v := ?_) (want_yes rfl hd46 (by simp only [List.getElem?_toArray, List.getElem?_cons_succ, List.getElem?_cons_zero]; try rfl)) ?_ ?_; rotate_left; (· go_simp; try with_reducible rfl); (try simp only [Act.put, List.setIfInBounds_toArray, List.set_cons_zero, List.set_cons_succ]))
            iterate 1 (refine st_yes (v := ?_) (want_yes rfl hd39 (by simp only [List.getElem?_toArray, List.getElem?_cons_succ, List.getElem?_cons_zero]; try rfl)) ?_ ?_; rotate_left; (· go_simp; try with_reducible rfl); (try simp only [Act.put, List.setIfInBounds_toArray, List.set_cons_zero, List.set_cons_succ]))
            iterate 1 (refine st_yes (v := ?_) (want_none rfl) ?_ ?_; rotate_left; (· go_simp; try with_reducible rfl); (try simp only [Act.put, List.setIfInBounds_toArray, List.set_cons_zero, List.set_cons_succ]))
            refine wpStill_nil ?_
            have hP : decide (u ≠ v ∨ x1 ≠ x2 ∨ (tc ≠ 0 ∧ tc ≠ (d : Int) + 1) ∨ (fd ≠ 0 ∧ fd ≠ (c : Int) + 1)) = false := decide_eq_false (by omega)
            have hk := HK.out
            rw [hP] at hk
            exact hk ..
          · have k6b : (fd != (c : Int) + 1) = true := by simp [k6]
            iterate 1 (refine st_yes (v := ?_) (want_yes rfl hd46 (by simp only [List.getElem?_toArray, List.getElem?_cons_succ, List.getElem?_cons_zero]; try rfl)) ?_ ?_; rotate_left; (· go_simp; try with_reducible rfl); (try simp only [Act.put, List.setIfInBounds_toArray, List.set_cons_zero, List.set_cons_succ]))
            iterate 1 (refine st_yes (v := ?_) (want_yes rfl hd39 (by simp only [List.getElem?_toArray, List.getElem?_cons_succ, List.getElem?_cons_zero]; try rfl)) ?_ ?_; rotate_left; (· go_simp; try with_reducible rfl); (try simp only [Act.put, List.setIfInBounds_toArray, List.set_cons_zero, List.set_cons_succ]))
            iterate 1 (refine st_yes (v := ?_) (want_none rfl) ?_ ?_; rotate_left; (· go_simp; try with_reducible rfl); (try simp only [Act.put, List.setIfInBounds_toArray, List.set_cons_zero, List.set_cons_succ]))
            refine wpStill_nil ?_
            have hP : decide (u ≠ v ∨ x1 ≠ x2 ∨ (tc ≠ 0 ∧ tc ≠ (d : Int) + 1) ∨ (fd ≠ 0 ∧ fd ≠ (c : Int) + 1)) = true := decide_eq_true (by omega)
            have hk := HK.out
            rw [hP] at hk
            exact hk ..
      · have k3b : (tc != 0) = true := by simp [k3]
        iterate 2 (refine st_yes (v := ?_) (want_yes rfl hd20 (by simp only [List.getElem?_toArray, List.getElem?_cons_succ, List.getElem?_cons_zero]; try rfl)) ?_ ?_; rotate_left; (· go_simp; try with_reducible rfl); (try simp only [Act.put, List.setIfInBounds_toArray, List.set_cons_zero, List.set_cons_succ]))
        iterate 8 (refine st_yes (v := ?_) (want_yes rfl hd27 (by simp only [List.getElem?_toArray, List.getElem?_cons_succ, List.getElem?_cons_zero]; try rfl)) ?_ ?_; rotate_left; (· go_simp; try with_reducible rfl); (try simp only [Act.put, List.setIfInBounds_toArray, List.set_cons_zero, List.set_cons_succ]))
        by_cases k4 : tc = (d : Int) + 1
        · have k4b : (tc != (d : Int) + 1) = false := by simp [k4]
          iterate 1 (refine st_yes (v := ?_) (want_yes rfl hd27 (by simp only [List.getElem?_toArray, List.getElem?_cons_succ, List.getElem?_cons_zero]; try rfl)) ?_ ?_; rotate_left; (· go_simp; try with_reducible rfl); (try simp only [Act.put, List.setIfInBounds_toArray, List.set_cons_zero, List.set_cons_succ]))
          iterate 1 (refine st_yes (v := ?_) (want_yes rfl hd20 (by simp only [List.getElem?_toArray, List.getElem?_cons_succ, List.getElem?_cons_zero]; try rfl)) ?_ ?_; rotate_left; (· go_simp; try with_reducible rfl); (try simp only [Act.put, List.setIfInBounds_toArray, List.set_cons_zero, List.set_cons_succ]))
          iterate 2 (refine st_yes (v := ?_) (want_none rfl) ?_ ?_; rotate_left; (· go_simp; try with_reducible rfl); (try simp only [Act.put, List.setIfInBounds_toArray, List.set_cons_zero, List.set_cons_succ]))
          iterate 5 (refine st_yes (v := ?_) (want_yes rfl hd39 (by simp only [List.getElem?_toArray, List.getElem?_cons_succ, List.getElem?_cons_zero]; try rfl)) ?_ ?_; rotate_left; (· go_simp; try with_reducible rfl); (try simp only [Act.put, List.setIfInBounds_toArray, List.set_cons_zero, List.set_cons_succ]))
          by_cases k5 : fd = 0
          · have k5b : (fd != 0) = false := by simp [k5]
            iterate 2 (refine st_yes (v := ?_) (want_yes rfl hd39 (by simp only [List.getElem?_toArray, List.getElem?_cons_succ, List.getElem?_cons_zero]; try rfl)) ?_ ?_; rotate_left; (· go_simp; try with_reducible rfl); (try simp only [Act.put, List.setIfInBounds_toArray, List.set_cons_zero, List.set_cons_succ]))
            iterate 9 (refine st_no (want_no rfl hd46 (by simp only [List.getElem?_toArray, List.getElem?_cons_succ, List.getElem?_cons_zero]; try rfl)) ?_; (try simp only [Act.put, List.setIfInBounds_toArray, List.set_cons_zero, List.set_cons_succ]))
            iterate 1 (refine st_yes (v := ?_) (want_yes rfl hd39 (by simp only [List.getElem?_toArray, List.getElem?_cons_succ, List.getElem?_cons_zero]; try rfl)) ?_ ?_; rotate_left; (· go_simp; try with_reducible rfl); (try simp only [Act.put, List.setIfInBounds_toArray, List.set_cons_zero, List.set_cons_succ]))
            iterate 1 (refine st_yes (v := ?_) (want_none rfl) ?_ ?_; rotate_left; (· go_simp; try with_reducible rfl); (try simp only [Act.put, List.setIfInBounds_toArray, List.set_cons_zero, List.set_cons_succ]))
            refine wpStill_nil ?_
            have hP : decide (u ≠ v ∨ x1 ≠ x2 ∨ (tc ≠ 0 ∧ tc ≠ (d : Int) + 1) ∨ (fd ≠ 0 ∧ fd ≠ (c : Int) + 1)) = false := decide_eq_false (by omega)
            have hk := HK.out
            rw [hP] at hk
            exact hk ..
          · have k5b : (fd != 0) = true := by simp [k5]
            iterate 2 (refine st_yes (v := ?_) (want_yes rfl hd39 (by simp only [List.getElem?_toArray, List.getElem?_cons_succ, List.getElem?_cons_zero]; try rfl)) ?_ ?_; rotate_left; (· go_simp; try with_reducible rfl); (try simp only [Act.put, List.setIfInBounds_toArray, List.set_cons_zero, List.set_cons_succ]))
            iterate 8 (refine st_yes (v := ?_) (want_yes rfl hd46 (by simp only [List.getElem?_toArray, List.getElem?_cons_succ, List.getElem?_cons_zero]; try rfl)) ?_ ?_; rotate_left; (· go_simp; try with_reducible rfl); (try simp only [Act.put, List.setIfInBounds_toArray, List.set_cons_zero, List.set_cons_succ]))
            by_cases k6 : fd = (c : Int) + 1
            · have k6b : (fd != (c : Int) + 1) = false := by simp [k6]
              iterate 1 (refine st_yes (v := ?_) (want_yes rfl hd46 (by simp only [List.getElem?_toArray, List.getElem?_cons_succ, List.getElem?_cons_zero]; try rfl)) ?_ ?_; rotate_left; (· go_simp; try with_reducible rfl); (try simp only [Act.put, List.setIfInBounds_toArray, List.set_cons_zero, List.set_cons_succ]))
              iterate 1 (refine st_yes (v := ?_) (want_yes rfl hd39 (by simp only [List.getElem?_toArray, List.getElem?_cons_succ, List.getElem?_cons_zero]; try rfl)) ?_ ?_; rotate_left; (· go_simp; try with_reducible rfl); (try simp only [Act.put, List.setIfInBounds_toArray, List.set_cons_zero, List.set_cons_succ]))
              iterate 1 (refine st_yes (v := ?_) (want_none rfl) ?_ ?_; rotate_left; (· go_simp; try with_reducible rfl); (try simp only [Act.put, List.setIfInBounds_toArray, List.set_cons_zero, List.set_cons_succ]))
              refine wpStill_nil ?_
              have hP : decide (u ≠ v ∨ x1 ≠ x2 ∨ (tc ≠ 0 ∧ tc ≠ (d : Int) + 1) ∨ (fd ≠ 0 ∧ fd ≠ (c : Int) + 1)) = false := decide_eq_false (by omega)
              have hk := HK.out
              rw [hP] at hk
              exact hk ..
            · have k6b : (fd != (c : Int) + 1) = true := by simp [k6]
              iterate 1 (refine st_yes (v := ?_) (want_yes rfl hd46 (by simp only [List.getElem?_toArray, List.getElem?_cons_succ, List.getElem?_cons_zero]; try rfl)) ?_ ?_; rotate_left; (· go_simp; try with_reducible rfl); (try simp only [Act.put, List.setIfInBounds_toArray, List.set_cons_zero, List.set_cons_succ]))
              iterate 1 (refine st_yes (v := ?_) (want_yes rfl hd39 (by simp only [List.getElem?_toArray, List.getElem?_cons_succ, List.getElem?_cons_zero]; try rfl)) ?_ ?_; rotate_left; (· go_simp; try with_reducible rfl); (try simp only [Act.put, List.setIfInBounds_toArray, List.set_cons_zero, List.set_cons_succ]))
              iterate 1 (refine st_yes (v := ?_) (want_none rfl) ?_ ?_; rotate_left; (· go_simp; try with_reducible rfl); (try simp only [Act.put, List.setIfInBounds_toArray, List.set_cons_zero, List.set_cons_succ]))
              refine wpStill_nil ?_
              have hP : decide (u ≠ v ∨ x1 ≠ x2 ∨ (tc ≠ 0 ∧ tc ≠ (d : Int) + 1) ∨ (fd ≠ 0 ∧ fd ≠ (c : Int) + 1)) = true := decide_eq_true (by omega)
              have hk := HK.out
              rw [hP] at hk
              exact hk ..
        · have k4b : (tc != (d : Int) + 1) = true := by simp [k4]
          iterate 1 (refine st_yes (v := ?_) (want_yes rfl hd27 (by simp only [List.getElem?_toArray, List.getElem?_cons_succ, List.getElem?_cons_zero]; try rfl)) ?_ ?_; rotate_left; (· go_simp; try with_reducible rfl); (try simp only [Act.put, List.setIfInBounds_toArray, List.set_cons_zero, List.set_cons_succ]))
          iterate 1 (refine st_yes (v := ?_) (want_yes rfl hd20 (by simp only [List.getElem?_toArray, List.getElem?_cons_succ, List.getElem?_cons_zero]; try rfl)) ?_ ?_; rotate_left; (· go_simp; try with_reducible rfl); (try simp only [Act.put, List.setIfInBounds_toArray, List.set_cons_zero, List.set_cons_succ]))
          iterate 2 (refine st_yes (v := ?_) (want_none rfl) ?_ ?_; rotate_left; (· go_simp; try with_reducible rfl); (try simp only [Act.put, List.setIfInBounds_toArray, List.set_cons_zero, List.set_cons_succ]))
          iterate 7 (refine st_no (want_no rfl hd39 (by simp only [List.getElem?_toArray, List.getElem?_cons_succ, List.getElem?_cons_zero]; try rfl)) ?_; (try simp only [Act.put, List.setIfInBounds_toArray, List.set_cons_zero, List.set_cons_succ]))
          iterate 9 (refine st_no (want_un rfl hd46 (by simp only [List.getElem?_toArray, List.getElem?_cons_succ, List.getElem?_cons_zero]; try rfl)) ?_; (try simp only [Act.put, List.setIfInBounds_toArray, List.set_cons_zero, List.set_cons_succ]))
          iterate 1 (refine st_no (want_no rfl hd39 (by simp only [List.getElem?_toArray, List.getElem?_cons_succ, List.getElem?_cons_zero]; try rfl)) ?_; (try simp only [Act.put, List.setIfInBounds_toArray, List.set_cons_zero, List.set_cons_succ]))
          iterate 1 (refine st_yes (v := ?_) (want_none rfl) ?_ ?_; rotate_left; (· go_simp; try with_reducible rfl); (try simp only [Act.put, List.setIfInBounds_toArray, List.set_cons_zero, List.set_cons_succ]))
          refine wpStill_nil ?_
          have hP : decide (u ≠ v ∨ x1 ≠ x2 ∨ (tc ≠ 0 ∧ tc ≠ (d : Int) + 1) ∨ (fd ≠ 0 ∧ fd ≠ (c : Int) + 1)) = true := decide_eq_true (by omega)
          have hk := HK.out
          rw [hP] at hk
          exact hk ..
    · have k2b : (x1 != x2) = true := by simp [k2]
      iterate 1 (refine st_yes (v := ?_) (want_yes rfl hd5 (by simp only [List.getElem?_toArray, List.getElem?_cons_succ, List.getElem?_cons_zero]; try rfl)) ?_ ?_; rotate_left; (· go_simp; try with_reducible rfl); (try simp only [Act.put, List.setIfInBounds_toArray, List.set_cons_zero, List.set_cons_succ]))
      iterate 2 (refine st_yes (v := ?_) (want_none rfl) ?_ ?_; rotate_left; (· go_simp; try with_reducible rfl); (try simp only [Act.put, List.setIfInBounds_toArray, List.set_cons_zero, List.set_cons_succ]))
      iterate 7 (refine st_no (want_no rfl hd20 (by simp only [List.getElem?_toArray, List.getElem?_cons_succ, List.getElem?_cons_zero]; try rfl)) ?_; (try simp only [Act.put, List.setIfInBounds_toArray, List.set_cons_zero, List.set_cons_succ]))
      iterate 9 (refine st_no (want_un rfl hd27 (by simp only [List.getElem?_toArray, List.getElem?_cons_succ, List.getElem?_cons_zero]; try rfl)) ?_; (try simp only [Act.put, List.setIfInBounds_toArray, List.set_cons_zero, List.set_cons_succ]))
      iterate 1 (refine st_no (want_no rfl hd20 (by simp only [List.getElem?_toArray, List.getElem?_cons_succ, List.getElem?_cons_zero]; try rfl)) ?_; (try simp only [Act.put, List.setIfInBounds_toArray, List.set_cons_zero, List.set_cons_succ]))
      iterate 2 (refine st_yes (v := ?_) (want_none rfl) ?_ ?_; rotate_left; (· go_simp; try with_reducible rfl); (try simp only [Act.put, List.setIfInBounds_toArray, List.set_cons_zero, List.set_cons_succ]))
      iterate 7 (refine st_no (want_no rfl hd39 (by simp only [List.getElem?_toArray, List.getElem?_cons_succ, List.getElem?_cons_zero]; try rfl)) ?_; (try simp only [Act.put, List.setIfInBounds_toArray, List.set_cons_zero, List.set_cons_succ]))
      iterate 9 (refine st_no (want_un rfl hd46 (by simp only [List.getElem?_toArray, List.getElem?_cons_succ, List.getElem?_cons_zero]; try rfl)) ?_; (try simp only [Act.put, List.setIfInBounds_toArray, List.set_cons_zero, List.set_cons_succ]))
      iterate 1 (refine st_no (want_no rfl hd39 (by simp only [List.getElem?_toArray, List.getElem?_cons_succ, List.getElem?_cons_zero]; try rfl)) ?_; (try simp only [Act.put, List.setIfInBounds_toArray, List.set_cons_zero, List.set_cons_succ]))
      iterate 1 (refine st_yes (v := ?_) (want_none rfl) ?_ ?_; rotate_left; (· go_simp; try with_reducible rfl); (try simp only [Act.put, List.setIfInBounds_toArray, List.set_cons_zero, List.set_cons_succ]))
      refine wpStill_nil ?_
      have hP : decide (u ≠ v ∨ x1 ≠ x2 ∨ (tc ≠ 0 ∧ tc ≠ (d : Int) + 1) ∨ (fd ≠ 0 ∧ fd ≠ (c : Int) + 1)) = true := decide_eq_true (by omega)
      have hk := HK.out
      rw [hP] at hk
      exact hk ..
  · have k1b : (u != v) = true := by simp [k1]
    iterate 2 (refine st_yes (v := ?_) (want_none rfl) ?_ ?_; rotate_left; (· go_simp; try with_reducible rfl); (try simp only [Act.put, List.setIfInBounds_toArray, List.set_cons_zero, List.set_cons_succ]))
    iterate 13 (refine st_no (want_no rfl hd5 (by simp only [List.getElem?_toArray, List.getElem?_cons_succ, List.getElem?_cons_zero]; try rfl)) ?_; (try simp only [Act.put, List.setIfInBounds_toArray, List.set_cons_zero, List.set_cons_succ]))
    iterate 2 (refine st_yes (v := ?_) (want_none rfl) ?_ ?_; rotate_left; (· go_simp; try with_reducible rfl); (try simp only [Act.put, List.setIfInBounds_toArray, List.set_cons_zero, List.set_cons_succ]))
    iterate 7 (refine st_no (want_no rfl hd20 (by simp only [List.getElem?_toArray, List.getElem?_cons_succ, List.getElem?_cons_zero]; try rfl)) ?_; (try simp only [Act.put, List.setIfInBounds_toArray, List.set_cons_zero, List.set_cons_succ]))
    iterate 9 (refine st_no (want_un rfl hd27 (by simp only [List.getElem?_toArray, List.getElem?_cons_succ, List.getElem?_cons_zero]; try rfl)) ?_; (try simp only [Act.put, List.setIfInBounds_toArray, List.set_cons_zero, List.set_cons_succ]))
    iterate 1 (refine st_no (want_no rfl hd20 (by simp only [List.getElem?_toArray, List.getElem?_cons_succ, List.getElem?_cons_zero]; try rfl)) ?_; (try simp only [Act.put, List.setIfInBounds_toArray, List.set_cons_zero, List.set_cons_succ]))
    iterate 2 (refine st_yes (v := ?_) (want_none rfl) ?_ ?_; rotate_left; (· go_simp; try with_reducible rfl); (try simp only [Act.put, List.setIfInBounds_toArray, List.set_cons_zero, List.set_cons_succ]))
    iterate 7 (refine st_no (want_no rfl hd39 (by simp only [List.getElem?_toArray, List.getElem?_cons_succ, List.getElem?_cons_zero]; try rfl)) ?_; (try simp only [Act.put, List.setIfInBounds_toArray, List.set_cons_zero, List.set_cons_succ]))
    iterate 9 (refine st_no (want_un rfl hd46 (by simp only [List.getElem?_toArray, List.getElem?_cons_succ, List.getElem?_cons_zero]; try rfl)) ?_; (try simp only [Act.put, List.setIfInBounds_toArray, List.set_cons_zero, List.set_cons_succ]))
    iterate 1 (refine st_no (want_no rfl hd39 (by simp only [List.getElem?_toArray, List.getElem?_cons_succ, List.getElem?_cons_zero]; try rfl)) ?_; (try simp only [Act.put, List.setIfInBounds_toArray, List.set_cons_zero, List.set_cons_succ]))
    iterate 1 (refine st_yes (v := ?_) (want_none rfl) ?_ ?_; rotate_left; (· go_simp; try with_reducible rfl); (try simp only [Act.put, List.setIfInBounds_toArray, List.set_cons_zero, List.set_cons_succ]))
    refine wpStill_nil ?_
    have hP : decide (u ≠ v ∨ x1 ≠ x2 ∨ (tc ≠ 0 ∧ tc ≠ (d : Int) + 1) ∨ (fd ≠ 0 ∧ fd ≠ (c : Int) + 1)) = true := decide_eq_true (by omega)
    have hk := HK.out
    rw [hP] at hk
    exact hk ..
end
end Go.Proofs.Ytcebejcdfdahjaa
