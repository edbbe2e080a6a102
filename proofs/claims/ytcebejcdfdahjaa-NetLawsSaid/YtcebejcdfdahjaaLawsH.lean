/-
  The statement NetLaws: the joins of the lines.
-/
import Derived.Test.YtcebejcdfdahjaaPlugR
import Derived.Test.YtcebejcdfdahjaaNetMovesW
import Derived.Test.YtcebejcdfdahjaaLawsB
import Derived.Test.YtcebejcdfdahjaaPlugLines
/-
  The statement NetPlugs: its frames; its head.
-/
namespace Go.Proofs.Ytcebejcdfdahjaa
open Go.RowKit
attribute [local go_sem] cell_set
set_option maxRecDepth 100000
set_option linter.unusedVariables false

noncomputable def lpT (n : Nat) : Code := ((Try.f5.body).bind (tailP n)).getD .skip
def FrLL (ds : List Deferred) (U : Nat → Value) : Act := { tmps := (U 0 :: U 1 :: U 2 :: U 3 :: U 4 :: U 5 :: U 6 :: U 7 :: U 8 :: U 9 :: U 10 :: U 11 :: U 12 :: U 13 :: U 14 :: U 15 :: U 16 :: U 17 :: U 18 :: U 19 :: U 20 :: U 21 :: U 22 :: U 23 :: U 24 :: U 25 :: U 26 :: U 27 :: U 28 :: U 29 :: U 30 :: U 31 :: U 32 :: U 33 :: U 34 :: U 35 :: U 36 :: U 37 :: U 38 :: U 39 :: U 40 :: U 41 :: U 42 :: U 43 :: U 44 :: U 45 :: U 46 :: U 47 :: U 48 :: U 49 :: U 50 :: U 51 :: U 52 :: U 53 :: U 54 :: U 55 :: U 56 :: U 57 :: U 58 :: U 59 :: U 60 :: U 61 :: U 62 :: U 63 :: U 64 :: U 65 :: U 66 :: U 67 :: U 68 :: U 69 :: U 70 :: U 71 :: U 72 :: U 73 :: U 74 :: U 75 :: U 76 :: U 77 :: U 78 :: U 79 :: U 80 :: U 81 :: U 82 :: U 83 :: U 84 :: U 85 :: U 86 :: U 87 :: U 88 :: U 89 :: U 90 :: U 91 :: U 92 :: U 93 :: U 94 :: U 95 :: U 96 :: U 97 :: U 98 :: U 99 :: U 100 :: U 101 :: U 102 :: U 103 :: U 104 :: U 105 :: U 106 :: U 107 :: U 108 :: U 109 :: U 110 :: U 111 :: U 112 :: U 113 :: U 114 :: U 115 :: U 116 :: U 117 :: U 118 :: U 119 :: U 120 :: U 121 :: U 122 :: U 123 :: U 124 :: U 125 :: U 126 :: U 127 :: U 128 :: U 129 :: U 130 :: U 131 :: U 132 :: U 133 :: U 134 :: U 135 :: U 136 :: U 137 :: U 138 :: U 139 :: U 140 :: U 141 :: U 142 :: U 143 :: U 144 :: U 145 :: U 146 :: U 147 :: []).toArray, defers := ds }
theorem FrN.open148 {ds : List Deferred} {L : List (Nat × Value)} {a : Act} (h : FrN 148 ds L a) : ∃ U, a = FrLL ds U ∧ Us U L := by
  obtain ⟨⟨l⟩, df⟩ := a
  obtain ⟨sz, rfl, sl⟩ := h
  have e := list_of_range l undef
  obtain ⟨U, hU⟩ : ∃ U : Nat → Value, (fun i => (l[i]?).getD undef) = U := ⟨_, rfl⟩
  have g : ∀ i v, ((⟨⟨l⟩, df⟩ : Act)).tmps[i]? = some v → U i = v := fun i v h => by
    have h' : l[i]? = some v := by simpa using h
    rw [← hU]; simp [h']
  simp only [List.size_toArray] at sz
  rw [sz, hU] at e
  refine ⟨U, ?_, sl_us g L sl⟩
  rw [e]
  rfl
/-- The argument's box. -/
structure TB (X : World) (b : Nat) (VA VB UA UB V : Option Addr) (na ca wa cb nb da wb db nJ cJ : Nat) (fA fB : Int) : Prop where
  c0 : X.cell? ⟨b, 0, none⟩ = some (.slice VA na ca)
  c1 : X.cell? ⟨b, 1, none⟩ = some (.int .i64 fA)
  c2 : X.cell? ⟨b, 2, none⟩ = some (.slice VB wa cb)
  c3 : X.cell? ⟨b, 3, none⟩ = some (.slice UA nb da)
  c4 : X.cell? ⟨b, 4, none⟩ = some (.int .i64 fB)
  c5 : X.cell? ⟨b, 5, none⟩ = some (.slice UB wb db)
  c6 : X.cell? ⟨b, 6, none⟩ = some (.slice V nJ cJ)
  lt : b < X.heap.size
theorem TB.below {X Y : World} {b : Nat} {VA VB UA UB V : Option Addr} {na ca wa cb nb da wb db nJ cJ : Nat} {fA fB : Int} (h : TB X b VA VB UA UB V na ca wa cb nb da wb db nJ cJ fA fB) (hb : Below X.heap.size X Y) : TB Y b VA VB UA UB V na ca wa cb nb da wb db nJ cJ fA fB := by
  have hc : ∀ i, Y.cell? ⟨b, i, none⟩ = X.cell? ⟨b, i, none⟩ := fun i => hb.cell (p := ⟨b, i, none⟩) h.lt
  exact ⟨(hc 0).trans h.c0, (hc 1).trans h.c1, (hc 2).trans h.c2, (hc 3).trans h.c3, (hc 4).trans h.c4, (hc 5).trans h.c5, (hc 6).trans h.c6, Nat.lt_of_lt_of_le h.lt hb.size⟩
section
variable (Q : Exit → Act → World → Prop) (A : Option Addr) (n cap : Nat) (L : List (ByteArray × Int)) (VA VB UA UB V : Option Addr) (ca cb da db nJ cJ : Nat) (csA csB : List Int) (fA fB : Int) (WA WB : List (Pt × Pt)) (w : World)
set_option maxHeartbeats 4000000 in
theorem lp_0 (a : Act) (hn : n = L.length) (HL : Hid (AgRd w A L)) (hl : L.length ≤ maxLen) (hcA : csA.length ≤ maxLen) (hwA : WA.length ≤ maxLen) (hcB : csB.length ≤ maxLen) (hwB : WB.length ≤ maxLen) (hnJ : nJ ≤ maxLen)
    (hret : Hid (∀ a' X, FrN 148 [] [(4, .bool true)] a' → Below w.heap.size w X → Q .ret a' X))
    (hnext : Hid (L.length ≤ 1024 → csA.length ≤ 8192 → WA.length ≤ 32768 → csB.length ≤ 8192 → WB.length ≤ 32768 → nJ ≤ 1024 → ∀ a' X, FrN 148 [] [(0, .slice A n cap), (3, .pointer (some ⟨w.heap.size, 0, none⟩))] a' → Below w.heap.size w X → TB X w.heap.size VA VB UA UB V csA.length ca WA.length cb csB.length da WB.length db nJ cJ fA fB → (lpT 3).wp Try.prog Q a' X))
    (ha : FrN 148 [] [(0, .slice A n cap), (1, .agg #[.slice VA csA.length ca, .int .i64 fA, .slice VB WA.length cb, .slice UA csB.length da, .int .i64 fB, .slice UB WB.length db, .slice V nJ cJ])] a) : (lpT 0).wp Try.prog Q a w := by
  subst hn
  obtain ⟨U, rfl, e0, e1, -⟩ := ha.open148
  have HM : Hid (∀ (V1 V2 : Option Addr) (n1 n2 c1 c2 : Nat) (f : Int) Z, Below w.heap.size w Z → n1 ≤ maxLen → n2 ≤ maxLen → Calls Try.prog 11 #[.slice A L.length cap, .agg #[.slice V1 n1 c1, .int .i64 f, .slice V2 n2 c2]] Z (SomeB (fun r => r = false → L.length ≤ 1024 ∧ n1 ≤ 8192 ∧ n2 ≤ 32768) Z)) := fun V1 V2 n1 n2 c1 c2 f Z hz h1 h2 =>
    much_is A _ cap L V1 V2 n1 n2 c1 c2 f Z rfl hl (Lib.hid (HL.out.below hz)) h1 h2
  unfold FrLL
  simp only [e0, e1]
  clear e0 e1 ha
  show (Code.seq _ _).wp _ _ _ _
  go_upto_region 1 with fail
  refine absW (fun X => Below w.heap.size w X ∧ TB X w.heap.size VA VB UA UB V csA.length ca WA.length cb csB.length da WB.length db nJ cJ fA fB) ⟨by (repeat (first | exact Below.refl _ _ | (with_reducible refine Below.drew ?_) | (with_reducible refine Below.alloc ?_ (by (try simp); (try omega)) _) | (with_reducible refine Below.setCell ?_ (by (try simp); (try omega)) _) | (with_reducible refine Below.trans ?_ (Below.mono (by assumption) (by (try simp); (try omega)))))), by go_simp, by go_simp, by go_simp, by go_simp, by go_simp, by go_simp, by go_simp, by simp⟩ ?_
  rintro X ⟨hbX, htb⟩
  obtain ⟨c0, c1, c2, c3, c4, c5, c6, clt⟩ := htb
  have HX : Hid (Below w.heap.size w X ∧ TB X w.heap.size VA VB UA UB V csA.length ca WA.length cb csB.length da WB.length db nJ cJ fA fB) := ⟨hbX, c0, c1, c2, c3, c4, c5, c6, clt⟩
  clear hbX
  have hlM := Lib.hid (And.intro hcA (And.intro hwA (And.intro hcB hwB)))
  go_wp2_with fail
  refine (HM.out _ _ _ _ _ _ _ _ HX.out.1 hcA hwA).mono ?_
  rintro e w1 ⟨r, rfl, hr, hb1⟩
  have HX1 : Hid (Below w.heap.size w w1 ∧ TB w1 w.heap.size VA VB UA UB V csA.length ca WA.length cb csB.length da WB.length db nJ cJ fA fB) := ⟨HX.out.1.trans (hb1.mono HX.out.1.size), HX.out.2.below hb1⟩
  clear hb1 c0 c1 c2 c3 c4 c5 c6 clt
  cases r with
  | true =>
    go_wp2_with (go_at_call 12; refine (works03 _).mono ?_; rintro e w9 ⟨rfl, hb9⟩
                 have HB9 := Lib.hid hb9
                 clear hb9)
    exact hret.out _ _ ⟨rfl, rfl, rfl, trivial⟩ (HX1.out.1.trans (HB9.out.mono HX1.out.1.size))
  | false =>
    have HR1 := Lib.hid (hr rfl)
    clear hr
    obtain ⟨c0, c1, c2, c3, c4, c5, c6, clt⟩ := HX1.out.2
    go_wp2_with fail
    refine (HM.out _ _ _ _ _ _ _ _ HX1.out.1 hcB hwB).mono ?_
    rintro e w2 ⟨r, rfl, hr, hb2⟩
    have HX2 : Hid (Below w.heap.size w w2 ∧ TB w2 w.heap.size VA VB UA UB V csA.length ca WA.length cb csB.length da WB.length db nJ cJ fA fB) := ⟨HX1.out.1.trans (hb2.mono HX1.out.1.size), HX1.out.2.below hb2⟩
    clear hb2 c0 c1 c2 c3 c4 c5 c6 clt
    cases r with
    | true =>
      go_wp2_with (go_at_call 12; refine (works03 _).mono ?_; rintro e w9 ⟨rfl, hb9⟩
                   have HB9 := Lib.hid hb9
                   clear hb9)
      exact hret.out _ _ ⟨rfl, rfl, rfl, trivial⟩ (HX2.out.1.trans (HB9.out.mono HX2.out.1.size))
    | false =>
      have HR2 := Lib.hid (hr rfl)
      clear hr
      obtain ⟨c0, c1, c2, c3, c4, c5, c6, clt⟩ := HX2.out.2
      by_cases hbig : (1024 : Int) < (nJ : Int)
      · go_wp2_with (go_at_call 12; refine (works03 _).mono ?_; rintro e w9 ⟨rfl, hb9⟩
                     have HB9 := Lib.hid hb9
                     clear hb9)
        exact hret.out _ _ ⟨rfl, rfl, rfl, trivial⟩ (HX2.out.1.trans (HB9.out.mono HX2.out.1.size))
      · have HN := Lib.hid (hnext.out HR1.out.1 HR1.out.2.1 HR1.out.2.2 HR2.out.2.1 HR2.out.2.2 (by omega))
        simp only []
        go_at_K
        repeat (first
          | exact HN.out _ _ ⟨rfl, rfl, rfl, rfl, trivial⟩ HX2.out.1 HX2.out.2
          | go_values | go_skip | go_guarded | go_step | go_upon | go_back)
end
end Go.Proofs.Ytcebejcdfdahjaa
/-
  The statement NetPlugs: the joins are copied.
-/
namespace Go.Proofs.Ytcebejcdfdahjaa
open Go.RowKit
attribute [local go_sem] cell_set
set_option maxRecDepth 100000
set_option linter.unusedVariables false

theorem arr2_info : (Try.prog.info? 66).map (fun i => (i.zero, i.size, i.bytes)) = some (some (.agg #[.int .i64 0, .int .i64 0]), 2, 16) := by kernel_rfl
def jvals (J : List (Int × Int)) : List Value := J.flatMap fun p => [.int .i64 p.1, .int .i64 p.2]
theorem jvals_len (J : List (Int × Int)) : (jvals J).length = J.length * 2 := by
  unfold jvals
  induction J with
  | nil => rfl
  | cons a r ih => simp only [List.flatMap_cons, List.length_append, ih, List.length_cons, List.length_nil]; omega
theorem jvals_at (J : List (Int × Int)) (i : Nat) (hi : i < J.length) : (jvals J)[i * 2]? = some (.int .i64 (J.getD i default).1) ∧ (jvals J)[i * 2 + 1]? = some (.int .i64 (J.getD i default).2) := by
  unfold jvals
  induction J generalizing i with
  | nil => simp at hi
  | cons a r ih =>
    cases i with
    | zero => simp
    | succ i =>
      have := ih i (by simpa using hi)
      rw [List.flatMap_cons, show (i + 1) * 2 = 2 + i * 2 by omega]
      constructor
      · rw [List.getElem?_append_right (by simp)]
        simpa using this.1
      · rw [List.getElem?_append_right (by simp; omega)]
        have e : 2 + i * 2 + 1 - [Value.int IntKind.i64 a.1, .int .i64 a.2].length = i * 2 + 1 := by simp; omega
        rw [e]
        simpa using this.2
theorem PtsRd.jsrc {w : World} {A : Option Addr} {J : List (Int × Int)} (h : PtsRd w A J) : Src w A J.length 2 (jvals J) := by
  refine ⟨jvals_len J, fun u hu => ?_, ?_⟩
  · simp only [jvals, List.mem_flatMap] at hu
    obtain ⟨x, _, hx⟩ := hu
    simp at hx
    rcases hx with rfl | rfl <;> rfl
  · cases A with
    | none =>
      by_cases hl : J.length = 0
      · exact .inl ⟨rfl, hl⟩
      · obtain ⟨_, _, e, _⟩ := h 0 (by omega); cases e
    | some ad =>
      refine .inr ⟨ad, rfl, fun j u hu => ?_⟩
      have hj : j < J.length * 2 := by
        rcases Nat.lt_or_ge j (J.length * 2) with hl | hl
        · exact hl
        · rw [List.getElem?_eq_none (by rw [jvals_len]; exact hl)] at hu; cases hu
      have hj2 : j / 2 < J.length := by omega
      obtain ⟨b, off, e, _, h0, h1⟩ := h (j / 2) hj2
      obtain ⟨a0, a1⟩ := jvals_at J (j / 2) hj2
      injection e with e
      subst e
      rw [Addr.add_lit]
      rcases (by omega : j = j / 2 * 2 ∨ j = j / 2 * 2 + 1) with e | e
      · rw [e, a0] at hu
        rw [e, h0]
        exact hu
      · rw [e, a1] at hu
        rw [e, ← Nat.add_assoc, h1]
        exact hu
theorem Row.jpts {w : World} {V : Option Addr} {cap : Nat} {J : List (Int × Int)} (h : Row w 66 2 (.slice V J.length cap) J.length (jvals J)) : PtsRd w V J := fun i hi => by
  obtain ⟨g, c, cur, e, hg, _⟩ := h.some_ (by omega)
  simp only [Value.slice.injEq, true_and] at e
  obtain ⟨rfl, rfl⟩ := e
  obtain ⟨a0, a1⟩ := jvals_at J i hi
  refine ⟨g, 0, rfl, heap_lt hg, ?_, ?_⟩
  · rw [Nat.zero_add, h.cellAt _ (by omega)]; exact a0
  · rw [Nat.zero_add, h.cellAt _ (by omega)]; exact a1
section
variable (Q : Exit → Act → World → Prop) (VA VB UA UB V : Option Addr) (na ca wa cb nb da wb db cJ : Nat) (fA fB : Int) (J : List (Int × Int)) (v0 : Value) (w : World)
set_option maxHeartbeats 4000000 in
theorem lp_3 (a : Act) (X : World) (hJl : J.length ≤ 1024) (HJ : Hid (PtsRd w V J)) (hbX : Below w.heap.size w X) (htb : TB X w.heap.size VA VB UA UB V na ca wa cb nb da wb db J.length cJ fA fB)
    (hnext : Hid (∀ a' X' V5 c5, FrN 148 [] [(0, v0), (3, .pointer (some ⟨w.heap.size, 0, none⟩)), (5, .slice V5 J.length c5)] a' → Below w.heap.size w X' → TB X' w.heap.size VA VB UA UB V na ca wa cb nb da wb db J.length cJ fA fB → PtsRd X' V5 J → (lpT 4).wp Try.prog Q a' X'))
    (ha : FrN 148 [] [(0, v0), (3, .pointer (some ⟨w.heap.size, 0, none⟩))] a) : (lpT 3).wp Try.prog Q a X := by
  obtain ⟨U, rfl, e0, e3, -⟩ := ha.open148
  obtain ⟨i0, hi0, hi1, hi2, hi3⟩ := info_parts arr2_info
  have HX := Lib.hid (And.intro hbX htb)
  obtain ⟨c0, c1, c2, c3, c4, c5, c6, clt⟩ := htb
  have hB0 : Below X.heap.size X (X.alloc (.cells #[] 66)) := by (repeat (first | exact Below.refl _ _ | (with_reducible refine Below.drew ?_) | (with_reducible refine Below.alloc ?_ (by (try simp); (try omega)) _) | (with_reducible refine Below.setCell ?_ (by (try simp); (try omega)) _) | (with_reducible refine Below.trans ?_ (Below.mono (by assumption) (by (try simp); (try omega))))))
  have HSrc := Lib.hid (((HJ.out.below hbX).below hB0).jsrc)
  have HRow : Hid (Row (X.alloc (.cells #[] 66)) 66 2 (.slice (some ⟨X.heap.size, 0, none⟩) 0 0) 0 []) :=
    ⟨by simp, .inr ⟨X.heap.size, 0, #[], rfl, by have := heap_alloc_new X (.cells #[] 66); simpa using this, Nat.le_refl _, by simp [maxLen], by simp, by simp⟩⟩
  have HB63 : 0 + J.length ≤ maxLen := by simp only [maxLen]; omega
  have HB47 : (0 + J.length) * 16 ≤ 140737488355328 := by omega
  have HB0 := Lib.hid hB0
  unfold FrLL
  simp only [e0, e3]
  clear e0 e3 ha hbX hB0 c0 c1 c2 c3 c4 c5
  show (Code.seq _ _).wp _ _ _ _
  repeat (first
    | exact hnext.out _ _ V1 c1 ⟨rfl, rfl, rfl, rfl, rfl, trivial⟩ HF5.out.1 HF5.out.2.1 HF5.out.2.2
    | (at_builtin; go_loud (refine inPlain rfl (wpo_row_append _ _ _ rfl i0 _ 16 Try.underlying62 hi0 hi1 hi2 hi3 rfl rfl HRow.out _ J.length _ rfl (jvals J) HSrc.out HB63 HB47 ?_)); intro sv5 w5 r5 k5 o5; rw [Nat.zero_add, List.nil_append] at r5; obtain ⟨V1, c1, rfl, hc1⟩ := r5.len
       change Kp [X.heap.size] _ w5 at k5
       have hb5 : Below X.heap.size X w5 := HB0.out.trans (k5.below HB0.out.size (by intro b hb; simp at hb; omega))
       have HF5 := Lib.hid (And.intro (HX.out.1.trans (hb5.mono HX.out.1.size)) (And.intro (HX.out.2.below hb5) (Row.jpts r5)))
       clear k5 r5 o5 hb5)
    | go_values | go_skip | go_guarded | go_step | go_upon | go_back)
end
end Go.Proofs.Ytcebejcdfdahjaa
namespace Go.Proofs.Ytcebejcdfdahjaa
open Go.RowKit
attribute [local go_sem] cell_set
set_option maxRecDepth 100000
set_option linter.unusedVariables false

theorem lineJ_succ (k : Nat) : lineJ (k + 1) = lineJ k ++ [((k : Int), (k : Int))] := by simp [lineJ, List.range_succ]
theorem jvals_snoc (J : List (Int × Int)) (p : Int × Int) : jvals (J ++ [p]) = jvals J ++ [.int .i64 p.1, .int .i64 p.2] := by simp [jvals]
section
variable (Q : Exit → Act → World → Prop) (v0 v7 v22 : Value) (b : Nat) (VA VB VX VY : Option Addr) (nc ca nw cb nx cx ny cy f : Nat)
set_option maxHeartbeats 4000000 in
theorem nl_36 (a : Act) (X : World) (hf : f ≤ 32) (htb : LB X b VA nc ca (f : Int) VB nw cb VX nx cx VY ny cy)
    (hnext : Hid (∀ a' X' V c, FrN 286 [] [(0, v0), (4, .pointer (some ⟨b, 0, none⟩)), (7, v7), (22, v22), (23, .slice V f c)] a' → Below X.heap.size X X' → PtsRd X' V (lineJ f) → (nlT 41).wp Try.prog Q a' X'))
    (ha : FrN 286 [] [(0, v0), (4, .pointer (some ⟨b, 0, none⟩)), (7, v7), (22, v22)] a) : (nlT 36).wp Try.prog Q a X := by
  obtain ⟨U, rfl, e0, e4, e7, e22, -⟩ := ha.open286
  obtain ⟨j0, hj0, hj1, hj2, hj3⟩ := info_parts arr2_info
  have HT := Lib.hid htb
  have HX0 : Hid (Row X 66 2 (.slice none 0 0) 0 (jvals (lineJ 0)) ∧ (∀ x ∈ ownB (.slice none 0 0), X.heap.size ≤ x) ∧ Below X.heap.size X X) := ⟨Row.nil _ _ _, by simp [ownB], Below.refl _ _⟩
  unfold FrNL
  simp only [e0, e4, e7, e22]
  clear e0 e4 e7 e22 ha htb
  show (Code.seq _ _).wp _ _ _ _
  go_wp2_with fail
  go_loopw [23, 24] (fun x i wr => ∃ (k : Nat) (V : Option Addr) (c : Nat), i = .int .i64 k ∧ x = .slice V k c ∧ k ≤ f ∧ Hid (Row wr 66 2 (.slice V k c) k (jvals (lineJ k)) ∧ (∀ y ∈ ownB (.slice V k c), X.heap.size ≤ y) ∧ Below X.heap.size X wr)) (fun _ i _ => f - (intOf i).toNat)
  case atStart => exact ⟨0, none, 0, rfl, rfl, Nat.zero_le _, HX0⟩
  case round =>
    obtain ⟨k, V, c, rfl, rfl, hk, HR⟩ := hrel
    clear HX0
    obtain ⟨c0, c1, c2, d0, d1, clt⟩ := HT.out.below HR.out.2.2
    have clt0 : b < wr.heap.size := by omega
    by_cases hlt : k < f
    · have HRw : Hid (Row (wr.alloc (.cells #[.int .i64 (k : Int), .int .i64 (k : Int)] 66)) 66 2 (.slice V k c) k (jvals (lineJ k))) := HR.out.1.alloc _
      have HSr : Hid (Src (wr.alloc (.cells #[.int .i64 (k : Int), .int .i64 (k : Int)] 66)) (some ⟨wr.heap.size, 0, none⟩) 1 2 [.int .i64 (k : Int), .int .i64 (k : Int)]) :=
        Src.block (cs := #[.int .i64 (k : Int), .int .i64 (k : Int)]) (t := 66) (fr := (0, 0)) (heap_alloc_new wr _) rfl (by simp [Value.oneCell'])
      have hg63 : k + 1 ≤ maxLen := by simp only [maxLen]; omega
      have hg47 : (k + 1) * 16 ≤ 140737488355328 := by omega
      have HB2 : Hid (Below X.heap.size X (wr.alloc (.cells #[.int .i64 (k : Int), .int .i64 (k : Int)] 66))) := HR.out.2.2.alloc HR.out.2.2.size _
      go_wp2_with (at_builtin; go_loud (refine inPlain rfl (wpo_row_append _ _ _ rfl j0 _ 16 Try.underlying62 hj0 hj1 hj2 hj3 rfl rfl HRw.out _ 1 1 rfl [.int .i64 (k : Int), .int .i64 (k : Int)] HSr.out hg63 hg47 ?_)); intro sv5 w7 r5 k5 o5; obtain ⟨V5, cp5, rfl, hc5⟩ := r5.len
                   change Kp (ownB (.slice V k c)) _ w7 at k5
                   have HA5 : Hid (Row w7 66 2 (.slice V5 (k + 1) cp5) (k + 1) (jvals (lineJ (k + 1))) ∧ (∀ y ∈ ownB (.slice V5 (k + 1) cp5), X.heap.size ≤ y) ∧ Below X.heap.size X w7) := by
                     refine ⟨?_, fun y hy => ?_, HB2.out.trans (k5.below HB2.out.size (fun y hy => HR.out.2.1 y hy))⟩
                     · rw [lineJ_succ, jvals_snoc]; exact r5
                     · rcases o5 with o5 | o5
                       · rw [o5] at hy; exact HR.out.2.1 y hy
                       · rw [o5] at hy; simp at hy; have := HR.out.2.2.size; omega
                   clear k5 o5 r5)
      go_roundw
      case rel => exact ⟨k + 1, V5, cp5, by go_num, rfl, by omega, HA5⟩
      case measure => simp [intOf]; omega
    · obtain rfl : k = f := by omega
      have hpt : PtsRd wr V (lineJ k) := by
        have h := HR.out.1
        have e := lineJ_len k
        refine Row.jpts (cap := c) ?_
        rw [e]; exact h
      have HPT := Lib.hid hpt
      clear hpt
      repeat (first
        | exact hnext.out _ _ V c ⟨rfl, rfl, rfl, rfl, rfl, rfl, rfl, trivial⟩ HR.out.2.2 HPT.out
        | go_values | go_skip | go_guarded | go_step | go_upon | go_back)
end
end Go.Proofs.Ytcebejcdfdahjaa
