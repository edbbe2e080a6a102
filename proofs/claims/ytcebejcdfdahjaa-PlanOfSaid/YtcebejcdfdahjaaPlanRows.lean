/-
  Rows of ports that 'make' makes; copy of a row of ints; '==' of lists of ports, of plans.
-/
import Derived.Test.YtcebejcdfdahjaaRuleChecksW
import Derived.Test.YtcebejcdfdahjaaPlanPlain
import Derived.Laws.CopyRow
namespace Go.Proofs.Ytcebejcdfdahjaa
open Go.RowKit
attribute [local go_sem] cell_set
attribute [local go_sem high] run_neq_port
set_option maxRecDepth 100000
set_option linter.unusedVariables false

theorem pvals_set (l : List Pt) (s : Nat) (p : Pt) : ((pvals l).set (s * 2) (.int .i64 p.1)).set (s * 2 + 1) (.int .i64 p.2) = pvals (l.set s p) := by
  induction l generalizing s with
  | nil => simp [pvals]
  | cons x r ih =>
    have hc : pvals (x :: r) = .int .i64 x.1 :: .int .i64 x.2 :: pvals r := rfl
    cases s with
    | zero => rw [hc]; rfl
    | succ s =>
      rw [hc, show (s + 1) * 2 = s * 2 + 1 + 1 by omega]
      simp only [List.set_cons_succ]
      rw [ih s]
      rfl
theorem pvals_rep (M : Nat) : pvals (List.replicate M (0, 0)) = List.replicate (M * 2) (.int .i64 0) := by
  induction M with
  | zero => rfl
  | succ M ih =>
    rw [List.replicate_succ, show (M + 1) * 2 = M * 2 + 1 + 1 by omega, List.replicate_succ, List.replicate_succ, ← ih]
    rfl
theorem made2 (z : Value) (n : Nat) : (madeCells #[z, z] n).toList = List.replicate n z := by
  refine List.ext_getElem (by simp [size_madeCells]) fun i h1 h2 => ?_
  simp only [List.getElem_replicate]
  have hi : i < n := by simpa [size_madeCells] using h1
  simp only [madeCells, Array.toList_map, List.getElem_map, Array.toList_range, List.getElem_range]
  rcases (by omega : i % 2 = 0 ∨ i % 2 = 1) with h | h
  · simp [h]
  · simp [h]
theorem row_ports {X : World} {F M : Nat} (h : X.heap[F]? = some (.cells (madeCells #[.int .i64 0, .int .i64 0] (M * 2)) 78 (0, 0))) (hM : M ≤ maxLen) : Row X 78 2 (.slice (some ⟨F, 0, none⟩) M M) M (pvals (List.replicate M (0, 0))) :=
  ⟨by rw [pvals_rep]; simp, .inr ⟨F, M, _, rfl, h, Nat.le_refl _, hM, by simp [size_madeCells], by rw [made2, pvals_rep]; simp⟩⟩
theorem row_zeros {X : World} {C n : Nat} (h : X.heap[C]? = some (.cells (madeCells #[.int .i64 0] n) 3 (0, 0))) (hM : n ≤ maxLen) : Row X 3 1 (.slice (some ⟨C, 0, none⟩) n n) n (List.replicate n (.int .i64 0)) :=
  ⟨by simp, .inr ⟨C, n, _, rfl, h, Nat.le_refl _, hM, by simp [size_madeCells], by rw [toList_madeCells_one]; simp⟩⟩
theorem make_ports (n : Nat) (hn : n ≤ 1000000) (w : World) : (Instr.makeSlice 47 (.int .i64 (n : Int)) (.int .i64 (n : Int))).run Try.prog w = .ok (.slice (some ⟨w.heap.size, 0, none⟩) n n) (w.alloc (.cells (madeCells #[.int .i64 0, .int .i64 0] (n * 2)) 78)) := by
  obtain ⟨i, hi, hz, hs, hb⟩ := info_parts port_info
  have hb' : (i.bytes : Int) * (n : Int) ≤ 281474976710656 := by rw [hb]; omega
  have hr := run_make (P := Try.prog) w 47 78 i _ Try.underlying47 hi hz .i64 .i64 n n (by omega) (Int.le_refl _) hb' (by omega)
  simp only [Int.toNat_natCast, hs] at hr
  exact hr
theorem setRow_other (w : World) (g : Nat) (cs : Array Value) (b : Nat) (h : b ≠ g) : (w.setRow g cs).heap[b]? = w.heap[b]? := by
  simp [World.setRow, Array.getElem?_modify, Ne.symm h]
section
variable {P : Program} {w : World} {o : Oper} {a : Act} {K' : Act → World → Prop} {Q : Exit → Act → World → Prop}
theorem copy_run (t ty : TypeId) {e : TypeId} (ht : P.underlying t = some (.slice e)) (hs1 : (P.info? e).map (·.size) = some 1)
    {C n : Nat} {old : List Value} {l : List Int} (h : Row w e 1 (.slice (some ⟨C, 0, none⟩) n n) n old) {V : Option Addr} {c : Nat} (h2 : Row w e 1 (.slice V n c) n (ivals l)) :
    ∃ w', (Builtin.copy_ #[t, t] ty #[.slice (some ⟨C, 0, none⟩) n n, .slice V n c]).run P w = .ok (.int .i64 (n : Int)) w' ∧ Row w' e 1 (.slice (some ⟨C, 0, none⟩) n n) n (ivals l) ∧ Kp [C] w w' := by
  rcases h.2 with ⟨h0, _⟩ | ⟨g, cap, cur, hv, hh, hn1, hcm, hcs, hct⟩
  · simp at h0
  simp only [Value.slice.injEq, Option.some.injEq, Addr.mk.injEq, and_true, true_and] at hv
  obtain ⟨rfl, rfl⟩ := hv
  rcases h2.2 with ⟨h0, hn0⟩ | ⟨g2, cap2, cur2, hv2, hh2, hn2, hcm2, hcs2, hct2⟩
  · subst hn0
    simp only [Value.slice.injEq, true_and] at h0
    obtain ⟨rfl, rfl⟩ := h0
    have hr := run_copy_nil (P := P) w t t ty e ⟨C, 0, none⟩ 0 0 ht (by
      cases hq : P.info? e with
      | none => rw [hq] at hs1; cases hs1
      | some i => rfl)
    have hl0 : ivals l = [] := List.eq_nil_of_length_eq_zero (by have := h2.1; omega)
    exact ⟨w, hr, by rw [hl0]; exact ⟨rfl, .inr ⟨C, 0, cur, rfl, hh, Nat.le_refl _, by simp, by simp, by simp⟩⟩, Kp.refl _ _⟩
  · simp only [Value.slice.injEq, true_and] at hv2
    obtain ⟨rfl, rfl⟩ := hv2
    have hlen : (ivals l).length = n := by have := h2.1; omega
    have hr := run_copy_row (P := P) w t t ty e C 0 n n ⟨g2, 0, none⟩ n c cur e (ivals l) ht hs1 hh (by rw [hlen]; exact (Nat.min_self n).symm) (fun j u hu => by
      have hj : j < n := by rw [← hlen]; rcases Nat.lt_or_ge j (ivals l).length with h | h; exact h; rw [List.getElem?_eq_none h] at hu; cases hu
      rw [Addr.add_lit, Nat.zero_add, h2.cellAt j (by omega)]; exact hu) (by rw [hlen]; omega) (fun v hv => by simp only [ivals, List.mem_map] at hv; obtain ⟨x, _, rfl⟩ := hv; rfl)
    have hg : goInt ((ivals l).length : Int) = .int .i64 (n : Int) := by rw [hlen]; rfl
    rw [hg] at hr
    refine ⟨_, hr, ⟨by omega, .inr ⟨C, n, _, rfl, setRow_heap w C cur _ e _ hh, Nat.le_refl _, hcm, ?_, ?_⟩⟩, ⟨rfl, rfl, rfl, by simp [World.setRow], fun b _ hb => setRow_other w C _ b (by simpa using hb)⟩⟩
    · simp; omega
    · simp [hlen]
theorem up_copy_ints {t ty e : TypeId} (ht : P.underlying t = some (.slice e)) (hs1 : (P.info? e).map (·.size) = some 1)
    {C n : Nat} {old : List Value} {l : List Int} (h : Row w e 1 (.slice (some ⟨C, 0, none⟩) n n) n old) {V : Option Addr} {c : Nat} (h2 : Row w e 1 (.slice V n c) n (ivals l))
    (hk : ∀ w', Row w' e 1 (.slice (some ⟨C, 0, none⟩) n n) n (ivals l) → Kp [C] w w' → K' (a.put o.dst (.int .i64 (n : Int))) w') :
    Oper.upon P o a K' Q (((Builtin.copy_ #[t, t] ty #[.slice (some ⟨C, 0, none⟩) n n, .slice V n c]).run P w).andThen fun a w' => .ok (Next.value a) w') := by
  obtain ⟨w', hr, h3, h4⟩ := copy_run (P := P) t ty ht hs1 h h2
  rw [hr]
  exact hk w' h3 h4
end
theorem eq_ports (A B : Option Addr) (n m ca cb : Nat) (l : List Pt) (w : World) (hn : n = l.length) (hm : m = l.length) (hl : l.length ≤ 100000) (HA : Hid (PtsRd w A l)) (HB : Hid (PtsRd w B l)) :
    Calls Try.prog 72 #[.slice A n ca, .slice B m cb] w fun e w' => e = .returned (.bool true) ∧ Below w.heap.size w w' := by
  subst hn hm
  go_enter Try.func72, Try.ntmps72
  go_wp2
  go_loopw [5] (fun i wr => ∃ j : Nat, i = .int .i64 j ∧ j ≤ l.length ∧ Hid (Below w.heap.size w wr)) (fun i _ => l.length - (intOf i).toNat)
  case atStart => exact ⟨0, rfl, by omega, Below.refl _ _⟩
  case round =>
    obtain ⟨j, rfl, hj, hbw⟩ := hrel
    by_cases hlt : j < l.length
    · obtain ⟨b, off, rfl, hb, e0, e1⟩ := HA.out j hlt
      obtain ⟨b2, off2, rfl, hb2, g0, g1⟩ := HB.out j hlt
      have c0 := (hbw.out.cell (p := ⟨b, off + j * 2, none⟩) hb).trans e0
      have c1 := (hbw.out.cell (p := ⟨b, off + j * 2 + 1, none⟩) hb).trans e1
      have d0 := (hbw.out.cell (p := ⟨b2, off2 + j * 2, none⟩) hb2).trans g0
      have d1 := (hbw.out.cell (p := ⟨b2, off2 + j * 2 + 1, none⟩) hb2).trans g1
      have hb1 : eqP (l.getD j default) (l.getD j default) = true := by unfold eqP; simp
      clear e0 e1 g0 g1
      generalize l.getD j default = x at c0 c1 d0 d1 hb1
      obtain ⟨x0, x1⟩ := x
      go_wp2_with fail
      go_quiet (fail)
      go_wp2
      go_roundw
      case rel => exact ⟨j + 1, by go_num, by omega, below_drewN hbw.out _⟩
      case measure => simp [intOf]; omega
    · go_wp2
      go_ret
      exact ⟨rfl, hbw.out⟩
abbrev planV (a b : Int) (V1 : Option Addr) (n1 c1 : Nat) (V2 : Option Addr) (n2 c2 : Nat) (V3 : Option Addr) (n3 c3 : Nat) : Value := .agg #[.int .i64 a, .int .i64 b, .slice V1 n1 c1, .slice V2 n2 c2, .slice V3 n3 c3]
/-- A plan's lists. -/
def PLs (V1 V2 V3 : Option Addr) (cs : List Int) (F : List Pt) (I : List (Pt × Pt)) (X : World) : Prop := IntsRd X V1 cs ∧ PtsRd X V2 F ∧ WrRd X V3 I
theorem PLs.below {V1 V2 V3 : Option Addr} {cs : List Int} {F : List Pt} {I : List (Pt × Pt)} {X X' : World} (h : PLs V1 V2 V3 cs F I X) (hb : Below X.heap.size X X') : PLs V1 V2 V3 cs F I X' := ⟨h.1.below hb, h.2.1.below hb, h.2.2.below hb⟩
theorem eq_plan (a b : Int) (V1 V2 V3 U1 U2 U3 : Option Addr) (c1 c2 c3 d1 d2 d3 : Nat) (cs : List Int) (F : List Pt) (I : List (Pt × Pt)) (w : World) (l1 : cs.length ≤ 100000) (l2 : F.length ≤ 100000) (l3 : I.length ≤ 100000)
    (H1 : Hid (PLs V1 V2 V3 cs F I w)) (H2 : Hid (PLs U1 U2 U3 cs F I w)) :
    Calls Try.prog 27 #[planV a b V1 cs.length c1 V2 F.length c2 V3 I.length c3, planV a b U1 cs.length d1 U2 F.length d2 U3 I.length d3] w fun e w' => e = .returned (.bool true) ∧ Below w.heap.size w w' := by
  have hbA : Below w.heap.size w ((w.alloc (.cells #[.int .i64 a, .int .i64 b, .slice V1 cs.length c1, .slice V2 F.length c2, .slice V3 I.length c3] 49)).alloc (.cells #[.int .i64 a, .int .i64 b, .slice U1 cs.length d1, .slice U2 F.length d2, .slice U3 I.length d3] 55)) := by (repeat (first | (with_reducible exact Below.refl _ _) | (with_reducible assumption) | (with_reducible refine Below.drew ?_) | (with_reducible refine Below.alloc ?_ (by (try simp); (try omega)) _) | (with_reducible refine Below.setCell ?_ (by (try simp); (try omega)) _)))
  have e0 := heap2 w (.cells #[.int .i64 a, .int .i64 b, .slice V1 cs.length c1, .slice V2 F.length c2, .slice V3 I.length c3] 49) (.cells #[.int .i64 a, .int .i64 b, .slice U1 cs.length d1, .slice U2 F.length d2, .slice U3 I.length d3] 55)
  have HE := Lib.hid e0
  have HB := Lib.hid hbA
  clear e0 hbA
  go_enter Try.func27, Try.ntmps27
  go_wp2_with fail
  refine (eq_ints V1 U1 _ _ c1 d1 cs cs _ rfl rfl l1 l1 (Lib.hid (H1.out.below HB.out).1) (Lib.hid (H2.out.below HB.out).1)).mono ?_
  rintro e w1 ⟨rfl, hb1⟩
  rw [show decide (cs = cs) = true by simp]
  have HB1 : Hid (Below w.heap.size w w1) := HB.out.trans (hb1.mono HB.out.size)
  have h0 := (hb1.block _ (heap_lt HE.out.1)).trans HE.out.1
  have h1 := (hb1.block _ (heap_lt HE.out.2)).trans HE.out.2
  have HE1 := Lib.hid (And.intro h0 h1)
  clear h0 h1 hb1
  have x3 : w1.cell? ⟨w.heap.size, 3, none⟩ = some (.slice V2 F.length c2) := by simp [World.cell?, HE1.out.1]
  have y3 : w1.cell? ⟨w.heap.size + 1, 3, none⟩ = some (.slice U2 F.length d2) := by simp [World.cell?, HE1.out.2]
  go_wp2_with fail
  refine (eq_ports V2 U2 _ _ c2 d2 F _ rfl rfl l2 (Lib.hid (H1.out.below HB1.out).2.1) (Lib.hid (H2.out.below HB1.out).2.1)).mono ?_
  rintro e w2 ⟨rfl, hb2⟩
  have HB2 : Hid (Below w.heap.size w w2) := HB1.out.trans (hb2.mono HB1.out.size)
  have h0 := (hb2.block _ (heap_lt HE1.out.1)).trans HE1.out.1
  have h1 := (hb2.block _ (heap_lt HE1.out.2)).trans HE1.out.2
  clear hb2 x3 y3
  have x4 : w2.cell? ⟨w.heap.size, 4, none⟩ = some (.slice V3 I.length c3) := by simp [World.cell?, h0]
  have y4 : w2.cell? ⟨w.heap.size + 1, 4, none⟩ = some (.slice U3 I.length d3) := by simp [World.cell?, h1]
  clear h0 h1
  go_wp2_with fail
  refine (eq_wires V3 U3 _ _ c3 d3 I I _ rfl rfl l3 l3 (Lib.hid (H1.out.below HB2.out).2.2) (Lib.hid (H2.out.below HB2.out).2.2)).mono ?_
  rintro e w3 ⟨rfl, hb3⟩
  rw [show decide (I = I) = true by simp]
  have HB3 : Hid (Below w.heap.size w w3) := HB2.out.trans (hb3.mono HB2.out.size)
  clear hb3 x4 y4
  go_wp2
  go_ret
  exact ⟨rfl, HB3.out⟩
end Go.Proofs.Ytcebejcdfdahjaa
