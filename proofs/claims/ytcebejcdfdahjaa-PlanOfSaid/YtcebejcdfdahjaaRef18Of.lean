/-
  Contract of skeinref18.Of.
-/
import Derived.Test.YtcebejcdfdahjaaPlanOfC
namespace Go.Proofs.Ytcebejcdfdahjaa
open Go.RowKit
attribute [local go_sem] cell_set
set_option maxRecDepth 100000
set_option linter.unusedVariables false

def PZ2 (b : Nat) (X : World) : Prop := X.heap[b]? = some (.cells #[.int .i64 0, .int .i64 0, .slice none 0 0, .slice none 0 0, .slice none 0 0] 55 (0, 0))
theorem PZ2.below {b : Nat} {X X' : World} (h : PZ2 b X) (hb : Below X.heap.size X X') : PZ2 b X' := (hb.block _ (heap_lt h)).trans h
theorem PZ2.new (X : World) : PZ2 X.heap.size (X.alloc (.cells #[.int .i64 0, .int .i64 0, .slice none 0 0, .slice none 0 0, .slice none 0 0] 55)) := heap_alloc_new _ _
theorem PZ2.lt {b : Nat} {X : World} (h : PZ2 b X) : b < X.heap.size := heap_lt h
theorem PZ2.all {b : Nat} {X : World} (h : PZ2 b X) : X.cell? ⟨b, 0, none⟩ = some (.int .i64 0) ∧ X.cell? ⟨b, 1, none⟩ = some (.int .i64 0) ∧ X.cell? ⟨b, 2, none⟩ = some (.slice none 0 0) ∧ X.cell? ⟨b, 3, none⟩ = some (.slice none 0 0) ∧ X.cell? ⟨b, 4, none⟩ = some (.slice none 0 0) ∧
    X.frozen? ⟨b, 0, none⟩ = false ∧ X.frozen? ⟨b, 1, none⟩ = false ∧ X.frozen? ⟨b, 2, none⟩ = false ∧ X.frozen? ⟨b, 3, none⟩ = false ∧ X.frozen? ⟨b, 4, none⟩ = false := by
  have h' : X.heap[b]? = _ := h
  simp [World.cell?, World.frozen?, h']
/-- The answer's plan in a box. -/
structure QB (w6 : World) (Q F : Nat) (a b : Int) (V1 : Option Addr) (c1 : Nat) (cs : List Int) (M : Nat) (Fl : List Pt) (V3 : Option Addr) (c3 : Nat) (ws : List (Pt × Pt)) (X : World) : Prop where
  bl : Below w6.heap.size w6 X
  hQ : X.heap[Q]? = some (.cells #[.int .i64 a, .int .i64 b, .slice V1 cs.length c1, .slice (some ⟨F, 0, none⟩) M M, .slice V3 ws.length c3] 55 (0, 0))
  rC : Row X 3 1 (.slice V1 cs.length c1) cs.length (ivals cs)
  oC : ∀ b ∈ ownB (.slice V1 cs.length c1), w6.heap.size ≤ b ∧ b ≠ Q ∧ b ≠ F
  rF : Row X 78 2 (.slice (some ⟨F, 0, none⟩) M M) M (pvals Fl)
  rW : Row X 90 4 (.slice V3 ws.length c3) ws.length (wrvals ws)
  oW : ∀ b ∈ ownB (.slice V3 ws.length c3), w6.heap.size ≤ b ∧ b ≠ Q ∧ b ≠ F ∧ b ∉ ownB (.slice V1 cs.length c1)
  qf : Q ≠ F
  lQ : w6.heap.size ≤ Q
  lF : w6.heap.size ≤ F
section
variable {w6 : World} {Q F : Nat} {a b : Int} {V1 : Option Addr} {c1 : Nat} {cs : List Int} {M : Nat} {Fl : List Pt} {V3 : Option Addr} {c3 : Nat} {ws : List (Pt × Pt)} {X X' : World}
theorem QB.lt (h : QB w6 Q F a b V1 c1 cs M Fl V3 c3 ws X) : Q < X.heap.size := heap_lt h.hQ
theorem QB.below (h : QB w6 Q F a b V1 c1 cs M Fl V3 c3 ws X) (hb : Below X.heap.size X X') : QB w6 Q F a b V1 c1 cs M Fl V3 c3 ws X' :=
  ⟨h.bl.trans (hb.mono h.bl.size), (hb.block _ h.lt).trans h.hQ, h.rC.keep fun b hb2 => hb.block b (h.rC.lt b hb2), h.oC, h.rF.keep fun b hb2 => hb.block b (h.rF.lt b hb2), h.rW.keep fun b hb2 => hb.block b (h.rW.lt b hb2), h.oW, h.qf, h.lQ, h.lF⟩
theorem QB.setF (h : QB w6 Q F a b V1 c1 cs M Fl V3 c3 ws X) (s : Nat) (p : Pt) : QB w6 Q F a b V1 c1 cs M (Fl.set s p) V3 c3 ws ((X.setCell ⟨F, s * 2, none⟩ (.int .i64 p.1)).setCell ⟨F, s * 2 + 1, none⟩ (.int .i64 p.2)) := by
  have e : ∀ c, c ≠ F → ((X.setCell ⟨F, s * 2, none⟩ (.int .i64 p.1)).setCell ⟨F, s * 2 + 1, none⟩ (.int .i64 p.2)).heap[c]? = X.heap[c]? := fun c hc => (Below.heap_setCell _ _ _ c hc).trans (Below.heap_setCell _ _ _ c hc)
  refine ⟨(h.bl.setCell (p := ⟨F, s * 2, none⟩) h.lF _).setCell (p := ⟨F, s * 2 + 1, none⟩) h.lF _, (e Q h.qf).trans h.hQ, h.rC.keep fun b hb => e b (h.oC b hb).2.2, h.oC, ?_, h.rW.keep fun b hb => e b (h.oW b hb).2.2.1, h.oW, h.qf, h.lQ, h.lF⟩
  have := (h.rF.set (s * 2) (.int .i64 p.1)).set (s * 2 + 1) (.int .i64 p.2)
  rw [pvals_set] at this
  exact this
theorem QB.cells (h : QB w6 Q F a b V1 c1 cs M Fl V3 c3 ws X) : X.cell? ⟨Q, 0, none⟩ = some (.int .i64 a) ∧ X.cell? ⟨Q, 1, none⟩ = some (.int .i64 b) ∧ X.cell? ⟨Q, 2, none⟩ = some (.slice V1 cs.length c1) ∧ X.cell? ⟨Q, 3, none⟩ = some (.slice (some ⟨F, 0, none⟩) M M) ∧ X.cell? ⟨Q, 4, none⟩ = some (.slice V3 ws.length c3) ∧ X.frozen? ⟨Q, 2, none⟩ = false ∧ X.frozen? ⟨Q, 4, none⟩ = false := by
  have hh := h.hQ
  simp [World.cell?, World.frozen?, hh]
theorem QB.at_ (h : QB w6 Q F a b V1 c1 cs M Fl V3 c3 ws X) {s : Nat} (hs : s < M) : (X.frozen? ⟨F, s * 2, none⟩ = false ∧ X.frozen? ⟨F, s * 2 + 1, none⟩ = false) ∧ (∃ u, X.cell? ⟨F, s * 2, none⟩ = some u) ∧ (∃ u, X.cell? ⟨F, s * 2 + 1, none⟩ = some u) := by
  have hl := h.rF.1
  exact ⟨⟨h.rF.frozenAt _, h.rF.frozenAt _⟩, ⟨_, (h.rF.cellAt (s * 2) (by omega)).trans (List.getElem?_eq_getElem (by omega))⟩, ⟨_, (h.rF.cellAt (s * 2 + 1) (by omega)).trans (List.getElem?_eq_getElem (by omega))⟩⟩
theorem QB.app (h : QB w6 Q F a b V1 c1 cs M Fl V3 c3 ws X) {V5 : Option Addr} {c5 : Nat} {w5 : World} {p q : Pt}
    (k5 : Kp (ownB (.slice V3 ws.length c3)) X w5) (o5 : ownB (.slice V5 (ws.length + 1) c5) = ownB (.slice V3 ws.length c3) ∨ ownB (.slice V5 (ws.length + 1) c5) = [X.heap.size])
    (r5 : Row w5 90 4 (.slice V5 (ws.length + 1) c5) (ws.length + 1) (wrvals ws ++ [.int .i64 p.1, .int .i64 p.2, .int .i64 q.1, .int .i64 q.2])) :
    (w5.cell? ⟨Q, 4, none⟩ = some (.slice V3 ws.length c3) ∧ w5.frozen? ⟨Q, 4, none⟩ = false) ∧ QB w6 Q F a b V1 c1 cs M Fl V5 c5 (ws ++ [(p, q)]) (w5.setCell ⟨Q, 4, none⟩ (.slice V5 (ws.length + 1) c5)) := by
  have hn : Q ∉ ownB (.slice V3 ws.length c3) := fun hb => (h.oW _ hb).2.1 rfl
  have e3 : w5.heap[Q]? = _ := (k5.block Q h.lt hn).trans h.hQ
  have hz := h.bl.size
  have hfl : F < X.heap.size := h.rF.lt F (by simp [ownB])
  have h5 : ∀ b ∈ ownB (.slice V5 (ws.length + 1) c5), w6.heap.size ≤ b ∧ b ≠ Q ∧ b ≠ F ∧ b ∉ ownB (.slice V1 cs.length c1) := fun b hb => by
    rcases o5 with e | e
    · exact h.oW b (e ▸ hb)
    · rw [e] at hb; simp at hb; subst hb
      have := h.lt
      exact ⟨hz, by omega, by omega, fun hb => absurd (h.rC.lt _ hb) (by omega)⟩
  have hl : (ws ++ [(p, q)]).length = ws.length + 1 := by simp
  refine ⟨⟨by simp [World.cell?, e3], by simp [World.frozen?, e3]⟩, ?_, ?_, ?_, h.oC, ?_, ?_, ?_, h.qf, h.lQ, h.lF⟩
  · exact (h.bl.trans (k5.below hz (fun b hb => (h.oW b hb).1))).setCell (p := ⟨Q, 4, none⟩) h.lQ _
  · rw [hl]; simp [World.setCell, Array.getElem?_modify, e3]
  · exact h.rC.keep fun b hb => (Below.heap_setCell w5 _ _ b (h.oC b hb).2.1).trans (k5.block b (h.rC.lt b hb) (fun hb2 => (h.oW b hb2).2.2.2 hb))
  · exact h.rF.keep fun b hb => (Below.heap_setCell w5 _ _ b (by simp [ownB] at hb; subst hb; exact h.qf.symm)).trans (k5.block b (h.rF.lt b hb) (fun hb2 => (h.oW b hb2).2.2.1 (by simp [ownB] at hb; exact hb)))
  · rw [wrvals_snoc, hl]
    exact r5.keep fun b hb => Below.heap_setCell w5 _ _ b (h5 b hb).2.1
  · rw [hl]; exact h5
/-- The cells, copied into the box. -/
theorem QB.cells_in (hb : Below w6.heap.size w6 X) (hQ : X.heap[Q]? = some (.cells #[.int .i64 a, .int .i64 b, .slice none 0 0, .slice (some ⟨F, 0, none⟩) M M, .slice none 0 0] 55 (0, 0)))
    (hF : X.heap[F]? = some (.cells (madeCells #[.int .i64 0, .int .i64 0] (M * 2)) 78 (0, 0))) (hM : M ≤ maxLen) (h1 : w6.heap.size ≤ Q) (h2 : w6.heap.size ≤ F) (h3 : Q ≠ F) {w5 : World}
    (k5 : Kp [] X w5) (o5 : ownB (.slice V1 cs.length c1) = [] ∨ ownB (.slice V1 cs.length c1) = [X.heap.size]) (r5 : Row w5 3 1 (.slice V1 cs.length c1) cs.length (ivals cs)) :
    (w5.cell? ⟨Q, 2, none⟩ = some (.slice none 0 0) ∧ w5.frozen? ⟨Q, 2, none⟩ = false) ∧ QB w6 Q F a b V1 c1 cs M (List.replicate M (0, 0)) none 0 [] (w5.setCell ⟨Q, 2, none⟩ (.slice V1 cs.length c1)) := by
  have hQl := heap_lt hQ
  have hFl := heap_lt hF
  have e3 : w5.heap[Q]? = _ := (k5.block Q hQl (by simp)).trans hQ
  have e4 : w5.heap[F]? = _ := (k5.block F hFl (by simp)).trans hF
  have hz := hb.size
  have ho : ∀ b ∈ ownB (.slice V1 cs.length c1), w6.heap.size ≤ b ∧ b ≠ Q ∧ b ≠ F := fun b hb => by
    rcases o5 with e | e
    · rw [e] at hb; simp at hb
    · rw [e] at hb; simp at hb; omega
  refine ⟨⟨by simp [World.cell?, e3], by simp [World.frozen?, e3]⟩, ?_, ?_, ?_, ho, ?_, Row.nil _ _ _, fun b hb => by simp [ownB] at hb, h3, h1, h2⟩
  · exact (hb.trans (k5.below hz (by simp))).setCell (p := ⟨Q, 2, none⟩) h1 _
  · simp [World.setCell, Array.getElem?_modify, e3]
  · exact r5.keep fun b hb => Below.heap_setCell w5 _ _ b (ho b hb).2.1
  · exact (row_ports e4 hM).keep fun b hb => Below.heap_setCell w5 _ _ b (by simp [ownB] at hb; subst hb; exact h3.symm)
end
section
variable (A : Option Addr) (n cap : Nat) (L : List (ByteArray × Int)) (a b : Int) (VA VB : Option Addr) (ca cb : Nat) (cells : List Int) (W : List (Pt × Pt)) (w : World)
set_option maxHeartbeats 4000000 in
theorem rplan_of (M : Nat) (O I : List (Pt × Pt)) (hn : n = L.length) (HL : Hid (AgRd w A L)) (HC : Hid (IntsRd w VA cells)) (HW : Hid (WrRd w VB W)) (hc : cells.length ≤ 100) (hM : M ≤ 100) (hOI : (O ++ I).length ≤ 1000)
    (HTd : Hid (∀ Z, Below w.heap.size w Z → Calls Try.prog 31 #[.slice A L.length cap, ruleV a b VA ca cells M VB cb W] Z fun e w' => ∃ V1 c1 V2 c2, e = .returned (ruleV a b V1 c1 cells M V2 c2 (O ++ I)) ∧ NetFresh Z w' V1 c1 cells V2 c2 (O ++ I)))
    (HO : Hid (∀ k, k < O.length → ∃ s q, s < M ∧ O.getD k default = ((-1, (s : Int)), q) ∧ (q.1 < 0 → ∃ j : Nat, j < M ∧ q = (-1, (j : Int)) ∧ j ≠ s) ∧ facesL (O.take (k + 1)) M = stepF (facesL (O.take k) M) ((-1, (s : Int)), q)))
    (HI : Hid (∀ k, k < I.length → 0 ≤ (I.getD k default).1.1)) :
    Calls Try.prog 28 #[.slice A n cap, ruleV a b VA ca cells M VB cb W] w fun e w' => ∃ V1 c1 V2 c2 V3 c3, e = .returned (planV a b V1 cells.length c1 V2 M c2 V3 I.length c3) ∧ PLs V1 V2 V3 cells (facesL O M) I w' ∧ Below w.heap.size w w' := by
  subst hn
  obtain ⟨i0, hi0, hi1, hi2, hi3⟩ := info_parts int_info
  obtain ⟨j0, hj0, hj1, hj2, hj3⟩ := info_parts wire_info
  have hbA : Below w.heap.size w ((w.alloc (.cells #[.int .i64 a, .int .i64 b, .slice VA cells.length ca, .int .i64 M, .slice VB W.length cb] 44)).alloc (.cells #[.int .i64 0, .int .i64 0, .slice none 0 0, .slice none 0 0, .slice none 0 0] 55)) := by (repeat (first | (with_reducible exact Below.refl _ _) | (with_reducible assumption) | (with_reducible refine Below.drew ?_) | (with_reducible refine Below.alloc ?_ (by (try simp); (try omega)) _) | (with_reducible refine Below.setCell ?_ (by (try simp); (try omega)) _)))
  have hz0 := PZ2.new (w.alloc (.cells #[.int .i64 a, .int .i64 b, .slice VA cells.length ca, .int .i64 M, .slice VB W.length cb] 44))
  rw [World.size_alloc] at hz0
  have h00 : RLs w.heap.size a b VA ca cells M VB cb W ((w.alloc (.cells #[.int .i64 a, .int .i64 b, .slice VA cells.length ca, .int .i64 M, .slice VB W.length cb] 44)).alloc (.cells #[.int .i64 0, .int .i64 0, .slice none 0 0, .slice none 0 0, .slice none 0 0] 55)) := (RLs.new w HC.out HW.out).below (alB _ _)
  have HZ0 := Lib.hid hz0
  have H00 := Lib.hid h00
  clear hz0 h00
  have hmk2 := make_ports M (by omega)
  obtain ⟨T, hT⟩ : ∃ T, T = O ++ I := ⟨_, rfl⟩
  rw [← hT] at HTd hOI
  have hTl : T.length = O.length + I.length := by rw [hT]; simp
  have HT := Lib.hid hT
  have HTl := Lib.hid hTl
  clear hT hTl
  go_enter Try.func28, Try.ntmps28
  go_upto_region 2 with (go_at_call 31; refine (HTd.out _ hbA).mono ?_; rintro e w6 ⟨V5, c5, V6, c6, rfl, hnf⟩
                         have HNF := Lib.hid hnf
                         have HZ1 := Lib.hid (HZ0.out.below hnf.1.2.2)
                         have H01 := Lib.hid (H00.out.below hnf.1.2.2)
                         have HB1 : Hid (Below w.heap.size w w6) := hbA.trans (hnf.1.2.2.mono (by simp <;> omega))
                         clear hnf)
  clear hbA HZ0 HTd H00
  refine absW (fun X => RLs w6.heap.size a b V5 c5 cells M V6 c6 T X ∧ Below w6.heap.size w6 X ∧ w6.heap.size < X.heap.size) ⟨RLs.new w6 HNF.out.1.1.ints HNF.out.2.1.wires, alB _ _, by simp⟩ ?_
  rintro W6 ⟨h6, hb6, hz6⟩
  have H6 := Lib.hid h6
  have HB6 : Hid (Below w.heap.size w W6) := HB1.out.trans (hb6.mono HB1.out.size)
  have HZ6 := Lib.hid (HZ1.out.below hb6)
  have H06 := Lib.hid (H01.out.below hb6)
  clear h6 hb6 HNF HZ1 H01
  obtain ⟨x0, x1, x2, x3, x4⟩ := H06.out.c
  have hzw : w.heap.size < W6.heap.size := H06.out.1.lt
  go_cut [6] (fun v wx => ∃ Q F, v = .pointer (some ⟨Q, 0, none⟩) ∧ Below W6.heap.size W6 wx ∧ wx.heap[Q]? = some (.cells #[.int .i64 a, .int .i64 b, .slice none 0 0, .slice (some ⟨F, 0, none⟩) M M, .slice none 0 0] 55 (0, 0)) ∧
      wx.heap[F]? = some (.cells (madeCells #[.int .i64 0, .int .i64 0] (M * 2)) 78 (0, 0)) ∧ W6.heap.size ≤ Q ∧ W6.heap.size ≤ F ∧ Q ≠ F)
  case first =>
    have hz61 : w.heap.size < W6.heap.size + 1 := by omega
    have hz62 : w.heap.size < W6.heap.size + 1 + 1 := by omega
    have hne0 : (W6.heap.size = w.heap.size) = False := by simp; omega
    have hne1 : (W6.heap.size + 1 = w.heap.size) = False := by simp; omega
    go_region_held3 (fun X => X.cell? ⟨w.heap.size, 0, none⟩ = some (.int .i64 a) ∧ X.cell? ⟨w.heap.size, 1, none⟩ = some (.int .i64 b) ∧ X.cell? ⟨w.heap.size, 3, none⟩ = some (.int .i64 M))
      (go_simp)
      (fail)
    all_goals
      go_wp2_with fail
      go_meet
      case rel =>
        refine ⟨_, _, rfl, by (repeat (first | (with_reducible exact Below.refl _ _) | (with_reducible assumption) | (with_reducible refine Below.drew ?_) | (with_reducible refine Below.alloc ?_ (by (try simp); (try omega)) _) | (with_reducible refine Below.setCell ?_ (by (try simp); (try omega)) _))), by first | exact (heap2 _ _ _).1 | exact (heap2 _ _ _).2, by first | exact (heap2 _ _ _).1 | exact (heap2 _ _ _).2, by omega, by omega, by omega⟩
  case rest =>
    obtain ⟨Q, F, rfl, hbc, hQc, hFc, h1, h2, h3⟩ := hcut
    clear hmk2 x0 x1 x2 x3 x4
    have h0c := H06.out.below hbc
    obtain ⟨x0, x1, x2, x3, x4⟩ := h0c.c
    have hx0 := h0c.1.lt
    have HSrc := Lib.hid h0c.2.1.src
    have p2 : wc.cell? ⟨Q, 2, none⟩ = some (.slice none 0 0) := by simp [World.cell?, hQc]
    have hQl := heap_lt hQc
    have HCQ := Lib.hid (And.intro hbc (And.intro hQc hFc))
    have HB63 : 0 + cells.length ≤ maxLen := by simp only [maxLen]; omega
    have HB47 : (0 + cells.length) * 8 ≤ 140737488355328 := by omega
    clear h0c hbc hQc hFc
    go_upto_region 4 with (at_builtin; go_loud (refine inPlain rfl (wpo_row_append _ _ _ rfl i0 _ 8 Try.underlying23 hi0 hi1 hi2 hi3 rfl rfl (Row.nil _ 3 1) _ cells.length _ rfl (ivals cells) HSrc.out HB63 HB47 ?_)); intro sv5 w5 r5 k5 o5; rw [Nat.zero_add, List.nil_append] at r5; obtain ⟨V1, c1, rfl, hc1⟩ := r5.len
                           change Kp [] _ w5 at k5
                           change _ = [] ∨ _ at o5
                           go_loud (have A5 := QB.cells_in (w6 := W6) HCQ.out.1 HCQ.out.2.1 HCQ.out.2.2 (by unfold maxLen; omega) h1 h2 h3 k5 o5 r5)
                           obtain ⟨⟨z1, z2⟩, z3⟩ := A5
                           have HA5 := Lib.hid z3
                           clear k5 o5 r5 z3)
    refine absW (fun X => QB W6 Q F a b V1 c1 cells M (facesL (O.take 0) M) none 0 (I.take (0 - O.length)) X) (by rw [List.take_zero, facesL_nil, Nat.zero_sub, List.take_zero]; exact HA5.out) ?_
    rintro X hqx
    have HQX := Lib.hid hqx
    clear hqx HA5 HCQ HSrc x0 x1 x2 x3 x4 hx0 p2 hQl z1 z2 h1 h2 h3
    go_wp2_with fail
    go_loopw [7, 8] (fun i _ wr => ∃ k : Nat, ∃ V3 c3, i = .int .i64 k ∧ k ≤ T.length ∧ Hid (QB W6 Q F a b V1 c1 cells M (facesL (O.take k) M) V3 c3 (I.take (k - O.length)) wr)) (fun i _ _ => T.length - (intOf i).toNat)
    case atStart => exact ⟨0, none, 0, rfl, by omega, HQX⟩
    case round =>
      obtain ⟨k, V3, c3, rfl, hk, HR⟩ := hrel
      clear HQX
      have h6r := H6.out.below HR.out.bl
      obtain ⟨x0, x1, x2, x3, x4⟩ := h6r.c
      have hx0 := h6r.1.lt
      by_cases hlt2 : k < T.length
      · obtain ⟨bw, ow, rfl, hbw, e0, e1, e2, e3⟩ := h6r.2.2 k hlt2
        clear h6r
        obtain ⟨p0, p1, p2, p3, p4, p5, p6⟩ := HR.out.cells
        have hQl := HR.out.lt
        have hFl : F < wr.heap.size := HR.out.rF.lt F (by simp [ownB])
        by_cases hlt : k < O.length
        · have hTk : T.getD k default = O.getD k default := by rw [HT.out]; simp [List.getD_eq_getElem?_getD, List.getElem?_append_left hlt]
          obtain ⟨s, q, hs, hOk, hq, hst⟩ := HO.out k hlt
          rw [hTk, hOk] at e0 e1 e2 e3
          obtain ⟨q0, q1⟩ := q
          simp only at e0 e1 e2 e3
          have HST := Lib.hid hst
          obtain ⟨⟨s0, s1⟩, ⟨u0, s2⟩, ⟨u1, s3⟩⟩ := HR.out.at_ hs
          have HQ := Lib.hid hq
          have HWS : Hid (I.take (k - O.length) = [] ∧ I.take (k + 1 - O.length) = []) := ⟨by rw [Nat.sub_eq_zero_of_le (by omega), List.take_zero], by rw [Nat.sub_eq_zero_of_le (by omega), List.take_zero]⟩
          clear hst hq hTk hOk
          go_upto_region 11 with fail
          refine absW (fun X => QB W6 Q F a b V1 c1 cells M ((facesL (O.take k) M).set s (q0, q1)) V3 c3 (I.take (k - O.length)) X ∧ wr.heap.size < X.heap.size ∧ X.cell? ⟨wr.heap.size, 0, none⟩ = some (.int .i64 (-1)) ∧ X.cell? ⟨wr.heap.size, 1, none⟩ = some (.int .i64 s) ∧ X.cell? ⟨wr.heap.size, 2, none⟩ = some (.int .i64 q0) ∧ X.cell? ⟨wr.heap.size, 3, none⟩ = some (.int .i64 q1))
            ⟨by first | exact (HR.out.setF s (q0, q1)).below (alB _ _) | exact (HR.out.below (alB _ _)).setF s (q0, q1), by simp, by go_simp, by go_simp, by go_simp, by go_simp⟩ ?_
          rintro X ⟨hpx, hzx, b0, b1, b2, b3⟩
          have HPX := Lib.hid hpx
          clear hpx s0 s1 s2 s3 p0 p1 p2 p3 p4 p5 p6 hQl hFl e0 e1 e2 e3 x0 x1 x2 x3 x4 hx0
          by_cases hq0 : q0 < 0
          · obtain ⟨j, hj, hqj, hjs⟩ := HQ.out hq0
            simp only [Prod.mk.injEq] at hqj
            obtain ⟨rfl, rfl⟩ := hqj
            obtain ⟨⟨s0, s1⟩, ⟨u0, s2⟩, ⟨u1, s3⟩⟩ := HPX.out.at_ hj
            obtain ⟨p0, p1, p2, p3, p4, p5, p6⟩ := HPX.out.cells
            have hQl := HPX.out.lt
            go_wp2
            go_roundw
            case rel => exact ⟨k + 1, V3, c3, by go_num, by omega, by
              have h9 := HPX.out.setF j (-1, (s : Int))
              have e9 : facesL (O.take (k + 1)) M = ((facesL (O.take k) M).set s (-1, (j : Int))).set j (-1, (s : Int)) := by rw [HST.out]; simp [stepF]
              rw [HWS.out.1] at h9
              rw [e9, HWS.out.2]; exact h9⟩
            case measure => simp [intOf]; omega
          · go_wp2
            go_roundw
            case rel => exact ⟨k + 1, V3, c3, by go_num, by omega, by
              have h9 := HPX.out
              have e9 : facesL (O.take (k + 1)) M = (facesL (O.take k) M).set s (q0, q1) := by rw [HST.out]; simp [stepF, hq0]
              rw [HWS.out.1] at h9
              rw [e9, HWS.out.2]; exact h9⟩
            case measure => simp [intOf]; omega
        · have hki : k - O.length < I.length := by have := HTl.out; omega
          have hi0' := HI.out (k - O.length) hki
          have hTk2 : T.getD k default = I.getD (k - O.length) default := by rw [HT.out]; simp [List.getD_eq_getElem?_getD, List.getElem?_append_right (by omega : O.length ≤ k)]
          rw [hTk2] at e0 e1 e2 e3
          have HNX : Hid (I.take (k + 1 - O.length) = I.take (k - O.length) ++ [I.getD (k - O.length) default]) := by show _ = _; rw [show k + 1 - O.length = (k - O.length) + 1 by omega]; exact take_succ_getD hki
          have HFX : Hid (facesL (O.take (k + 1)) M = facesL (O.take k) M) := by show _ = _; rw [List.take_of_length_le (by omega), List.take_of_length_le (by omega)]
          have hwl : (I.take (k - O.length)).length ≤ 1000 := by have := HTl.out; rw [List.length_take]; omega
          generalize I.getD (k - O.length) default = x at e0 e1 e2 e3 hi0' HNX
          obtain ⟨⟨y0, y1⟩, y2, y3⟩ := x
          simp only at e0 e1 e2 e3 hi0'
          clear hTk2
          generalize I.take (k - O.length) = ws at HR hwl HNX p4
          generalize facesL (O.take k) M = Fl at HR HFX
          have hg63 : ws.length + 1 ≤ maxLen := by simp only [maxLen]; omega
          have hg47 : (ws.length + 1) * 32 ≤ 140737488355328 := by omega
          go_upto_region 9 with fail
          refine absW (fun X => Below wr.heap.size wr X ∧ wr.heap.size < X.heap.size ∧ X.cell? ⟨wr.heap.size, 0, none⟩ = some (.int .i64 y0) ∧ X.cell? ⟨wr.heap.size, 1, none⟩ = some (.int .i64 y1) ∧ X.cell? ⟨wr.heap.size, 2, none⟩ = some (.int .i64 y2) ∧ X.cell? ⟨wr.heap.size, 3, none⟩ = some (.int .i64 y3)) ⟨by (repeat (first | (with_reducible exact Below.refl _ _) | (with_reducible assumption) | (with_reducible refine Below.drew ?_) | (with_reducible refine Below.alloc ?_ (by (try simp); (try omega)) _) | (with_reducible refine Below.setCell ?_ (by (try simp); (try omega)) _))), by simp, by go_simp, by go_simp, by go_simp, by go_simp⟩ ?_
          rintro X ⟨hbx, hzx, b0, b1, b2, b3⟩
          have HRx := Lib.hid (HR.out.below hbx)
          clear hbx p0 p1 p2 p3 p4 p5 p6 hQl hFl e0 e1 e2 e3 x0 x1 x2 x3 x4 hx0
          obtain ⟨p0, p1, p2, p3, p4, p5, p6⟩ := HRx.out.cells
          have hQl := HRx.out.lt
          have HRw := Lib.hid (HRx.out.below (alB X (.cells #[.int .i64 y0, .int .i64 y1, .int .i64 y2, .int .i64 y3] 90)))
          have HSr : Hid (Src (X.alloc (.cells #[.int .i64 y0, .int .i64 y1, .int .i64 y2, .int .i64 y3] 90)) (some ⟨X.heap.size, 0, none⟩) 1 4 [.int .i64 y0, .int .i64 y1, .int .i64 y2, .int .i64 y3]) :=
            Src.block (cs := #[.int .i64 y0, .int .i64 y1, .int .i64 y2, .int .i64 y3]) (t := 90) (fr := (0, 0)) (heap_alloc_new X _) rfl (by simp [Value.oneCell'])
          go_wp2_with (at_builtin; go_loud (refine inPlain rfl (wpo_row_append _ _ _ rfl j0 _ 32 Try.underlying24 hj0 hj1 hj2 hj3 rfl rfl HRw.out.rW _ 1 1 rfl [.int .i64 y0, .int .i64 y1, .int .i64 y2, .int .i64 y3] HSr.out hg63 hg47 ?_)); intro sv5 w7 r5 k5 o5; obtain ⟨V7, cp7, rfl, hc7⟩ := r5.len; have A5 := HRw.out.app (p := (y0, y1)) (q := (y2, y3)) k5 o5 r5; obtain ⟨⟨z1, z2⟩, z3⟩ := A5; have HA5 := Lib.hid z3; clear k5 o5 r5 z3)
          go_roundw
          case rel => exact ⟨k + 1, V7, cp7, by go_num, by omega, by rw [HNX.out, HFX.out]; exact HA5⟩
          case measure => simp [intOf]; omega
      · obtain rfl : T.length = k := by omega
        have HE : Hid (facesL (O.take T.length) M = facesL O M ∧ I.take (T.length - O.length) = I) := ⟨by rw [List.take_of_length_le (by have := HTl.out; omega)], by rw [HTl.out, Nat.add_sub_cancel_left, List.take_length]⟩
        rw [HE.out.1, HE.out.2] at HR
        clear HE h6r
        have HZr := Lib.hid (HZ6.out.below HR.out.bl)
        obtain ⟨p0, p1, p2, p3, p4, p5, p6⟩ := HR.out.cells
        obtain ⟨r0, r1, r2, r3, r4, g0, g1, g2, g3, g4⟩ := HZr.out.all
        have hQl := HR.out.lt
        have hrl := HZr.out.lt
        have HBr : Hid (Below w.heap.size w wr) := HB6.out.trans (HR.out.bl.mono HB6.out.size)
        go_wp2
        refine bodyPost_ret (v := planV a b V1 cells.length c1 (some ⟨F, 0, none⟩) M M V3 I.length c3) (by simp only [results, Try.results28]; go_simp) rfl ⟨_, _, _, _, _, _, rfl, ⟨Row.ints (cap := c1) (HR.out.rC.keep fun b hb => set5 wr ?_ _ _ _ _ _), ?_, Row.wires (cap := c3) (HR.out.rW.keep fun b hb => set5 wr ?_ _ _ _ _ _)⟩, by have := HBr.out; have hz9 := this.size; (repeat (first | (with_reducible exact Below.refl _ _) | (with_reducible assumption) | (with_reducible refine Below.drew ?_) | (with_reducible refine Below.alloc ?_ (by (try simp); (try omega)) _) | (with_reducible refine Below.setCell ?_ (by (try simp); (try omega)) _)))⟩
        · have := (HR.out.oC b hb).1; have := HZ6.out.lt; omega
        · refine Row.pts (cap := M) ?_
          rw [facesL_len]
          refine HR.out.rF.keep fun b hb => set5 wr ?_ _ _ _ _ _
          simp [ownB] at hb
          have := HR.out.lF; have := HZ6.out.lt; omega
        · have := (HR.out.oW b hb).1; have := HZ6.out.lt; omega
end
end Go.Proofs.Ytcebejcdfdahjaa
