/-
  Contracts of plan.Of.
-/
import Derived.Test.YtcebejcdfdahjaaPlanRows
import Derived.Deep.DeepCutAuto
import Derived.Deep.RegionHeld3
namespace Go.Proofs.Ytcebejcdfdahjaa
open Go.RowKit
attribute [local go_sem] cell_set
set_option maxRecDepth 100000
set_option linter.unusedVariables false

/-- An empty plan in a box. -/
def PZ (b : Nat) (X : World) : Prop := X.heap[b]? = some (.cells #[.int .i64 0, .int .i64 0, .slice none 0 0, .slice none 0 0, .slice none 0 0] 49 (0, 0))
theorem PZ.below {b : Nat} {X X' : World} (h : PZ b X) (hb : Below X.heap.size X X') : PZ b X' := (hb.block _ (heap_lt h)).trans h
theorem PZ.new (X : World) : PZ X.heap.size (X.alloc (.cells #[.int .i64 0, .int .i64 0, .slice none 0 0, .slice none 0 0, .slice none 0 0] 49)) := heap_alloc_new _ _
theorem PZ.lt {b : Nat} {X : World} (h : PZ b X) : b < X.heap.size := heap_lt h
theorem PZ.all {b : Nat} {X : World} (h : PZ b X) : X.cell? ⟨b, 0, none⟩ = some (.int .i64 0) ∧ X.cell? ⟨b, 1, none⟩ = some (.int .i64 0) ∧ X.cell? ⟨b, 2, none⟩ = some (.slice none 0 0) ∧ X.cell? ⟨b, 3, none⟩ = some (.slice none 0 0) ∧ X.cell? ⟨b, 4, none⟩ = some (.slice none 0 0) ∧
    X.frozen? ⟨b, 0, none⟩ = false ∧ X.frozen? ⟨b, 1, none⟩ = false ∧ X.frozen? ⟨b, 2, none⟩ = false ∧ X.frozen? ⟨b, 3, none⟩ = false ∧ X.frozen? ⟨b, 4, none⟩ = false := by
  have h' : X.heap[b]? = _ := h
  simp [World.cell?, World.frozen?, h']
/-- A plan in a box, its cells and faces in memory of the call's own. -/
structure PB (w6 : World) (P C F : Nat) (a b : Int) (n M : Nat) (cs : List Value) (Fl : List Pt) (X : World) : Prop where
  bl : Below w6.heap.size w6 X
  hP : X.heap[P]? = some (.cells #[.int .i64 a, .int .i64 b, .slice (some ⟨C, 0, none⟩) n n, .slice (some ⟨F, 0, none⟩) M M, .slice none 0 0] 49 (0, 0))
  rC : Row X 3 1 (.slice (some ⟨C, 0, none⟩) n n) n cs
  rF : Row X 78 2 (.slice (some ⟨F, 0, none⟩) M M) M (pvals Fl)
  pc : P ≠ C
  pf : P ≠ F
  cf : C ≠ F
  lP : w6.heap.size ≤ P
  lC : w6.heap.size ≤ C
  lF : w6.heap.size ≤ F
section
variable {w6 : World} {P C F : Nat} {a b : Int} {n M : Nat} {cs : List Value} {Fl : List Pt} {X X' : World}
theorem PB.below (h : PB w6 P C F a b n M cs Fl X) (hb : Below X.heap.size X X') : PB w6 P C F a b n M cs Fl X' :=
  ⟨h.bl.trans (hb.mono h.bl.size), (hb.block _ (heap_lt h.hP)).trans h.hP, h.rC.keep fun b hb2 => hb.block b (h.rC.lt b hb2), h.rF.keep fun b hb2 => hb.block b (h.rF.lt b hb2), h.pc, h.pf, h.cf, h.lP, h.lC, h.lF⟩
theorem PB.setF (h : PB w6 P C F a b n M cs Fl X) (s : Nat) (p : Pt) : PB w6 P C F a b n M cs (Fl.set s p) ((X.setCell ⟨F, s * 2, none⟩ (.int .i64 p.1)).setCell ⟨F, s * 2 + 1, none⟩ (.int .i64 p.2)) := by
  have e : ∀ c, c ≠ F → ((X.setCell ⟨F, s * 2, none⟩ (.int .i64 p.1)).setCell ⟨F, s * 2 + 1, none⟩ (.int .i64 p.2)).heap[c]? = X.heap[c]? := fun c hc => (Below.heap_setCell _ _ _ c hc).trans (Below.heap_setCell _ _ _ c hc)
  refine ⟨(h.bl.setCell (p := ⟨F, s * 2, none⟩) h.lF _).setCell (p := ⟨F, s * 2 + 1, none⟩) h.lF _, (e P h.pf).trans h.hP, h.rC.keep fun b hb => e b (by simp [ownB] at hb; subst hb; exact h.cf), ?_, h.pc, h.pf, h.cf, h.lP, h.lC, h.lF⟩
  have := (h.rF.set (s * 2) (.int .i64 p.1)).set (s * 2 + 1) (.int .i64 p.2)
  rw [pvals_set] at this
  exact this
theorem PB.copy (h : PB w6 P C F a b n M cs Fl X) {cs' : List Value} (hr : Row X' 3 1 (.slice (some ⟨C, 0, none⟩) n n) n cs') (ho : Kp [C] X X') : PB w6 P C F a b n M cs' Fl X' :=
  ⟨h.bl.trans (ho.below h.bl.size (by simp; exact h.lC)), (ho.block P (heap_lt h.hP) (by simpa using h.pc)).trans h.hP, hr, h.rF.keep fun b hb => ho.block b (h.rF.lt b hb) (by simp [ownB] at hb; subst hb; simpa using h.cf.symm), h.pc, h.pf, h.cf, h.lP, h.lC, h.lF⟩
theorem PB.lt (h : PB w6 P C F a b n M cs Fl X) : P < X.heap.size := heap_lt h.hP
theorem PB.cells (h : PB w6 P C F a b n M cs Fl X) : X.cell? ⟨P, 0, none⟩ = some (.int .i64 a) ∧ X.cell? ⟨P, 1, none⟩ = some (.int .i64 b) ∧ X.cell? ⟨P, 2, none⟩ = some (.slice (some ⟨C, 0, none⟩) n n) ∧ X.cell? ⟨P, 3, none⟩ = some (.slice (some ⟨F, 0, none⟩) M M) ∧ X.cell? ⟨P, 4, none⟩ = some (.slice none 0 0) ∧ X.frozen? ⟨P, 4, none⟩ = false := by
  have hh := h.hP
  simp [World.cell?, World.frozen?, hh]
theorem PB.at_ (h : PB w6 P C F a b n M cs Fl X) {s : Nat} (hs : s < M) : (X.frozen? ⟨F, s * 2, none⟩ = false ∧ X.frozen? ⟨F, s * 2 + 1, none⟩ = false) ∧ (∃ u, X.cell? ⟨F, s * 2, none⟩ = some u) ∧ (∃ u, X.cell? ⟨F, s * 2 + 1, none⟩ = some u) := by
  have hl := h.rF.1
  exact ⟨⟨h.rF.frozenAt _, h.rF.frozenAt _⟩, ⟨_, (h.rF.cellAt (s * 2) (by omega)).trans (List.getElem?_eq_getElem (by omega))⟩, ⟨_, (h.rF.cellAt (s * 2 + 1) (by omega)).trans (List.getElem?_eq_getElem (by omega))⟩⟩
end
theorem pb_3 {w6 X : World} {P C F : Nat} {a b : Int} {n M : Nat} (hb : Below w6.heap.size w6 X) (hP : X.heap[P]? = some (.cells #[.int .i64 a, .int .i64 b, .slice (some ⟨C, 0, none⟩) n n, .slice (some ⟨F, 0, none⟩) M M, .slice none 0 0] 49 (0, 0)))
    (hC : X.heap[C]? = some (.cells (madeCells #[.int .i64 0] n) 3 (0, 0))) (hF : X.heap[F]? = some (.cells (madeCells #[.int .i64 0, .int .i64 0] (M * 2)) 78 (0, 0)))
    (h1 : w6.heap.size ≤ P) (h2 : w6.heap.size ≤ C) (h3 : w6.heap.size ≤ F) (h4 : P ≠ C) (h5 : P ≠ F) (h6 : C ≠ F) (hn : n ≤ maxLen) (hM : M ≤ maxLen) : PB w6 P C F a b n M (List.replicate n (.int .i64 0)) (List.replicate M (0, 0)) X :=
  ⟨hb, hP, row_zeros hC hn, row_ports hF hM, h4, h5, h6, h1, h2, h3⟩
theorem wr_drop {w : World} {g : Nat} {O I : List (Pt × Pt)} (h : WrRd w (some ⟨g, 0, none⟩) (O ++ I)) : WrRd w (some ⟨g, O.length * 4, none⟩) I := fun i hi => by
  obtain ⟨b, off, e, hb, h0, h1, h2, h3⟩ := h (O.length + i) (by simp; omega)
  simp only [Option.some.injEq, Addr.mk.injEq, and_true] at e
  obtain ⟨rfl, rfl⟩ := e
  have hg : (O ++ I).getD (O.length + i) default = I.getD i default := by simp [List.getD_eq_getElem?_getD, List.getElem?_append_right]
  rw [hg] at h0 h1 h2 h3
  rw [show 0 + (O.length + i) * 4 = O.length * 4 + i * 4 by omega] at h0 h1 h2 h3
  exact ⟨g, O.length * 4, rfl, hb, h0, h1, h2, h3⟩
/-- A plan's lists, in memory that came after Z. -/
def PLsF (Z : World) (V1 V2 V3 : Option Addr) (cs : List Int) (F : List Pt) (I : List (Pt × Pt)) (w' : World) : Prop := ∀ Y : World, (∀ b, Z.heap.size ≤ b → b < w'.heap.size → Y.heap[b]? = w'.heap[b]?) → PLs V1 V2 V3 cs F I Y
theorem PLsF.ls {Z w' : World} {V1 V2 V3 : Option Addr} {cs : List Int} {F : List Pt} {I : List (Pt × Pt)} (h : PLsF Z V1 V2 V3 cs F I w') : PLs V1 V2 V3 cs F I w' := h w' fun _ _ _ => rfl
theorem fin_keep (wr : World) {P b1 b : Nat} (h1 : b ≠ P) (h2 : b ≠ b1) (u u0 u1 u2 u3 u4 : Value) : ((((((wr.setCell ⟨P, 4, none⟩ u).setCell ⟨b1, 0, none⟩ u0).setCell ⟨b1, 1, none⟩ u1).setCell ⟨b1, 2, none⟩ u2).setCell ⟨b1, 3, none⟩ u3).setCell ⟨b1, 4, none⟩ u4).heap[b]? = wr.heap[b]? :=
  (set5 _ h2 _ _ _ _ _).trans (Below.heap_setCell _ _ _ b h1)
theorem fin_lists {w6 : World} {P C F b1 : Nat} {a b : Int} {M : Nat} {cells : List Int} {O I : List (Pt × Pt)} {wr Y : World} {g : Nat} {c6 : Nat} {T : List (Pt × Pt)} (h : PB w6 P C F a b cells.length M (ivals cells) (facesL O M) wr) (hb1 : b1 < w6.heap.size)
    (hw : Row wr 90 4 (.slice (some ⟨g, 0, none⟩) T.length c6) T.length (wrvals T)) (hg : g < w6.heap.size) (hgb : g ≠ b1) (hT : T = O ++ I) {lo : Nat} (hlo : lo ≤ w6.heap.size) (hlg : lo ≤ g) (hY : ∀ b, lo ≤ b → b ≠ P → b ≠ b1 → b < wr.heap.size → Y.heap[b]? = wr.heap[b]?) :
    IntsRd Y (some ⟨C, 0, none⟩) cells ∧ PtsRd Y (some ⟨F, 0, none⟩) (facesL O M) ∧ WrRd Y (some ⟨g, O.length * 4, none⟩) I := by
  have hC := h.lC
  have hF := h.lF
  have hP := h.lP
  refine ⟨Row.ints (cap := cells.length) (h.rC.keep fun b hb => ?_), ?_, wr_drop ?_⟩
  · have hl := h.rC.lt b hb
    simp [ownB] at hb
    subst hb
    exact hY _ (by omega) h.pc.symm (by omega) hl
  · refine Row.pts (cap := M) ?_
    rw [facesL_len]
    refine h.rF.keep fun b hb => ?_
    have hl := h.rF.lt b hb
    simp [ownB] at hb
    subst hb
    exact hY _ (by omega) h.pf.symm (by omega) hl
  · rw [← hT]
    refine Row.wires (cap := c6) (hw.keep fun b hb => ?_)
    have hl := hw.lt b hb
    simp [ownB] at hb
    subst hb
    exact hY _ hlg (by omega) hgb hl
theorem fin_lists2 {w6 : World} {P C F b1 : Nat} {a b : Int} {M : Nat} {cells : List Int} {O I : List (Pt × Pt)} {wr Y : World} {g : Nat} {c6 : Nat} {T : List (Pt × Pt)} {V3 : Option Addr} (h : PB w6 P C F a b cells.length M (ivals cells) (facesL O M) wr) (hb1 : b1 < w6.heap.size)
    (hw : Row wr 90 4 (.slice (some ⟨g, 0, none⟩) T.length c6) T.length (wrvals T)) (hg : g < w6.heap.size) (hgb : g ≠ b1) (hT : T = O ++ I) (hV : V3 = some ⟨g, O.length * 4, none⟩ ∨ I.length = 0) {lo : Nat} (hlo : lo ≤ w6.heap.size) (hlg : lo ≤ g) (hY : ∀ b, lo ≤ b → b ≠ P → b ≠ b1 → b < wr.heap.size → Y.heap[b]? = wr.heap[b]?) :
    PLs (some ⟨C, 0, none⟩) (some ⟨F, 0, none⟩) V3 cells (facesL O M) I Y := by
  have hfl := fin_lists h hb1 hw hg hgb hT hlo hlg hY
  refine ⟨hfl.1, hfl.2.1, ?_⟩
  rcases hV with rfl | hI
  · exact hfl.2.2
  · exact fun i hi => by omega
section
variable (A : Option Addr) (n cap : Nat) (L : List (ByteArray × Int)) (a b : Int) (VA VB : Option Addr) (ca cb : Nat) (cells : List Int) (W : List (Pt × Pt)) (w : World)
set_option maxHeartbeats 1000000 in
theorem plan_of_bad (free : Int) (hn : n = L.length) (hcap : L.length ≤ cap) (HL : Hid (AgRd w A L)) (hl : L.length ≤ maxLen) (HC : Hid (IntsRd w VA cells)) (HW : Hid (WrRd w VB W)) (hc : cells.length ≤ 10000) (hw : W.length ≤ 40000)
    (hk : (ruleChk L a b cells free W).1 ≠ 0) :
    Calls Try.prog 24 #[.slice A n cap, ruleV a b VA ca cells free VB cb W] w fun e w' => e = .returned (.tuple #[planV 0 0 none 0 0 none 0 0 none 0 0, .int .i64 (ruleChk L a b cells free W).1]) ∧ Below w.heap.size w w' := by
  subst hn
  have hbA : Below w.heap.size w ((w.alloc (.cells #[.int .i64 a, .int .i64 b, .slice VA cells.length ca, .int .i64 free, .slice VB W.length cb] 44)).alloc (.cells #[.int .i64 0, .int .i64 0, .slice none 0 0, .slice none 0 0, .slice none 0 0] 49)) := by (repeat (first | (with_reducible exact Below.refl _ _) | (with_reducible assumption) | (with_reducible refine Below.drew ?_) | (with_reducible refine Below.alloc ?_ (by (try simp); (try omega)) _) | (with_reducible refine Below.setCell ?_ (by (try simp); (try omega)) _)))
  have hz0 := PZ.new (w.alloc (.cells #[.int .i64 a, .int .i64 b, .slice VA cells.length ca, .int .i64 free, .slice VB W.length cb] 44))
  rw [World.size_alloc] at hz0
  have HTd : Hid (∀ Z, Below w.heap.size w Z → Calls Try.prog 51 #[.slice A L.length cap, ruleV a b VA ca cells free VB cb W] Z fun e w' => e = .returned (.tuple #[ruleV 0 0 none 0 [] 0 none 0 [], .int .i64 (ruleChk L a b cells free W).1]) ∧ Below Z.heap.size Z w') := fun Z hz =>
    rule_tidy_bad A _ cap L a b VA VB ca cb cells free W Z rfl hcap (Lib.hid (HL.out.below hz)) hl (Lib.hid (HC.out.below hz)) (Lib.hid (HW.out.below hz)) hc hw hk
  generalize (ruleChk L a b cells free W).1 = K at hk HTd
  have hkb : (K != 0) = true := by simpa using hk
  have HZ0 := Lib.hid hz0
  clear hk hz0
  go_enter Try.func24, Try.ntmps24
  go_wp2_with fail
  refine (HTd.out _ hbA).mono ?_
  rintro e w1 ⟨rfl, hb1⟩
  obtain ⟨r0, r1, r2, r3, r4, g0, g1, g2, g3, g4⟩ := (HZ0.out.below hb1).all
  have hzz := (HZ0.out.below hb1).lt
  have HB1 : Hid (Below w.heap.size w w1) := hbA.trans (hb1.mono (by simp <;> omega))
  clear hb1 hbA
  go_wp2
  exact bodyPost_ret (v := .tuple #[planV 0 0 none 0 0 none 0 0 none 0 0, .int .i64 K]) (by simp only [results, Try.results24]; go_simp) rfl ⟨rfl, by have := HB1.out; have hz9 := this.size; (repeat (first | (with_reducible exact Below.refl _ _) | (with_reducible assumption) | (with_reducible refine Below.drew ?_) | (with_reducible refine Below.alloc ?_ (by (try simp); (try omega)) _) | (with_reducible refine Below.setCell ?_ (by (try simp); (try omega)) _)))⟩
set_option maxHeartbeats 4000000 in
theorem plan_of_ok (M : Nat) (O I : List (Pt × Pt)) (hn : n = L.length) (HL : Hid (AgRd w A L)) (HC : Hid (IntsRd w VA cells)) (HW : Hid (WrRd w VB W)) (hc : cells.length ≤ 100) (hM : M ≤ 100) (hOI : (O ++ I).length ≤ 1000)
    (HTd : Hid (∀ Z, Below w.heap.size w Z → Calls Try.prog 51 #[.slice A L.length cap, ruleV a b VA ca cells M VB cb W] Z fun e w' => ∃ V1 c1 V2 c2, e = .returned (.tuple #[ruleV a b V1 c1 cells M V2 c2 (O ++ I), .int .i64 0]) ∧ NetFresh Z w' V1 c1 cells V2 c2 (O ++ I)))
    (HO : Hid (∀ k, k < O.length → ∃ s q, s < M ∧ O.getD k default = ((-1, (s : Int)), q) ∧ (q.1 < 0 → ∃ j : Nat, j < M ∧ q = (-1, (j : Int)) ∧ j ≠ s) ∧ facesL (O.take (k + 1)) M = stepF (facesL (O.take k) M) ((-1, (s : Int)), q)))
    (HI : Hid (∀ k, k < I.length → 0 ≤ (I.getD k default).1.1)) :
    Calls Try.prog 24 #[.slice A n cap, ruleV a b VA ca cells M VB cb W] w fun e w' => ∃ V1 c1 V2 c2 V3 c3, e = .returned (.tuple #[planV a b V1 cells.length c1 V2 M c2 V3 I.length c3, .int .i64 0]) ∧ PLsF w V1 V2 V3 cells (facesL O M) I w' ∧ Below w.heap.size w w' := by
  subst hn
  obtain ⟨i0, hi0, hi1, hi2, hi3⟩ := info_parts int_info
  have hbA : Below w.heap.size w ((w.alloc (.cells #[.int .i64 a, .int .i64 b, .slice VA cells.length ca, .int .i64 M, .slice VB W.length cb] 44)).alloc (.cells #[.int .i64 0, .int .i64 0, .slice none 0 0, .slice none 0 0, .slice none 0 0] 49)) := by (repeat (first | (with_reducible exact Below.refl _ _) | (with_reducible assumption) | (with_reducible refine Below.drew ?_) | (with_reducible refine Below.alloc ?_ (by (try simp); (try omega)) _) | (with_reducible refine Below.setCell ?_ (by (try simp); (try omega)) _)))
  have hz0 := PZ.new (w.alloc (.cells #[.int .i64 a, .int .i64 b, .slice VA cells.length ca, .int .i64 M, .slice VB W.length cb] 44))
  rw [World.size_alloc] at hz0
  have HZ0 := Lib.hid hz0
  clear hz0
  have hmk1 := run_make_row' (P := Try.prog) 23 3 (.int .i64 0) 8 Try.underlying23 int_info rfl .i64 .i64 cells.length (by omega) (by omega)
  have hmk2 := make_ports M (by omega)
  obtain ⟨T, hT⟩ : ∃ T, T = O ++ I := ⟨_, rfl⟩
  rw [← hT] at HTd hOI
  have hTl : T.length = O.length + I.length := by rw [hT]; simp
  have HT := Lib.hid hT
  have HTl := Lib.hid hTl
  clear hT hTl
  go_enter Try.func24, Try.ntmps24
  go_upto_region 4 with (go_at_call 51; refine (HTd.out _ hbA).mono ?_; rintro e w6 ⟨V5, c5, V6, c6, rfl, hnf⟩
                         have HNF := Lib.hid hnf
                         have HZ1 := Lib.hid (HZ0.out.below hnf.1.2.2)
                         have HB1 : Hid (Below w.heap.size w w6) := hbA.trans (hnf.1.2.2.mono (by simp <;> omega))
                         clear hnf)
  clear hbA HZ0 HTd
  refine absW (fun X => RLs w6.heap.size a b V5 c5 cells M V6 c6 T X ∧ Below w6.heap.size w6 X ∧ w6.heap.size < X.heap.size) ⟨RLs.new w6 HNF.out.1.1.ints HNF.out.2.1.wires, alB _ _, by simp⟩ ?_
  rintro W6 ⟨h6, hb6, hz6⟩
  have H6 := Lib.hid h6
  have HB6 : Hid (Below w.heap.size w W6) := HB1.out.trans (hb6.mono HB1.out.size)
  have HZ6 := Lib.hid (HZ1.out.below hb6)
  have HRs : Hid (Row W6 3 1 (.slice V5 cells.length c5) cells.length (ivals cells) ∧ Row W6 90 4 (.slice V6 T.length c6) T.length (wrvals T) ∧ (∀ b ∈ ownB (.slice V6 T.length c6), w.heap.size + 2 ≤ b)) :=
    ⟨HNF.out.1.1.keep fun b hb => hb6.block b (HNF.out.1.1.lt b hb), HNF.out.2.1.keep fun b hb => hb6.block b (HNF.out.2.1.lt b hb), fun b hb => by have := HNF.out.2.2.1 b hb; simp at this; omega⟩
  clear h6 hb6 HNF HZ1
  obtain ⟨x0, x1, x2, x3, x4⟩ := H6.out.c
  go_cut [8] (fun v wx => ∃ P C F, v = .pointer (some ⟨P, 0, none⟩) ∧ PB W6 P C F a b cells.length M (List.replicate cells.length (.int .i64 0)) (List.replicate M (0, 0)) wx)
  case first =>
    have hne0 : (W6.heap.size = w6.heap.size) = False := by simp; omega
    have hne1 : (W6.heap.size + 1 = w6.heap.size) = False := by simp; omega
    have hne2 : (W6.heap.size + 1 + 1 = w6.heap.size) = False := by simp; omega
    have hz61 : w6.heap.size < W6.heap.size + 1 := by omega
    have hz62 : w6.heap.size < W6.heap.size + 1 + 1 := by omega
    have hz63 : w6.heap.size < W6.heap.size + 2 := by omega
    go_region_held3 (fun X => X.cell? ⟨w6.heap.size, 0, none⟩ = some (.int .i64 a) ∧ X.cell? ⟨w6.heap.size, 1, none⟩ = some (.int .i64 b) ∧ X.cell? ⟨w6.heap.size, 2, none⟩ = some (.slice V5 cells.length c5) ∧ X.cell? ⟨w6.heap.size, 3, none⟩ = some (.int .i64 M))
      (go_simp)
      (fail)
    all_goals
      go_wp2_with fail
      go_meet
      case rel =>
        refine ⟨_, _, _, rfl, pb_3 (by (repeat (first | (with_reducible exact Below.refl _ _) | (with_reducible assumption) | (with_reducible refine Below.drew ?_) | (with_reducible refine Below.alloc ?_ (by (try simp); (try omega)) _) | (with_reducible refine Below.setCell ?_ (by (try simp); (try omega)) _)))) (by first | exact (heap3 _ _ _ _).1 | exact (heap3 _ _ _ _).2.1 | exact (heap3 _ _ _ _).2.2) (by first | exact (heap3 _ _ _ _).1 | exact (heap3 _ _ _ _).2.1 | exact (heap3 _ _ _ _).2.2) (by first | exact (heap3 _ _ _ _).1 | exact (heap3 _ _ _ _).2.1 | exact (heap3 _ _ _ _).2.2) (by omega) (by omega) (by omega) (by omega) (by omega) (by omega) (by unfold maxLen; omega) (by unfold maxLen; omega)⟩
  case rest =>
    obtain ⟨P, C, F, rfl, hpb⟩ := hcut
    clear hmk1 hmk2 x0 x1 x2 x3 x4
    have HPB := Lib.hid hpb
    obtain ⟨x0, x1, x2, x3, x4⟩ := (H6.out.below hpb.bl).c
    have hx0 := (H6.out.below hpb.bl).1.lt
    obtain ⟨p0, p1, p2, p3, p4, p5⟩ := hpb.cells
    have hPl := hpb.lt
    clear hpb
    have HRc : Hid (Row wc 3 1 (.slice V5 cells.length c5) cells.length (ivals cells) ∧ ∀ b ∈ ownB (.slice V5 cells.length c5), b ≠ C) := ⟨HRs.out.1.keep fun b hb => HPB.out.bl.block b (HRs.out.1.lt b hb), fun b hb e => by have := HRs.out.1.lt b hb; have := HPB.out.lC; omega⟩
    go_wp2_with fail
    go_loud (refine up_copy_ints Try.underlying23 (by rw [hi0]; simp [hi2]) HPB.out.rC HRc.out.1 ?_)
    intro w7 hr7 ho7
    have HP7 : Hid (PB W6 P C F a b cells.length M (ivals cells) (facesL (O.take 0) M) w7) := by
      rw [List.take_zero, facesL_nil]
      exact HPB.out.copy hr7 ho7
    clear hr7 ho7 HRc HPB x0 x1 x2 x3 x4 hx0 p0 p1 p2 p3 p4 p5 hPl
    obtain ⟨x0, x1, x2, x3, x4⟩ := (H6.out.below HP7.out.bl).c
    have hx0 := (H6.out.below HP7.out.bl).1.lt
    go_wp2_with fail
    clear x0 x1 x2 x3 x4 hx0
    go_loopw [9, 10, 11, 46] (fun o _ _ i wr => ∃ k : Nat, o = .int .i64 k ∧ i = .int .i64 k ∧ k ≤ O.length ∧ Hid (PB W6 P C F a b cells.length M (ivals cells) (facesL (O.take k) M) wr)) (fun _ _ _ i _ => T.length - (intOf i).toNat)
    case atStart => exact ⟨0, rfl, rfl, by omega, HP7⟩
    case round =>
      obtain ⟨k, rfl, rfl, hk, HR⟩ := hrel
      clear HP7
      by_cases hlt : k < O.length
      · have hlt2 : k < T.length := by have := HTl.out; omega
        obtain ⟨bw, ow, rfl, hbw, e0, e1, e2, e3⟩ := (H6.out.below HR.out.bl).2.2 k hlt2
        have hTk : T.getD k default = O.getD k default := by rw [HT.out]; simp [List.getD_eq_getElem?_getD, List.getElem?_append_left hlt]
        obtain ⟨s, q, hs, hOk, hq, hst⟩ := HO.out k hlt
        rw [hTk, hOk] at e0 e1 e2 e3
        obtain ⟨q0, q1⟩ := q
        simp only at e0 e1 e2 e3
        have HST := Lib.hid hst
        obtain ⟨⟨s0, s1⟩, ⟨u0, s2⟩, ⟨u1, s3⟩⟩ := HR.out.at_ hs
        obtain ⟨p0, p1, p2, p3, p4, p5⟩ := HR.out.cells
        have hPl := HR.out.lt
        have hFl : F < wr.heap.size := HR.out.rF.lt F (by simp [ownB])
        have HQ := Lib.hid hq
        clear hst hq hTk hOk
        go_upto_region 13 with fail
        refine absW (fun X => PB W6 P C F a b cells.length M (ivals cells) ((facesL (O.take k) M).set s (q0, q1)) X ∧ wr.heap.size < X.heap.size ∧ X.cell? ⟨wr.heap.size, 0, none⟩ = some (.int .i64 (-1)) ∧ X.cell? ⟨wr.heap.size, 1, none⟩ = some (.int .i64 s) ∧ X.cell? ⟨wr.heap.size, 2, none⟩ = some (.int .i64 q0) ∧ X.cell? ⟨wr.heap.size, 3, none⟩ = some (.int .i64 q1))
          ⟨by first | exact (HR.out.setF s (q0, q1)).below (alB _ _) | exact (HR.out.below (alB _ _)).setF s (q0, q1), by simp, by go_simp, by go_simp, by go_simp, by go_simp⟩ ?_
        rintro X ⟨hpx, hzx, c0, c1, c2, c3⟩
        have HPX := Lib.hid hpx
        clear hpx s0 s1 s2 s3 p0 p1 p2 p3 p4 p5 hPl hFl e0 e1 e2 e3
        by_cases hq0 : q0 < 0
        · obtain ⟨j, hj, hqj, hjs⟩ := HQ.out hq0
          simp only [Prod.mk.injEq] at hqj
          obtain ⟨rfl, rfl⟩ := hqj
          obtain ⟨⟨s0, s1⟩, ⟨u0, s2⟩, ⟨u1, s3⟩⟩ := HPX.out.at_ hj
          obtain ⟨p0, p1, p2, p3, p4, p5⟩ := HPX.out.cells
          have hPl := HPX.out.lt
          go_wp2
          go_roundw
          case rel => exact ⟨k + 1, by go_num, by go_num, by omega, by
            have h9 := HPX.out.setF j (-1, (s : Int))
            have e9 : facesL (O.take (k + 1)) M = ((facesL (O.take k) M).set s (-1, (j : Int))).set j (-1, (s : Int)) := by rw [HST.out]; simp [stepF]
            rw [e9]; exact h9⟩
          case measure => simp [intOf]; omega
        · go_wp2
          go_roundw
          case rel => exact ⟨k + 1, by go_num, by go_num, by omega, by
            have e9 : facesL (O.take (k + 1)) M = (facesL (O.take k) M).set s (q0, q1) := by rw [HST.out]; simp [stepF, hq0]
            rw [e9]; exact HPX⟩
          case measure => simp [intOf]; omega
      · have hkO : k = O.length := by omega
        have HF : Hid (facesL (O.take k) M = facesL O M) := by show _ = _; rw [hkO, List.take_length]
        rw [HF.out] at HR
        clear HF
        have hIk : I.length = T.length - k := by have := HTl.out; omega
        have HkO := Lib.hid hkO
        have HIk := Lib.hid hIk
        have hb6r := HR.out.bl
        have HRw : Hid (Row wr 90 4 (.slice V6 T.length c6) T.length (wrvals T)) := HRs.out.2.1.keep fun b hb => hb6r.block b (HRs.out.2.1.lt b hb)
        obtain ⟨x0, x1, x2, x3, x4⟩ := (H6.out.below hb6r).c
        have hx0 := (H6.out.below hb6r).1.lt
        have HZr := Lib.hid (HZ6.out.below hb6r)
        obtain ⟨p0, p1, p2, p3, p4, p5⟩ := HR.out.cells
        obtain ⟨r0, r1, r2, r3, r4, g0, g1, g2, g3, g4⟩ := HZr.out.all
        have hPl := HR.out.lt
        have hrl := HZr.out.lt
        have hnp : (P = w.heap.size + 1) = False := by have := HR.out.lP; have := HZ6.out.lt; simp; omega
        have hnp2 : (w.heap.size + 1 = P) = False := by have := HR.out.lP; have := HZ6.out.lt; simp; omega
        have HBr : Hid (Below w.heap.size w wr) := HB6.out.trans (hb6r.mono HB6.out.size)
        clear hb6r
        have hTc : T.length ≤ c6 := by obtain ⟨_, _, h, hh⟩ := HRw.out.len; simp only [Value.slice.injEq, true_and] at h; omega
        have hkT : k ≤ T.length := by have := HTl.out; omega
        clear hkO hIk hk hlt
        rcases HRw.out.2 with ⟨hv, hv0⟩ | ⟨g, gc, cur, hv, _⟩
        · simp only [Value.slice.injEq] at hv
          obtain ⟨rfl, hv1, rfl⟩ := hv
          have hTn : T = [] := List.eq_nil_of_length_eq_zero hv0
          have hOI0 := HT.out
          rw [hTn] at hOI0
          obtain ⟨hO0, hI0⟩ := List.append_eq_nil_iff.1 hOI0.symm
          have hk0 : k = 0 := by rw [HkO.out, hO0]; rfl
          subst hk0 hTn
          simp only [List.length_nil] at x4
          clear hv0 hv1 hOI0
          have HI0 := Lib.hid hI0
          have HOO := Lib.hid hO0
          clear hI0 hO0
          go_wp2
          refine bodyPost_ret (v := .tuple #[planV a b (some ⟨C, 0, none⟩) cells.length cells.length (some ⟨F, 0, none⟩) M M none 0 0, .int .i64 0]) (by simp only [results, Try.results24]; go_simp) rfl ⟨_, _, _, _, none, 0, by rw [HI0.out]; rfl, ?_, by have := HBr.out; have hz9 := this.size; have hl9 := HR.out.lP; have hz8 := HB6.out.size; (repeat (first | (with_reducible exact Below.refl _ _) | (with_reducible assumption) | (with_reducible refine Below.drew ?_) | (with_reducible refine Below.alloc ?_ (by (try simp); (try omega)) _) | (with_reducible refine Below.setCell ?_ (by (try simp); (try omega)) _)))⟩
          have hC := HR.out.lC
          have hF := HR.out.lF
          have hZ := HZ6.out.lt
          intro Y hYY
          have hz8 := HB6.out.size
          have hCl := HR.out.rC.lt C (by simp [ownB])
          have hFl := HR.out.rF.lt F (by simp [ownB])
          refine ⟨Row.ints (cap := cells.length) (HR.out.rC.keep fun b hb => ?_), ?_, by rw [HI0.out]; exact WrRd.nil2 _ _⟩
          · simp [ownB] at hb
            subst hb
            exact (hYY _ (by omega) (by simpa using hCl)).trans (fin_keep wr HR.out.pc.symm (by omega) _ _ _ _ _ _)
          · refine Row.pts (cap := M) ?_
            rw [facesL_len]
            refine HR.out.rF.keep fun b hb => ?_
            simp [ownB] at hb
            subst hb
            exact (hYY _ (by omega) (by simpa using hFl)).trans (fin_keep wr HR.out.pf.symm (by omega) _ _ _ _ _ _)
        · simp only [Value.slice.injEq, true_and] at hv
          obtain ⟨rfl, rfl⟩ := hv
          have hg2 := HRs.out.2.2 g (by simp [ownB])
          have hg3 := HRs.out.2.1.lt g (by simp [ownB])
          have HG := Lib.hid (And.intro hg2 hg3)
          clear hg2 hg3
          by_cases hI : I.length = 0
          · have hTk : ¬ k < T.length := by have := HTl.out; have := HkO.out; omega
            go_wp2
            refine bodyPost_ret (v := .tuple #[planV a b (some ⟨C, 0, none⟩) cells.length cells.length (some ⟨F, 0, none⟩) M M (some ⟨g, 0, none⟩) (T.length - k) (T.length - k), .int .i64 0]) (by simp only [results, Try.results24]; go_simp) rfl ⟨_, _, _, _, some ⟨g, 0, none⟩, T.length - k, by rw [HIk.out], ?_, by have := HBr.out; have hz9 := this.size; have hl9 := HR.out.lP; have hz8 := HB6.out.size; (repeat (first | (with_reducible exact Below.refl _ _) | (with_reducible assumption) | (with_reducible refine Below.drew ?_) | (with_reducible refine Below.alloc ?_ (by (try simp); (try omega)) _) | (with_reducible refine Below.setCell ?_ (by (try simp); (try omega)) _)))⟩
            intro Y hYY
            have hz8 := HB6.out.size
            have hg0 := HG.out.1
            exact fin_lists2 HR.out HZ6.out.lt HRw.out HG.out.2 (by have := HG.out.1; omega) HT.out (.inr hI) (lo := w.heap.size) (by omega) (by omega) (fun b h0 h1 h2 h3 => (hYY b h0 (by simpa using h3)).trans (fin_keep wr h1 h2 _ _ _ _ _ _))
          · have hTk : k < T.length := by have := HTl.out; have := HkO.out; omega
            obtain ⟨bw, ow, hba, hbw, e0, e1, e2, e3⟩ := (H6.out.below HR.out.bl).2.2 k hTk
            simp only [Option.some.injEq, Addr.mk.injEq, and_true] at hba
            obtain ⟨rfl, rfl⟩ := hba
            have hi0 := HI.out 0 (by omega)
            have hTk2 : T.getD k default = I.getD 0 default := by rw [HT.out, HkO.out]; simp [List.getD_eq_getElem?_getD, List.getElem?_append_right]
            rw [← hTk2] at hi0
            generalize T.getD k default = x at e0 e1 e2 e3 hi0
            obtain ⟨⟨y0, y1⟩, y2, y3⟩ := x
            simp only [Nat.zero_add] at e0 e1 e2 e3 hi0
            go_wp2
            refine bodyPost_ret (v := .tuple #[planV a b (some ⟨C, 0, none⟩) cells.length cells.length (some ⟨F, 0, none⟩) M M (some ⟨g, k * 4, none⟩) (T.length - k) (T.length - k), .int .i64 0]) (by simp only [results, Try.results24]; go_simp) rfl ⟨_, _, _, _, some ⟨g, k * 4, none⟩, T.length - k, by rw [HIk.out], ?_, by have := HBr.out; have hz9 := this.size; have hl9 := HR.out.lP; have hz8 := HB6.out.size; (repeat (first | (with_reducible exact Below.refl _ _) | (with_reducible assumption) | (with_reducible refine Below.drew ?_) | (with_reducible refine Below.alloc ?_ (by (try simp); (try omega)) _) | (with_reducible refine Below.setCell ?_ (by (try simp); (try omega)) _)))⟩
            intro Y hYY
            have hz8 := HB6.out.size
            have hg0 := HG.out.1
            exact fin_lists2 HR.out HZ6.out.lt HRw.out HG.out.2 (by have := HG.out.1; omega) HT.out (.inl (by rw [HkO.out])) (lo := w.heap.size) (by omega) (by omega) (fun b h0 h1 h2 h3 => (hYY b h0 (by simp; omega)).trans ((Below.heap_alloc _ _ b (by simpa using h3)).trans (fin_keep wr h1 h2 _ _ _ _ _ _)))
end
end Go.Proofs.Ytcebejcdfdahjaa
