/-
  skeinlaw11: sig, one, lives.
-/
import Derived.Test.YtogbanlfihabpaaPaS
import Derived.Test.YtogbanlfihabpaaNetIs
import Derived.Test.YtogbanlfihabpaaAlikeMem
import Derived.Deep.Cut
namespace Go.Proofs.Ytogbanlfihabpaa
open Go.RowKit
attribute [local go_sem] cell_set
set_option maxRecDepth 100000
set_option linter.unusedVariables false
def L11 : List (ByteArray × Int) := [(⟨#[90]⟩, 0), (⟨#[83]⟩, 1)]
def C11 : List Int := [0, 1]
def W11 : List (Pt × Pt) := [((1, 1), (0, 0)), ((1, 0), (-1, 0))]
theorem net11 : (netChk (pnL L11) L11.length (chk L11) C11 ((1 : Nat) : Int) W11).1 = 0 := by decide +kernel
theorem is11 : isPt (pnL L11) C11 1 (-1, 0) = true := by decide +kernel
theorem no11 : isPt (pnL L11) C11 1 (2, 0) = false := by decide +kernel
theorem wlk11 : wlk (pnL L11) C11 (lkM W11) (-1, 0) = [1, 0] := by decide +kernel
theorem part11 : partOf (pnL L11) C11 1 (lkM W11) (-1, 0) = ([0, 1], [0]) := by decide +kernel
theorem parts11 : partsK (pnL L11) C11 1 (lkM W11) [] (frsF 1 ++ clsF 0 C11.length) = [([0, 1], [0])] := by
  have e : frsF 1 ++ clsF 0 C11.length = [(-1, 0), (0, 0), (1, 0)] := by decide +kernel
  rw [e]
  show stepP _ _ _ _ (stepP _ _ _ _ (stepP _ _ _ _ [] (-1, 0)) (0, 0)) (1, 0) = _
  have h0 : ¬ inPa [] (-1, 0) := by rw [inPa_bel]; rintro ⟨q, hq, _⟩; cases hq
  rw [stepP_new h0, part11, List.nil_append]
  have hm : (([0, 1], [0]) : Pa) ∈ [(([0, 1], [0]) : Pa)] := List.mem_singleton.2 rfl
  have h1 : inPa [(([0, 1], [0]) : Pa)] (0, 0) := inPa_bel.2 ⟨([0, 1], [0]), hm, (bel_cell (by decide)).2 (by decide)⟩
  have h2 : inPa [(([0, 1], [0]) : Pa)] (1, 0) := inPa_bel.2 ⟨([0, 1], [0]), hm, (bel_cell (by decide)).2 (by decide)⟩
  rw [stepP_in h1, stepP_in h2]
theorem ag11 {w : World} {b : Nat} {c : Nat × Nat} (h : w.heap[b]? = some (.cells #[.string ⟨#[90]⟩, .int .i64 0, .string ⟨#[83]⟩, .int .i64 1] 74 c)) : AgRd w (some ⟨b, 0, none⟩) L11 := fun i hi => by
  have hi2 : i = 0 ∨ i = 1 := by simp [L11] at hi; omega
  refine ⟨b, 0, rfl, heap_lt h, ?_, ?_⟩ <;> rcases hi2 with rfl | rfl <;> simp [World.cell?, h, L11, agN, agA]
theorem ints2 {w : World} {b : Nat} {x y : Int} {c : Nat × Nat} (h : w.heap[b]? = some (.cells #[.int .i64 x, .int .i64 y] 3 c)) : IntsRd w (some ⟨b, 0, none⟩) [x, y] := fun i hi => by
  have hi2 : i = 0 ∨ i = 1 := by simp at hi; omega
  refine ⟨b, 0, rfl, heap_lt h, ?_⟩
  rcases hi2 with rfl | rfl <;> simp [World.cell?, h]
theorem ints1 {w : World} {b : Nat} {x : Int} {c : Nat × Nat} (h : w.heap[b]? = some (.cells #[.int .i64 x] 3 c)) : IntsRd w (some ⟨b, 0, none⟩) [x] := fun i hi => by
  have hi2 : i = 0 := by simp at hi; omega
  refine ⟨b, 0, rfl, heap_lt h, ?_⟩
  subst hi2; simp [World.cell?, h]
theorem wr11 {w : World} {b : Nat} {c : Nat × Nat} (h : w.heap[b]? = some (.cells #[.int .i64 1, .int .i64 1, .int .i64 0, .int .i64 0, .int .i64 1, .int .i64 0, .int .i64 (-1), .int .i64 0] 43 c)) : WrRd w (some ⟨b, 0, none⟩) W11 := fun i hi => by
  have hi2 : i = 0 ∨ i = 1 := by simp [W11] at hi; omega
  refine ⟨b, 0, rfl, heap_lt h, ?_, ?_, ?_, ?_⟩ <;> rcases hi2 with rfl | rfl <;> simp [World.cell?, h, W11]
section
variable (w : World)
theorem sig11 : Calls Try.prog 18 #[] w fun e w' => ∃ V, e = .returned (.slice V 2 2) ∧ AgRd w' V L11 ∧ Below w.heap.size w w' := by
  go_enter Try.func18, Try.ntmps18
  go_wp2
  go_ret
  exact ⟨_, rfl, ag11 (heap_alloc_new w _), by (repeat (first | exact Below.refl _ _ | (with_reducible refine Below.drew ?_) | (with_reducible refine Below.alloc ?_ (by (try simp); (try omega)) _) | (with_reducible refine Below.setCell ?_ (by (try simp); (try omega)) _) | (with_reducible refine Below.trans ?_ (Below.mono (by assumption) (by (try simp); (try omega))))))⟩
theorem one11 : Calls Try.prog 19 #[] w fun e w' => ∃ V1 V2, e = .returned (.agg #[.slice V1 2 2, .int .i64 1, .slice V2 2 2]) ∧ IntsRd w' V1 C11 ∧ WrRd w' V2 W11 ∧ Below w.heap.size w w' := by
  go_enter Try.func19, Try.ntmps19
  go_wp2_with fail
  obtain ⟨h1, h2, h3⟩ := heapW3 w (.cells #[.slice (some ⟨w.heap.size + 1, 0, none⟩) 2 2, .int .i64 1, .slice (some ⟨w.heap.size + 1 + 1, 0, none⟩) 2 2] 26) (.cells #[.int .i64 0, .int .i64 1] 3) (.cells #[.int .i64 1, .int .i64 1, .int .i64 0, .int .i64 0, .int .i64 1, .int .i64 0, .int .i64 (-1), .int .i64 0] 43)
  refine bodyPost_ret (v := .agg #[.slice (some ⟨w.heap.size + 1, 0, none⟩) 2 2, .int .i64 1, .slice (some ⟨w.heap.size + 1 + 1, 0, none⟩) 2 2]) (by simp only [results, Try.results19]; go_simp) rfl ?_
  exact ⟨_, _, rfl, ints2 h2, wr11 h3, by (repeat (first | exact Below.refl _ _ | (with_reducible refine Below.drew ?_) | (with_reducible refine Below.alloc ?_ (by (try simp); (try omega)) _) | (with_reducible refine Below.setCell ?_ (by (try simp); (try omega)) _) | (with_reducible refine Below.trans ?_ (Below.mono (by assumption) (by (try simp); (try omega))))))⟩
theorem alA (W : World) (o : Obj) : Below W.heap.size W (W.alloc o) := (Below.refl _ _).alloc (Nat.le_refl _) _
theorem al_then {W X : World} {o : Obj} (h : Below (W.alloc o).heap.size (W.alloc o) X) : Below W.heap.size W X := (alA W o).trans (h.mono (by simp))
theorem eq_l2 {W : World} {A : Option Addr} {c : Nat} {x y : Int} (h : IntsRd W A [x, y]) :
    Calls Try.prog 20 #[.slice A 2 c, .slice (some ⟨W.heap.size, 0, none⟩) 2 2] (W.alloc (.cells #[.int .i64 x, .int .i64 y] 3)) fun e w' => e = .returned (.bool true) ∧ Below W.heap.size W w' := by
  refine (eq_ints A _ 2 2 c 2 _ _ _ rfl rfl (by simp) (by simp) (Lib.hid (h.below (alA _ _))) (Lib.hid (ints2 (heap_alloc_new _ _)))).mono ?_
  rintro e w1 ⟨rfl, hb⟩
  exact ⟨by simp, al_then hb⟩
theorem eq_l1 {W : World} {A : Option Addr} {c : Nat} {x : Int} (h : IntsRd W A [x]) :
    Calls Try.prog 20 #[.slice A 1 c, .slice (some ⟨W.heap.size, 0, none⟩) 1 1] (W.alloc (.cells #[.int .i64 x] 3)) fun e w' => e = .returned (.bool true) ∧ Below W.heap.size W w' := by
  refine (eq_ints A _ 1 1 c 1 _ _ _ rfl rfl (by simp) (by simp) (Lib.hid (h.below (alA _ _))) (Lib.hid (ints1 (heap_alloc_new _ _)))).mono ?_
  rintro e w1 ⟨rfl, hb⟩
  exact ⟨by simp, al_then hb⟩
structure In11 (X : World) (V V1 V2 : Option Addr) : Prop where
  ag : AgRd X V L11
  cs : IntsRd X V1 C11
  ws : WrRd X V2 W11
variable {X : World} {V V1 V2 : Option Addr}
theorem from11 (h : Hid (In11 X V V1 V2)) : Calls Try.prog 12 #[.slice V 2 2, .agg #[.slice V1 2 2, .int .i64 1, .slice V2 2 2], .agg #[.int .i64 (-1), .int .i64 0]] X fun e w' => ∃ U c, e = .returned (.tuple #[.slice U 2 c, .int .i64 0]) ∧ IntsRd w' U [1, 0] ∧ Below X.heap.size X w' := by
  refine (wfrom_ok V 2 2 L11 V1 V2 2 2 C11 W11 (-1) 0 X 1 rfl (by decide) (Lib.hid h.out.ag) (by decide) (Lib.hid h.out.cs) (Lib.hid h.out.ws) (by decide) (by decide) net11 is11).mono ?_
  rintro e w' ⟨U, c, rfl, hf⟩
  rw [wlk11] at hf ⊢
  exact ⟨U, c, rfl, hf.1.ints, hf.2.2⟩
theorem port11 (h : Hid (In11 X V V1 V2)) : Calls Try.prog 12 #[.slice V 2 2, .agg #[.slice V1 2 2, .int .i64 1, .slice V2 2 2], .agg #[.int .i64 2, .int .i64 0]] X fun e w' => e = .returned (.tuple #[.slice none 0 0, .int .i64 30]) ∧ Below X.heap.size X w' :=
  wfrom_port V 2 2 L11 V1 V2 2 2 C11 W11 2 0 X 1 rfl (by decide) (Lib.hid h.out.ag) (by decide) (Lib.hid h.out.cs) (Lib.hid h.out.ws) (by decide) (by decide) net11 no11
theorem wparts11 (h : Hid (In11 X V V1 V2)) : Calls Try.prog 7 #[.slice V 2 2, .agg #[.slice V1 2 2, .int .i64 1, .slice V2 2 2]] X fun e w' => ∃ g c Va ca Vb cb, e = .returned (.tuple #[.slice (some ⟨g, 0, none⟩) 1 c, .int .i64 0]) ∧ w'.cell? ⟨g, 0, none⟩ = some (.slice Va 2 ca) ∧ w'.cell? ⟨g, 1, none⟩ = some (.slice Vb 1 cb) ∧ g < w'.heap.size ∧ IntsRd w' Va [0, 1] ∧ IntsRd w' Vb [0] ∧ Below X.heap.size X w' := by
  refine (parts_ok V 2 2 L11 V1 V2 2 2 C11 W11 X 1 rfl (by decide) (Lib.hid h.out.ag) (by decide) (Lib.hid h.out.cs) (Lib.hid h.out.ws) (by decide) (by decide) net11).mono ?_
  rintro e w' ⟨w1, P, bl, bw, bo, bf, go, gf, ofs, frs, v, qs, rfl, h1, h2, h3⟩
  rw [parts11] at h3
  obtain ⟨q, rfl⟩ : ∃ q, qs = [q] := by
    rcases qs with _ | ⟨q, _ | ⟨q', r⟩⟩
    · simp at h3
    · exact ⟨q, rfl⟩
    · simp at h3
  have hp := h2.pa h1
  have lr := hp.lr
  obtain ⟨ra, rb⟩ := hp.q1 q (by simp)
  obtain ⟨a, b, xs, ys⟩ := q
  simp only [List.map_cons, List.map_nil, List.cons.injEq, Prod.mk.injEq, and_true] at h3
  obtain ⟨rfl, rfl⟩ := h3
  dsimp only at ra rb
  obtain ⟨Va, ca, rfl, _⟩ := ra.len
  obtain ⟨Vb, cb, rfl, _⟩ := rb.len
  obtain ⟨g, c, cur, rfl, hh, _⟩ := lr.some_ (by simp)
  refine ⟨g, c, Va, ca, Vb, cb, rfl, ?_, ?_, heap_lt hh, ra.ints, rb.ints, hp.bel⟩
  · rw [lr.cellAt 0 (by simp)]; rfl
  · rw [lr.cellAt 1 (by simp)]; rfl
end
set_option maxHeartbeats 4000000 in
theorem lives11 (w : World) : Calls Try.prog 6 #[] w fun e w' => e = .returned (.bool true) ∧ Below w.heap.size w w' := by
  go_enter Try.func6, Try.ntmps6
  have HB := Lib.hid (Below.refl w.heap.size w)
  go_upto_region 2 with (first
    | (go_at_call 18
       refine (sig11 _).mono ?_
       rintro e w1 ⟨V, rfl, ha, hb⟩
       have HG := Lib.hid ha
       have HB := Lib.hid (HB.out.trans (hb.mono HB.out.size))
       clear ha hb)
    | (go_at_call 19
       refine (one11 _).mono ?_
       rintro e w2 ⟨V1, V2, rfl, h1, h2, hb⟩
       have HI := Lib.hid (In11.mk (HG.out.below hb) h1 h2)
       have HB := Lib.hid (HB.out.trans (hb.mono HB.out.size))
       clear h1 h2 hb HG)
    | (go_at_call 12
       refine (from11 HI).mono ?_
       rintro e w3 ⟨U, c, rfl, hu, hb⟩
       have HU := Lib.hid hu
       have HB := Lib.hid (HB.out.trans (hb.mono HB.out.size))
       clear hu hb HI))
  go_upto_region 3 with (first
    | (go_at_call 18
       refine (sig11 _).mono ?_
       rintro e w4 ⟨V, rfl, ha, hb⟩
       have HG := Lib.hid ha
       have HU := Lib.hid (HU.out.below hb)
       have HB := Lib.hid (HB.out.trans (hb.mono HB.out.size))
       clear ha hb)
    | (go_at_call 19
       refine (one11 _).mono ?_
       rintro e w5 ⟨V1, V2, rfl, h1, h2, hb⟩
       have HI := Lib.hid (In11.mk (HG.out.below hb) h1 h2)
       have HU := Lib.hid (HU.out.below hb)
       have HB := Lib.hid (HB.out.trans (hb.mono HB.out.size))
       clear h1 h2 hb HG)
    | (go_at_call 7
       refine (wparts11 HI).mono ?_
       rintro e w6 ⟨g, cg, Va, ca, Vb, cb, rfl, g0, g1, gl, ga, gb, hb⟩
       have HP : Hid (∀ Z, Below w6.heap.size w6 Z → Z.cell? ⟨g, 0, none⟩ = some (.slice Va 2 ca) ∧ Z.cell? ⟨g, 1, none⟩ = some (.slice Vb 1 cb) ∧ g < Z.heap.size ∧ IntsRd Z Va [0, 1] ∧ IntsRd Z Vb [0]) := fun Z hz => ⟨(hz.cell (p := ⟨g, 0, none⟩) gl).trans g0, (hz.cell (p := ⟨g, 1, none⟩) gl).trans g1, Nat.lt_of_lt_of_le gl hz.size, ga.below hz, gb.below hz⟩
       have HU := Lib.hid (HU.out.below hb)
       have H6 := Lib.hid (Below.refl w6.heap.size w6)
       have HB := Lib.hid (HB.out.trans (hb.mono HB.out.size))
       clear hb HI g0 g1 gl ga gb))
  go_upto_region 4 with (first
    | (go_at_call 18
       refine (sig11 _).mono ?_
       rintro e w7 ⟨V, rfl, ha, hb⟩
       have HG := Lib.hid ha
       have HU := Lib.hid (HU.out.below hb)
       have H6 := Lib.hid (H6.out.trans (hb.mono H6.out.size))
       have HB := Lib.hid (HB.out.trans (hb.mono HB.out.size))
       clear ha hb)
    | (go_at_call 19
       refine (one11 _).mono ?_
       rintro e w8 ⟨V1, V2, rfl, h1, h2, hb⟩
       have HI := Lib.hid (In11.mk (HG.out.below hb) h1 h2)
       have HU := Lib.hid (HU.out.below hb)
       have H6 := Lib.hid (H6.out.trans (hb.mono H6.out.size))
       have HB := Lib.hid (HB.out.trans (hb.mono HB.out.size))
       clear h1 h2 hb HG)
    | (go_at_call 12
       refine (port11 HI).mono ?_
       rintro e w9 ⟨rfl, hb⟩
       have HU := Lib.hid (HU.out.below hb)
       have H6 := Lib.hid (H6.out.trans (hb.mono H6.out.size))
       have HB := Lib.hid (HB.out.trans (hb.mono HB.out.size))
       clear hb HI))
  go_wp2_with fail
  refine (eq_l2 HU.out).mono ?_
  rintro e w10 ⟨rfl, hb⟩
  have H6 := Lib.hid (H6.out.trans (hb.mono H6.out.size))
  have HB := Lib.hid (HB.out.trans (hb.mono HB.out.size))
  obtain ⟨g0, g1, gl, ga, gb⟩ := HP.out _ H6.out
  have GA := Lib.hid ga
  clear hb ga gb
  simp only []
  go_wp2_with fail
  refine (eq_l2 GA.out).mono ?_
  rintro e w11 ⟨rfl, hb⟩
  have H6 := Lib.hid (H6.out.trans (hb.mono H6.out.size))
  have HB := Lib.hid (HB.out.trans (hb.mono HB.out.size))
  clear g0 g1 gl
  obtain ⟨g0, g1, gl, ga, gb⟩ := HP.out _ H6.out
  have GB := Lib.hid gb
  clear hb ga gb
  simp only []
  go_wp2_with fail
  refine (eq_l1 GB.out).mono ?_
  rintro e w12 ⟨rfl, hb⟩
  have HB := Lib.hid (HB.out.trans (hb.mono HB.out.size))
  clear hb g0 g1 gl
  simp only []
  go_wp2_with fail
  go_ret
  exact ⟨rfl, HB.out⟩
end Go.Proofs.Ytogbanlfihabpaa
