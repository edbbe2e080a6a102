/-
  The statement WalkTells: its six calls.
-/
import Derived.Test.YtkonfogebepccaaGreatDoorWtB
import Derived.Test.YtkonfogebepccaaGreatDoorEqN
import Derived.Test.YtkonfogebepccaaGreatDoorRWalk
import Derived.Deep.Cut
import Derived.Test.YtkonfogebepccaaGreatDoorWtB
import Derived.Test.YtkonfogebepccaaGreatDoorWideA
/-
  skeinlaw11: sig, one, lives.
-/
namespace Go.Proofs.YtkonfogebepccaaGreatDoor
open Go.RowKit
attribute [local go_sem] cell_set
set_option maxRecDepth 100000
set_option linter.unusedVariables false
def L11 : List (ByteArray × Int) := [(⟨#[90]⟩, 0), (⟨#[83]⟩, 1)]
def C11 : List Int := [0, 1]
def W11 : List (Pt × Pt) := [((1, 1), (0, 0)), ((1, 0), (-1, 0))]
theorem net11 : (netChk (pnL L11) L11.length (chk L11) C11 ((1 : Nat) : Int) W11).1 = 0 := by decide +kernel
theorem is11 : isPt (pnL L11) C11 1 (-1, 0) = true := by decide +kernel
theorem no11 : isPt (pnL L11) C11 1 (2, 0) = false := by decide +kernel
theorem wlk11 : wlk (pnL L11) C11 (lkM W11) (-1, 0) = [1, 0] := by decide +kernel
theorem part11 : partOf (pnL L11) C11 1 (lkM W11) (-1, 0) = ([0, 1], [0]) := by decide +kernel
theorem parts11 : partsK (pnL L11) C11 1 (lkM W11) [] (frsF 1 ++ clsF 0 C11.length) = [([0, 1], [0])] := by
  have e : frsF 1 ++ clsF 0 C11.length = [(-1, 0), (0, 0), (1, 0)] := by decide +kernel
  rw [e]
  show stepP _ _ _ _ (stepP _ _ _ _ (stepP _ _ _ _ [] (-1, 0)) (0, 0)) (1, 0) = _
  have h0 : ¬ inPa [] (-1, 0) := by rw [inPa_bel]; rintro ⟨q, hq, _⟩; cases hq
  rw [stepP_new h0, part11, List.nil_append]
  have hm : (([0, 1], [0]) : Pa) ∈ [(([0, 1], [0]) : Pa)] := List.mem_singleton.2 rfl
  have h1 : inPa [(([0, 1], [0]) : Pa)] (0, 0) := inPa_bel.2 ⟨([0, 1], [0]), hm, (bel_cell (by decide)).2 (by decide)⟩
  have h2 : inPa [(([0, 1], [0]) : Pa)] (1, 0) := inPa_bel.2 ⟨([0, 1], [0]), hm, (bel_cell (by decide)).2 (by decide)⟩
  rw [stepP_in h1, stepP_in h2]
theorem ag11 {w : World} {b : Nat} {c : Nat × Nat} (h : w.heap[b]? = some (.cells #[.string ⟨#[90]⟩, .int .i64 0, .string ⟨#[83]⟩, .int .i64 1] 72 c)) : AgRd w (some ⟨b, 0, none⟩) L11 := fun i hi => by
  have hi2 : i = 0 ∨ i = 1 := by simp [L11] at hi; omega
  refine ⟨b, 0, rfl, heap_lt h, ?_, ?_⟩ <;> rcases hi2 with rfl | rfl <;> simp [World.cell?, h, L11, agN, agA]
theorem ints2 {w : World} {b : Nat} {x y : Int} {c : Nat × Nat} (h : w.heap[b]? = some (.cells #[.int .i64 x, .int .i64 y] 3 c)) : IntsRd w (some ⟨b, 0, none⟩) [x, y] := fun i hi => by
  have hi2 : i = 0 ∨ i = 1 := by simp at hi; omega
  refine ⟨b, 0, rfl, heap_lt h, ?_⟩
  rcases hi2 with rfl | rfl <;> simp [World.cell?, h]
theorem ints1 {w : World} {b : Nat} {x : Int} {c : Nat × Nat} (h : w.heap[b]? = some (.cells #[.int .i64 x] 3 c)) : IntsRd w (some ⟨b, 0, none⟩) [x] := fun i hi => by
  have hi2 : i = 0 := by simp at hi; omega
  refine ⟨b, 0, rfl, heap_lt h, ?_⟩
  subst hi2; simp [World.cell?, h]
theorem wr11 {w : World} {b : Nat} {c : Nat × Nat} (h : w.heap[b]? = some (.cells #[.int .i64 1, .int .i64 1, .int .i64 0, .int .i64 0, .int .i64 1, .int .i64 0, .int .i64 (-1), .int .i64 0] 102 c)) : WrRd w (some ⟨b, 0, none⟩) W11 := fun i hi => by
  have hi2 : i = 0 ∨ i = 1 := by simp [W11] at hi; omega
  refine ⟨b, 0, rfl, heap_lt h, ?_, ?_, ?_, ?_⟩ <;> rcases hi2 with rfl | rfl <;> simp [World.cell?, h, W11]
section
variable (w : World)
theorem sig11 : Calls Tryz.prog 22 #[] w fun e w' => ∃ V, e = .returned (.slice V 2 2) ∧ AgRd w' V L11 ∧ Below w.heap.size w w' := by
  go_enter Tryz.func22, Tryz.ntmps22
  go_wp2
  go_ret
  exact ⟨_, rfl, ag11 (heap_alloc_new w _), by (repeat (first | exact Below.refl _ _ | (with_reducible refine Below.drew ?_) | (with_reducible refine Below.alloc ?_ (by (try simp); (try omega)) _) | (with_reducible refine Below.setCell ?_ (by (try simp); (try omega)) _) | (with_reducible refine Below.trans ?_ (Below.mono (by assumption) (by (try simp); (try omega))))))⟩
theorem one11 : Calls Tryz.prog 23 #[] w fun e w' => ∃ V1 V2, e = .returned (.agg #[.slice V1 2 2, .int .i64 1, .slice V2 2 2]) ∧ IntsRd w' V1 C11 ∧ WrRd w' V2 W11 ∧ Below w.heap.size w w' := by
  go_enter Tryz.func23, Tryz.ntmps23
  go_wp2_with fail
  obtain ⟨h1, h2, h3⟩ := heapW3 w (.cells #[.slice (some ⟨w.heap.size + 1, 0, none⟩) 2 2, .int .i64 1, .slice (some ⟨w.heap.size + 1 + 1, 0, none⟩) 2 2] 26) (.cells #[.int .i64 0, .int .i64 1] 3) (.cells #[.int .i64 1, .int .i64 1, .int .i64 0, .int .i64 0, .int .i64 1, .int .i64 0, .int .i64 (-1), .int .i64 0] 102)
  refine bodyPost_ret (v := .agg #[.slice (some ⟨w.heap.size + 1, 0, none⟩) 2 2, .int .i64 1, .slice (some ⟨w.heap.size + 1 + 1, 0, none⟩) 2 2]) (by simp only [results, Tryz.results23]; go_simp) rfl ?_
  exact ⟨_, _, rfl, ints2 h2, wr11 h3, by (repeat (first | exact Below.refl _ _ | (with_reducible refine Below.drew ?_) | (with_reducible refine Below.alloc ?_ (by (try simp); (try omega)) _) | (with_reducible refine Below.setCell ?_ (by (try simp); (try omega)) _) | (with_reducible refine Below.trans ?_ (Below.mono (by assumption) (by (try simp); (try omega))))))⟩
theorem alA (W : World) (o : Obj) : Below W.heap.size W (W.alloc o) := (Below.refl _ _).alloc (Nat.le_refl _) _
theorem al_then {W X : World} {o : Obj} (h : Below (W.alloc o).heap.size (W.alloc o) X) : Below W.heap.size W X := (alA W o).trans (h.mono (by simp))
theorem eq_l2 {W : World} {A : Option Addr} {c : Nat} {x y : Int} (h : IntsRd W A [x, y]) :
    Calls Tryz.prog 12 #[.slice A 2 c, .slice (some ⟨W.heap.size, 0, none⟩) 2 2] (W.alloc (.cells #[.int .i64 x, .int .i64 y] 3)) fun e w' => e = .returned (.bool true) ∧ Below W.heap.size W w' := by
  refine (eq_ints A _ 2 2 c 2 _ _ _ rfl rfl (by simp) (by simp) (Lib.hid (h.below (alA _ _))) (Lib.hid (ints2 (heap_alloc_new _ _)))).mono ?_
  rintro e w1 ⟨rfl, hb⟩
  exact ⟨by simp, al_then hb⟩
theorem eq_l1 {W : World} {A : Option Addr} {c : Nat} {x : Int} (h : IntsRd W A [x]) :
    Calls Tryz.prog 12 #[.slice A 1 c, .slice (some ⟨W.heap.size, 0, none⟩) 1 1] (W.alloc (.cells #[.int .i64 x] 3)) fun e w' => e = .returned (.bool true) ∧ Below W.heap.size W w' := by
  refine (eq_ints A _ 1 1 c 1 _ _ _ rfl rfl (by simp) (by simp) (Lib.hid (h.below (alA _ _))) (Lib.hid (ints1 (heap_alloc_new _ _)))).mono ?_
  rintro e w1 ⟨rfl, hb⟩
  exact ⟨by simp, al_then hb⟩
structure In11 (X : World) (V V1 V2 : Option Addr) : Prop where
  ag : AgRd X V L11
  cs : IntsRd X V1 C11
  ws : WrRd X V2 W11
variable {X : World} {V V1 V2 : Option Addr}
theorem from11 (h : Hid (In11 X V V1 V2)) : Calls Tryz.prog 8 #[.slice V 2 2, .agg #[.slice V1 2 2, .int .i64 1, .slice V2 2 2], .agg #[.int .i64 (-1), .int .i64 0]] X fun e w' => ∃ U c, e = .returned (.tuple #[.slice U 2 c, .int .i64 0]) ∧ IntsRd w' U [1, 0] ∧ Below X.heap.size X w' := by
  refine (wfrom_ok V 2 2 L11 V1 V2 2 2 C11 W11 (-1) 0 X 1 rfl (by decide) (Lib.hid h.out.ag) (by decide) (Lib.hid h.out.cs) (Lib.hid h.out.ws) (by decide) (by decide) net11 is11).mono ?_
  rintro e w' ⟨U, c, rfl, hf⟩
  rw [wlk11] at hf ⊢
  exact ⟨U, c, rfl, hf.1.ints, hf.2.2⟩
theorem port11 (h : Hid (In11 X V V1 V2)) : Calls Tryz.prog 8 #[.slice V 2 2, .agg #[.slice V1 2 2, .int .i64 1, .slice V2 2 2], .agg #[.int .i64 2, .int .i64 0]] X fun e w' => e = .returned (.tuple #[.slice none 0 0, .int .i64 30]) ∧ Below X.heap.size X w' :=
  wfrom_port V 2 2 L11 V1 V2 2 2 C11 W11 2 0 X 1 rfl (by decide) (Lib.hid h.out.ag) (by decide) (Lib.hid h.out.cs) (Lib.hid h.out.ws) (by decide) (by decide) net11 no11
theorem wparts11 (h : Hid (In11 X V V1 V2)) : Calls Tryz.prog 10 #[.slice V 2 2, .agg #[.slice V1 2 2, .int .i64 1, .slice V2 2 2]] X fun e w' => ∃ g c Va ca Vb cb, e = .returned (.tuple #[.slice (some ⟨g, 0, none⟩) 1 c, .int .i64 0]) ∧ w'.cell? ⟨g, 0, none⟩ = some (.slice Va 2 ca) ∧ w'.cell? ⟨g, 1, none⟩ = some (.slice Vb 1 cb) ∧ g < w'.heap.size ∧ IntsRd w' Va [0, 1] ∧ IntsRd w' Vb [0] ∧ Below X.heap.size X w' := by
  refine (parts_ok V 2 2 L11 V1 V2 2 2 C11 W11 X 1 rfl (by decide) (Lib.hid h.out.ag) (by decide) (Lib.hid h.out.cs) (Lib.hid h.out.ws) (by decide) (by decide) net11).mono ?_
  rintro e w' ⟨w1, P, bl, bw, bo, bf, go, gf, ofs, frs, v, qs, rfl, h1, h2, h3⟩
  rw [parts11] at h3
  obtain ⟨q, rfl⟩ : ∃ q, qs = [q] := by
    rcases qs with _ | ⟨q, _ | ⟨q', r⟩⟩
    · simp at h3
    · exact ⟨q, rfl⟩
    · simp at h3
  have hp := h2.pa h1
  have lr := hp.lr
  obtain ⟨ra, rb⟩ := hp.q1 q (by simp)
  obtain ⟨a, b, xs, ys⟩ := q
  simp only [List.map_cons, List.map_nil, List.cons.injEq, Prod.mk.injEq, and_true] at h3
  obtain ⟨rfl, rfl⟩ := h3
  dsimp only at ra rb
  obtain ⟨Va, ca, rfl, _⟩ := ra.len
  obtain ⟨Vb, cb, rfl, _⟩ := rb.len
  obtain ⟨g, c, cur, rfl, hh, _⟩ := lr.some_ (by simp)
  refine ⟨g, c, Va, ca, Vb, cb, rfl, ?_, ?_, heap_lt hh, ra.ints, rb.ints, hp.bel⟩
  · rw [lr.cellAt 0 (by simp)]; rfl
  · rw [lr.cellAt 1 (by simp)]; rfl
end
set_option maxHeartbeats 4000000 in
theorem lives11 (w : World) : Calls Tryz.prog 5 #[] w fun e w' => e = .returned (.bool true) ∧ Below w.heap.size w w' := by
  go_enter Tryz.func5, Tryz.ntmps5
  have HB := Lib.hid (Below.refl w.heap.size w)
  go_upto_region 2 with (first
    | (go_at_call 22
       refine (sig11 _).mono ?_
       rintro e w1 ⟨V, rfl, ha, hb⟩
       have HG := Lib.hid ha
       have HB := Lib.hid (HB.out.trans (hb.mono HB.out.size))
       clear ha hb)
    | (go_at_call 23
       refine (one11 _).mono ?_
       rintro e w2 ⟨V1, V2, rfl, h1, h2, hb⟩
       have HI := Lib.hid (In11.mk (HG.out.below hb) h1 h2)
       have HB := Lib.hid (HB.out.trans (hb.mono HB.out.size))
       clear h1 h2 hb HG)
    | (go_at_call 8
       refine (from11 HI).mono ?_
       rintro e w3 ⟨U, c, rfl, hu, hb⟩
       have HU := Lib.hid hu
       have HB := Lib.hid (HB.out.trans (hb.mono HB.out.size))
       clear hu hb HI))
  go_upto_region 3 with (first
    | (go_at_call 22
       refine (sig11 _).mono ?_
       rintro e w4 ⟨V, rfl, ha, hb⟩
       have HG := Lib.hid ha
       have HU := Lib.hid (HU.out.below hb)
       have HB := Lib.hid (HB.out.trans (hb.mono HB.out.size))
       clear ha hb)
    | (go_at_call 23
       refine (one11 _).mono ?_
       rintro e w5 ⟨V1, V2, rfl, h1, h2, hb⟩
       have HI := Lib.hid (In11.mk (HG.out.below hb) h1 h2)
       have HU := Lib.hid (HU.out.below hb)
       have HB := Lib.hid (HB.out.trans (hb.mono HB.out.size))
       clear h1 h2 hb HG)
    | (go_at_call 10
       refine (wparts11 HI).mono ?_
       rintro e w6 ⟨g, cg, Va, ca, Vb, cb, rfl, g0, g1, gl, ga, gb, hb⟩
       have HP : Hid (∀ Z, Below w6.heap.size w6 Z → Z.cell? ⟨g, 0, none⟩ = some (.slice Va 2 ca) ∧ Z.cell? ⟨g, 1, none⟩ = some (.slice Vb 1 cb) ∧ g < Z.heap.size ∧ IntsRd Z Va [0, 1] ∧ IntsRd Z Vb [0]) := fun Z hz => ⟨(hz.cell (p := ⟨g, 0, none⟩) gl).trans g0, (hz.cell (p := ⟨g, 1, none⟩) gl).trans g1, Nat.lt_of_lt_of_le gl hz.size, ga.below hz, gb.below hz⟩
       have HU := Lib.hid (HU.out.below hb)
       have H6 := Lib.hid (Below.refl w6.heap.size w6)
       have HB := Lib.hid (HB.out.trans (hb.mono HB.out.size))
       clear hb HI g0 g1 gl ga gb))
  go_upto_region 4 with (first
    | (go_at_call 22
       refine (sig11 _).mono ?_
       rintro e w7 ⟨V, rfl, ha, hb⟩
       have HG := Lib.hid ha
       have HU := Lib.hid (HU.out.below hb)
       have H6 := Lib.hid (H6.out.trans (hb.mono H6.out.size))
       have HB := Lib.hid (HB.out.trans (hb.mono HB.out.size))
       clear ha hb)
    | (go_at_call 23
       refine (one11 _).mono ?_
       rintro e w8 ⟨V1, V2, rfl, h1, h2, hb⟩
       have HI := Lib.hid (In11.mk (HG.out.below hb) h1 h2)
       have HU := Lib.hid (HU.out.below hb)
       have H6 := Lib.hid (H6.out.trans (hb.mono H6.out.size))
       have HB := Lib.hid (HB.out.trans (hb.mono HB.out.size))
       clear h1 h2 hb HG)
    | (go_at_call 8
       refine (port11 HI).mono ?_
       rintro e w9 ⟨rfl, hb⟩
       have HU := Lib.hid (HU.out.below hb)
       have H6 := Lib.hid (H6.out.trans (hb.mono H6.out.size))
       have HB := Lib.hid (HB.out.trans (hb.mono HB.out.size))
       clear hb HI))
  go_wp2_with fail
  refine (eq_l2 HU.out).mono ?_
  rintro e w10 ⟨rfl, hb⟩
  have H6 := Lib.hid (H6.out.trans (hb.mono H6.out.size))
  have HB := Lib.hid (HB.out.trans (hb.mono HB.out.size))
  obtain ⟨g0, g1, gl, ga, gb⟩ := HP.out _ H6.out
  have GA := Lib.hid ga
  clear hb ga gb
  simp only []
  go_wp2_with fail
  refine (eq_l2 GA.out).mono ?_
  rintro e w11 ⟨rfl, hb⟩
  have H6 := Lib.hid (H6.out.trans (hb.mono H6.out.size))
  have HB := Lib.hid (HB.out.trans (hb.mono HB.out.size))
  clear g0 g1 gl
  obtain ⟨g0, g1, gl, ga, gb⟩ := HP.out _ H6.out
  have GB := Lib.hid gb
  clear hb ga gb
  simp only []
  go_wp2_with fail
  refine (eq_l1 GB.out).mono ?_
  rintro e w12 ⟨rfl, hb⟩
  have HB := Lib.hid (HB.out.trans (hb.mono HB.out.size))
  clear hb g0 g1 gl
  simp only []
  go_wp2_with fail
  go_ret
  exact ⟨rfl, HB.out⟩
end Go.Proofs.YtkonfogebepccaaGreatDoor
/-
  The statement WalkTells: its beginning.
-/
namespace Go.Proofs.YtkonfogebepccaaGreatDoor
open Go.RowKit Go.Shelf
attribute [local go_sem] cell_set
set_option maxRecDepth 100000
set_option linter.unusedVariables false

noncomputable def wtT (n : Nat) : Code := ((Tryz.f3.body).bind (tailQ n)).getD .skip
def FrWT (ds : List Deferred) (U : Nat → Value) : Act := { tmps := (U 0 :: U 1 :: U 2 :: U 3 :: U 4 :: U 5 :: U 6 :: U 7 :: U 8 :: U 9 :: U 10 :: U 11 :: U 12 :: U 13 :: U 14 :: U 15 :: U 16 :: U 17 :: U 18 :: U 19 :: U 20 :: U 21 :: U 22 :: U 23 :: U 24 :: U 25 :: U 26 :: U 27 :: U 28 :: U 29 :: U 30 :: U 31 :: U 32 :: U 33 :: U 34 :: U 35 :: U 36 :: U 37 :: U 38 :: U 39 :: U 40 :: U 41 :: U 42 :: U 43 :: U 44 :: U 45 :: U 46 :: U 47 :: U 48 :: U 49 :: U 50 :: U 51 :: U 52 :: U 53 :: U 54 :: U 55 :: U 56 :: U 57 :: U 58 :: U 59 :: U 60 :: U 61 :: U 62 :: U 63 :: U 64 :: U 65 :: U 66 :: U 67 :: U 68 :: U 69 :: U 70 :: U 71 :: U 72 :: U 73 :: U 74 :: U 75 :: U 76 :: U 77 :: U 78 :: U 79 :: U 80 :: U 81 :: U 82 :: U 83 :: U 84 :: U 85 :: U 86 :: U 87 :: U 88 :: U 89 :: U 90 :: U 91 :: U 92 :: U 93 :: U 94 :: U 95 :: U 96 :: U 97 :: U 98 :: U 99 :: U 100 :: U 101 :: U 102 :: U 103 :: U 104 :: U 105 :: U 106 :: U 107 :: U 108 :: U 109 :: U 110 :: U 111 :: U 112 :: U 113 :: U 114 :: U 115 :: U 116 :: U 117 :: U 118 :: U 119 :: U 120 :: U 121 :: U 122 :: U 123 :: U 124 :: U 125 :: U 126 :: U 127 :: U 128 :: U 129 :: U 130 :: U 131 :: U 132 :: U 133 :: U 134 :: U 135 :: U 136 :: U 137 :: U 138 :: U 139 :: U 140 :: U 141 :: U 142 :: U 143 :: U 144 :: U 145 :: U 146 :: U 147 :: U 148 :: U 149 :: U 150 :: U 151 :: U 152 :: U 153 :: U 154 :: U 155 :: U 156 :: U 157 :: U 158 :: U 159 :: U 160 :: U 161 :: U 162 :: U 163 :: U 164 :: U 165 :: U 166 :: U 167 :: U 168 :: U 169 :: U 170 :: U 171 :: U 172 :: U 173 :: U 174 :: U 175 :: U 176 :: U 177 :: U 178 :: U 179 :: U 180 :: U 181 :: U 182 :: []).toArray, defers := ds }
theorem FrN.openWT {ds : List Deferred} {L : List (Nat × Value)} {a : Act} (h : FrN 183 ds L a) : ∃ U, a = FrWT ds U ∧ Us U L := h.open_
/-- What the statement keeps. -/
structure WtS (w X : World) (bx bp b8 gA g1 g2 : Nat) (VA VB : Option Addr) (ca cb : Nat) (L : List (ByteArray × Int)) (cells : List Int) (free : Int) (W : List (Pt × Pt)) (p : Pt) : Prop where
  bel : Below w.heap.size w X
  nb : NBox X bx VA cells.length ca free VB W.length cb
  pb : PtBx X bp p
  n8 : NBox X b8 (some ⟨g1, 0, none⟩) cells.length (cells.length + 64) free (some ⟨g2, 0, none⟩) W.length (W.length + 64)
  ag : Row X 72 2 (.slice (some ⟨gA, 0, none⟩) (L.length + 64) (L.length + 64)) (L.length + 64) (agvals (wideA L))
  wd : WideN X g1 g2 cells W
theorem WtS.below {w X Y : World} {bx bp b8 gA g1 g2 : Nat} {VA VB : Option Addr} {ca cb : Nat} {L : List (ByteArray × Int)} {cells : List Int} {free : Int} {W : List (Pt × Pt)} {p : Pt} (h : WtS w X bx bp b8 gA g1 g2 VA VB ca cb L cells free W p) (hb : Below X.heap.size X Y) : WtS w Y bx bp b8 gA g1 g2 VA VB ca cb L cells free W p :=
  ⟨h.bel.trans (hb.mono h.bel.size), h.nb.below hb, h.pb.below hb, h.n8.below hb, h.ag.keep fun b hm => hb.block b (h.ag.lt b hm), h.wd.below hb⟩
theorem WtS.rd {w X : World} {bx bp b8 gA g1 g2 : Nat} {VA VB : Option Addr} {ca cb : Nat} {L : List (ByteArray × Int)} {cells : List Int} {free : Int} {W : List (Pt × Pt)} {p : Pt} (h : WtS w X bx bp b8 gA g1 g2 VA VB ca cb L cells free W p) : Rd X (some ⟨gA, 0, none⟩) (some ⟨g1, 0, none⟩) (some ⟨g2, 0, none⟩) L cells W := ⟨Row.wideRd h.ag, h.wd.ints, h.wd.wires⟩
section
variable (Q : Exit → Act → World → Prop) (A : Option Addr) (n cap : Nat) (L : List (ByteArray × Int)) (VA VB : Option Addr) (ca cb : Nat) (cells : List Int) (free : Int) (W : List (Pt × Pt)) (p : Pt) (w : World)
set_option maxHeartbeats 4000000 in
theorem wt_0 (a : Act) (hn : n = L.length) (HR : Hid (Rd w A VA VB L cells W)) (hl : L.length ≤ 6000000000000) (hcA : cells.length ≤ 1000000000000000000) (hwA : W.length ≤ 1000000000000000000)
    (hret : Hid (∀ a' X, FrN 183 [] [(6, .bool true)] a' → Below w.heap.size w X → Q .ret a' X))
    (hnext : Hid (cells.length + W.length ≤ 2048 → ∀ a' X b8 gA g1 g2, FrN 183 [] [(0, .slice A n cap), (4, .pointer (some ⟨w.heap.size, 0, none⟩)), (5, .pointer (some ⟨w.heap.size + 1, 0, none⟩)), (7, .slice (some ⟨gA, 0, none⟩) n (n + 64)), (8, .pointer (some ⟨b8, 0, none⟩))] a' →
      WtS w X w.heap.size (w.heap.size + 1) b8 gA g1 g2 VA VB ca cb L cells free W p → (wtT 5).wp Tryz.prog Q a' X))
    (ha : FrN 183 [] [(0, .slice A n cap), (1, netV VA ca cells free VB cb W), (2, .agg #[.int .i64 p.1, .int .i64 p.2])] a) : (wtT 0).wp Tryz.prog Q a w := by
  subst hn
  obtain ⟨U, rfl, e0, e1, e2, -⟩ := ha.openWT
  have HM : Hid (∀ Z, Below w.heap.size w Z → Calls Tryz.prog 4 #[.slice A L.length cap, .agg #[.slice VA cells.length ca, .int .i64 free, .slice VB W.length cb]] Z fun e w' => ∃ r : Bool, e = .returned (.bool r) ∧ (r = false → cells.length + W.length ≤ 2048) ∧ Below Z.heap.size Z w') := fun Z hz =>
    heavy_11 A _ cap L VA VB cells.length W.length ca cb free Z rfl (by unfold maxLen; omega) (Lib.hid (HR.out.a.below hz)) hcA hwA
  have HI2 := Lib.hid hl
  unfold FrWT
  simp only [e0, e1, e2]
  clear e0 e1 e2 ha hl hcA hwA
  show (Code.seq _ _).wp _ _ _ _
  go_upto_region 1 with fail
  refine absW (fun X => Below w.heap.size w X ∧ NBox X w.heap.size VA cells.length ca free VB W.length cb ∧ PtBx X (w.heap.size + 1) p) ⟨by (repeat (first | exact Below.refl _ _ | (with_reducible refine Below.drew ?_) | (with_reducible refine Below.alloc ?_ (by (try simp); (try omega)) _) | (with_reducible refine Below.setCell ?_ (by (try simp); (try omega)) _) | (with_reducible refine Below.trans ?_ (Below.mono (by assumption) (by (try simp); (try omega)))))), ⟨by simp <;> omega, by go_simp, by go_simp, by go_simp⟩, ?_⟩ ?_
  · have := heap_alloc_new (w.alloc (.cells #[.slice VA cells.length ca, .int .i64 free, .slice VB W.length cb] 26)) (.cells #[.int .i64 p.1, .int .i64 p.2] 28)
    rw [World.size_alloc] at this
    exact this
  rintro X ⟨hbX, hnb, hpb⟩
  have HX := Lib.hid (And.intro hbX (And.intro hnb hpb))
  have c0 := hnb.c0
  have c1 := hnb.c1
  have c2 := hnb.c2
  have clt := hnb.lt
  clear hbX hnb hpb
  go_wp2_with fail
  refine (HM.out _ HX.out.1).mono ?_
  rintro e w1 ⟨r, rfl, hr, hb1⟩
  have HX := Lib.hid (And.intro (HX.out.1.trans (hb1.mono HX.out.1.size)) (And.intro (HX.out.2.1.below hb1) (HX.out.2.2.below hb1)))
  clear hb1 c0 c1 c2 clt
  have c0 := HX.out.2.1.c0
  have c1 := HX.out.2.1.c1
  have c2 := HX.out.2.1.c2
  have clt := HX.out.2.1.lt
  simp only []
  cases r with
  | true =>
    go_wp2_with (go_at_call 5; refine (lives11 _).mono ?_; rintro e w9 ⟨rfl, hb9⟩
                 have HB9 := Lib.hid hb9
                 clear hb9)
    exact hret.out _ _ ⟨rfl, rfl, rfl, trivial⟩ (HX.out.1.trans (HB9.out.mono HX.out.1.size))
  | false =>
    have HR1 := Lib.hid (hr rfl)
    clear hr
    have HN := Lib.hid (hnext.out HR1.out)
    have HRw := Lib.hid (HR.out.below HX.out.1)
    have HWA : Hid (Calls Tryz.prog 6 #[.slice A L.length cap] w1 fun e w' => ∃ g, e = .returned (.slice (some ⟨g, 0, none⟩) L.length (L.length + 64)) ∧ Row w' 72 2 (.slice (some ⟨g, 0, none⟩) (L.length + 64) (L.length + 64)) (L.length + 64) (agvals (wideA L)) ∧ Below w1.heap.size w1 w') :=
      (wide_agents A _ cap L w1 rfl HI2.out (Lib.hid HRw.out.a)).mono fun e w' h => by obtain ⟨g, e1, _, e2, e3⟩ := h; exact ⟨g, e1, e2, e3⟩
    go_upto_region 4 with (first
      | (go_at_call 6
         refine HWA.out.mono ?_
         rintro e w2 ⟨gA, rfl, hrA, hb2⟩
         have HA2 := Lib.hid hrA
         have HX2 := Lib.hid (And.intro (HX.out.1.trans (hb2.mono HX.out.1.size)) (And.intro (HX.out.2.1.below hb2) (HX.out.2.2.below hb2)))
         have HRw2 := Lib.hid (HRw.out.below hb2)
         clear hrA hb2 c0 c1 c2 clt))
    have c0 := HX2.out.2.1.c0
    have c1 := HX2.out.2.1.c1
    have c2 := HX2.out.2.1.c2
    have clt := HX2.out.2.1.lt
    go_wp2_with fail
    refine (wide_net VA VB ca cb cells free W _ (by have := HR1.out; omega) (by have := HR1.out; omega) (Lib.hid HRw2.out.c) (Lib.hid HRw2.out.w)).mono ?_
    rintro e w3 ⟨g1, g2, rfl, hg1, hg2, hwd, hb3⟩
    have HX3 := Lib.hid (And.intro (HX2.out.1.trans (hb3.mono HX2.out.1.size)) (And.intro (HX2.out.2.1.below hb3) (And.intro (HX2.out.2.2.below hb3) (And.intro (HA2.out.keep fun b hb => hb3.block b (HA2.out.lt b hb)) hwd))))
    clear hg1 hg2 hwd hb3 c0 c1 c2 clt
    simp only []
    iterate 80 (first | (with_reducible refine at_seq3 5 ?_) | (with_reducible refine at_seq2 5 ?_) | (with_reducible refine at_seq 5 ?_) | go_values | go_skip | go_guarded | go_step | go_upon | go_back | go_simp)
    have hO : ∀ o : Obj, Below w3.heap.size w3 (w3.alloc o) := fun o => (Below.refl _ _).alloc (Nat.le_refl _) o
    refine absW (fun Z => Below w3.heap.size w3 Z ∧ NBox Z w3.heap.size (some ⟨g1, 0, none⟩) cells.length (cells.length + 64) free (some ⟨g2, 0, none⟩) W.length (W.length + 64)) ⟨hO _, ⟨by simp, by go_simp, by go_simp, by go_simp⟩⟩ ?_
    clear hO
    rintro Z ⟨hZ, hz10⟩
    have HT : Hid (WtS w Z w.heap.size (w.heap.size + 1) w3.heap.size gA g1 g2 VA VB ca cb L cells free W p) := by
      obtain ⟨x1, x2, x3, x4, x5⟩ := HX3.out
      exact ⟨x1.trans (hZ.mono x1.size), x2.below hZ, x3.below hZ, hz10, x4.keep fun b hm => hZ.block b (x4.lt b hm), x5.below hZ⟩
    clear hZ hz10
    exact HN.out _ _ w3.heap.size gA g1 g2 ⟨rfl, rfl, rfl, rfl, rfl, rfl, rfl, trivial⟩ HT.out
end
end Go.Proofs.YtkonfogebepccaaGreatDoor
namespace Go.Proofs.YtkonfogebepccaaGreatDoor
open Go.RowKit Go.Shelf
attribute [local go_sem] cell_set
set_option maxRecDepth 100000
set_option linter.unusedVariables false
/-- The six answers: walks a, b of the program, f of the document; parts p, q of the program, r of the document. -/
structure WtN (w X : World) (Va Vb Vf Vp Vq Vr : Option Addr) (ka kb kf kp kq kr : Nat) (l : List Int) (Q : List Pa) (qs rs ds : List PV) : Prop where
  a : Fresh w X 3 1 l.length (.slice Va l.length ka) (ivals l)
  b : Fresh w X 3 1 l.length (.slice Vb l.length kb) (ivals l)
  f : Fresh w X 3 1 l.length (.slice Vf l.length kf) (ivals l)
  p : PaS w X (.slice Vp Q.length kp) qs
  q : PaS w X (.slice Vq Q.length kq) rs
  r : PdS w X (.slice Vr Q.length kr) ds
  pm : qs.map paW = Q
  qm : rs.map paW = Q
  rm : ds.map paQ = Q
  ab : ∀ t ∈ ownB (.slice Va l.length ka), t ∉ ownB (.slice Vb l.length kb)
  ap : ∀ t ∈ ownB (.slice Va l.length ka), ∀ u ∈ pvCells qs, t ∉ ownB u
  aq : ∀ t ∈ ownB (.slice Va l.length ka), ∀ u ∈ pvCells rs, t ∉ ownB u
  bp : ∀ t ∈ ownB (.slice Vb l.length kb), ∀ u ∈ pvCells qs, t ∉ ownB u
  bq : ∀ t ∈ ownB (.slice Vb l.length kb), ∀ u ∈ pvCells rs, t ∉ ownB u
  pq : ∀ u ∈ pvCells qs, ∀ t ∈ ownB u, ∀ u' ∈ pvCells rs, t ∉ ownB u'
theorem WtN.below {w X Y : World} {Va Vb Vf Vp Vq Vr : Option Addr} {ka kb kf kp kq kr : Nat} {l : List Int} {Q : List Pa} {qs rs ds : List PV} (h : WtN w X Va Vb Vf Vp Vq Vr ka kb kf kp kq kr l Q qs rs ds) (hb : Below X.heap.size X Y) : WtN w Y Va Vb Vf Vp Vq Vr ka kb kf kp kq kr l Q qs rs ds :=
  ⟨h.a.later hb, h.b.later hb, h.f.later hb, h.p.below hb, h.q.below hb, h.r.below hb, h.pm, h.qm, h.rm, h.ab, h.ap, h.aq, h.bp, h.bq, h.pq⟩
section
variable (Q : Exit → Act → World → Prop) (A : Option Addr) (n cap : Nat) (L : List (ByteArray × Int)) (VA VB : Option Addr) (ca cb : Nat) (cells : List Int) (free : Int) (W : List (Pt × Pt)) (p : Pt) (w : World)
set_option maxHeartbeats 4000000 in
theorem wt_5 (a : Act) (X : World) (b8 gA g1 g2 : Nat) (k j : Int) (l : List Int) (R : List Pa) (hn : n = L.length) (hcap : L.length ≤ cap) (HR : Hid (Rd w A VA VB L cells W))
    (HP1 : Hid (∀ A cap VA VB ca cb w, L.length ≤ cap → Rd w A VA VB L cells W → Calls Tryz.prog 8 #[.slice A L.length cap, netV VA ca cells free VB cb W, .agg #[.int .i64 p.1, .int .i64 p.2]] w (AnsF w k l)))
    (HP2 : Hid (∀ A cap VA VB ca cb w, L.length ≤ cap → Rd w A VA VB L cells W → Calls Tryz.prog 9 #[.slice A L.length cap, netV VA ca cells free VB cb W, .agg #[.int .i64 p.1, .int .i64 p.2]] w (AnsF w k l)))
    (HQ1 : Hid (∀ A cap VA VB ca cb w, L.length ≤ cap → Rd w A VA VB L cells W → Calls Tryz.prog 10 #[.slice A L.length cap, netV VA ca cells free VB cb W] w (AnsP w j R)))
    (HQ2 : Hid (∀ A cap VA VB ca cb w, L.length ≤ cap → Rd w A VA VB L cells W → Calls Tryz.prog 11 #[.slice A L.length cap, netV VA ca cells free VB cb W] w (AnsR w j R)))
    (hnext : Hid (∀ a' Y Va Vb Vf Vp Vq Vr ka kb kf kp kq kr qs rs ds, FrN 183 [] [(0, .slice A n cap), (4, .pointer (some ⟨w.heap.size, 0, none⟩)), (5, .pointer (some ⟨w.heap.size + 1, 0, none⟩)), (7, .slice (some ⟨gA, 0, none⟩) n (n + 64)), (8, .pointer (some ⟨b8, 0, none⟩)),
      (9, .slice Va l.length ka), (10, .int .i64 k), (11, .slice Vb l.length kb), (12, .int .i64 k), (13, .slice Vf l.length kf), (14, .int .i64 k), (15, .slice Vp R.length kp), (16, .int .i64 j), (17, .slice Vq R.length kq), (18, .int .i64 j), (19, .slice Vr R.length kr), (20, .int .i64 j)] a' →
      WtS w Y w.heap.size (w.heap.size + 1) b8 gA g1 g2 VA VB ca cb L cells free W p → WtN w Y Va Vb Vf Vp Vq Vr ka kb kf kp kq kr l R qs rs ds → (wtT 11).wp Tryz.prog Q a' Y))
    (hs : Hid (WtS w X w.heap.size (w.heap.size + 1) b8 gA g1 g2 VA VB ca cb L cells free W p))
    (ha : FrN 183 [] [(0, .slice A n cap), (4, .pointer (some ⟨w.heap.size, 0, none⟩)), (5, .pointer (some ⟨w.heap.size + 1, 0, none⟩)), (7, .slice (some ⟨gA, 0, none⟩) n (n + 64)), (8, .pointer (some ⟨b8, 0, none⟩))] a) : (wtT 5).wp Tryz.prog Q a X := by
  subst hn
  obtain ⟨U, rfl, e0, e4, e5, e7, e8, -⟩ := ha.openWT
  have HS0 := hs
  have h64 : L.length ≤ L.length + 64 := by omega
  have HCap := Lib.hid (And.intro hcap h64)
  unfold FrWT
  simp only [e0, e4, e5, e7, e8]
  clear e0 e4 e5 e7 e8 ha hs hcap h64
  show (Code.seq _ _).wp _ _ _ _
  have HRW : Hid (∀ Y, Below w.heap.size w Y → Rd Y A VA VB L cells W) := fun Y h => HR.out.below h
  have q0 := (HS0.out).nb
  have c0 := q0.c0
  have c1 := q0.c1
  have c2 := q0.c2
  have clt := q0.lt
  have q1 := (HS0.out).n8
  have d0 := q1.c0
  have d1 := q1.c1
  have d2 := q1.c2
  have dlt := q1.lt
  obtain ⟨x0, x1, xlt⟩ := (HS0.out).pb.cells
  clear q0 q1
  go_wp2_with fail
  refine (HP1.out _ _ _ _ _ _ _ HCap.out.2 HS0.out.rd).mono ?_
  rintro e w1 ⟨Va, ka, rfl, hf1⟩
  have HS1 := Lib.hid (HS0.out.below hf1.2.2)
  have HF1 := Lib.hid hf1
  clear hf1 c0 c1 c2 clt d0 d1 d2 dlt x0 x1 xlt
  have q0 := (HS1.out).nb
  have c0 := q0.c0
  have c1 := q0.c1
  have c2 := q0.c2
  have clt := q0.lt
  have q1 := (HS1.out).n8
  have d0 := q1.c0
  have d1 := q1.c1
  have d2 := q1.c2
  have dlt := q1.lt
  obtain ⟨x0, x1, xlt⟩ := (HS1.out).pb.cells
  clear q0 q1
  simp only []
  go_wp2_with fail
  refine (HP1.out _ _ _ _ _ _ _ HCap.out.2 HS1.out.rd).mono ?_
  rintro e w2 ⟨Vb, kb, rfl, hf2⟩
  have HS2 := Lib.hid (HS1.out.below hf2.2.2)
  have HF2 := Lib.hid hf2
  clear hf2 c0 c1 c2 clt d0 d1 d2 dlt x0 x1 xlt
  have q0 := (HS2.out).nb
  have c0 := q0.c0
  have c1 := q0.c1
  have c2 := q0.c2
  have clt := q0.lt
  have q1 := (HS2.out).n8
  have d0 := q1.c0
  have d1 := q1.c1
  have d2 := q1.c2
  have dlt := q1.lt
  obtain ⟨x0, x1, xlt⟩ := (HS2.out).pb.cells
  clear q0 q1
  simp only []
  go_wp2_with fail
  refine (HP2.out _ _ _ _ _ _ _ HCap.out.1 (HRW.out _ HS2.out.bel)).mono ?_
  rintro e w3 ⟨Vf, kf, rfl, hf3⟩
  have HS3 := Lib.hid (HS2.out.below hf3.2.2)
  have HF3 := Lib.hid hf3
  clear hf3 c0 c1 c2 clt d0 d1 d2 dlt x0 x1 xlt
  have q0 := (HS3.out).nb
  have c0 := q0.c0
  have c1 := q0.c1
  have c2 := q0.c2
  have clt := q0.lt
  have q1 := (HS3.out).n8
  have d0 := q1.c0
  have d1 := q1.c1
  have d2 := q1.c2
  have dlt := q1.lt
  obtain ⟨x0, x1, xlt⟩ := (HS3.out).pb.cells
  clear q0 q1
  simp only []
  go_wp2_with fail
  refine (HQ1.out _ _ _ _ _ _ _ HCap.out.2 HS3.out.rd).mono ?_
  rintro e w4 ⟨Vp, kp, qs, rfl, hf4, hm4⟩
  have HM4 := Lib.hid hm4
  clear hm4
  have HS4 := Lib.hid (HS3.out.below hf4.bel)
  have HF4 := Lib.hid hf4
  clear hf4 c0 c1 c2 clt d0 d1 d2 dlt x0 x1 xlt
  have q0 := (HS4.out).nb
  have c0 := q0.c0
  have c1 := q0.c1
  have c2 := q0.c2
  have clt := q0.lt
  have q1 := (HS4.out).n8
  have d0 := q1.c0
  have d1 := q1.c1
  have d2 := q1.c2
  have dlt := q1.lt
  obtain ⟨x0, x1, xlt⟩ := (HS4.out).pb.cells
  clear q0 q1
  simp only []
  go_wp2_with fail
  refine (HQ1.out _ _ _ _ _ _ _ HCap.out.2 HS4.out.rd).mono ?_
  rintro e w5 ⟨Vq, kq, rs, rfl, hf5, hm5⟩
  have HM5 := Lib.hid hm5
  clear hm5
  have HS5 := Lib.hid (HS4.out.below hf5.bel)
  have HF5 := Lib.hid hf5
  clear hf5 c0 c1 c2 clt d0 d1 d2 dlt x0 x1 xlt
  have q0 := (HS5.out).nb
  have c0 := q0.c0
  have c1 := q0.c1
  have c2 := q0.c2
  have clt := q0.lt
  have q1 := (HS5.out).n8
  have d0 := q1.c0
  have d1 := q1.c1
  have d2 := q1.c2
  have dlt := q1.lt
  obtain ⟨x0, x1, xlt⟩ := (HS5.out).pb.cells
  clear q0 q1
  simp only []
  go_wp2_with fail
  refine (HQ2.out _ _ _ _ _ _ _ HCap.out.1 (HRW.out _ HS5.out.bel)).mono ?_
  rintro e w6 ⟨Vr, kr, ds, rfl, hf6, hm6⟩
  have HM6 := Lib.hid hm6
  clear hm6
  have HS6 := Lib.hid (HS5.out.below hf6.bel)
  have HF6 := Lib.hid hf6
  clear hf6 c0 c1 c2 clt d0 d1 d2 dlt x0 x1 xlt
  have q0 := (HS6.out).nb
  have c0 := q0.c0
  have c1 := q0.c1
  have c2 := q0.c2
  have clt := q0.lt
  have q1 := (HS6.out).n8
  have d0 := q1.c0
  have d1 := q1.c1
  have d2 := q1.c2
  have dlt := q1.lt
  obtain ⟨x0, x1, xlt⟩ := (HS6.out).pb.cells
  clear q0 q1
  simp only []
  have HT : Hid (WtN w w6 Va Vb Vf Vp Vq Vr ka kb kf kp kq kr l R qs rs ds) := by
    have b6 := HF6.out.bel
    have b5 := HF5.out.bel.trans (b6.mono HF5.out.bel.size)
    have b4 := HF4.out.bel.trans (b5.mono HF4.out.bel.size)
    have b3 := HF3.out.2.2.trans (b4.mono HF3.out.2.2.size)
    have b2 := HF2.out.2.2.trans (b3.mono HF2.out.2.2.size)
    have n1 := HS0.out.bel
    have n2 := HS1.out.bel
    have n3 := HS2.out.bel
    have n4 := HS3.out.bel
    have n5 := HS4.out.bel
    have n6 := HS5.out.bel
    have z1 := HF1.out.2.2.size
    have z2 := HF2.out.2.2.size
    have z3 := HF3.out.2.2.size
    have z4 := HF4.out.bel.size
    refine ⟨(HF1.out.later b2).from n1, (HF2.out.later b3).from n2, (HF3.out.later b4).from n3, (HF4.out.below b5).from n4, (HF5.out.below b6).from n5, HF6.out.from n6, HM4.out, HM5.out, HM6.out, ?_, fun t ht u hu hm => ?_, fun t ht u hu hm => ?_, fun t ht u hu hm => ?_, fun t ht u hu hm => ?_, fun u hu t ht u' hu' hm => ?_⟩
    · intro t ht hm
      have h1 := HF1.out.1.lt t ht
      have h2 := HF2.out.2.1 t hm
      omega
    · have h1 := HF1.out.1.lt t ht
      have h2 := HF4.out.lo u hu t hm
      omega
    · have h1 := HF1.out.1.lt t ht
      have h2 := HF5.out.lo u hu t hm
      omega
    · have h1 := HF2.out.1.lt t ht
      have h2 := HF4.out.lo u hu t hm
      omega
    · have h1 := HF2.out.1.lt t ht
      have h2 := HF5.out.lo u hu t hm
      omega
    · have h1 := HF4.out.hi hu ht
      have h2 := HF5.out.lo u' hu' t hm
      omega
  iterate 80 (first | (with_reducible refine at_seq3 11 ?_) | (with_reducible refine at_seq2 11 ?_) | (with_reducible refine at_seq 11 ?_) | go_values | go_skip | go_guarded | go_step | go_upon | go_back | go_simp)
  exact hnext.out _ _ Va Vb Vf Vp Vq Vr ka kb kf kp kq kr qs rs ds ⟨rfl, rfl, rfl, rfl, rfl, rfl, rfl, rfl, rfl, rfl, rfl, rfl, rfl, rfl, rfl, rfl, rfl, rfl, rfl, trivial⟩ HS6.out HT.out
end
end Go.Proofs.YtkonfogebepccaaGreatDoor
