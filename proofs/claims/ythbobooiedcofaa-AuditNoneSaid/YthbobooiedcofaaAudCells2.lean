/-
  audit.Audit's inner functions: the ports of the cells.
-/
import Derived.Test.YthbobooiedcofaaWirPts
import Derived.Test.YthbobooiedcofaaWirWorks
import Derived.Test.YthbobooiedcofaaEqN
import Derived.Test.YthbobooiedcofaaAgentsN
import Derived.Test.YthbobooiedcofaaRef02
/-
  audit.Audit's inner functions: a port is looked at.
-/
/-
  Plain: what an audit of a wiring tells. (Plain Lean, no program.)
-/
set_option linter.unusedVariables false
namespace Go.Proofs.Ythbobooiedcofaa
namespace Wir
def isOpen (S : Wir) (p : Pt) : Bool := decide (S.wV p = 4294967295)
def isBad (S : Wir) (p : Pt) : Bool := decide (S.toE p ≠ 0 ∨ S.wV (S.toP p) ≠ pkW p.1 p.2 ∨ S.toP p = p)
/-- What is wrong with a port: it is linked, and not back. -/
def wrong (S : Wir) (p : Pt) : Bool := !S.isOpen p && S.isBad p
def nOpen (S : Wir) (l : List Pt) : Nat := (l.filter S.isOpen).length
def nWire (S : Wir) (l : List Pt) : Nat := (l.filter fun p => !S.isOpen p).length
def firstBad (S : Wir) (l : List Pt) : Option Pt := l.find? S.wrong
theorem nOpen_snoc (S : Wir) (l : List Pt) (p : Pt) : S.nOpen (l ++ [p]) = S.nOpen l + if S.isOpen p = true then 1 else 0 := by
  unfold nOpen
  rw [List.filter_append, List.length_append]
  cases h : S.isOpen p <;> simp [h]
theorem nWire_snoc (S : Wir) (l : List Pt) (p : Pt) : S.nWire (l ++ [p]) = S.nWire l + if S.isOpen p = true then 0 else 1 := by
  unfold nWire
  rw [List.filter_append, List.length_append]
  cases h : S.isOpen p <;> simp [h]
theorem nOpen_le (S : Wir) (l : List Pt) : S.nOpen l ≤ l.length := List.length_filter_le _ _
theorem nWire_le (S : Wir) (l : List Pt) : S.nWire l ≤ l.length := List.length_filter_le _ _
theorem nOpen_append (S : Wir) (l r : List Pt) : S.nOpen (l ++ r) = S.nOpen l + S.nOpen r := by unfold nOpen; rw [List.filter_append, List.length_append]
theorem nWire_append (S : Wir) (l r : List Pt) : S.nWire (l ++ r) = S.nWire l + S.nWire r := by unfold nWire; rw [List.filter_append, List.length_append]
theorem firstBad_snoc (S : Wir) (l : List Pt) (p : Pt) (h : S.firstBad l = none) : S.firstBad (l ++ [p]) = if S.wrong p = true then some p else none := by
  unfold firstBad at h ⊢
  rw [List.find?_append, h]
  cases hp : S.wrong p <;> simp [hp]
theorem firstBad_append (S : Wir) (l r : List Pt) (h : S.firstBad l = none) : S.firstBad (l ++ r) = S.firstBad r := by
  unfold firstBad at h ⊢
  rw [List.find?_append, h]; rfl
theorem firstBad_pre (S : Wir) {l r : List Pt} {p : Pt} (h : S.firstBad l = some p) : S.firstBad (l ++ r) = some p := by
  unfold firstBad at h ⊢
  rw [List.find?_append, h]; rfl
/-- The first of these cells whose agent the signature does not have so. -/
def agBad (S : Wir) (ps : Int → Int) (l : List (Nat × Int)) : Option (Nat × Int) := l.find? fun x => decide (ps x.2 ≠ S.A.agA (x.1 : Int) + 1)
/-- What Audit answers: cells, free ports, wires, open ones, where; the error. -/
def auditV (S : Wir) (ps : Int → Int) (ck : Int) : (Int × Int × Int × Int × Pt) × Int :=
  if ck ≠ 0 then ((0, 0, 0, 0, (0, 0)), ck) else match S.agBad ps (S.A.upto S.A.cells.length) with
    | some x => ((0, 0, 0, 0, ((x.1 : Int), 0)), 20)
    | none => match S.firstBad S.pts with
      | some p => ((0, 0, 0, 0, p), 42)
      | none => ((S.A.live, (S.P.length : Int), ((S.nWire S.pts / 2 : Nat) : Int), (S.nOpen S.pts : Int), (0, 0)), 0)
end Wir
end Go.Proofs.Ythbobooiedcofaa
namespace Go.Proofs.Ythbobooiedcofaa
open Go.RowKit
attribute [local go_sem] cell_set
attribute [local go_sem high] run_eql_port
set_option maxRecDepth 100000
set_option linter.unusedVariables false

/-- The boxes that an audit writes: its report, where something is, the error. -/
structure Au (w : World) (br bt be : Nat) (c f x o : Int) (p : Pt) (e : Int) (W : World) : Prop where
  k : Kp [br, bt, be] w W
  r : W.heap[br]? = some (.cells #[.int .i64 c, .int .i64 f, .int .i64 x, .int .i64 o, .int .i64 0, .int .i64 0] 76 (0, 0))
  t : W.heap[bt]? = some (.cells #[.int .i64 p.1, .int .i64 p.2] 39 (0, 0))
  e : W.heap[be]? = some (.cells #[.int .i64 e] 24 (0, 0))
/-- What else an audit reads. -/
structure AuB (w : World) (bw B A : Nat) (S : Wir) (FA : List Nat) (br bt be : Nat) : Prop where
  p : w.heap[bw]? = some (.cells #[.pointer (some ⟨B, 0, none⟩)] 31 (0, 0))
  g : WG w B A S FA
  n : bw ∉ [br, bt, be] ∧ ∀ b ∈ B :: FA, b ∉ [br, bt, be]
section
variable {w W W' : World} {br bt be bw B A : Nat} {S : Wir} {FA : List Nat} {c f x o : Int} {p : Pt} {e : Int}
theorem Au.below (h : Au w br bt be c f x o p e W) (hb : Below W.heap.size W W') : Au w br bt be c f x o p e W' :=
  ⟨h.k.thenBelow hb, (hb.block br (heap_lt h.r)).trans h.r, (hb.block bt (heap_lt h.t)).trans h.t, (hb.block be (heap_lt h.e)).trans h.e⟩
theorem Au.base (h : Au w br bt be c f x o p e W) (hB : AuB w bw B A S FA br bt be) : AuB W bw B A S FA br bt be :=
  ⟨(h.k.block bw (heap_lt hB.p) hB.n.1).trans hB.p, hB.g.kp h.k hB.n.2, hB.n⟩
theorem AuB.below (h : AuB w bw B A S FA br bt be) (hb : Below w.heap.size w W) : AuB W bw B A S FA br bt be := ⟨(hb.block bw (heap_lt h.p)).trans h.p, h.g.below hb, h.n⟩
theorem Au.ne (h : Au w br bt be c f x o p e W) : br ≠ bt ∧ br ≠ be ∧ bt ≠ be := ⟨ty_ne h.r h.t (by decide), ty_ne h.r h.e (by decide), ty_ne h.t h.e (by decide)⟩
/-- One more open port; one more end of a wire; something is wrong. -/
theorem Au.open1 (h : Au w br bt be c f x o p e W) (o' : Int) : Au w br bt be c f x o' p e (W.setCell ⟨br, 3, none⟩ (.int .i64 o')) := by
  obtain ⟨n1, n2, n3⟩ := h.ne
  exact ⟨h.k.setCell (p := ⟨br, 3, none⟩) (.inl (by simp)) _, by simp [World.setCell, Array.getElem?_modify, h.r], (Below.heap_setCell _ _ _ _ n1.symm).trans h.t, (Below.heap_setCell _ _ _ _ n2.symm).trans h.e⟩
theorem Au.wire1 (h : Au w br bt be c f x o p e W) (x' : Int) : Au w br bt be c f x' o p e (W.setCell ⟨br, 2, none⟩ (.int .i64 x')) := by
  obtain ⟨n1, n2, n3⟩ := h.ne
  exact ⟨h.k.setCell (p := ⟨br, 2, none⟩) (.inl (by simp)) _, by simp [World.setCell, Array.getElem?_modify, h.r], (Below.heap_setCell _ _ _ _ n1.symm).trans h.t, (Below.heap_setCell _ _ _ _ n2.symm).trans h.e⟩
theorem Au.bad1 (h : Au w br bt be c f x o p e W) (q : Pt) (e' : Int) : Au w br bt be c f x o q e' (((W.setCell ⟨bt, 0, none⟩ (.int .i64 q.1)).setCell ⟨bt, 1, none⟩ (.int .i64 q.2)).setCell ⟨be, 0, none⟩ (.int .i64 e')) := by
  obtain ⟨n1, n2, n3⟩ := h.ne
  refine ⟨((h.k.setCell (p := ⟨bt, 0, none⟩) (.inl (by simp)) _).setCell (p := ⟨bt, 1, none⟩) (.inl (by simp)) _).setCell (p := ⟨be, 0, none⟩) (.inl (by simp)) _, ?_, ?_, ?_⟩
  · exact (Below.heap_setCell _ _ _ _ n2).trans ((Below.heap_setCell _ _ _ _ n1).trans ((Below.heap_setCell _ _ _ _ n1).trans h.r))
  · refine (Below.heap_setCell _ _ _ _ n3).trans ?_
    simp [World.setCell, Array.getElem?_modify, h.t]
  · have : ((W.setCell ⟨bt, 0, none⟩ (.int .i64 q.1)).setCell ⟨bt, 1, none⟩ (.int .i64 q.2)).heap[be]? = some (.cells #[.int .i64 e] 24 (0, 0)) := (Below.heap_setCell _ _ _ _ n3.symm).trans ((Below.heap_setCell _ _ _ _ n3.symm).trans h.e)
    generalize (W.setCell ⟨bt, 0, none⟩ (.int .i64 q.1)).setCell ⟨bt, 1, none⟩ (.int .i64 q.2) = X1 at this ⊢
    simp [World.setCell, Array.getElem?_modify, this]
theorem Au.grown (h : Au w br bt be c f x o p e W) {row : Option Nat} (hg : W.grownBy W' row) {N : Nat} (hl : br < w.heap.size ∧ bt < w.heap.size ∧ be < w.heap.size) (hN : w.heap.size ≤ N) (hr : ∀ r, row = some r → N ≤ r ∧ ∃ o : Obj, W.heap[r]? = some o ∧ o.isCells = false) : Au w br bt be c f x o p e W' := by
  have hk : ∀ b, b < w.heap.size → W'.heap[b]? = W.heap[b]? := fun b hb => hg.block b (Nat.lt_of_lt_of_le hb h.k.size) (fun e => by have := (hr b e.symm).1; omega)
  exact ⟨⟨hg.os.trans h.k.os, hg.tape.trans h.k.tape, hg.output.trans h.k.output, Nat.le_trans h.k.size hg.size, fun b hb hn => (hk b hb).trans (h.k.block b hb hn)⟩, (hk br hl.1).trans h.r, (hk bt hl.2.1).trans h.t, (hk be hl.2.2).trans h.e⟩
end
section
variable (bw B A : Nat) (S : Wir) (FA : List Nat) (br bt be : Nat) (c f x o : Int) (p : Pt) (e0 : Int) (w W : World)
set_option maxHeartbeats 1000000 in
theorem au_see_open (q0 q1 : Int) (ho : S.isOpen (q0, q1) = true) (hb : 0 ≤ o ∧ o ≤ 1000000) (hB : AuB w bw B A S FA br bt be) (h : Au w br bt be c f x o p e0 W) :
    Calls Try.prog 83 #[.agg #[.int .i64 q0, .int .i64 q1], .pointer (some ⟨bw, 0, none⟩), .pointer (some ⟨br, 0, none⟩), .pointer (some ⟨bt, 0, none⟩), .pointer (some ⟨be, 0, none⟩)] W fun e W' => e = .returned (.bool true) ∧ Au w br bt be c f x (o + 1) p e0 W' ∧ Kp [br, bt, be] W W' := by
  have hv : S.wV (q0, q1) = 4294967295 := by simpa [Wir.isOpen] using ho
  have HV := Lib.hid hv
  have ew : IntKind.i64.wrap (o + 1) = o + 1 := IntWalk.i64_in _ (by omega)
  clear ho hv
  have HA := Lib.hid h
  have HB := Lib.hid (h.base hB)
  have hw0 : W.cell? ⟨bw, 0, none⟩ = some (.pointer (some ⟨B, 0, none⟩)) := by simp [World.cell?, HB.out.p]
  have hwl := heap_lt HB.out.p
  have HZ : Hid (∀ X, Below W.heap.size W X → X.cell? ⟨bw, 0, none⟩ = some (.pointer (some ⟨B, 0, none⟩)) ∧ WG X B A S FA ∧ Au w br bt be c f x o p e0 X) := fun X hX => by
    have h1 := (HB.out.below hX).p
    exact ⟨by simp [World.cell?, h1], HB.out.g.below hX, HA.out.below hX⟩
  clear h hB
  go_enter Try.func83, Try.ntmps83
  go_wp2_with fail
  refine (wi_word B A S FA _ q0 q1 (HZ.out _ (by (repeat (first | exact Below.refl _ _ | (with_reducible refine Below.drew ?_) | (with_reducible refine Below.alloc ?_ (by (try simp); (try omega)) _) | (with_reducible refine Below.setCell ?_ (by (try simp); (try omega)) _) | (with_reducible refine Below.trans ?_ (Below.mono (by assumption) (by (try simp); (try omega)))))))).2.1).mono ?_
  rintro e w1 ⟨rfl, hb1⟩
  have hB1 : Below W.heap.size W w1 := by (repeat (first | exact Below.refl _ _ | (with_reducible refine Below.drew ?_) | (with_reducible refine Below.alloc ?_ (by (try simp); (try omega)) _) | (with_reducible refine Below.setCell ?_ (by (try simp); (try omega)) _) | (with_reducible refine Below.trans ?_ (Below.mono (by assumption) (by (try simp); (try omega))))))
  have y0 : w1.cell? ⟨W.heap.size, 0, none⟩ = some (.int .i64 q0) := (hb1.cell (p := ⟨W.heap.size, 0, none⟩) (by simp)).trans (by go_simp)
  have y1 : w1.cell? ⟨W.heap.size, 1, none⟩ = some (.int .i64 q1) := (hb1.cell (p := ⟨W.heap.size, 1, none⟩) (by simp)).trans (by go_simp)
  have yl : W.heap.size < w1.heap.size := by have := hb1.size; simp at this; omega
  have HB1 := Lib.hid hB1
  clear hb1 hB1 hw0
  rw [HV.out]
  have r1 := (HZ.out _ HB1.out).2.2.r
  have r2 : w1.cell? ⟨br, 3, none⟩ = some (.int .i64 o) := by simp [World.cell?, r1]
  have r3 : w1.frozen? ⟨br, 3, none⟩ = false := by simp [World.frozen?, r1]
  have rl := heap_lt r1
  clear r1
  simp only []
  go_wp2_with fail
  go_ret
  exact ⟨rfl, (HZ.out _ HB1.out).2.2.open1 _, (Kp.of_below HB1.out).setCell (p := ⟨br, 3, none⟩) (.inl (by simp)) _⟩
set_option maxHeartbeats 2000000 in
theorem au_see_ok (q0 q1 : Int) (ho : S.isOpen (q0, q1) = false) (hbd : S.isBad (q0, q1) = false) (hb : 0 ≤ x ∧ x ≤ 1000000) (hB : AuB w bw B A S FA br bt be) (h : Au w br bt be c f x o p e0 W) :
    Calls Try.prog 83 #[.agg #[.int .i64 q0, .int .i64 q1], .pointer (some ⟨bw, 0, none⟩), .pointer (some ⟨br, 0, none⟩), .pointer (some ⟨bt, 0, none⟩), .pointer (some ⟨be, 0, none⟩)] W fun e W' => e = .returned (.bool true) ∧ Au w br bt be c f (x + 1) o p e0 W' ∧ Kp [br, bt, be] W W' := by
  have hv : (S.wV (q0, q1) == 4294967295) = false := by simpa [Wir.isOpen] using ho
  have hbd' : S.toE (q0, q1) = 0 ∧ S.wV (S.toP (q0, q1)) = pkW q0 q1 ∧ S.toP (q0, q1) ≠ (q0, q1) := by simpa [Wir.isBad, not_or] using hbd
  obtain ⟨v, hv2⟩ : ∃ v, S.wV (q0, q1) = v := ⟨_, rfl⟩
  rw [hv2] at hv
  have HV := Lib.hid hv2
  have HE := Lib.hid hbd'
  have ew : IntKind.i64.wrap (x + 1) = x + 1 := IntWalk.i64_in _ (by omega)
  clear ho hbd hv2 hbd'
  have HA := Lib.hid h
  have HB := Lib.hid (h.base hB)
  have hw0 : W.cell? ⟨bw, 0, none⟩ = some (.pointer (some ⟨B, 0, none⟩)) := by simp [World.cell?, HB.out.p]
  have hwl := heap_lt HB.out.p
  have HZ : Hid (∀ X, Below W.heap.size W X → X.cell? ⟨bw, 0, none⟩ = some (.pointer (some ⟨B, 0, none⟩)) ∧ WG X B A S FA ∧ Au w br bt be c f x o p e0 X) := fun X hX => by
    have h1 := (HB.out.below hX).p
    exact ⟨by simp [World.cell?, h1], HB.out.g.below hX, HA.out.below hX⟩
  clear h hB
  go_enter Try.func83, Try.ntmps83
  go_wp2_with fail
  refine (wi_word B A S FA _ q0 q1 (HZ.out _ (by (repeat (first | exact Below.refl _ _ | (with_reducible refine Below.drew ?_) | (with_reducible refine Below.alloc ?_ (by (try simp); (try omega)) _) | (with_reducible refine Below.setCell ?_ (by (try simp); (try omega)) _) | (with_reducible refine Below.trans ?_ (Below.mono (by assumption) (by (try simp); (try omega)))))))).2.1).mono ?_
  rintro e w1 ⟨rfl, hb1⟩
  have hB1 : Below W.heap.size W w1 := by (repeat (first | exact Below.refl _ _ | (with_reducible refine Below.drew ?_) | (with_reducible refine Below.alloc ?_ (by (try simp); (try omega)) _) | (with_reducible refine Below.setCell ?_ (by (try simp); (try omega)) _) | (with_reducible refine Below.trans ?_ (Below.mono (by assumption) (by (try simp); (try omega))))))
  have y0 : w1.cell? ⟨W.heap.size, 0, none⟩ = some (.int .i64 q0) := (hb1.cell (p := ⟨W.heap.size, 0, none⟩) (by simp)).trans (by go_simp)
  have y1 : w1.cell? ⟨W.heap.size, 1, none⟩ = some (.int .i64 q1) := (hb1.cell (p := ⟨W.heap.size, 1, none⟩) (by simp)).trans (by go_simp)
  have yl : W.heap.size < w1.heap.size := by have := hb1.size; simp at this; omega
  have HB1 := Lib.hid hB1
  clear hb1 hB1 hw0
  rw [HV.out]
  simp only []
  have g0 : w1.cell? ⟨bw, 0, none⟩ = some (.pointer (some ⟨B, 0, none⟩)) := (HZ.out _ HB1.out).1
  have gl : bw < w1.heap.size := by have := HB1.out.size; omega
  go_upto_region 6 with (go_at_call 17; refine (wi_to B A S FA _ q0 q1 (HZ.out _ HB1.out).2.1).mono ?_; rintro e w2 ⟨rfl, hb2⟩)
  have hB2 := HB1.out.trans (hb2.mono HB1.out.size)
  have z0 : w2.cell? ⟨W.heap.size, 0, none⟩ = some (.int .i64 q0) := (hb2.cell (p := ⟨W.heap.size, 0, none⟩) yl).trans y0
  have z1 : w2.cell? ⟨W.heap.size, 1, none⟩ = some (.int .i64 q1) := (hb2.cell (p := ⟨W.heap.size, 1, none⟩) yl).trans y1
  have zl : W.heap.size < w2.heap.size := Nat.lt_of_lt_of_le yl hb2.size
  refine absW (fun X => Hid (Below W.heap.size W X) ∧ X.cell? ⟨W.heap.size, 0, none⟩ = some (.int .i64 q0) ∧ X.cell? ⟨W.heap.size, 1, none⟩ = some (.int .i64 q1) ∧ W.heap.size < X.heap.size ∧ X.heap[w2.heap.size]? = some (.cells #[.int .i64 (S.toP (q0, q1)).1, .int .i64 (S.toP (q0, q1)).2] 39 (0, 0)))
    ⟨Lib.hid (hB2.alloc hB2.size _), (Below.cell ((Below.refl w2.heap.size w2).alloc (Nat.le_refl _) _) (p := ⟨W.heap.size, 0, none⟩) zl).trans z0, (Below.cell ((Below.refl w2.heap.size w2).alloc (Nat.le_refl _) _) (p := ⟨W.heap.size, 1, none⟩) zl).trans z1, by simp; omega, heap_alloc_new _ _⟩ ?_
  clear y0 y1 yl z0 z1 zl HB1 hb2 hB2 g0 gl
  rintro X ⟨HX, y0, y1, yl, hq⟩
  generalize w2.heap.size = bq at hq ⊢
  obtain ⟨⟨r0, r1⟩, hr⟩ : ∃ r, S.toP (q0, q1) = r := ⟨_, rfl⟩
  rw [hr] at hq
  have HRr := Lib.hid hr
  clear hr
  have x0 : X.cell? ⟨bq, 0, none⟩ = some (.int .i64 r0) := by simp [World.cell?, hq]
  have x1 : X.cell? ⟨bq, 1, none⟩ = some (.int .i64 r1) := by simp [World.cell?, hq]
  have hql := heap_lt hq
  have v0 : X.cell? ⟨bw, 0, none⟩ = some (.pointer (some ⟨B, 0, none⟩)) := (HZ.out _ HX.out).1
  have vl : bw < X.heap.size := by have := HX.out.size; omega
  go_wp2_with fail
  refine (wi_word B A S FA X r0 r1 (HZ.out _ HX.out).2.1).mono ?_
  rintro e w3 ⟨rfl, hb3⟩
  have HX3 := Lib.hid (HX.out.trans (hb3.mono HX.out.size))
  have z0 : w3.cell? ⟨W.heap.size, 0, none⟩ = some (.int .i64 q0) := (hb3.cell (p := ⟨W.heap.size, 0, none⟩) yl).trans y0
  have z1 : w3.cell? ⟨W.heap.size, 1, none⟩ = some (.int .i64 q1) := (hb3.cell (p := ⟨W.heap.size, 1, none⟩) yl).trans y1
  have u0 : w3.cell? ⟨bq, 0, none⟩ = some (.int .i64 r0) := (hb3.cell (p := ⟨bq, 0, none⟩) hql).trans x0
  have u1 : w3.cell? ⟨bq, 1, none⟩ = some (.int .i64 r1) := (hb3.cell (p := ⟨bq, 1, none⟩) hql).trans x1
  have zl : W.heap.size < w3.heap.size := Nat.lt_of_lt_of_le yl hb3.size
  have ul : bq < w3.heap.size := Nat.lt_of_lt_of_le hql hb3.size
  clear y0 y1 yl x0 x1 hql hq hb3 v0 vl
  simp only []
  go_wp2_with fail
  refine (pack_any q0 q1 w3).mono ?_
  rintro e w4 ⟨rfl, hb4⟩
  have HX4 := Lib.hid (HX3.out.trans (hb4.mono HX3.out.size))
  have y0 : w4.cell? ⟨W.heap.size, 0, none⟩ = some (.int .i64 q0) := (hb4.cell (p := ⟨W.heap.size, 0, none⟩) zl).trans z0
  have y1 : w4.cell? ⟨W.heap.size, 1, none⟩ = some (.int .i64 q1) := (hb4.cell (p := ⟨W.heap.size, 1, none⟩) zl).trans z1
  have x0 : w4.cell? ⟨bq, 0, none⟩ = some (.int .i64 r0) := (hb4.cell (p := ⟨bq, 0, none⟩) ul).trans u0
  have x1 : w4.cell? ⟨bq, 1, none⟩ = some (.int .i64 r1) := (hb4.cell (p := ⟨bq, 1, none⟩) ul).trans u1
  have yl : W.heap.size < w4.heap.size := Nat.lt_of_lt_of_le zl hb4.size
  have xl : bq < w4.heap.size := Nat.lt_of_lt_of_le ul hb4.size
  clear z0 z1 zl u0 u1 ul hb4
  simp only []
  have hr := HRr.out
  obtain ⟨he1, he2, he3⟩ := HE.out
  rw [hr] at he2 he3
  rw [he1, he2]
  have hne : eqP (r0, r1) (q0, q1) = false := by unfold eqP; simpa using he3
  have rr := (HZ.out _ HX4.out).2.2.r
  have r2 : w4.cell? ⟨br, 2, none⟩ = some (.int .i64 x) := by simp [World.cell?, rr]
  have r3 : w4.frozen? ⟨br, 2, none⟩ = false := by simp [World.frozen?, rr]
  have rl := heap_lt rr
  generalize pkW q0 q1 = own
  clear rr hr he1 he2 he3
  go_wp2_with fail
  go_ret
  exact ⟨rfl, (HZ.out _ HX4.out).2.2.wire1 _, (Kp.of_below HX4.out).setCell (p := ⟨br, 2, none⟩) (.inl (by simp)) _⟩
set_option maxHeartbeats 4000000 in
theorem au_see_bad (q0 q1 : Int) (ho : S.isOpen (q0, q1) = false) (hbd : S.isBad (q0, q1) = true) (hB : AuB w bw B A S FA br bt be) (h : Au w br bt be c f x o p e0 W) :
    Calls Try.prog 83 #[.agg #[.int .i64 q0, .int .i64 q1], .pointer (some ⟨bw, 0, none⟩), .pointer (some ⟨br, 0, none⟩), .pointer (some ⟨bt, 0, none⟩), .pointer (some ⟨be, 0, none⟩)] W fun e W' => e = .returned (.bool false) ∧ Au w br bt be c f x o (q0, q1) 42 W' ∧ Kp [br, bt, be] W W' := by
  have hv : (S.wV (q0, q1) == 4294967295) = false := by simpa [Wir.isOpen] using ho
  have hbd' : S.toE (q0, q1) ≠ 0 ∨ S.wV (S.toP (q0, q1)) ≠ pkW q0 q1 ∨ S.toP (q0, q1) = (q0, q1) := by simpa [Wir.isBad] using hbd
  obtain ⟨v, hv2⟩ : ∃ v, S.wV (q0, q1) = v := ⟨_, rfl⟩
  rw [hv2] at hv
  have HV := Lib.hid hv2
  have HE := Lib.hid hbd'
  obtain ⟨te, hte⟩ : ∃ te, S.toE (q0, q1) = te := ⟨_, rfl⟩
  have HTE := Lib.hid hte
  obtain ⟨vv, hvv⟩ : ∃ vv, S.wV (S.toP (q0, q1)) = vv := ⟨_, rfl⟩
  have HVV := Lib.hid hvv
  clear ho hbd hv2 hbd' hte hvv
  by_cases k1 : te = 0
  · subst k1
    by_cases k2 : vv = pkW q0 q1
    · have k3 : S.toP (q0, q1) = (q0, q1) := by
        have := HE.out
        rw [HTE.out, HVV.out] at this
        rcases this with h1 | h1 | h1
        · exact absurd rfl h1
        · exact absurd k2 h1
        · exact h1
      subst k2
      have HK3 := Lib.hid k3
      clear k3
      have HA := Lib.hid h
      have HB := Lib.hid (h.base hB)
      have hw0 : W.cell? ⟨bw, 0, none⟩ = some (.pointer (some ⟨B, 0, none⟩)) := by simp [World.cell?, HB.out.p]
      have hwl := heap_lt HB.out.p
      have HZ : Hid (∀ X, Below W.heap.size W X → X.cell? ⟨bw, 0, none⟩ = some (.pointer (some ⟨B, 0, none⟩)) ∧ WG X B A S FA ∧ Au w br bt be c f x o p e0 X) := fun X hX => by
        have h1 := (HB.out.below hX).p
        exact ⟨by simp [World.cell?, h1], HB.out.g.below hX, HA.out.below hX⟩
      clear h hB
      go_enter Try.func83, Try.ntmps83
      go_wp2_with fail
      refine (wi_word B A S FA _ q0 q1 (HZ.out _ (by (repeat (first | exact Below.refl _ _ | (with_reducible refine Below.drew ?_) | (with_reducible refine Below.alloc ?_ (by (try simp); (try omega)) _) | (with_reducible refine Below.setCell ?_ (by (try simp); (try omega)) _) | (with_reducible refine Below.trans ?_ (Below.mono (by assumption) (by (try simp); (try omega)))))))).2.1).mono ?_
      rintro e w1 ⟨rfl, hb1⟩
      have hB1 : Below W.heap.size W w1 := by (repeat (first | exact Below.refl _ _ | (with_reducible refine Below.drew ?_) | (with_reducible refine Below.alloc ?_ (by (try simp); (try omega)) _) | (with_reducible refine Below.setCell ?_ (by (try simp); (try omega)) _) | (with_reducible refine Below.trans ?_ (Below.mono (by assumption) (by (try simp); (try omega))))))
      have y0 : w1.cell? ⟨W.heap.size, 0, none⟩ = some (.int .i64 q0) := (hb1.cell (p := ⟨W.heap.size, 0, none⟩) (by simp)).trans (by go_simp)
      have y1 : w1.cell? ⟨W.heap.size, 1, none⟩ = some (.int .i64 q1) := (hb1.cell (p := ⟨W.heap.size, 1, none⟩) (by simp)).trans (by go_simp)
      have yl : W.heap.size < w1.heap.size := by have := hb1.size; simp at this; omega
      have HB1 := Lib.hid hB1
      clear hb1 hB1 hw0
      rw [HV.out]
      simp only []
      have g0 : w1.cell? ⟨bw, 0, none⟩ = some (.pointer (some ⟨B, 0, none⟩)) := (HZ.out _ HB1.out).1
      have gl : bw < w1.heap.size := by have := HB1.out.size; omega
      go_upto_region 6 with (go_at_call 17; refine (wi_to B A S FA _ q0 q1 (HZ.out _ HB1.out).2.1).mono ?_; rintro e w2 ⟨rfl, hb2⟩)
      have hB2 := HB1.out.trans (hb2.mono HB1.out.size)
      have z0 : w2.cell? ⟨W.heap.size, 0, none⟩ = some (.int .i64 q0) := (hb2.cell (p := ⟨W.heap.size, 0, none⟩) yl).trans y0
      have z1 : w2.cell? ⟨W.heap.size, 1, none⟩ = some (.int .i64 q1) := (hb2.cell (p := ⟨W.heap.size, 1, none⟩) yl).trans y1
      have zl : W.heap.size < w2.heap.size := Nat.lt_of_lt_of_le yl hb2.size
      refine absW (fun X => Hid (Below W.heap.size W X) ∧ X.cell? ⟨W.heap.size, 0, none⟩ = some (.int .i64 q0) ∧ X.cell? ⟨W.heap.size, 1, none⟩ = some (.int .i64 q1) ∧ W.heap.size < X.heap.size ∧ X.heap[w2.heap.size]? = some (.cells #[.int .i64 (S.toP (q0, q1)).1, .int .i64 (S.toP (q0, q1)).2] 39 (0, 0)))
        ⟨Lib.hid (hB2.alloc hB2.size _), (Below.cell ((Below.refl w2.heap.size w2).alloc (Nat.le_refl _) _) (p := ⟨W.heap.size, 0, none⟩) zl).trans z0, (Below.cell ((Below.refl w2.heap.size w2).alloc (Nat.le_refl _) _) (p := ⟨W.heap.size, 1, none⟩) zl).trans z1, by simp; omega, heap_alloc_new _ _⟩ ?_
      clear y0 y1 yl z0 z1 zl HB1 hb2 hB2 g0 gl
      rintro X ⟨HX, y0, y1, yl, hq⟩
      generalize w2.heap.size = bq at hq ⊢
      obtain ⟨⟨r0, r1⟩, hr⟩ : ∃ r, S.toP (q0, q1) = r := ⟨_, rfl⟩
      rw [hr] at hq
      have HRr := Lib.hid hr
      clear hr
      have x0 : X.cell? ⟨bq, 0, none⟩ = some (.int .i64 r0) := by simp [World.cell?, hq]
      have x1 : X.cell? ⟨bq, 1, none⟩ = some (.int .i64 r1) := by simp [World.cell?, hq]
      have hql := heap_lt hq
      have v0 : X.cell? ⟨bw, 0, none⟩ = some (.pointer (some ⟨B, 0, none⟩)) := (HZ.out _ HX.out).1
      have vl : bw < X.heap.size := by have := HX.out.size; omega
      go_wp2_with fail
      refine (wi_word B A S FA X r0 r1 (HZ.out _ HX.out).2.1).mono ?_
      rintro e w3 ⟨rfl, hb3⟩
      have HX3 := Lib.hid (HX.out.trans (hb3.mono HX.out.size))
      have z0 : w3.cell? ⟨W.heap.size, 0, none⟩ = some (.int .i64 q0) := (hb3.cell (p := ⟨W.heap.size, 0, none⟩) yl).trans y0
      have z1 : w3.cell? ⟨W.heap.size, 1, none⟩ = some (.int .i64 q1) := (hb3.cell (p := ⟨W.heap.size, 1, none⟩) yl).trans y1
      have u0 : w3.cell? ⟨bq, 0, none⟩ = some (.int .i64 r0) := (hb3.cell (p := ⟨bq, 0, none⟩) hql).trans x0
      have u1 : w3.cell? ⟨bq, 1, none⟩ = some (.int .i64 r1) := (hb3.cell (p := ⟨bq, 1, none⟩) hql).trans x1
      have zl : W.heap.size < w3.heap.size := Nat.lt_of_lt_of_le yl hb3.size
      have ul : bq < w3.heap.size := Nat.lt_of_lt_of_le hql hb3.size
      clear y0 y1 yl x0 x1 hql hq hb3 v0 vl
      simp only []
      go_wp2_with fail
      refine (pack_any q0 q1 w3).mono ?_
      rintro e w4 ⟨rfl, hb4⟩
      have HX4 := Lib.hid (HX3.out.trans (hb4.mono HX3.out.size))
      have y0 : w4.cell? ⟨W.heap.size, 0, none⟩ = some (.int .i64 q0) := (hb4.cell (p := ⟨W.heap.size, 0, none⟩) zl).trans z0
      have y1 : w4.cell? ⟨W.heap.size, 1, none⟩ = some (.int .i64 q1) := (hb4.cell (p := ⟨W.heap.size, 1, none⟩) zl).trans z1
      have x0 : w4.cell? ⟨bq, 0, none⟩ = some (.int .i64 r0) := (hb4.cell (p := ⟨bq, 0, none⟩) ul).trans u0
      have x1 : w4.cell? ⟨bq, 1, none⟩ = some (.int .i64 r1) := (hb4.cell (p := ⟨bq, 1, none⟩) ul).trans u1
      have yl : W.heap.size < w4.heap.size := Nat.lt_of_lt_of_le zl hb4.size
      have xl : bq < w4.heap.size := Nat.lt_of_lt_of_le ul hb4.size
      clear z0 z1 zl u0 u1 ul hb4
      simp only []
      have hr := HRr.out
      have hvv := HVV.out
      rw [hr] at hvv
      have hk3 := HK3.out
      rw [hr] at hk3
      injection hk3 with hk31 hk32
      rw [HTE.out, hvv]
      have hne : eqP (r0, r1) (q0, q1) = true := by unfold eqP; simp [hk31, hk32]
      clear hr hvv hk31 hk32
      have rt := (HZ.out _ HX4.out).2.2.t
      have re := (HZ.out _ HX4.out).2.2.e
      have t2 : w4.cell? ⟨bt, 0, none⟩ = some (.int .i64 p.1) := by simp [World.cell?, rt]
      have t3 : w4.cell? ⟨bt, 1, none⟩ = some (.int .i64 p.2) := by simp [World.cell?, rt]
      have t4 : w4.frozen? ⟨bt, 0, none⟩ = false := by simp [World.frozen?, rt]
      have t5 : w4.frozen? ⟨bt, 1, none⟩ = false := by simp [World.frozen?, rt]
      have e2 : w4.cell? ⟨be, 0, none⟩ = some (.int .i64 e0) := by simp [World.cell?, re]
      have e3 : w4.frozen? ⟨be, 0, none⟩ = false := by simp [World.frozen?, re]
      have tl := heap_lt rt
      have el := heap_lt re
      have nn := (HZ.out _ HX4.out).2.2.ne.2.2
      generalize pkW q0 q1 = own at *
      clear rt re
      go_wp2_with fail
      go_ret
      exact ⟨rfl, (HZ.out _ HX4.out).2.2.bad1 (q0, q1) 42, (((Kp.of_below HX4.out).setCell (p := ⟨bt, 0, none⟩) (.inl (by simp)) _).setCell (p := ⟨bt, 1, none⟩) (.inl (by simp)) _).setCell (p := ⟨be, 0, none⟩) (.inl (by simp)) _⟩
    · have hnb : (vv != pkW q0 q1) = true := by simpa using k2
      clear k2
      have HA := Lib.hid h
      have HB := Lib.hid (h.base hB)
      have hw0 : W.cell? ⟨bw, 0, none⟩ = some (.pointer (some ⟨B, 0, none⟩)) := by simp [World.cell?, HB.out.p]
      have hwl := heap_lt HB.out.p
      have HZ : Hid (∀ X, Below W.heap.size W X → X.cell? ⟨bw, 0, none⟩ = some (.pointer (some ⟨B, 0, none⟩)) ∧ WG X B A S FA ∧ Au w br bt be c f x o p e0 X) := fun X hX => by
        have h1 := (HB.out.below hX).p
        exact ⟨by simp [World.cell?, h1], HB.out.g.below hX, HA.out.below hX⟩
      clear h hB
      go_enter Try.func83, Try.ntmps83
      go_wp2_with fail
      refine (wi_word B A S FA _ q0 q1 (HZ.out _ (by (repeat (first | exact Below.refl _ _ | (with_reducible refine Below.drew ?_) | (with_reducible refine Below.alloc ?_ (by (try simp); (try omega)) _) | (with_reducible refine Below.setCell ?_ (by (try simp); (try omega)) _) | (with_reducible refine Below.trans ?_ (Below.mono (by assumption) (by (try simp); (try omega)))))))).2.1).mono ?_
      rintro e w1 ⟨rfl, hb1⟩
      have hB1 : Below W.heap.size W w1 := by (repeat (first | exact Below.refl _ _ | (with_reducible refine Below.drew ?_) | (with_reducible refine Below.alloc ?_ (by (try simp); (try omega)) _) | (with_reducible refine Below.setCell ?_ (by (try simp); (try omega)) _) | (with_reducible refine Below.trans ?_ (Below.mono (by assumption) (by (try simp); (try omega))))))
      have y0 : w1.cell? ⟨W.heap.size, 0, none⟩ = some (.int .i64 q0) := (hb1.cell (p := ⟨W.heap.size, 0, none⟩) (by simp)).trans (by go_simp)
      have y1 : w1.cell? ⟨W.heap.size, 1, none⟩ = some (.int .i64 q1) := (hb1.cell (p := ⟨W.heap.size, 1, none⟩) (by simp)).trans (by go_simp)
      have yl : W.heap.size < w1.heap.size := by have := hb1.size; simp at this; omega
      have HB1 := Lib.hid hB1
      clear hb1 hB1 hw0
      rw [HV.out]
      simp only []
      have g0 : w1.cell? ⟨bw, 0, none⟩ = some (.pointer (some ⟨B, 0, none⟩)) := (HZ.out _ HB1.out).1
      have gl : bw < w1.heap.size := by have := HB1.out.size; omega
      go_upto_region 6 with (go_at_call 17; refine (wi_to B A S FA _ q0 q1 (HZ.out _ HB1.out).2.1).mono ?_; rintro e w2 ⟨rfl, hb2⟩)
      have hB2 := HB1.out.trans (hb2.mono HB1.out.size)
      have z0 : w2.cell? ⟨W.heap.size, 0, none⟩ = some (.int .i64 q0) := (hb2.cell (p := ⟨W.heap.size, 0, none⟩) yl).trans y0
      have z1 : w2.cell? ⟨W.heap.size, 1, none⟩ = some (.int .i64 q1) := (hb2.cell (p := ⟨W.heap.size, 1, none⟩) yl).trans y1
      have zl : W.heap.size < w2.heap.size := Nat.lt_of_lt_of_le yl hb2.size
      refine absW (fun X => Hid (Below W.heap.size W X) ∧ X.cell? ⟨W.heap.size, 0, none⟩ = some (.int .i64 q0) ∧ X.cell? ⟨W.heap.size, 1, none⟩ = some (.int .i64 q1) ∧ W.heap.size < X.heap.size ∧ X.heap[w2.heap.size]? = some (.cells #[.int .i64 (S.toP (q0, q1)).1, .int .i64 (S.toP (q0, q1)).2] 39 (0, 0)))
        ⟨Lib.hid (hB2.alloc hB2.size _), (Below.cell ((Below.refl w2.heap.size w2).alloc (Nat.le_refl _) _) (p := ⟨W.heap.size, 0, none⟩) zl).trans z0, (Below.cell ((Below.refl w2.heap.size w2).alloc (Nat.le_refl _) _) (p := ⟨W.heap.size, 1, none⟩) zl).trans z1, by simp; omega, heap_alloc_new _ _⟩ ?_
      clear y0 y1 yl z0 z1 zl HB1 hb2 hB2 g0 gl
      rintro X ⟨HX, y0, y1, yl, hq⟩
      generalize w2.heap.size = bq at hq ⊢
      obtain ⟨⟨r0, r1⟩, hr⟩ : ∃ r, S.toP (q0, q1) = r := ⟨_, rfl⟩
      rw [hr] at hq
      have HRr := Lib.hid hr
      clear hr
      have x0 : X.cell? ⟨bq, 0, none⟩ = some (.int .i64 r0) := by simp [World.cell?, hq]
      have x1 : X.cell? ⟨bq, 1, none⟩ = some (.int .i64 r1) := by simp [World.cell?, hq]
      have hql := heap_lt hq
      have v0 : X.cell? ⟨bw, 0, none⟩ = some (.pointer (some ⟨B, 0, none⟩)) := (HZ.out _ HX.out).1
      have vl : bw < X.heap.size := by have := HX.out.size; omega
      go_wp2_with fail
      refine (wi_word B A S FA X r0 r1 (HZ.out _ HX.out).2.1).mono ?_
      rintro e w3 ⟨rfl, hb3⟩
      have HX3 := Lib.hid (HX.out.trans (hb3.mono HX.out.size))
      have z0 : w3.cell? ⟨W.heap.size, 0, none⟩ = some (.int .i64 q0) := (hb3.cell (p := ⟨W.heap.size, 0, none⟩) yl).trans y0
      have z1 : w3.cell? ⟨W.heap.size, 1, none⟩ = some (.int .i64 q1) := (hb3.cell (p := ⟨W.heap.size, 1, none⟩) yl).trans y1
      have u0 : w3.cell? ⟨bq, 0, none⟩ = some (.int .i64 r0) := (hb3.cell (p := ⟨bq, 0, none⟩) hql).trans x0
      have u1 : w3.cell? ⟨bq, 1, none⟩ = some (.int .i64 r1) := (hb3.cell (p := ⟨bq, 1, none⟩) hql).trans x1
      have zl : W.heap.size < w3.heap.size := Nat.lt_of_lt_of_le yl hb3.size
      have ul : bq < w3.heap.size := Nat.lt_of_lt_of_le hql hb3.size
      clear y0 y1 yl x0 x1 hql hq hb3 v0 vl
      simp only []
      go_wp2_with fail
      refine (pack_any q0 q1 w3).mono ?_
      rintro e w4 ⟨rfl, hb4⟩
      have HX4 := Lib.hid (HX3.out.trans (hb4.mono HX3.out.size))
      have y0 : w4.cell? ⟨W.heap.size, 0, none⟩ = some (.int .i64 q0) := (hb4.cell (p := ⟨W.heap.size, 0, none⟩) zl).trans z0
      have y1 : w4.cell? ⟨W.heap.size, 1, none⟩ = some (.int .i64 q1) := (hb4.cell (p := ⟨W.heap.size, 1, none⟩) zl).trans z1
      have x0 : w4.cell? ⟨bq, 0, none⟩ = some (.int .i64 r0) := (hb4.cell (p := ⟨bq, 0, none⟩) ul).trans u0
      have x1 : w4.cell? ⟨bq, 1, none⟩ = some (.int .i64 r1) := (hb4.cell (p := ⟨bq, 1, none⟩) ul).trans u1
      have yl : W.heap.size < w4.heap.size := Nat.lt_of_lt_of_le zl hb4.size
      have xl : bq < w4.heap.size := Nat.lt_of_lt_of_le ul hb4.size
      clear z0 z1 zl u0 u1 ul hb4
      simp only []
      have hr := HRr.out
      have hvv := HVV.out
      rw [hr] at hvv
      rw [HTE.out, hvv]
      clear hr hvv
      have rt := (HZ.out _ HX4.out).2.2.t
      have re := (HZ.out _ HX4.out).2.2.e
      have t2 : w4.cell? ⟨bt, 0, none⟩ = some (.int .i64 p.1) := by simp [World.cell?, rt]
      have t3 : w4.cell? ⟨bt, 1, none⟩ = some (.int .i64 p.2) := by simp [World.cell?, rt]
      have t4 : w4.frozen? ⟨bt, 0, none⟩ = false := by simp [World.frozen?, rt]
      have t5 : w4.frozen? ⟨bt, 1, none⟩ = false := by simp [World.frozen?, rt]
      have e2 : w4.cell? ⟨be, 0, none⟩ = some (.int .i64 e0) := by simp [World.cell?, re]
      have e3 : w4.frozen? ⟨be, 0, none⟩ = false := by simp [World.frozen?, re]
      have tl := heap_lt rt
      have el := heap_lt re
      have nn := (HZ.out _ HX4.out).2.2.ne.2.2
      generalize pkW q0 q1 = own at *
      clear rt re
      go_wp2_with fail
      go_ret
      exact ⟨rfl, (HZ.out _ HX4.out).2.2.bad1 (q0, q1) 42, (((Kp.of_below HX4.out).setCell (p := ⟨bt, 0, none⟩) (.inl (by simp)) _).setCell (p := ⟨bt, 1, none⟩) (.inl (by simp)) _).setCell (p := ⟨be, 0, none⟩) (.inl (by simp)) _⟩
  · have hnb : (te != 0) = true := by simpa using k1
    clear k1
    have HA := Lib.hid h
    have HB := Lib.hid (h.base hB)
    have hw0 : W.cell? ⟨bw, 0, none⟩ = some (.pointer (some ⟨B, 0, none⟩)) := by simp [World.cell?, HB.out.p]
    have hwl := heap_lt HB.out.p
    have HZ : Hid (∀ X, Below W.heap.size W X → X.cell? ⟨bw, 0, none⟩ = some (.pointer (some ⟨B, 0, none⟩)) ∧ WG X B A S FA ∧ Au w br bt be c f x o p e0 X) := fun X hX => by
      have h1 := (HB.out.below hX).p
      exact ⟨by simp [World.cell?, h1], HB.out.g.below hX, HA.out.below hX⟩
    clear h hB
    go_enter Try.func83, Try.ntmps83
    go_wp2_with fail
    refine (wi_word B A S FA _ q0 q1 (HZ.out _ (by (repeat (first | exact Below.refl _ _ | (with_reducible refine Below.drew ?_) | (with_reducible refine Below.alloc ?_ (by (try simp); (try omega)) _) | (with_reducible refine Below.setCell ?_ (by (try simp); (try omega)) _) | (with_reducible refine Below.trans ?_ (Below.mono (by assumption) (by (try simp); (try omega)))))))).2.1).mono ?_
    rintro e w1 ⟨rfl, hb1⟩
    have hB1 : Below W.heap.size W w1 := by (repeat (first | exact Below.refl _ _ | (with_reducible refine Below.drew ?_) | (with_reducible refine Below.alloc ?_ (by (try simp); (try omega)) _) | (with_reducible refine Below.setCell ?_ (by (try simp); (try omega)) _) | (with_reducible refine Below.trans ?_ (Below.mono (by assumption) (by (try simp); (try omega))))))
    have y0 : w1.cell? ⟨W.heap.size, 0, none⟩ = some (.int .i64 q0) := (hb1.cell (p := ⟨W.heap.size, 0, none⟩) (by simp)).trans (by go_simp)
    have y1 : w1.cell? ⟨W.heap.size, 1, none⟩ = some (.int .i64 q1) := (hb1.cell (p := ⟨W.heap.size, 1, none⟩) (by simp)).trans (by go_simp)
    have yl : W.heap.size < w1.heap.size := by have := hb1.size; simp at this; omega
    have HB1 := Lib.hid hB1
    clear hb1 hB1 hw0
    rw [HV.out]
    simp only []
    have g0 : w1.cell? ⟨bw, 0, none⟩ = some (.pointer (some ⟨B, 0, none⟩)) := (HZ.out _ HB1.out).1
    have gl : bw < w1.heap.size := by have := HB1.out.size; omega
    go_upto_region 6 with (go_at_call 17; refine (wi_to B A S FA _ q0 q1 (HZ.out _ HB1.out).2.1).mono ?_; rintro e w2 ⟨rfl, hb2⟩)
    have hB2 := HB1.out.trans (hb2.mono HB1.out.size)
    have z0 : w2.cell? ⟨W.heap.size, 0, none⟩ = some (.int .i64 q0) := (hb2.cell (p := ⟨W.heap.size, 0, none⟩) yl).trans y0
    have z1 : w2.cell? ⟨W.heap.size, 1, none⟩ = some (.int .i64 q1) := (hb2.cell (p := ⟨W.heap.size, 1, none⟩) yl).trans y1
    have zl : W.heap.size < w2.heap.size := Nat.lt_of_lt_of_le yl hb2.size
    refine absW (fun X => Hid (Below W.heap.size W X) ∧ X.cell? ⟨W.heap.size, 0, none⟩ = some (.int .i64 q0) ∧ X.cell? ⟨W.heap.size, 1, none⟩ = some (.int .i64 q1) ∧ W.heap.size < X.heap.size ∧ X.heap[w2.heap.size]? = some (.cells #[.int .i64 (S.toP (q0, q1)).1, .int .i64 (S.toP (q0, q1)).2] 39 (0, 0)))
      ⟨Lib.hid (hB2.alloc hB2.size _), (Below.cell ((Below.refl w2.heap.size w2).alloc (Nat.le_refl _) _) (p := ⟨W.heap.size, 0, none⟩) zl).trans z0, (Below.cell ((Below.refl w2.heap.size w2).alloc (Nat.le_refl _) _) (p := ⟨W.heap.size, 1, none⟩) zl).trans z1, by simp; omega, heap_alloc_new _ _⟩ ?_
    clear y0 y1 yl z0 z1 zl HB1 hb2 hB2 g0 gl
    rintro X ⟨HX, y0, y1, yl, hq⟩
    generalize w2.heap.size = bq at hq ⊢
    obtain ⟨⟨r0, r1⟩, hr⟩ : ∃ r, S.toP (q0, q1) = r := ⟨_, rfl⟩
    rw [hr] at hq
    have HRr := Lib.hid hr
    clear hr
    have x0 : X.cell? ⟨bq, 0, none⟩ = some (.int .i64 r0) := by simp [World.cell?, hq]
    have x1 : X.cell? ⟨bq, 1, none⟩ = some (.int .i64 r1) := by simp [World.cell?, hq]
    have hql := heap_lt hq
    have v0 : X.cell? ⟨bw, 0, none⟩ = some (.pointer (some ⟨B, 0, none⟩)) := (HZ.out _ HX.out).1
    have vl : bw < X.heap.size := by have := HX.out.size; omega
    go_wp2_with fail
    refine (wi_word B A S FA X r0 r1 (HZ.out _ HX.out).2.1).mono ?_
    rintro e w3 ⟨rfl, hb3⟩
    have HX3 := Lib.hid (HX.out.trans (hb3.mono HX.out.size))
    have z0 : w3.cell? ⟨W.heap.size, 0, none⟩ = some (.int .i64 q0) := (hb3.cell (p := ⟨W.heap.size, 0, none⟩) yl).trans y0
    have z1 : w3.cell? ⟨W.heap.size, 1, none⟩ = some (.int .i64 q1) := (hb3.cell (p := ⟨W.heap.size, 1, none⟩) yl).trans y1
    have u0 : w3.cell? ⟨bq, 0, none⟩ = some (.int .i64 r0) := (hb3.cell (p := ⟨bq, 0, none⟩) hql).trans x0
    have u1 : w3.cell? ⟨bq, 1, none⟩ = some (.int .i64 r1) := (hb3.cell (p := ⟨bq, 1, none⟩) hql).trans x1
    have zl : W.heap.size < w3.heap.size := Nat.lt_of_lt_of_le yl hb3.size
    have ul : bq < w3.heap.size := Nat.lt_of_lt_of_le hql hb3.size
    clear y0 y1 yl x0 x1 hql hq hb3 v0 vl
    simp only []
    go_wp2_with fail
    refine (pack_any q0 q1 w3).mono ?_
    rintro e w4 ⟨rfl, hb4⟩
    have HX4 := Lib.hid (HX3.out.trans (hb4.mono HX3.out.size))
    have y0 : w4.cell? ⟨W.heap.size, 0, none⟩ = some (.int .i64 q0) := (hb4.cell (p := ⟨W.heap.size, 0, none⟩) zl).trans z0
    have y1 : w4.cell? ⟨W.heap.size, 1, none⟩ = some (.int .i64 q1) := (hb4.cell (p := ⟨W.heap.size, 1, none⟩) zl).trans z1
    have x0 : w4.cell? ⟨bq, 0, none⟩ = some (.int .i64 r0) := (hb4.cell (p := ⟨bq, 0, none⟩) ul).trans u0
    have x1 : w4.cell? ⟨bq, 1, none⟩ = some (.int .i64 r1) := (hb4.cell (p := ⟨bq, 1, none⟩) ul).trans u1
    have yl : W.heap.size < w4.heap.size := Nat.lt_of_lt_of_le zl hb4.size
    have xl : bq < w4.heap.size := Nat.lt_of_lt_of_le ul hb4.size
    clear z0 z1 zl u0 u1 ul hb4
    simp only []
    have hr := HRr.out
    have hvv := HVV.out
    rw [hr] at hvv
    rw [HTE.out, hvv]
    clear hr hvv
    have rt := (HZ.out _ HX4.out).2.2.t
    have re := (HZ.out _ HX4.out).2.2.e
    have t2 : w4.cell? ⟨bt, 0, none⟩ = some (.int .i64 p.1) := by simp [World.cell?, rt]
    have t3 : w4.cell? ⟨bt, 1, none⟩ = some (.int .i64 p.2) := by simp [World.cell?, rt]
    have t4 : w4.frozen? ⟨bt, 0, none⟩ = false := by simp [World.frozen?, rt]
    have t5 : w4.frozen? ⟨bt, 1, none⟩ = false := by simp [World.frozen?, rt]
    have e2 : w4.cell? ⟨be, 0, none⟩ = some (.int .i64 e0) := by simp [World.cell?, re]
    have e3 : w4.frozen? ⟨be, 0, none⟩ = false := by simp [World.frozen?, re]
    have tl := heap_lt rt
    have el := heap_lt re
    have nn := (HZ.out _ HX4.out).2.2.ne.2.2
    generalize pkW q0 q1 = own at *
    clear rt re
    go_wp2_with fail
    go_ret
    exact ⟨rfl, (HZ.out _ HX4.out).2.2.bad1 (q0, q1) 42, (((Kp.of_below HX4.out).setCell (p := ⟨bt, 0, none⟩) (.inl (by simp)) _).setCell (p := ⟨bt, 1, none⟩) (.inl (by simp)) _).setCell (p := ⟨be, 0, none⟩) (.inl (by simp)) _⟩
end
end Go.Proofs.Ythbobooiedcofaa
/-
  audit.Audit's inner functions: the agents, the cells.
-/
/-
  audit.Audit's inner functions: the free ports, the agents, the cells.
-/
namespace Go.Proofs.Ythbobooiedcofaa
open Go.RowKit
attribute [local go_sem] cell_set
attribute [local go_sem] Oper.semAt_some
set_option maxRecDepth 100000
set_option linter.unusedVariables false

theorem firstBad_prefix {S : Wir} {l r : List Pt} {p : Pt} (h : l <+: r) (hb : S.firstBad l = some p) : S.firstBad r = some p := by
  obtain ⟨t, rfl⟩ := h
  exact S.firstBad_pre hb
theorem slotsOf_prefix (c : Int) {k n : Nat} (h : k ≤ n) : Wir.slotsOf c k <+: Wir.slotsOf c n := by
  unfold Wir.slotsOf
  have : List.range k <+: List.range n := by
    refine ⟨(List.range (n - k)).map (k + ·), ?_⟩
    rw [← List.range_add]; congr 1; omega
  exact this.map _
/-- What became of the boxes when a list of ports was gone through. -/
def AuRes (S : Wir) (w : World) (br bt be : Nat) (c f x o : Int) (p : Pt) (e : Int) (l : List Pt) (W : World) : Prop :=
  (S.firstBad l = none ∧ Au w br bt be c f (x + (S.nWire l : Int)) (o + (S.nOpen l : Int)) p e W) ∨ (∃ q, S.firstBad l = some q ∧ ∃ x' o', Au w br bt be c f x' o' q 42 W)
section
variable {S : Wir} {w : World} {br bt be : Nat} {c f x o : Int} {p : Pt} {e : Int} {l : List Pt} {W W' : World}
theorem step_open (q : Pt) (hn : S.firstBad l = none) (ho : S.isOpen q = true) : S.firstBad (l ++ [q]) = none ∧ (S.nWire (l ++ [q]) = S.nWire l) ∧ S.nOpen (l ++ [q]) = S.nOpen l + 1 := by
  have hw : S.wrong q = false := by simp [Wir.wrong, ho]
  exact ⟨by rw [S.firstBad_snoc _ _ hn, if_neg (by simp [hw])], by rw [S.nWire_snoc, if_pos ho]; rfl, by rw [S.nOpen_snoc, if_pos ho]⟩
theorem step_ok (q : Pt) (hn : S.firstBad l = none) (ho : S.isOpen q = false) (hb : S.isBad q = false) : S.firstBad (l ++ [q]) = none ∧ (S.nWire (l ++ [q]) = S.nWire l + 1) ∧ S.nOpen (l ++ [q]) = S.nOpen l := by
  have hw : S.wrong q = false := by simp [Wir.wrong, ho, hb]
  exact ⟨by rw [S.firstBad_snoc _ _ hn, if_neg (by simp [hw])], by rw [S.nWire_snoc, if_neg (by simp [ho])], by rw [S.nOpen_snoc, if_neg (by simp [ho])]; rfl⟩
theorem step_bad (q : Pt) (hn : S.firstBad l = none) (ho : S.isOpen q = false) (hb : S.isBad q = true) : S.firstBad (l ++ [q]) = some q := by
  have hw : S.wrong q = true := by simp [Wir.wrong, ho, hb]
  rw [S.firstBad_snoc _ _ hn, if_pos hw]
end
section
variable (bw bs B A : Nat) (S : Wir) (FA : List Nat) (br bt be : Nat) (c f x o : Int) (p : Pt) (e0 : Int) (w W : World)
set_option maxHeartbeats 2000000 in
theorem au_free (hb : 0 ≤ x ∧ x ≤ 1000 ∧ 0 ≤ o ∧ o ≤ 1000) (hs : W.heap[bs]? = some (.cells #[.func (.func 83) #[] #[.pointer (some ⟨bw, 0, none⟩), .pointer (some ⟨br, 0, none⟩), .pointer (some ⟨bt, 0, none⟩), .pointer (some ⟨be, 0, none⟩)]] 140 (0, 0))) (hsn : bs ∉ [br, bt, be]) (hB : AuB w bw B A S FA br bt be) (h : Au w br bt be c f x o p e0 W) :
    Calls Try.prog 85 #[.pointer (some ⟨bw, 0, none⟩), .pointer (some ⟨bs, 0, none⟩)] W fun e W' => (∃ r, e = .returned r) ∧ AuRes S w br bt be c f x o p e0 (Wir.slotsOf (-1) S.P.length) W' ∧ Kp [br, bt, be] W W' := by
  obtain ⟨n, hn⟩ : ∃ n, S.P.length = n := ⟨_, rfl⟩
  have hB2 := h.base hB
  have hn64 : n ≤ 64 := by rw [← hn]; exact hB2.g.ok.p
  have c0 : W.cell? ⟨bw, 0, none⟩ = some (.pointer (some ⟨B, 0, none⟩)) := by simp [World.cell?, hB2.p]
  have HB := Lib.hid hB
  have HN := Lib.hid hn
  have HS := Lib.hid (And.intro hs hsn)
  have HG := Lib.hid hB2.g
  have H0 : Hid (S.firstBad (Wir.slotsOf (-1) 0) = none ∧ Au w br bt be c f (x + (S.nWire (Wir.slotsOf (-1) 0) : Int)) (o + (S.nOpen (Wir.slotsOf (-1) 0) : Int)) p e0 W ∧ Kp [br, bt, be] W W) := ⟨rfl, by simpa [Wir.slotsOf, Wir.nWire, Wir.nOpen] using h, Kp.refl _ _⟩
  rw [hn]
  have hwl := heap_lt hB2.p
  clear hB hn hs hsn hB2 h
  go_enter Try.func85, Try.ntmps85
  go_wp2_with fail
  refine (wi_free B A S FA W HG.out).mono ?_
  rintro e w1 ⟨rfl, rfl⟩
  rw [HN.out]
  clear c0
  simp only []
  go_wp2_with fail
  go_loopw [5] (fun i wr => ∃ k : Nat, i = .int .i64 k ∧ k ≤ n ∧ Hid (S.firstBad (Wir.slotsOf (-1) k) = none ∧ Au w br bt be c f (x + (S.nWire (Wir.slotsOf (-1) k) : Int)) (o + (S.nOpen (Wir.slotsOf (-1) k) : Int)) p e0 wr ∧ Kp [br, bt, be] W wr)) (fun i _ => n - (intOf i).toNat)
  case atStart => exact ⟨0, rfl, Nat.zero_le _, H0⟩
  case round =>
    obtain ⟨k, rfl, hk, HR⟩ := hrel
    clear H0
    by_cases hlt : k < n
    · have hs1 := (HR.out.2.2.block bs (heap_lt HS.out.1) HS.out.2).trans HS.out.1
      have s0 : wr.cell? ⟨bs, 0, none⟩ = some (.func (.func 83) #[] #[.pointer (some ⟨bw, 0, none⟩), .pointer (some ⟨br, 0, none⟩), .pointer (some ⟨bt, 0, none⟩), .pointer (some ⟨be, 0, none⟩)]) := by simp [World.cell?, hs1]
      have sl := heap_lt hs1
      have w1 := S.nWire_le (Wir.slotsOf (-1) k)
      have w2 := S.nOpen_le (Wir.slotsOf (-1) k)
      rw [Wir.slotsOf_len] at w1 w2
      have hsn := Wir.slotsOf_succ (-1) k
      obtain ⟨l, hl⟩ : ∃ l, Wir.slotsOf (-1) k = l := ⟨_, rfl⟩
      rw [hl] at HR hsn w1 w2
      have HSn := Lib.hid hsn
      clear hs1 hsn hl
      cases ho : S.isOpen (-1, (k : Int))
      · cases hbd : S.isBad (-1, (k : Int))
        · have hst := step_ok (-1, (k : Int)) HR.out.1 ho hbd
          rw [← HSn.out] at hst
          have HSt := Lib.hid hst
          clear hst
          go_wp2_with (go_at_call 83; refine (au_see_ok bw B A S FA br bt be c f (x + (S.nWire l : Int)) (o + (S.nOpen l : Int)) p e0 w wr (-1) (k : Int) ho hbd (by omega) HB.out HR.out.2.1).mono ?_; rintro e w3 ⟨rfl, ha3, hk3⟩
                       have H3 := Lib.hid (And.intro ha3 (HR.out.2.2.tr hk3))
                       clear ha3 hk3)
          go_roundw
          case measure => simp [intOf]; omega
          case rel => exact ⟨k + 1, by go_num, by omega, HSt.out.1, by rw [HSt.out.2.1, HSt.out.2.2]; simpa [Int.add_assoc] using H3.out.1, H3.out.2⟩
        · have hst := step_bad (-1, (k : Int)) HR.out.1 ho hbd
          rw [← HSn.out] at hst
          have HSt := Lib.hid hst
          clear hst
          go_wp2_with (go_at_call 83; refine (au_see_bad bw B A S FA br bt be c f (x + (S.nWire l : Int)) (o + (S.nOpen l : Int)) p e0 w wr (-1) (k : Int) ho hbd HB.out HR.out.2.1).mono ?_; rintro e w3 ⟨rfl, ha3, hk3⟩
                       have H3 := Lib.hid (And.intro ha3 (HR.out.2.2.tr hk3))
                       clear ha3 hk3)
          have hf := firstBad_prefix (slotsOf_prefix (-1) (show k + 1 ≤ n by omega)) HSt.out
          exact bodyPost_ret (results_none rfl _ _ _) rfl ⟨⟨_, rfl⟩, Or.inr ⟨(-1, (k : Int)), hf, _, _, H3.out.1⟩, H3.out.2⟩
      · have hst := step_open (-1, (k : Int)) HR.out.1 ho
        rw [← HSn.out] at hst
        have HSt := Lib.hid hst
        clear hst
        go_wp2_with (go_at_call 83; refine (au_see_open bw B A S FA br bt be c f (x + (S.nWire l : Int)) (o + (S.nOpen l : Int)) p e0 w wr (-1) (k : Int) ho (by omega) HB.out HR.out.2.1).mono ?_; rintro e w3 ⟨rfl, ha3, hk3⟩
                     have H3 := Lib.hid (And.intro ha3 (HR.out.2.2.tr hk3))
                     clear ha3 hk3)
        go_roundw
        case measure => simp [intOf]; omega
        case rel => exact ⟨k + 1, by go_num, by omega, HSt.out.1, by rw [HSt.out.2.1, HSt.out.2.2]; simpa [Int.add_assoc] using H3.out.1, H3.out.2⟩
    · obtain rfl : k = n := by omega
      go_wp2_with fail
      exact bodyPost_end (results_none rfl _ _ _) rfl ⟨⟨_, rfl⟩, .inl ⟨HR.out.1, HR.out.2.1⟩, HR.out.2.2⟩
end
end Go.Proofs.Ythbobooiedcofaa
namespace Go.Proofs.Ythbobooiedcofaa
open Go.RowKit
attribute [local go_sem] cell_set
attribute [local go_sem] Oper.semAt_some
set_option maxRecDepth 100000
set_option linter.unusedVariables false

/-- Au, anew from a later world. -/
theorem Au.re {w w1 W : World} {br bt be : Nat} {c f x o : Int} {p : Pt} {e : Int} {c' f' x' o' : Int} {p' : Pt} {e' : Int} (h0 : Au w br bt be c' f' x' o' p' e' w1) (h : Au w1 br bt be c f x o p e W) : Au w br bt be c f x o p e W := ⟨h0.k.tr h.k, h.r, h.t, h.e⟩
theorem Au.self {w W : World} {br bt be : Nat} {c f x o : Int} {p : Pt} {e : Int} (h : Au w br bt be c f x o p e W) : Au W br bt be c f x o p e W := ⟨Kp.refl _ _, h.r, h.t, h.e⟩
theorem Au.lts {w W : World} {br bt be : Nat} {c f x o : Int} {p : Pt} {e : Int} (h : Au w br bt be c f x o p e W) : br < W.heap.size ∧ bt < W.heap.size ∧ be < W.heap.size := ⟨heap_lt h.r, heap_lt h.t, heap_lt h.e⟩
theorem Au.cl {w W : World} {br bt be : Nat} {c f x o : Int} {p : Pt} {e : Int} (h : Au w br bt be c f x o p e W) : ∀ b ∈ [br, bt, be], ∃ c t, W.heap[b]? = some (.cells c t (0, 0)) := by
  intro b hb
  simp only [List.mem_cons, List.not_mem_nil, or_false] at hb
  rcases hb with rfl | rfl | rfl
  · exact ⟨_, _, h.r⟩
  · exact ⟨_, _, h.t⟩
  · exact ⟨_, _, h.e⟩
def auActA (a : Act) (x : Nat × Int) : Act := { tmps := (((a.tmps.setIfInBounds 11 (.int .i64 (x.1 : Int))).setIfInBounds 12 (.int .i64 x.2)).setIfInBounds 4 (.int .i64 (x.1 : Int))).setIfInBounds 5 (.int .i64 x.2), defers := [] }
theorem agBad_snoc (S : Wir) (ps : Int → Int) (l : List (Nat × Int)) (x : Nat × Int) (h : S.agBad ps l = none) : S.agBad ps (l ++ [x]) = if ps x.2 ≠ S.A.agA (x.1 : Int) + 1 then some x else none := by
  unfold Wir.agBad at h ⊢
  rw [List.find?_append, h]
  by_cases hx : ps x.2 ≠ S.A.agA (x.1 : Int) + 1
  · rw [if_pos hx, List.find?_cons_of_pos (by simpa using hx)]; rfl
  · rw [if_neg hx, List.find?_cons_of_neg (by simpa using hx)]; rfl
theorem agBad_pre (S : Wir) (ps : Int → Int) {l r : List (Nat × Int)} {x : Nat × Int} (h : S.agBad ps l = some x) : S.agBad ps (l ++ r) = some x := by
  unfold Wir.agBad at h ⊢
  rw [List.find?_append, h]; rfl
/-- What became of the boxes when the agents were looked at. -/
def AgRes (S : Wir) (ps : Int → Int) (w : World) (br bt be : Nat) (c f x o : Int) (l : List (Nat × Int)) (p : Pt) (e : Int) (W : World) : Prop :=
  (S.agBad ps l = none ∧ Au w br bt be c f x o p e W) ∨ (∃ q, S.agBad ps l = some q ∧ Au w br bt be c f x o ((q.1 : Int), 0) 20 W)
section
variable (ba B A bsg : Nat) (S : Wir) (FA : List Nat) (br bt be : Nat) (c f x o : Int) (p : Pt) (e0 : Int) (As : Option Addr) (n cap : Nat) (L : List (ByteArray × Int)) (w : World)
set_option maxHeartbeats 4000000 in
theorem au_agents (hn : n = L.length) (hl : L.length ≤ maxLen) (HL : Hid (AgRd w As L)) (hs : Hid (SigOk L)) (h0 : w.heap[ba]? = some (.cells #[.pointer (some ⟨A, 0, none⟩)] 23 (0, 0))) (h1 : w.heap[bsg]? = some (.cells #[.slice As n cap] 63 (0, 0)))
    (hg : WG w B A S FA) (hne : ∀ b ∈ B :: FA, b ∉ [br, bt, be]) (hag : ∀ b off, As = some ⟨b, off, none⟩ → b ∉ [br, bt, be]) (h : Au w br bt be c f x o p e0 w) :
    Calls Try.prog 82 #[.pointer (some ⟨ba, 0, none⟩), .pointer (some ⟨bsg, 0, none⟩), .pointer (some ⟨bt, 0, none⟩), .pointer (some ⟨be, 0, none⟩)] w fun e W' => (∃ r, e = .returned r) ∧ AgRes S (portsN L) w br bt be c f x o (S.A.upto S.A.cells.length) p e0 W' ∧ Kp [br, bt, be] w W' := by
  subst hn
  have HA := Lib.hid h
  have HG := Lib.hid (And.intro hg hne)
  have H01 := Lib.hid (And.intro h0 h1)
  have hn0 : ba ∉ [br, bt, be] := by
    simp only [List.mem_cons, List.not_mem_nil, or_false, not_or]
    exact ⟨ty_ne h0 h.r (by decide), ty_ne h0 h.t (by decide), ty_ne h0 h.e (by decide)⟩
  have hn1 : bsg ∉ [br, bt, be] := by
    simp only [List.mem_cons, List.not_mem_nil, or_false, not_or]
    exact ⟨ty_ne h1 h.r (by decide), ty_ne h1 h.t (by decide), ty_ne h1 h.e (by decide)⟩
  have HNe := Lib.hid (And.intro hn0 (And.intro hn1 hag))
  have a0 : w.cell? ⟨ba, 0, none⟩ = some (.pointer (some ⟨A, 0, none⟩)) := by simp [World.cell?, h0]
  have al := heap_lt h0
  have sgl := heap_lt h1
  have hul := S.A.upto_len S.A.cells.length
  have hm2 := hg.ok.a.most2
  have hcl := hg.ok.a.len
  have hu4 : (S.A.upto S.A.cells.length).length ≤ 4096 := by omega
  obtain ⟨U, hU⟩ : ∃ U, S.A.upto S.A.cells.length = U := ⟨_, rfl⟩
  rw [hU] at hu4 ⊢
  have HU := Lib.hid hU
  clear hul hm2 hcl hU h hg hne h0 h1 hn0 hn1 hag
  refine (callsIn_wide (n := 5)).1 (callsIn_of_wp_marks Try.func82 rfl trivial (wpIn_wide.2 ?_) rfl)
  simp only [Try.ntmps82, List.size_toArray, List.length_cons, List.length_nil, Nat.reduceAdd, Nat.reduceSub, Array.replicate_succ, Array.replicate_zero, List.push_toArray, List.append_toArray, List.nil_append, List.cons_append]
  go_wp2_with (go_at_call 74; refine (ar_all A S.A FA w HG.out.1.pa).mono ?_; rintro e w1 ⟨v, rfl, hb1, bx⟩; rw [HU.out] at bx)
  clear a0
  have hz1 := hb1.size
  have hbl := bx.lt
  have hbo : ∀ b ∈ w.heap.size :: ownB v, w.heap.size ≤ b ∧ b < w1.heap.size := fun b hb => by
    simp only [List.mem_cons] at hb
    rcases hb with rfl | hb
    · exact ⟨Nat.le_refl _, hbl⟩
    · exact ⟨bx.own b hb, bx.row.lt b hb⟩
  have HBO := Lib.hid hbo
  have HA1 := Lib.hid (HA.out.below hb1).self
  have hlts := HA.out.lts
  have HLT : Hid ((br < w1.heap.size ∧ bt < w1.heap.size ∧ be < w1.heap.size) ∧ ∀ b ∈ [br, bt, be], b < w.heap.size) := ⟨⟨by omega, by omega, by omega⟩, by simp; omega⟩
  have HB1 := Lib.hid hb1
  have HG1 := Lib.hid (And.intro (HG.out.1.below hb1) HG.out.2)
  have H1 : Hid (w1.heap[ba]? = some (.cells #[.pointer (some ⟨A, 0, none⟩)] 23 (0, 0)) ∧ w1.heap[bsg]? = some (.cells #[.slice As L.length cap] 63 (0, 0)) ∧ AgRd w1 As L) := ⟨(hb1.block _ al).trans H01.out.1, (hb1.block _ sgl).trans H01.out.2, HL.out.below hb1⟩
  clear hlts hb1
  refine rf rfl (enters_of Try.func117 (by kernel_rfl) rfl) (seq_stops 4 w.heap.size w.heap.size v U (by omega) _ bx) (fun b hb => (HBO.out b hb).2) (fun _ => rfl)
    (fun pre W => S.agBad (portsN L) pre = none ∧ Au w1 br bt be c f x o p e0 W)
    (fun cd pre W => cd = .ret ∧ ∃ q, S.agBad (portsN L) pre = some q ∧ Au w1 br bt be c f x o ((q.1 : Int), 0) 20 W)
    (fun s W1 W2 row h hg hr => ⟨h.1, h.2.grown hg HLT.out.1 (Nat.le_refl _) hr⟩)
    (fun cd s W1 W2 row h hg hr => by
      obtain ⟨h1, q, h2, h3⟩ := h
      exact ⟨h1, q, h2, h3.grown hg HLT.out.1 (Nat.le_refl _) hr⟩)
    ⟨rfl, HA1.out⟩ auActA ?assign ?body ?done ?stop
  case assign =>
    intro l x W K hK
    gi_wp2
    simpa [auActA] using hK
  case stop =>
    rintro D cd pre W hD ⟨k, hk, hpre⟩ ⟨rfl, q, hq, hau⟩ hK
    have HK := Lib.hid hK
    have hqq : S.agBad (portsN L) U = some q := by
      rw [← List.take_append_drop k U, ← hpre]
      exact agBad_pre S _ hq
    have HF : Hid (AgRes S (portsN L) w br bt be c f x o U p e0 (W.putObj D (.deferred none)) ∧ Kp [br, bt, be] w (W.putObj D (.deferred none))) := by
      have hDb : ∀ b ∈ [br, bt, be], b ≠ D := fun b hb e => by have := HLT.out.2 b hb; omega
      have hkk : Kp [br, bt, be] w (W.putObj D (.deferred none)) := by
        have h1 := (Kp.of_below (F := [br, bt, be]) HB1.out).tr hau.k
        exact ⟨h1.os, h1.tape, h1.output, by simpa using h1.size, fun b hb hn => (World.putObj_heap_other (by omega)).trans (h1.block b hb hn)⟩
      refine ⟨.inr ⟨q, hqq, hkk, (World.putObj_heap_other (hDb br (by simp))).trans hau.r, (World.putObj_heap_other (hDb bt (by simp))).trans hau.t, (World.putObj_heap_other (hDb be (by simp))).trans hau.e⟩, hkk⟩
    clear hau hK
    go_wp2_with fail
    exact leaveMk HK.out ⟨_, results_none rfl _ _ _, ⟨_, rfl⟩, HF.out⟩
  case done =>
    rintro D ys W hD rfl ⟨hq, hau⟩ hK
    have HK := Lib.hid hK
    have HF : Hid (AgRes S (portsN L) w br bt be c f x o ys p e0 (W.putObj D (.deferred none)) ∧ Kp [br, bt, be] w (W.putObj D (.deferred none))) := by
      have hDb : ∀ b ∈ [br, bt, be], b ≠ D := fun b hb e => by have := HLT.out.2 b hb; omega
      have hkk : Kp [br, bt, be] w (W.putObj D (.deferred none)) := by
        have h1 := (Kp.of_below (F := [br, bt, be]) HB1.out).tr hau.k
        exact ⟨h1.os, h1.tape, h1.output, by simpa using h1.size, fun b hb hn => (World.putObj_heap_other (by omega)).trans (h1.block b hb hn)⟩
      refine ⟨.inl ⟨hq, hkk, (World.putObj_heap_other (hDb br (by simp))).trans hau.r, (World.putObj_heap_other (hDb bt (by simp))).trans hau.t, (World.putObj_heap_other (hDb be (by simp))).trans hau.e⟩, hkk⟩
    clear hau hK
    go_wp2_with fail
    exact leaveMk HK.out ⟨_, results_none rfl _ _ _, ⟨_, rfl⟩, HF.out⟩
  case body =>
    rintro l pre ⟨cc, ag⟩ W ⟨hpre, hau⟩ hlen
    have HAU := Lib.hid hau
    have h0 := (hau.k.block ba (heap_lt H1.out.1) HNe.out.1).trans H1.out.1
    have h1 := (hau.k.block bsg (heap_lt H1.out.2.1) HNe.out.2.1).trans H1.out.2.1
    have a0 : W.cell? ⟨ba, 0, none⟩ = some (.pointer (some ⟨A, 0, none⟩)) := by simp [World.cell?, h0]
    have s0 : W.cell? ⟨bsg, 0, none⟩ = some (.slice As L.length cap) := by simp [World.cell?, h1]
    have a1 := heap_lt h0
    have s1 := heap_lt h1
    have hagl : AgRd W As L := fun i hi => by
      obtain ⟨b, off, e, hb, x0, x1⟩ := H1.out.2.2 i hi
      have hn := HNe.out.2.2 b off e
      exact ⟨b, off, e, Nat.lt_of_lt_of_le hb hau.k.size, (hau.k.cell (p := ⟨b, _, none⟩) hb hn).trans x0, (hau.k.cell (p := ⟨b, _, none⟩) hb hn).trans x1⟩
    have HL2 := Lib.hid hagl
    have hpk := hs.out.ports ag
    have HPK := Lib.hid hpk
    have hsn := agBad_snoc S (portsN L) pre (cc, ag) hpre
    have HSN := Lib.hid hsn
    obtain ⟨ar, har⟩ : ∃ ar, S.A.agA (cc : Int) = ar := ⟨_, rfl⟩
    have hsl := slots_le HG.out.1.ok (cc : Int)
    rw [har] at hsl
    have HAR := Lib.hid har
    obtain ⟨m, rfl⟩ := Int.eq_ofNat_of_zero_le hsl.1
    have hm6 : m ≤ 6 := by omega
    have ea : IntKind.i64.wrap ((m : Int) + 1) = (m : Int) + 1 := IntWalk.i64_in _ (by omega)
    obtain ⟨pn, hpn⟩ : ∃ pn, portsN L ag = pn := ⟨_, rfl⟩
    have HPN := Lib.hid hpn
    clear hau h0 h1 hagl hpk hsn har hsl hpn hpre hlen
    simp only [auActA]
    gi_wp2_with fail
    refine ⟨trivial, CallsIn.inRound l (callsIn_wide.2 ((ar_agent A S.A FA (cc : Int) W (HG1.out.1.kp HAU.out.k HG1.out.2).pa).mono ?_))⟩
    rintro e w2 ⟨rfl, hb2⟩
    rw [HAR.out]
    generalize (if (S.A.cell (cc : Int)).isSome = true then (0 : Int) else 41) = ee
    have H2 := Lib.hid (And.intro (HAU.out.below hb2) (And.intro (HL2.out.below hb2) (Kp.of_below (F := [br, bt, be]) hb2)))
    have s0' : w2.cell? ⟨bsg, 0, none⟩ = some (.slice As L.length cap) := (hb2.cell (p := ⟨bsg, 0, none⟩) s1).trans s0
    have s1' : bsg < w2.heap.size := Nat.lt_of_lt_of_le s1 hb2.size
    clear hb2 a0 s0 a1 s1
    simp only []
    gi_wp2_with fail
    refine ⟨trivial, CallsIn.inRound l (callsIn_wide.2 ((ports_any As _ cap L ag _ rfl hl (Lib.hid H2.out.2.1) HPK.out.2.2).mono ?_))⟩
    rintro e w3 ⟨rfl, rfl⟩
    rw [HPN.out]
    clear s0' s1'
    by_cases hb : pn = (m : Int) + 1
    · have hbb : (pn != (m : Int) + 1) = false := by simpa using hb
      have HBB := Lib.hid hb
      clear hb
      simp only []
      gi_wp2_with fail
      refine ⟨(KeepsOthers.ofKp H2.out.2.2 HAU.out.cl).from _, ⟨H2.out.2.2.size, fun b hb => H2.out.2.2.block b (by have := (HBO.out b hb).2; have := HAU.out.k.size; omega) (fun hm => by have := (HBO.out b hb).1; have := HLT.out.2 b hm; omega)⟩, ?_, H2.out.1⟩
      rw [HSN.out, if_neg]
      simp only [HPN.out, HAR.out, HBB.out]
      simp
    · have hbb : (pn != (m : Int) + 1) = true := by simpa using hb
      have HBB := Lib.hid hb
      clear hb
      have rt := H2.out.1.t
      have re := H2.out.1.e
      have t2 : w2.cell? ⟨bt, 0, none⟩ = some (.int .i64 p.1) := by simp [World.cell?, rt]
      have t3 : w2.cell? ⟨bt, 1, none⟩ = some (.int .i64 p.2) := by simp [World.cell?, rt]
      have t4 : w2.frozen? ⟨bt, 0, none⟩ = false := by simp [World.frozen?, rt]
      have t5 : w2.frozen? ⟨bt, 1, none⟩ = false := by simp [World.frozen?, rt]
      have e2 : w2.cell? ⟨be, 0, none⟩ = some (.int .i64 e0) := by simp [World.cell?, re]
      have e3 : w2.frozen? ⟨be, 0, none⟩ = false := by simp [World.frozen?, re]
      have tl := heap_lt rt
      have el := heap_lt re
      have nn := H2.out.1.ne.2.2
      clear rt re
      simp only []
      gi_wp2_with fail
      have hkk : Kp [br, bt, be] W (((w2.setCell ⟨bt, 0, none⟩ (.int .i64 (cc : Int))).setCell ⟨bt, 1, none⟩ (.int .i64 0)).setCell ⟨be, 0, none⟩ (.int .i64 20)) := ((H2.out.2.2.setCell (p := ⟨bt, 0, none⟩) (.inl (by simp)) _).setCell (p := ⟨bt, 1, none⟩) (.inl (by simp)) _).setCell (p := ⟨be, 0, none⟩) (.inl (by simp)) _
      refine ⟨(KeepsOthers.ofKp hkk HAU.out.cl).from _, rfl, (cc, ag), ?_, H2.out.1.bad1 ((cc : Int), 0) 20⟩
      rw [HSN.out, if_pos]
      simp only [HPN.out, HAR.out]
      exact HBB.out
end
end Go.Proofs.Ythbobooiedcofaa
namespace Go.Proofs.Ythbobooiedcofaa
open Go.RowKit
attribute [local go_sem] cell_set
attribute [local go_sem] Oper.semAt_some
set_option maxRecDepth 100000
set_option linter.unusedVariables false

def auActC (a : Act) (x : Nat × Int) : Act := { tmps := ((a.tmps.setIfInBounds 9 (.int .i64 (x.1 : Int))).setIfInBounds 10 (.int .i64 x.2)).setIfInBounds 2 (.int .i64 (x.1 : Int)), defers := [] }
theorem flat_prefix (S : Wir) (U : List (Nat × Int)) (k : Nat) : (U.take k).flatMap (Wir.liveSl S) <+: U.flatMap (Wir.liveSl S) := by
  refine ⟨(U.drop k).flatMap (Wir.liveSl S), ?_⟩
  rw [← List.flatMap_append, List.take_append_drop]
section
variable (ba bw bs B A : Nat) (S : Wir) (FA : List Nat) (br bt be : Nat) (c f x o : Int) (p : Pt) (e0 : Int) (w : World)
set_option maxHeartbeats 4000000 in
theorem au_cells (hb : 0 ≤ x ∧ x ≤ 1000 ∧ 0 ≤ o ∧ o ≤ 1000) (h0 : w.heap[ba]? = some (.cells #[.pointer (some ⟨A, 0, none⟩)] 23 (0, 0))) (hs : w.heap[bs]? = some (.cells #[.func (.func 83) #[] #[.pointer (some ⟨bw, 0, none⟩), .pointer (some ⟨br, 0, none⟩), .pointer (some ⟨bt, 0, none⟩), .pointer (some ⟨be, 0, none⟩)]] 140 (0, 0)))
    (hB : AuB w bw B A S FA br bt be) (h : Au w br bt be c f x o p e0 w) :
    Calls Try.prog 86 #[.pointer (some ⟨ba, 0, none⟩), .pointer (some ⟨bs, 0, none⟩)] w fun e W' => (∃ r, e = .returned r) ∧ AuRes S w br bt be c f x o p e0 ((S.A.upto S.A.cells.length).flatMap (Wir.liveSl S)) W' ∧ Kp [br, bt, be] w W' := by
  have HA := Lib.hid h
  have HG := Lib.hid hB
  have H01 := Lib.hid (And.intro h0 hs)
  have hn0 : ba ∉ [br, bt, be] := by
    simp only [List.mem_cons, List.not_mem_nil, or_false, not_or]
    exact ⟨ty_ne h0 h.r (by decide), ty_ne h0 h.t (by decide), ty_ne h0 h.e (by decide)⟩
  have hn1 : bs ∉ [br, bt, be] := by
    simp only [List.mem_cons, List.not_mem_nil, or_false, not_or]
    exact ⟨ty_ne hs h.r (by decide), ty_ne hs h.t (by decide), ty_ne hs h.e (by decide)⟩
  have HNe := Lib.hid (And.intro hn0 hn1)
  have a0 : w.cell? ⟨ba, 0, none⟩ = some (.pointer (some ⟨A, 0, none⟩)) := by simp [World.cell?, h0]
  have al := heap_lt h0
  have sgl := heap_lt hs
  have hul := S.A.upto_len S.A.cells.length
  have hm2 := hB.g.ok.a.most2
  have hcl := hB.g.ok.a.len
  have hu4 : (S.A.upto S.A.cells.length).length ≤ 4096 := by omega
  obtain ⟨U, hU⟩ : ∃ U, S.A.upto S.A.cells.length = U := ⟨_, rfl⟩
  rw [hU] at hu4 ⊢
  have HU := Lib.hid hU
  clear hul hm2 hcl hU h hB h0 hs hn0 hn1
  refine (callsIn_wide (n := 5)).1 (callsIn_of_wp_marks Try.func86 rfl trivial (wpIn_wide.2 ?_) rfl)
  simp only [Try.ntmps86, List.size_toArray, List.length_cons, List.length_nil, Nat.reduceAdd, Nat.reduceSub, Array.replicate_succ, Array.replicate_zero, List.push_toArray, List.append_toArray, List.nil_append, List.cons_append]
  go_wp2_with (go_at_call 74; refine (ar_all A S.A FA w HG.out.g.pa).mono ?_; rintro e w1 ⟨v, rfl, hb1, bx⟩; rw [HU.out] at bx)
  clear a0
  have hz1 := hb1.size
  have hbl := bx.lt
  have hbo : ∀ b ∈ w.heap.size :: ownB v, w.heap.size ≤ b ∧ b < w1.heap.size := fun b hb => by
    simp only [List.mem_cons] at hb
    rcases hb with rfl | hb
    · exact ⟨Nat.le_refl _, hbl⟩
    · exact ⟨bx.own b hb, bx.row.lt b hb⟩
  have HBO := Lib.hid hbo
  have HA1 := Lib.hid (HA.out.below hb1).self
  have hlts := HA.out.lts
  have HLT : Hid ((br < w1.heap.size ∧ bt < w1.heap.size ∧ be < w1.heap.size) ∧ ∀ b ∈ [br, bt, be], b < w.heap.size) := ⟨⟨by omega, by omega, by omega⟩, by simp; omega⟩
  have HB1 := Lib.hid hb1
  have HG1 := Lib.hid (HG.out.below hb1)
  have H1 : Hid (w1.heap[ba]? = some (.cells #[.pointer (some ⟨A, 0, none⟩)] 23 (0, 0)) ∧ w1.heap[bs]? = some (.cells #[.func (.func 83) #[] #[.pointer (some ⟨bw, 0, none⟩), .pointer (some ⟨br, 0, none⟩), .pointer (some ⟨bt, 0, none⟩), .pointer (some ⟨be, 0, none⟩)]] 140 (0, 0))) := ⟨(hb1.block _ al).trans H01.out.1, (hb1.block _ sgl).trans H01.out.2⟩
  clear hlts hb1
  refine rf rfl (enters_of Try.func117 (by kernel_rfl) rfl) (seq_stops 4 w.heap.size w.heap.size v U (by omega) _ bx) (fun b hb => (HBO.out b hb).2) (fun _ => rfl)
    (fun pre W => S.firstBad (pre.flatMap (Wir.liveSl S)) = none ∧ Au w1 br bt be c f (x + (S.nWire (pre.flatMap (Wir.liveSl S)) : Int)) (o + (S.nOpen (pre.flatMap (Wir.liveSl S)) : Int)) p e0 W)
    (fun cd pre W => cd = .ret ∧ ∃ q, S.firstBad (pre.flatMap (Wir.liveSl S)) = some q ∧ ∃ x' o', Au w1 br bt be c f x' o' q 42 W)
    (fun s W1 W2 row h hg hr => ⟨h.1, h.2.grown hg HLT.out.1 (Nat.le_refl _) hr⟩)
    (fun cd s W1 W2 row h hg hr => by
      obtain ⟨h1, q, h2, x', o', h3⟩ := h
      exact ⟨h1, q, h2, x', o', h3.grown hg HLT.out.1 (Nat.le_refl _) hr⟩)
    ⟨rfl, by simpa [Wir.nWire, Wir.nOpen] using HA1.out⟩ auActC ?assign ?body ?done ?stop
  case assign =>
    intro l x W K hK
    gi_wp2
    simpa [auActC] using hK
  case stop =>
    rintro D cd pre W hD ⟨k, hk, hpre⟩ ⟨rfl, q, hq, x', o', hau⟩ hK
    have HK := Lib.hid hK
    have hqq : S.firstBad (U.flatMap (Wir.liveSl S)) = some q := firstBad_prefix (flat_prefix S U k) (hpre ▸ hq)
    have HF : Hid (AuRes S w br bt be c f x o p e0 (U.flatMap (Wir.liveSl S)) (W.putObj D (.deferred none)) ∧ Kp [br, bt, be] w (W.putObj D (.deferred none))) := by
      have hDb : ∀ b ∈ [br, bt, be], b ≠ D := fun b hb e => by have := HLT.out.2 b hb; omega
      have hkk : Kp [br, bt, be] w (W.putObj D (.deferred none)) := by
        have h1 := (Kp.of_below (F := [br, bt, be]) HB1.out).tr hau.k
        exact ⟨h1.os, h1.tape, h1.output, by simpa using h1.size, fun b hb hn => (World.putObj_heap_other (by omega)).trans (h1.block b hb hn)⟩
      refine ⟨.inr ⟨q, hqq, x', o', hkk, (World.putObj_heap_other (hDb br (by simp))).trans hau.r, (World.putObj_heap_other (hDb bt (by simp))).trans hau.t, (World.putObj_heap_other (hDb be (by simp))).trans hau.e⟩, hkk⟩
    clear hau hK
    go_wp2_with fail
    exact leaveMk HK.out ⟨_, results_none rfl _ _ _, ⟨_, rfl⟩, HF.out⟩
  case done =>
    rintro D ys W hD rfl ⟨hq, hau⟩ hK
    have HK := Lib.hid hK
    have HF : Hid (AuRes S w br bt be c f x o p e0 (ys.flatMap (Wir.liveSl S)) (W.putObj D (.deferred none)) ∧ Kp [br, bt, be] w (W.putObj D (.deferred none))) := by
      have hDb : ∀ b ∈ [br, bt, be], b ≠ D := fun b hb e => by have := HLT.out.2 b hb; omega
      have hkk : Kp [br, bt, be] w (W.putObj D (.deferred none)) := by
        have h1 := (Kp.of_below (F := [br, bt, be]) HB1.out).tr hau.k
        exact ⟨h1.os, h1.tape, h1.output, by simpa using h1.size, fun b hb hn => (World.putObj_heap_other (by omega)).trans (h1.block b hb hn)⟩
      refine ⟨.inl ⟨hq, hkk, (World.putObj_heap_other (hDb br (by simp))).trans hau.r, (World.putObj_heap_other (hDb bt (by simp))).trans hau.t, (World.putObj_heap_other (hDb be (by simp))).trans hau.e⟩, hkk⟩
    clear hau hK
    go_wp2_with fail
    exact leaveMk HK.out ⟨_, results_none rfl _ _ _, ⟨_, rfl⟩, HF.out⟩
  case body =>
    rintro l pre ⟨cc, ag⟩ W ⟨hpre, hau⟩ hlen
    have HAU := Lib.hid hau
    have HKW := Lib.hid hau.k
    have h0 := (hau.k.block ba (heap_lt H1.out.1) HNe.out.1).trans H1.out.1
    have a0 : W.cell? ⟨ba, 0, none⟩ = some (.pointer (some ⟨A, 0, none⟩)) := by simp [World.cell?, h0]
    have a1 := heap_lt h0
    have hl7 := live_le HG.out.g.ok pre
    have hw7 := S.nWire_le (pre.flatMap (Wir.liveSl S))
    have ho7 := S.nOpen_le (pre.flatMap (Wir.liveSl S))
    obtain ⟨ar, har⟩ : ∃ ar, S.A.agA (cc : Int) = ar := ⟨_, rfl⟩
    have hsl := slots_le HG.out.g.ok (cc : Int)
    rw [har] at hsl
    have HAR := Lib.hid har
    obtain ⟨m, rfl⟩ := Int.eq_ofNat_of_zero_le hsl.1
    have hm6 : m ≤ 6 := by omega
    have ea : IntKind.i64.wrap ((m : Int) + 1) = ((m + 1 : Nat) : Int) := by rw [IntWalk.i64_in _ (by omega)]; omega
    have hpe : (pre ++ [(cc, ag)]).flatMap (Wir.liveSl S) = pre.flatMap (Wir.liveSl S) ++ Wir.slotsOf (cc : Int) (m + 1) := by
      rw [List.flatMap_append]
      congr 1
      simp only [List.flatMap_cons, List.flatMap_nil, List.append_nil, Wir.liveSl]
      rw [har]
      congr 1
    obtain ⟨ps, hps⟩ : ∃ ps, pre.flatMap (Wir.liveSl S) = ps := ⟨_, rfl⟩
    rw [hps] at hpe hw7 ho7 hl7 hpre
    rw [hps] at HAU
    have HPE := Lib.hid hpe
    have HGW := Lib.hid (HAU.out.base HG1.out)
    have hpl : ps.length ≤ 28672 := by omega
    have hb0 : S.nWire ps ≤ 28672 := by omega
    have hb1 : S.nOpen ps ≤ 28672 := by omega
    have HP0 : Hid (S.firstBad (ps ++ Wir.slotsOf (cc : Int) 0) = none) := by show _ = _; simpa [Wir.slotsOf] using hpre
    clear hau h0 hl7 hw7 ho7 har hsl hpe hps hpre hlen
    simp only [auActC]
    gi_wp2_with fail
    refine ⟨trivial, CallsIn.inRound l (callsIn_wide.2 ((ar_agent A S.A FA (cc : Int) W HGW.out.g.pa).mono ?_))⟩
    rintro e w2 ⟨rfl, hb2⟩
    rw [HAR.out]
    generalize (if (S.A.cell (cc : Int)).isSome = true then (0 : Int) else 41) = ee
    have hC2 : S.firstBad (ps ++ Wir.slotsOf (cc : Int) 0) = none ∧ Au W br bt be c f (x + (S.nWire (ps ++ Wir.slotsOf (cc : Int) 0) : Int)) (o + (S.nOpen (ps ++ Wir.slotsOf (cc : Int) 0) : Int)) p e0 w2 ∧ Kp [br, bt, be] W w2 :=
      ⟨HP0.out, by simpa [Wir.slotsOf] using HAU.out.self.below hb2, Kp.of_below hb2⟩
    have HC2 := Lib.hid hC2
    clear hC2 hb2 a0 a1
    simp only []
    gi_wp2_with fail
    gi_loopw [20] (fun i wr => ∃ j : Nat, i = .int .i64 j ∧ j ≤ m + 1 ∧ Hid (S.firstBad (ps ++ Wir.slotsOf (cc : Int) j) = none ∧ Au W br bt be c f (x + (S.nWire (ps ++ Wir.slotsOf (cc : Int) j) : Int)) (o + (S.nOpen (ps ++ Wir.slotsOf (cc : Int) j) : Int)) p e0 wr ∧ Kp [br, bt, be] W wr)) (fun i _ => m + 1 - (intOf i).toNat)
    case atStart => exact ⟨0, rfl, Nat.zero_le _, HC2⟩
    case round =>
      obtain ⟨j, rfl, hj, HJ⟩ := hrel
      clear HC2
      by_cases hjm : j < m + 1
      · have hsW := (HKW.out.block bs (heap_lt H1.out.2) HNe.out.2).trans H1.out.2
        have hs1 := (HJ.out.2.2.block bs (heap_lt hsW) HNe.out.2).trans hsW
        have s0 : wr.cell? ⟨bs, 0, none⟩ = some (.func (.func 83) #[] #[.pointer (some ⟨bw, 0, none⟩), .pointer (some ⟨br, 0, none⟩), .pointer (some ⟨bt, 0, none⟩), .pointer (some ⟨be, 0, none⟩)]) := by simp [World.cell?, hs1]
        have sl := heap_lt hs1
        have k1 : S.nWire (ps ++ Wir.slotsOf (cc : Int) j) ≤ 28700 := by
          rw [S.nWire_append]
          have := S.nWire_le (Wir.slotsOf (cc : Int) j)
          rw [Wir.slotsOf_len] at this; omega
        have k2 : S.nOpen (ps ++ Wir.slotsOf (cc : Int) j) ≤ 28700 := by
          rw [S.nOpen_append]
          have := S.nOpen_le (Wir.slotsOf (cc : Int) j)
          rw [Wir.slotsOf_len] at this; omega
        have hls : ps ++ Wir.slotsOf (cc : Int) (j + 1) = (ps ++ Wir.slotsOf (cc : Int) j) ++ [((cc : Int), (j : Int))] := by rw [Wir.slotsOf_succ, List.append_assoc]
        have HLs := Lib.hid hls
        clear hls hsW hs1
        cases ho : S.isOpen ((cc : Int), (j : Int))
        · cases hbd : S.isBad ((cc : Int), (j : Int))
          · have hst := step_ok ((cc : Int), (j : Int)) HJ.out.1 ho hbd
            have HSt := Lib.hid hst
            clear hst
            gi_wp2_with fail
            refine ⟨trivial, CallsIn.inRound l (callsIn_wide.2 ((au_see_ok bw B A S FA br bt be c f _ _ p e0 W wr (cc : Int) (j : Int) ho hbd (by omega) HGW.out HJ.out.2.1).mono ?_))⟩
            rintro e w3 ⟨rfl, ha3, hk3⟩
            have H3 := Lib.hid (And.intro ha3 (HJ.out.2.2.tr hk3))
            clear ha3 hk3
            simp only []
            gi_wp2_with fail
            go_roundw
            case measure => simp [intOf]; omega
            case rel => exact ⟨j + 1, by go_num, by omega, by rw [HLs.out]; exact HSt.out.1, by rw [HLs.out, HSt.out.2.1, HSt.out.2.2]; simpa [Int.add_assoc] using H3.out.1, H3.out.2⟩
          · have hst := step_bad ((cc : Int), (j : Int)) HJ.out.1 ho hbd
            have HSt := Lib.hid hst
            clear hst
            gi_wp2_with fail
            refine ⟨trivial, CallsIn.inRound l (callsIn_wide.2 ((au_see_bad bw B A S FA br bt be c f _ _ p e0 W wr (cc : Int) (j : Int) ho hbd HGW.out HJ.out.2.1).mono ?_))⟩
            rintro e w3 ⟨rfl, ha3, hk3⟩
            have H3 := Lib.hid (And.intro ha3 (HJ.out.2.2.tr hk3))
            clear ha3 hk3
            simp only []
            gi_wp2_with fail
            refine ⟨(KeepsOthers.ofKp H3.out.2 HAU.out.cl).from _, rfl, ((cc : Int), (j : Int)), ?_, _, _, HAU.out.re H3.out.1⟩
            rw [HPE.out]
            exact firstBad_prefix (by rw [← HLs.out]; exact (List.prefix_append_right_inj _).2 (slotsOf_prefix (cc : Int) (by omega))) HSt.out
        · have hst := step_open ((cc : Int), (j : Int)) HJ.out.1 ho
          have HSt := Lib.hid hst
          clear hst
          gi_wp2_with fail
          refine ⟨trivial, CallsIn.inRound l (callsIn_wide.2 ((au_see_open bw B A S FA br bt be c f _ _ p e0 W wr (cc : Int) (j : Int) ho (by omega) HGW.out HJ.out.2.1).mono ?_))⟩
          rintro e w3 ⟨rfl, ha3, hk3⟩
          have H3 := Lib.hid (And.intro ha3 (HJ.out.2.2.tr hk3))
          clear ha3 hk3
          simp only []
          gi_wp2_with fail
          go_roundw
          case measure => simp [intOf]; omega
          case rel => exact ⟨j + 1, by go_num, by omega, by rw [HLs.out]; exact HSt.out.1, by rw [HLs.out, HSt.out.2.1, HSt.out.2.2]; simpa [Int.add_assoc] using H3.out.1, H3.out.2⟩
      · obtain rfl : j = m + 1 := by omega
        gi_wp2_with fail
        refine ⟨(KeepsOthers.ofKp HJ.out.2.2 HAU.out.cl).from _, ⟨HJ.out.2.2.size, fun b hb => HJ.out.2.2.block b (by have := (HBO.out b hb).2; have := HKW.out.size; omega) (fun hm => by have := (HBO.out b hb).1; have := HLT.out.2 b hm; omega)⟩, ?_⟩
        show S.firstBad ((pre ++ [(cc, ag)]).flatMap (Wir.liveSl S)) = none ∧ Au w1 br bt be c f (x + (S.nWire ((pre ++ [(cc, ag)]).flatMap (Wir.liveSl S)) : Int)) (o + (S.nOpen ((pre ++ [(cc, ag)]).flatMap (Wir.liveSl S)) : Int)) p e0 _
        rw [HPE.out]
        exact ⟨HJ.out.1, HAU.out.re HJ.out.2.1⟩
end
end Go.Proofs.Ythbobooiedcofaa
