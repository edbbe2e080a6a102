/-
  audit.Audit's inner functions: a port is looked at.
-/
import Derived.Test.YthbobooiedcofaaWirOpen
import Derived.Test.YthbobooiedcofaaAudSpec
import Derived.Test.YthbobooiedcofaaEqN
namespace Go.Proofs.Ythbobooiedcofaa
open Go.RowKit
attribute [local go_sem] cell_set
attribute [local go_sem high] run_eql_port
set_option maxRecDepth 100000
set_option linter.unusedVariables false

/-- The boxes that an audit writes: its report, where something is, the error. -/
structure Au (w : World) (br bt be : Nat) (c f x o : Int) (p : Pt) (e : Int) (W : World) : Prop where
  k : Kp [br, bt, be] w W
  r : W.heap[br]? = some (.cells #[.int .i64 c, .int .i64 f, .int .i64 x, .int .i64 o, .int .i64 0, .int .i64 0] 76 (0, 0))
  t : W.heap[bt]? = some (.cells #[.int .i64 p.1, .int .i64 p.2] 39 (0, 0))
  e : W.heap[be]? = some (.cells #[.int .i64 e] 24 (0, 0))
/-- What else an audit reads. -/
structure AuB (w : World) (bw B A : Nat) (S : Wir) (FA : List Nat) (br bt be : Nat) : Prop where
  p : w.heap[bw]? = some (.cells #[.pointer (some ⟨B, 0, none⟩)] 31 (0, 0))
  g : WG w B A S FA
  n : bw ∉ [br, bt, be] ∧ ∀ b ∈ B :: FA, b ∉ [br, bt, be]
section
variable {w W W' : World} {br bt be bw B A : Nat} {S : Wir} {FA : List Nat} {c f x o : Int} {p : Pt} {e : Int}
theorem Au.below (h : Au w br bt be c f x o p e W) (hb : Below W.heap.size W W') : Au w br bt be c f x o p e W' :=
  ⟨h.k.thenBelow hb, (hb.block br (heap_lt h.r)).trans h.r, (hb.block bt (heap_lt h.t)).trans h.t, (hb.block be (heap_lt h.e)).trans h.e⟩
theorem Au.base (h : Au w br bt be c f x o p e W) (hB : AuB w bw B A S FA br bt be) : AuB W bw B A S FA br bt be :=
  ⟨(h.k.block bw (heap_lt hB.p) hB.n.1).trans hB.p, hB.g.kp h.k hB.n.2, hB.n⟩
theorem AuB.below (h : AuB w bw B A S FA br bt be) (hb : Below w.heap.size w W) : AuB W bw B A S FA br bt be := ⟨(hb.block bw (heap_lt h.p)).trans h.p, h.g.below hb, h.n⟩
theorem Au.ne (h : Au w br bt be c f x o p e W) : br ≠ bt ∧ br ≠ be ∧ bt ≠ be := ⟨ty_ne h.r h.t (by decide), ty_ne h.r h.e (by decide), ty_ne h.t h.e (by decide)⟩
/-- One more open port; one more end of a wire; something is wrong. -/
theorem Au.open1 (h : Au w br bt be c f x o p e W) (o' : Int) : Au w br bt be c f x o' p e (W.setCell ⟨br, 3, none⟩ (.int .i64 o')) := by
  obtain ⟨n1, n2, n3⟩ := h.ne
  exact ⟨h.k.setCell (p := ⟨br, 3, none⟩) (.inl (by simp)) _, by simp [World.setCell, Array.getElem?_modify, h.r], (Below.heap_setCell _ _ _ _ n1.symm).trans h.t, (Below.heap_setCell _ _ _ _ n2.symm).trans h.e⟩
theorem Au.wire1 (h : Au w br bt be c f x o p e W) (x' : Int) : Au w br bt be c f x' o p e (W.setCell ⟨br, 2, none⟩ (.int .i64 x')) := by
  obtain ⟨n1, n2, n3⟩ := h.ne
  exact ⟨h.k.setCell (p := ⟨br, 2, none⟩) (.inl (by simp)) _, by simp [World.setCell, Array.getElem?_modify, h.r], (Below.heap_setCell _ _ _ _ n1.symm).trans h.t, (Below.heap_setCell _ _ _ _ n2.symm).trans h.e⟩
theorem Au.bad1 (h : Au w br bt be c f x o p e W) (q : Pt) (e' : Int) : Au w br bt be c f x o q e' (((W.setCell ⟨bt, 0, none⟩ (.int .i64 q.1)).setCell ⟨bt, 1, none⟩ (.int .i64 q.2)).setCell ⟨be, 0, none⟩ (.int .i64 e')) := by
  obtain ⟨n1, n2, n3⟩ := h.ne
  refine ⟨((h.k.setCell (p := ⟨bt, 0, none⟩) (.inl (by simp)) _).setCell (p := ⟨bt, 1, none⟩) (.inl (by simp)) _).setCell (p := ⟨be, 0, none⟩) (.inl (by simp)) _, ?_, ?_, ?_⟩
  · exact (Below.heap_setCell _ _ _ _ n2).trans ((Below.heap_setCell _ _ _ _ n1).trans ((Below.heap_setCell _ _ _ _ n1).trans h.r))
  · refine (Below.heap_setCell _ _ _ _ n3).trans ?_
    simp [World.setCell, Array.getElem?_modify, h.t]
  · have : ((W.setCell ⟨bt, 0, none⟩ (.int .i64 q.1)).setCell ⟨bt, 1, none⟩ (.int .i64 q.2)).heap[be]? = some (.cells #[.int .i64 e] 24 (0, 0)) := (Below.heap_setCell _ _ _ _ n3.symm).trans ((Below.heap_setCell _ _ _ _ n3.symm).trans h.e)
    generalize (W.setCell ⟨bt, 0, none⟩ (.int .i64 q.1)).setCell ⟨bt, 1, none⟩ (.int .i64 q.2) = X1 at this ⊢
    simp [World.setCell, Array.getElem?_modify, this]
theorem Au.grown (h : Au w br bt be c f x o p e W) {row : Option Nat} (hg : W.grownBy W' row) {N : Nat} (hl : br < w.heap.size ∧ bt < w.heap.size ∧ be < w.heap.size) (hN : w.heap.size ≤ N) (hr : ∀ r, row = some r → N ≤ r ∧ ∃ o : Obj, W.heap[r]? = some o ∧ o.isCells = false) : Au w br bt be c f x o p e W' := by
  have hk : ∀ b, b < w.heap.size → W'.heap[b]? = W.heap[b]? := fun b hb => hg.block b (Nat.lt_of_lt_of_le hb h.k.size) (fun e => by have := (hr b e.symm).1; omega)
  exact ⟨⟨hg.os.trans h.k.os, hg.tape.trans h.k.tape, hg.output.trans h.k.output, Nat.le_trans h.k.size hg.size, fun b hb hn => (hk b hb).trans (h.k.block b hb hn)⟩, (hk br hl.1).trans h.r, (hk bt hl.2.1).trans h.t, (hk be hl.2.2).trans h.e⟩
end
section
variable (bw B A : Nat) (S : Wir) (FA : List Nat) (br bt be : Nat) (c f x o : Int) (p : Pt) (e0 : Int) (w W : World)
set_option maxHeartbeats 1000000 in
theorem au_see_open (q0 q1 : Int) (ho : S.isOpen (q0, q1) = true) (hb : 0 ≤ o ∧ o ≤ 1000000) (hB : AuB w bw B A S FA br bt be) (h : Au w br bt be c f x o p e0 W) :
    Calls Try.prog 83 #[.agg #[.int .i64 q0, .int .i64 q1], .pointer (some ⟨bw, 0, none⟩), .pointer (some ⟨br, 0, none⟩), .pointer (some ⟨bt, 0, none⟩), .pointer (some ⟨be, 0, none⟩)] W fun e W' => e = .returned (.bool true) ∧ Au w br bt be c f x (o + 1) p e0 W' ∧ Kp [br, bt, be] W W' := by
  have hv : S.wV (q0, q1) = 4294967295 := by simpa [Wir.isOpen] using ho
  have HV := Lib.hid hv
  have ew : IntKind.i64.wrap (o + 1) = o + 1 := IntWalk.i64_in _ (by omega)
  clear ho hv
  have HA := Lib.hid h
  have HB := Lib.hid (h.base hB)
  have hw0 : W.cell? ⟨bw, 0, none⟩ = some (.pointer (some ⟨B, 0, none⟩)) := by simp [World.cell?, HB.out.p]
  have hwl := heap_lt HB.out.p
  have HZ : Hid (∀ X, Below W.heap.size W X → X.cell? ⟨bw, 0, none⟩ = some (.pointer (some ⟨B, 0, none⟩)) ∧ WG X B A S FA ∧ Au w br bt be c f x o p e0 X) := fun X hX => by
    have h1 := (HB.out.below hX).p
    exact ⟨by simp [World.cell?, h1], HB.out.g.below hX, HA.out.below hX⟩
  clear h hB
  go_enter Try.func83, Try.ntmps83
  go_wp2_with fail
  refine (wi_word B A S FA _ q0 q1 (HZ.out _ (by (repeat (first | exact Below.refl _ _ | (with_reducible refine Below.drew ?_) | (with_reducible refine Below.alloc ?_ (by (try simp); (try omega)) _) | (with_reducible refine Below.setCell ?_ (by (try simp); (try omega)) _) | (with_reducible refine Below.trans ?_ (Below.mono (by assumption) (by (try simp); (try omega)))))))).2.1).mono ?_
  rintro e w1 ⟨rfl, hb1⟩
  have hB1 : Below W.heap.size W w1 := by (repeat (first | exact Below.refl _ _ | (with_reducible refine Below.drew ?_) | (with_reducible refine Below.alloc ?_ (by (try simp); (try omega)) _) | (with_reducible refine Below.setCell ?_ (by (try simp); (try omega)) _) | (with_reducible refine Below.trans ?_ (Below.mono (by assumption) (by (try simp); (try omega))))))
  have y0 : w1.cell? ⟨W.heap.size, 0, none⟩ = some (.int .i64 q0) := (hb1.cell (p := ⟨W.heap.size, 0, none⟩) (by simp)).trans (by go_simp)
  have y1 : w1.cell? ⟨W.heap.size, 1, none⟩ = some (.int .i64 q1) := (hb1.cell (p := ⟨W.heap.size, 1, none⟩) (by simp)).trans (by go_simp)
  have yl : W.heap.size < w1.heap.size := by have := hb1.size; simp at this; omega
  have HB1 := Lib.hid hB1
  clear hb1 hB1 hw0
  rw [HV.out]
  have r1 := (HZ.out _ HB1.out).2.2.r
  have r2 : w1.cell? ⟨br, 3, none⟩ = some (.int .i64 o) := by simp [World.cell?, r1]
  have r3 : w1.frozen? ⟨br, 3, none⟩ = false := by simp [World.frozen?, r1]
  have rl := heap_lt r1
  clear r1
  simp only []
  go_wp2_with fail
  go_ret
  exact ⟨rfl, (HZ.out _ HB1.out).2.2.open1 _, (Kp.of_below HB1.out).setCell (p := ⟨br, 3, none⟩) (.inl (by simp)) _⟩
set_option maxHeartbeats 2000000 in
theorem au_see_ok (q0 q1 : Int) (ho : S.isOpen (q0, q1) = false) (hbd : S.isBad (q0, q1) = false) (hb : 0 ≤ x ∧ x ≤ 1000000) (hB : AuB w bw B A S FA br bt be) (h : Au w br bt be c f x o p e0 W) :
    Calls Try.prog 83 #[.agg #[.int .i64 q0, .int .i64 q1], .pointer (some ⟨bw, 0, none⟩), .pointer (some ⟨br, 0, none⟩), .pointer (some ⟨bt, 0, none⟩), .pointer (some ⟨be, 0, none⟩)] W fun e W' => e = .returned (.bool true) ∧ Au w br bt be c f (x + 1) o p e0 W' ∧ Kp [br, bt, be] W W' := by
  have hv : (S.wV (q0, q1) == 4294967295) = false := by simpa [Wir.isOpen] using ho
  have hbd' : S.toE (q0, q1) = 0 ∧ S.wV (S.toP (q0, q1)) = pkW q0 q1 ∧ S.toP (q0, q1) ≠ (q0, q1) := by simpa [Wir.isBad, not_or] using hbd
  obtain ⟨v, hv2⟩ : ∃ v, S.wV (q0, q1) = v := ⟨_, rfl⟩
  rw [hv2] at hv
  have HV := Lib.hid hv2
  have HE := Lib.hid hbd'
  have ew : IntKind.i64.wrap (x + 1) = x + 1 := IntWalk.i64_in _ (by omega)
  clear ho hbd hv2 hbd'
  have HA := Lib.hid h
  have HB := Lib.hid (h.base hB)
  have hw0 : W.cell? ⟨bw, 0, none⟩ = some (.pointer (some ⟨B, 0, none⟩)) := by simp [World.cell?, HB.out.p]
  have hwl := heap_lt HB.out.p
  have HZ : Hid (∀ X, Below W.heap.size W X → X.cell? ⟨bw, 0, none⟩ = some (.pointer (some ⟨B, 0, none⟩)) ∧ WG X B A S FA ∧ Au w br bt be c f x o p e0 X) := fun X hX => by
    have h1 := (HB.out.below hX).p
    exact ⟨by simp [World.cell?, h1], HB.out.g.below hX, HA.out.below hX⟩
  clear h hB
  go_enter Try.func83, Try.ntmps83
  go_wp2_with fail
  refine (wi_word B A S FA _ q0 q1 (HZ.out _ (by (repeat (first | exact Below.refl _ _ | (with_reducible refine Below.drew ?_) | (with_reducible refine Below.alloc ?_ (by (try simp); (try omega)) _) | (with_reducible refine Below.setCell ?_ (by (try simp); (try omega)) _) | (with_reducible refine Below.trans ?_ (Below.mono (by assumption) (by (try simp); (try omega)))))))).2.1).mono ?_
  rintro e w1 ⟨rfl, hb1⟩
  have hB1 : Below W.heap.size W w1 := by (repeat (first | exact Below.refl _ _ | (with_reducible refine Below.drew ?_) | (with_reducible refine Below.alloc ?_ (by (try simp); (try omega)) _) | (with_reducible refine Below.setCell ?_ (by (try simp); (try omega)) _) | (with_reducible refine Below.trans ?_ (Below.mono (by assumption) (by (try simp); (try omega))))))
  have y0 : w1.cell? ⟨W.heap.size, 0, none⟩ = some (.int .i64 q0) := (hb1.cell (p := ⟨W.heap.size, 0, none⟩) (by simp)).trans (by go_simp)
  have y1 : w1.cell? ⟨W.heap.size, 1, none⟩ = some (.int .i64 q1) := (hb1.cell (p := ⟨W.heap.size, 1, none⟩) (by simp)).trans (by go_simp)
  have yl : W.heap.size < w1.heap.size := by have := hb1.size; simp at this; omega
  have HB1 := Lib.hid hB1
  clear hb1 hB1 hw0
  rw [HV.out]
  simp only []
  have g0 : w1.cell? ⟨bw, 0, none⟩ = some (.pointer (some ⟨B, 0, none⟩)) := (HZ.out _ HB1.out).1
  have gl : bw < w1.heap.size := by have := HB1.out.size; omega
  go_upto_region 6 with (go_at_call 17; refine (wi_to B A S FA _ q0 q1 (HZ.out _ HB1.out).2.1).mono ?_; rintro e w2 ⟨rfl, hb2⟩)
  have hB2 := HB1.out.trans (hb2.mono HB1.out.size)
  have z0 : w2.cell? ⟨W.heap.size, 0, none⟩ = some (.int .i64 q0) := (hb2.cell (p := ⟨W.heap.size, 0, none⟩) yl).trans y0
  have z1 : w2.cell? ⟨W.heap.size, 1, none⟩ = some (.int .i64 q1) := (hb2.cell (p := ⟨W.heap.size, 1, none⟩) yl).trans y1
  have zl : W.heap.size < w2.heap.size := Nat.lt_of_lt_of_le yl hb2.size
  refine absW (fun X => Hid (Below W.heap.size W X) ∧ X.cell? ⟨W.heap.size, 0, none⟩ = some (.int .i64 q0) ∧ X.cell? ⟨W.heap.size, 1, none⟩ = some (.int .i64 q1) ∧ W.heap.size < X.heap.size ∧ X.heap[w2.heap.size]? = some (.cells #[.int .i64 (S.toP (q0, q1)).1, .int .i64 (S.toP (q0, q1)).2] 39 (0, 0)))
    ⟨Lib.hid (hB2.alloc hB2.size _), (Below.cell ((Below.refl w2.heap.size w2).alloc (Nat.le_refl _) _) (p := ⟨W.heap.size, 0, none⟩) zl).trans z0, (Below.cell ((Below.refl w2.heap.size w2).alloc (Nat.le_refl _) _) (p := ⟨W.heap.size, 1, none⟩) zl).trans z1, by simp; omega, heap_alloc_new _ _⟩ ?_
  clear y0 y1 yl z0 z1 zl HB1 hb2 hB2 g0 gl
  rintro X ⟨HX, y0, y1, yl, hq⟩
  generalize w2.heap.size = bq at hq ⊢
  obtain ⟨⟨r0, r1⟩, hr⟩ : ∃ r, S.toP (q0, q1) = r := ⟨_, rfl⟩
  rw [hr] at hq
  have HRr := Lib.hid hr
  clear hr
  have x0 : X.cell? ⟨bq, 0, none⟩ = some (.int .i64 r0) := by simp [World.cell?, hq]
  have x1 : X.cell? ⟨bq, 1, none⟩ = some (.int .i64 r1) := by simp [World.cell?, hq]
  have hql := heap_lt hq
  have v0 : X.cell? ⟨bw, 0, none⟩ = some (.pointer (some ⟨B, 0, none⟩)) := (HZ.out _ HX.out).1
  have vl : bw < X.heap.size := by have := HX.out.size; omega
  go_wp2_with fail
  refine (wi_word B A S FA X r0 r1 (HZ.out _ HX.out).2.1).mono ?_
  rintro e w3 ⟨rfl, hb3⟩
  have HX3 := Lib.hid (HX.out.trans (hb3.mono HX.out.size))
  have z0 : w3.cell? ⟨W.heap.size, 0, none⟩ = some (.int .i64 q0) := (hb3.cell (p := ⟨W.heap.size, 0, none⟩) yl).trans y0
  have z1 : w3.cell? ⟨W.heap.size, 1, none⟩ = some (.int .i64 q1) := (hb3.cell (p := ⟨W.heap.size, 1, none⟩) yl).trans y1
  have u0 : w3.cell? ⟨bq, 0, none⟩ = some (.int .i64 r0) := (hb3.cell (p := ⟨bq, 0, none⟩) hql).trans x0
  have u1 : w3.cell? ⟨bq, 1, none⟩ = some (.int .i64 r1) := (hb3.cell (p := ⟨bq, 1, none⟩) hql).trans x1
  have zl : W.heap.size < w3.heap.size := Nat.lt_of_lt_of_le yl hb3.size
  have ul : bq < w3.heap.size := Nat.lt_of_lt_of_le hql hb3.size
  clear y0 y1 yl x0 x1 hql hq hb3 v0 vl
  simp only []
  go_wp2_with fail
  refine (pack_any q0 q1 w3).mono ?_
  rintro e w4 ⟨rfl, hb4⟩
  have HX4 := Lib.hid (HX3.out.trans (hb4.mono HX3.out.size))
  have y0 : w4.cell? ⟨W.heap.size, 0, none⟩ = some (.int .i64 q0) := (hb4.cell (p := ⟨W.heap.size, 0, none⟩) zl).trans z0
  have y1 : w4.cell? ⟨W.heap.size, 1, none⟩ = some (.int .i64 q1) := (hb4.cell (p := ⟨W.heap.size, 1, none⟩) zl).trans z1
  have x0 : w4.cell? ⟨bq, 0, none⟩ = some (.int .i64 r0) := (hb4.cell (p := ⟨bq, 0, none⟩) ul).trans u0
  have x1 : w4.cell? ⟨bq, 1, none⟩ = some (.int .i64 r1) := (hb4.cell (p := ⟨bq, 1, none⟩) ul).trans u1
  have yl : W.heap.size < w4.heap.size := Nat.lt_of_lt_of_le zl hb4.size
  have xl : bq < w4.heap.size := Nat.lt_of_lt_of_le ul hb4.size
  clear z0 z1 zl u0 u1 ul hb4
  simp only []
  have hr := HRr.out
  obtain ⟨he1, he2, he3⟩ := HE.out
  rw [hr] at he2 he3
  rw [he1, he2]
  have hne : eqP (r0, r1) (q0, q1) = false := by unfold eqP; simpa using he3
  have rr := (HZ.out _ HX4.out).2.2.r
  have r2 : w4.cell? ⟨br, 2, none⟩ = some (.int .i64 x) := by simp [World.cell?, rr]
  have r3 : w4.frozen? ⟨br, 2, none⟩ = false := by simp [World.frozen?, rr]
  have rl := heap_lt rr
  generalize pkW q0 q1 = own
  clear rr hr he1 he2 he3
  go_wp2_with fail
  go_ret
  exact ⟨rfl, (HZ.out _ HX4.out).2.2.wire1 _, (Kp.of_below HX4.out).setCell (p := ⟨br, 2, none⟩) (.inl (by simp)) _⟩
set_option maxHeartbeats 4000000 in
theorem au_see_bad (q0 q1 : Int) (ho : S.isOpen (q0, q1) = false) (hbd : S.isBad (q0, q1) = true) (hB : AuB w bw B A S FA br bt be) (h : Au w br bt be c f x o p e0 W) :
    Calls Try.prog 83 #[.agg #[.int .i64 q0, .int .i64 q1], .pointer (some ⟨bw, 0, none⟩), .pointer (some ⟨br, 0, none⟩), .pointer (some ⟨bt, 0, none⟩), .pointer (some ⟨be, 0, none⟩)] W fun e W' => e = .returned (.bool false) ∧ Au w br bt be c f x o (q0, q1) 42 W' ∧ Kp [br, bt, be] W W' := by
  have hv : (S.wV (q0, q1) == 4294967295) = false := by simpa [Wir.isOpen] using ho
  have hbd' : S.toE (q0, q1) ≠ 0 ∨ S.wV (S.toP (q0, q1)) ≠ pkW q0 q1 ∨ S.toP (q0, q1) = (q0, q1) := by simpa [Wir.isBad] using hbd
  obtain ⟨v, hv2⟩ : ∃ v, S.wV (q0, q1) = v := ⟨_, rfl⟩
  rw [hv2] at hv
  have HV := Lib.hid hv2
  have HE := Lib.hid hbd'
  obtain ⟨te, hte⟩ : ∃ te, S.toE (q0, q1) = te := ⟨_, rfl⟩
  have HTE := Lib.hid hte
  obtain ⟨vv, hvv⟩ : ∃ vv, S.wV (S.toP (q0, q1)) = vv := ⟨_, rfl⟩
  have HVV := Lib.hid hvv
  clear ho hbd hv2 hbd' hte hvv
  by_cases k1 : te = 0
  · subst k1
    by_cases k2 : vv = pkW q0 q1
    · have k3 : S.toP (q0, q1) = (q0, q1) := by
        have := HE.out
        rw [HTE.out, HVV.out] at this
        rcases this with h1 | h1 | h1
        · exact absurd rfl h1
        · exact absurd k2 h1
        · exact h1
      subst k2
      have HK3 := Lib.hid k3
      clear k3
      have HA := Lib.hid h
      have HB := Lib.hid (h.base hB)
      have hw0 : W.cell? ⟨bw, 0, none⟩ = some (.pointer (some ⟨B, 0, none⟩)) := by simp [World.cell?, HB.out.p]
      have hwl := heap_lt HB.out.p
      have HZ : Hid (∀ X, Below W.heap.size W X → X.cell? ⟨bw, 0, none⟩ = some (.pointer (some ⟨B, 0, none⟩)) ∧ WG X B A S FA ∧ Au w br bt be c f x o p e0 X) := fun X hX => by
        have h1 := (HB.out.below hX).p
        exact ⟨by simp [World.cell?, h1], HB.out.g.below hX, HA.out.below hX⟩
      clear h hB
      go_enter Try.func83, Try.ntmps83
      go_wp2_with fail
      refine (wi_word B A S FA _ q0 q1 (HZ.out _ (by (repeat (first | exact Below.refl _ _ | (with_reducible refine Below.drew ?_) | (with_reducible refine Below.alloc ?_ (by (try simp); (try omega)) _) | (with_reducible refine Below.setCell ?_ (by (try simp); (try omega)) _) | (with_reducible refine Below.trans ?_ (Below.mono (by assumption) (by (try simp); (try omega)))))))).2.1).mono ?_
      rintro e w1 ⟨rfl, hb1⟩
      have hB1 : Below W.heap.size W w1 := by (repeat (first | exact Below.refl _ _ | (with_reducible refine Below.drew ?_) | (with_reducible refine Below.alloc ?_ (by (try simp); (try omega)) _) | (with_reducible refine Below.setCell ?_ (by (try simp); (try omega)) _) | (with_reducible refine Below.trans ?_ (Below.mono (by assumption) (by (try simp); (try omega))))))
      have y0 : w1.cell? ⟨W.heap.size, 0, none⟩ = some (.int .i64 q0) := (hb1.cell (p := ⟨W.heap.size, 0, none⟩) (by simp)).trans (by go_simp)
      have y1 : w1.cell? ⟨W.heap.size, 1, none⟩ = some (.int .i64 q1) := (hb1.cell (p := ⟨W.heap.size, 1, none⟩) (by simp)).trans (by go_simp)
      have yl : W.heap.size < w1.heap.size := by have := hb1.size; simp at this; omega
      have HB1 := Lib.hid hB1
      clear hb1 hB1 hw0
      rw [HV.out]
      simp only []
      have g0 : w1.cell? ⟨bw, 0, none⟩ = some (.pointer (some ⟨B, 0, none⟩)) := (HZ.out _ HB1.out).1
      have gl : bw < w1.heap.size := by have := HB1.out.size; omega
      go_upto_region 6 with (go_at_call 17; refine (wi_to B A S FA _ q0 q1 (HZ.out _ HB1.out).2.1).mono ?_; rintro e w2 ⟨rfl, hb2⟩)
      have hB2 := HB1.out.trans (hb2.mono HB1.out.size)
      have z0 : w2.cell? ⟨W.heap.size, 0, none⟩ = some (.int .i64 q0) := (hb2.cell (p := ⟨W.heap.size, 0, none⟩) yl).trans y0
      have z1 : w2.cell? ⟨W.heap.size, 1, none⟩ = some (.int .i64 q1) := (hb2.cell (p := ⟨W.heap.size, 1, none⟩) yl).trans y1
      have zl : W.heap.size < w2.heap.size := Nat.lt_of_lt_of_le yl hb2.size
      refine absW (fun X => Hid (Below W.heap.size W X) ∧ X.cell? ⟨W.heap.size, 0, none⟩ = some (.int .i64 q0) ∧ X.cell? ⟨W.heap.size, 1, none⟩ = some (.int .i64 q1) ∧ W.heap.size < X.heap.size ∧ X.heap[w2.heap.size]? = some (.cells #[.int .i64 (S.toP (q0, q1)).1, .int .i64 (S.toP (q0, q1)).2] 39 (0, 0)))
        ⟨Lib.hid (hB2.alloc hB2.size _), (Below.cell ((Below.refl w2.heap.size w2).alloc (Nat.le_refl _) _) (p := ⟨W.heap.size, 0, none⟩) zl).trans z0, (Below.cell ((Below.refl w2.heap.size w2).alloc (Nat.le_refl _) _) (p := ⟨W.heap.size, 1, none⟩) zl).trans z1, by simp; omega, heap_alloc_new _ _⟩ ?_
      clear y0 y1 yl z0 z1 zl HB1 hb2 hB2 g0 gl
      rintro X ⟨HX, y0, y1, yl, hq⟩
      generalize w2.heap.size = bq at hq ⊢
      obtain ⟨⟨r0, r1⟩, hr⟩ : ∃ r, S.toP (q0, q1) = r := ⟨_, rfl⟩
      rw [hr] at hq
      have HRr := Lib.hid hr
      clear hr
      have x0 : X.cell? ⟨bq, 0, none⟩ = some (.int .i64 r0) := by simp [World.cell?, hq]
      have x1 : X.cell? ⟨bq, 1, none⟩ = some (.int .i64 r1) := by simp [World.cell?, hq]
      have hql := heap_lt hq
      have v0 : X.cell? ⟨bw, 0, none⟩ = some (.pointer (some ⟨B, 0, none⟩)) := (HZ.out _ HX.out).1
      have vl : bw < X.heap.size := by have := HX.out.size; omega
      go_wp2_with fail
      refine (wi_word B A S FA X r0 r1 (HZ.out _ HX.out).2.1).mono ?_
      rintro e w3 ⟨rfl, hb3⟩
      have HX3 := Lib.hid (HX.out.trans (hb3.mono HX.out.size))
      have z0 : w3.cell? ⟨W.heap.size, 0, none⟩ = some (.int .i64 q0) := (hb3.cell (p := ⟨W.heap.size, 0, none⟩) yl).trans y0
      have z1 : w3.cell? ⟨W.heap.size, 1, none⟩ = some (.int .i64 q1) := (hb3.cell (p := ⟨W.heap.size, 1, none⟩) yl).trans y1
      have u0 : w3.cell? ⟨bq, 0, none⟩ = some (.int .i64 r0) := (hb3.cell (p := ⟨bq, 0, none⟩) hql).trans x0
      have u1 : w3.cell? ⟨bq, 1, none⟩ = some (.int .i64 r1) := (hb3.cell (p := ⟨bq, 1, none⟩) hql).trans x1
      have zl : W.heap.size < w3.heap.size := Nat.lt_of_lt_of_le yl hb3.size
      have ul : bq < w3.heap.size := Nat.lt_of_lt_of_le hql hb3.size
      clear y0 y1 yl x0 x1 hql hq hb3 v0 vl
      simp only []
      go_wp2_with fail
      refine (pack_any q0 q1 w3).mono ?_
      rintro e w4 ⟨rfl, hb4⟩
      have HX4 := Lib.hid (HX3.out.trans (hb4.mono HX3.out.size))
      have y0 : w4.cell? ⟨W.heap.size, 0, none⟩ = some (.int .i64 q0) := (hb4.cell (p := ⟨W.heap.size, 0, none⟩) zl).trans z0
      have y1 : w4.cell? ⟨W.heap.size, 1, none⟩ = some (.int .i64 q1) := (hb4.cell (p := ⟨W.heap.size, 1, none⟩) zl).trans z1
      have x0 : w4.cell? ⟨bq, 0, none⟩ = some (.int .i64 r0) := (hb4.cell (p := ⟨bq, 0, none⟩) ul).trans u0
      have x1 : w4.cell? ⟨bq, 1, none⟩ = some (.int .i64 r1) := (hb4.cell (p := ⟨bq, 1, none⟩) ul).trans u1
      have yl : W.heap.size < w4.heap.size := Nat.lt_of_lt_of_le zl hb4.size
      have xl : bq < w4.heap.size := Nat.lt_of_lt_of_le ul hb4.size
      clear z0 z1 zl u0 u1 ul hb4
      simp only []
      have hr := HRr.out
      have hvv := HVV.out
      rw [hr] at hvv
      have hk3 := HK3.out
      rw [hr] at hk3
      injection hk3 with hk31 hk32
      rw [HTE.out, hvv]
      have hne : eqP (r0, r1) (q0, q1) = true := by unfold eqP; simp [hk31, hk32]
      clear hr hvv hk31 hk32
      have rt := (HZ.out _ HX4.out).2.2.t
      have re := (HZ.out _ HX4.out).2.2.e
      have t2 : w4.cell? ⟨bt, 0, none⟩ = some (.int .i64 p.1) := by simp [World.cell?, rt]
      have t3 : w4.cell? ⟨bt, 1, none⟩ = some (.int .i64 p.2) := by simp [World.cell?, rt]
      have t4 : w4.frozen? ⟨bt, 0, none⟩ = false := by simp [World.frozen?, rt]
      have t5 : w4.frozen? ⟨bt, 1, none⟩ = false := by simp [World.frozen?, rt]
      have e2 : w4.cell? ⟨be, 0, none⟩ = some (.int .i64 e0) := by simp [World.cell?, re]
      have e3 : w4.frozen? ⟨be, 0, none⟩ = false := by simp [World.frozen?, re]
      have tl := heap_lt rt
      have el := heap_lt re
      have nn := (HZ.out _ HX4.out).2.2.ne.2.2
      generalize pkW q0 q1 = own at *
      clear rt re
      go_wp2_with fail
      go_ret
      exact ⟨rfl, (HZ.out _ HX4.out).2.2.bad1 (q0, q1) 42, (((Kp.of_below HX4.out).setCell (p := ⟨bt, 0, none⟩) (.inl (by simp)) _).setCell (p := ⟨bt, 1, none⟩) (.inl (by simp)) _).setCell (p := ⟨be, 0, none⟩) (.inl (by simp)) _⟩
    · have hnb : (vv != pkW q0 q1) = true := by simpa using k2
      clear k2
      have HA := Lib.hid h
      have HB := Lib.hid (h.base hB)
      have hw0 : W.cell? ⟨bw, 0, none⟩ = some (.pointer (some ⟨B, 0, none⟩)) := by simp [World.cell?, HB.out.p]
      have hwl := heap_lt HB.out.p
      have HZ : Hid (∀ X, Below W.heap.size W X → X.cell? ⟨bw, 0, none⟩ = some (.pointer (some ⟨B, 0, none⟩)) ∧ WG X B A S FA ∧ Au w br bt be c f x o p e0 X) := fun X hX => by
        have h1 := (HB.out.below hX).p
        exact ⟨by simp [World.cell?, h1], HB.out.g.below hX, HA.out.below hX⟩
      clear h hB
      go_enter Try.func83, Try.ntmps83
      go_wp2_with fail
      refine (wi_word B A S FA _ q0 q1 (HZ.out _ (by (repeat (first | exact Below.refl _ _ | (with_reducible refine Below.drew ?_) | (with_reducible refine Below.alloc ?_ (by (try simp); (try omega)) _) | (with_reducible refine Below.setCell ?_ (by (try simp); (try omega)) _) | (with_reducible refine Below.trans ?_ (Below.mono (by assumption) (by (try simp); (try omega)))))))).2.1).mono ?_
      rintro e w1 ⟨rfl, hb1⟩
      have hB1 : Below W.heap.size W w1 := by (repeat (first | exact Below.refl _ _ | (with_reducible refine Below.drew ?_) | (with_reducible refine Below.alloc ?_ (by (try simp); (try omega)) _) | (with_reducible refine Below.setCell ?_ (by (try simp); (try omega)) _) | (with_reducible refine Below.trans ?_ (Below.mono (by assumption) (by (try simp); (try omega))))))
      have y0 : w1.cell? ⟨W.heap.size, 0, none⟩ = some (.int .i64 q0) := (hb1.cell (p := ⟨W.heap.size, 0, none⟩) (by simp)).trans (by go_simp)
      have y1 : w1.cell? ⟨W.heap.size, 1, none⟩ = some (.int .i64 q1) := (hb1.cell (p := ⟨W.heap.size, 1, none⟩) (by simp)).trans (by go_simp)
      have yl : W.heap.size < w1.heap.size := by have := hb1.size; simp at this; omega
      have HB1 := Lib.hid hB1
      clear hb1 hB1 hw0
      rw [HV.out]
      simp only []
      have g0 : w1.cell? ⟨bw, 0, none⟩ = some (.pointer (some ⟨B, 0, none⟩)) := (HZ.out _ HB1.out).1
      have gl : bw < w1.heap.size := by have := HB1.out.size; omega
      go_upto_region 6 with (go_at_call 17; refine (wi_to B A S FA _ q0 q1 (HZ.out _ HB1.out).2.1).mono ?_; rintro e w2 ⟨rfl, hb2⟩)
      have hB2 := HB1.out.trans (hb2.mono HB1.out.size)
      have z0 : w2.cell? ⟨W.heap.size, 0, none⟩ = some (.int .i64 q0) := (hb2.cell (p := ⟨W.heap.size, 0, none⟩) yl).trans y0
      have z1 : w2.cell? ⟨W.heap.size, 1, none⟩ = some (.int .i64 q1) := (hb2.cell (p := ⟨W.heap.size, 1, none⟩) yl).trans y1
      have zl : W.heap.size < w2.heap.size := Nat.lt_of_lt_of_le yl hb2.size
      refine absW (fun X => Hid (Below W.heap.size W X) ∧ X.cell? ⟨W.heap.size, 0, none⟩ = some (.int .i64 q0) ∧ X.cell? ⟨W.heap.size, 1, none⟩ = some (.int .i64 q1) ∧ W.heap.size < X.heap.size ∧ X.heap[w2.heap.size]? = some (.cells #[.int .i64 (S.toP (q0, q1)).1, .int .i64 (S.toP (q0, q1)).2] 39 (0, 0)))
        ⟨Lib.hid (hB2.alloc hB2.size _), (Below.cell ((Below.refl w2.heap.size w2).alloc (Nat.le_refl _) _) (p := ⟨W.heap.size, 0, none⟩) zl).trans z0, (Below.cell ((Below.refl w2.heap.size w2).alloc (Nat.le_refl _) _) (p := ⟨W.heap.size, 1, none⟩) zl).trans z1, by simp; omega, heap_alloc_new _ _⟩ ?_
      clear y0 y1 yl z0 z1 zl HB1 hb2 hB2 g0 gl
      rintro X ⟨HX, y0, y1, yl, hq⟩
      generalize w2.heap.size = bq at hq ⊢
      obtain ⟨⟨r0, r1⟩, hr⟩ : ∃ r, S.toP (q0, q1) = r := ⟨_, rfl⟩
      rw [hr] at hq
      have HRr := Lib.hid hr
      clear hr
      have x0 : X.cell? ⟨bq, 0, none⟩ = some (.int .i64 r0) := by simp [World.cell?, hq]
      have x1 : X.cell? ⟨bq, 1, none⟩ = some (.int .i64 r1) := by simp [World.cell?, hq]
      have hql := heap_lt hq
      have v0 : X.cell? ⟨bw, 0, none⟩ = some (.pointer (some ⟨B, 0, none⟩)) := (HZ.out _ HX.out).1
      have vl : bw < X.heap.size := by have := HX.out.size; omega
      go_wp2_with fail
      refine (wi_word B A S FA X r0 r1 (HZ.out _ HX.out).2.1).mono ?_
      rintro e w3 ⟨rfl, hb3⟩
      have HX3 := Lib.hid (HX.out.trans (hb3.mono HX.out.size))
      have z0 : w3.cell? ⟨W.heap.size, 0, none⟩ = some (.int .i64 q0) := (hb3.cell (p := ⟨W.heap.size, 0, none⟩) yl).trans y0
      have z1 : w3.cell? ⟨W.heap.size, 1, none⟩ = some (.int .i64 q1) := (hb3.cell (p := ⟨W.heap.size, 1, none⟩) yl).trans y1
      have u0 : w3.cell? ⟨bq, 0, none⟩ = some (.int .i64 r0) := (hb3.cell (p := ⟨bq, 0, none⟩) hql).trans x0
      have u1 : w3.cell? ⟨bq, 1, none⟩ = some (.int .i64 r1) := (hb3.cell (p := ⟨bq, 1, none⟩) hql).trans x1
      have zl : W.heap.size < w3.heap.size := Nat.lt_of_lt_of_le yl hb3.size
      have ul : bq < w3.heap.size := Nat.lt_of_lt_of_le hql hb3.size
      clear y0 y1 yl x0 x1 hql hq hb3 v0 vl
      simp only []
      go_wp2_with fail
      refine (pack_any q0 q1 w3).mono ?_
      rintro e w4 ⟨rfl, hb4⟩
      have HX4 := Lib.hid (HX3.out.trans (hb4.mono HX3.out.size))
      have y0 : w4.cell? ⟨W.heap.size, 0, none⟩ = some (.int .i64 q0) := (hb4.cell (p := ⟨W.heap.size, 0, none⟩) zl).trans z0
      have y1 : w4.cell? ⟨W.heap.size, 1, none⟩ = some (.int .i64 q1) := (hb4.cell (p := ⟨W.heap.size, 1, none⟩) zl).trans z1
      have x0 : w4.cell? ⟨bq, 0, none⟩ = some (.int .i64 r0) := (hb4.cell (p := ⟨bq, 0, none⟩) ul).trans u0
      have x1 : w4.cell? ⟨bq, 1, none⟩ = some (.int .i64 r1) := (hb4.cell (p := ⟨bq, 1, none⟩) ul).trans u1
      have yl : W.heap.size < w4.heap.size := Nat.lt_of_lt_of_le zl hb4.size
      have xl : bq < w4.heap.size := Nat.lt_of_lt_of_le ul hb4.size
      clear z0 z1 zl u0 u1 ul hb4
      simp only []
      have hr := HRr.out
      have hvv := HVV.out
      rw [hr] at hvv
      rw [HTE.out, hvv]
      clear hr hvv
      have rt := (HZ.out _ HX4.out).2.2.t
      have re := (HZ.out _ HX4.out).2.2.e
      have t2 : w4.cell? ⟨bt, 0, none⟩ = some (.int .i64 p.1) := by simp [World.cell?, rt]
      have t3 : w4.cell? ⟨bt, 1, none⟩ = some (.int .i64 p.2) := by simp [World.cell?, rt]
      have t4 : w4.frozen? ⟨bt, 0, none⟩ = false := by simp [World.frozen?, rt]
      have t5 : w4.frozen? ⟨bt, 1, none⟩ = false := by simp [World.frozen?, rt]
      have e2 : w4.cell? ⟨be, 0, none⟩ = some (.int .i64 e0) := by simp [World.cell?, re]
      have e3 : w4.frozen? ⟨be, 0, none⟩ = false := by simp [World.frozen?, re]
      have tl := heap_lt rt
      have el := heap_lt re
      have nn := (HZ.out _ HX4.out).2.2.ne.2.2
      generalize pkW q0 q1 = own at *
      clear rt re
      go_wp2_with fail
      go_ret
      exact ⟨rfl, (HZ.out _ HX4.out).2.2.bad1 (q0, q1) 42, (((Kp.of_below HX4.out).setCell (p := ⟨bt, 0, none⟩) (.inl (by simp)) _).setCell (p := ⟨bt, 1, none⟩) (.inl (by simp)) _).setCell (p := ⟨be, 0, none⟩) (.inl (by simp)) _⟩
  · have hnb : (te != 0) = true := by simpa using k1
    clear k1
    have HA := Lib.hid h
    have HB := Lib.hid (h.base hB)
    have hw0 : W.cell? ⟨bw, 0, none⟩ = some (.pointer (some ⟨B, 0, none⟩)) := by simp [World.cell?, HB.out.p]
    have hwl := heap_lt HB.out.p
    have HZ : Hid (∀ X, Below W.heap.size W X → X.cell? ⟨bw, 0, none⟩ = some (.pointer (some ⟨B, 0, none⟩)) ∧ WG X B A S FA ∧ Au w br bt be c f x o p e0 X) := fun X hX => by
      have h1 := (HB.out.below hX).p
      exact ⟨by simp [World.cell?, h1], HB.out.g.below hX, HA.out.below hX⟩
    clear h hB
    go_enter Try.func83, Try.ntmps83
    go_wp2_with fail
    refine (wi_word B A S FA _ q0 q1 (HZ.out _ (by (repeat (first | exact Below.refl _ _ | (with_reducible refine Below.drew ?_) | (with_reducible refine Below.alloc ?_ (by (try simp); (try omega)) _) | (with_reducible refine Below.setCell ?_ (by (try simp); (try omega)) _) | (with_reducible refine Below.trans ?_ (Below.mono (by assumption) (by (try simp); (try omega)))))))).2.1).mono ?_
    rintro e w1 ⟨rfl, hb1⟩
    have hB1 : Below W.heap.size W w1 := by (repeat (first | exact Below.refl _ _ | (with_reducible refine Below.drew ?_) | (with_reducible refine Below.alloc ?_ (by (try simp); (try omega)) _) | (with_reducible refine Below.setCell ?_ (by (try simp); (try omega)) _) | (with_reducible refine Below.trans ?_ (Below.mono (by assumption) (by (try simp); (try omega))))))
    have y0 : w1.cell? ⟨W.heap.size, 0, none⟩ = some (.int .i64 q0) := (hb1.cell (p := ⟨W.heap.size, 0, none⟩) (by simp)).trans (by go_simp)
    have y1 : w1.cell? ⟨W.heap.size, 1, none⟩ = some (.int .i64 q1) := (hb1.cell (p := ⟨W.heap.size, 1, none⟩) (by simp)).trans (by go_simp)
    have yl : W.heap.size < w1.heap.size := by have := hb1.size; simp at this; omega
    have HB1 := Lib.hid hB1
    clear hb1 hB1 hw0
    rw [HV.out]
    simp only []
    have g0 : w1.cell? ⟨bw, 0, none⟩ = some (.pointer (some ⟨B, 0, none⟩)) := (HZ.out _ HB1.out).1
    have gl : bw < w1.heap.size := by have := HB1.out.size; omega
    go_upto_region 6 with (go_at_call 17; refine (wi_to B A S FA _ q0 q1 (HZ.out _ HB1.out).2.1).mono ?_; rintro e w2 ⟨rfl, hb2⟩)
    have hB2 := HB1.out.trans (hb2.mono HB1.out.size)
    have z0 : w2.cell? ⟨W.heap.size, 0, none⟩ = some (.int .i64 q0) := (hb2.cell (p := ⟨W.heap.size, 0, none⟩) yl).trans y0
    have z1 : w2.cell? ⟨W.heap.size, 1, none⟩ = some (.int .i64 q1) := (hb2.cell (p := ⟨W.heap.size, 1, none⟩) yl).trans y1
    have zl : W.heap.size < w2.heap.size := Nat.lt_of_lt_of_le yl hb2.size
    refine absW (fun X => Hid (Below W.heap.size W X) ∧ X.cell? ⟨W.heap.size, 0, none⟩ = some (.int .i64 q0) ∧ X.cell? ⟨W.heap.size, 1, none⟩ = some (.int .i64 q1) ∧ W.heap.size < X.heap.size ∧ X.heap[w2.heap.size]? = some (.cells #[.int .i64 (S.toP (q0, q1)).1, .int .i64 (S.toP (q0, q1)).2] 39 (0, 0)))
      ⟨Lib.hid (hB2.alloc hB2.size _), (Below.cell ((Below.refl w2.heap.size w2).alloc (Nat.le_refl _) _) (p := ⟨W.heap.size, 0, none⟩) zl).trans z0, (Below.cell ((Below.refl w2.heap.size w2).alloc (Nat.le_refl _) _) (p := ⟨W.heap.size, 1, none⟩) zl).trans z1, by simp; omega, heap_alloc_new _ _⟩ ?_
    clear y0 y1 yl z0 z1 zl HB1 hb2 hB2 g0 gl
    rintro X ⟨HX, y0, y1, yl, hq⟩
    generalize w2.heap.size = bq at hq ⊢
    obtain ⟨⟨r0, r1⟩, hr⟩ : ∃ r, S.toP (q0, q1) = r := ⟨_, rfl⟩
    rw [hr] at hq
    have HRr := Lib.hid hr
    clear hr
    have x0 : X.cell? ⟨bq, 0, none⟩ = some (.int .i64 r0) := by simp [World.cell?, hq]
    have x1 : X.cell? ⟨bq, 1, none⟩ = some (.int .i64 r1) := by simp [World.cell?, hq]
    have hql := heap_lt hq
    have v0 : X.cell? ⟨bw, 0, none⟩ = some (.pointer (some ⟨B, 0, none⟩)) := (HZ.out _ HX.out).1
    have vl : bw < X.heap.size := by have := HX.out.size; omega
    go_wp2_with fail
    refine (wi_word B A S FA X r0 r1 (HZ.out _ HX.out).2.1).mono ?_
    rintro e w3 ⟨rfl, hb3⟩
    have HX3 := Lib.hid (HX.out.trans (hb3.mono HX.out.size))
    have z0 : w3.cell? ⟨W.heap.size, 0, none⟩ = some (.int .i64 q0) := (hb3.cell (p := ⟨W.heap.size, 0, none⟩) yl).trans y0
    have z1 : w3.cell? ⟨W.heap.size, 1, none⟩ = some (.int .i64 q1) := (hb3.cell (p := ⟨W.heap.size, 1, none⟩) yl).trans y1
    have u0 : w3.cell? ⟨bq, 0, none⟩ = some (.int .i64 r0) := (hb3.cell (p := ⟨bq, 0, none⟩) hql).trans x0
    have u1 : w3.cell? ⟨bq, 1, none⟩ = some (.int .i64 r1) := (hb3.cell (p := ⟨bq, 1, none⟩) hql).trans x1
    have zl : W.heap.size < w3.heap.size := Nat.lt_of_lt_of_le yl hb3.size
    have ul : bq < w3.heap.size := Nat.lt_of_lt_of_le hql hb3.size
    clear y0 y1 yl x0 x1 hql hq hb3 v0 vl
    simp only []
    go_wp2_with fail
    refine (pack_any q0 q1 w3).mono ?_
    rintro e w4 ⟨rfl, hb4⟩
    have HX4 := Lib.hid (HX3.out.trans (hb4.mono HX3.out.size))
    have y0 : w4.cell? ⟨W.heap.size, 0, none⟩ = some (.int .i64 q0) := (hb4.cell (p := ⟨W.heap.size, 0, none⟩) zl).trans z0
    have y1 : w4.cell? ⟨W.heap.size, 1, none⟩ = some (.int .i64 q1) := (hb4.cell (p := ⟨W.heap.size, 1, none⟩) zl).trans z1
    have x0 : w4.cell? ⟨bq, 0, none⟩ = some (.int .i64 r0) := (hb4.cell (p := ⟨bq, 0, none⟩) ul).trans u0
    have x1 : w4.cell? ⟨bq, 1, none⟩ = some (.int .i64 r1) := (hb4.cell (p := ⟨bq, 1, none⟩) ul).trans u1
    have yl : W.heap.size < w4.heap.size := Nat.lt_of_lt_of_le zl hb4.size
    have xl : bq < w4.heap.size := Nat.lt_of_lt_of_le ul hb4.size
    clear z0 z1 zl u0 u1 ul hb4
    simp only []
    have hr := HRr.out
    have hvv := HVV.out
    rw [hr] at hvv
    rw [HTE.out, hvv]
    clear hr hvv
    have rt := (HZ.out _ HX4.out).2.2.t
    have re := (HZ.out _ HX4.out).2.2.e
    have t2 : w4.cell? ⟨bt, 0, none⟩ = some (.int .i64 p.1) := by simp [World.cell?, rt]
    have t3 : w4.cell? ⟨bt, 1, none⟩ = some (.int .i64 p.2) := by simp [World.cell?, rt]
    have t4 : w4.frozen? ⟨bt, 0, none⟩ = false := by simp [World.frozen?, rt]
    have t5 : w4.frozen? ⟨bt, 1, none⟩ = false := by simp [World.frozen?, rt]
    have e2 : w4.cell? ⟨be, 0, none⟩ = some (.int .i64 e0) := by simp [World.cell?, re]
    have e3 : w4.frozen? ⟨be, 0, none⟩ = false := by simp [World.frozen?, re]
    have tl := heap_lt rt
    have el := heap_lt re
    have nn := (HZ.out _ HX4.out).2.2.ne.2.2
    generalize pkW q0 q1 = own at *
    clear rt re
    go_wp2_with fail
    go_ret
    exact ⟨rfl, (HZ.out _ HX4.out).2.2.bad1 (q0, q1) 42, (((Kp.of_below HX4.out).setCell (p := ⟨bt, 0, none⟩) (.inl (by simp)) _).setCell (p := ⟨bt, 1, none⟩) (.inl (by simp)) _).setCell (p := ⟨be, 0, none⟩) (.inl (by simp)) _⟩
end
end Go.Proofs.Ythbobooiedcofaa
