/-
  The walk of ArenaAll.
-/
import Derived.Test.YtbdfkgchliakfaaArenaOps
namespace Go.Proofs.Ytbdfkgchliakfaa
open Go.RowKit Go.Shelf
attribute [local go_sem] cell_set
attribute [local go_sem] Oper.semAt_some
set_option maxRecDepth 100000

theorem run_eql_func_nil {P : Program} (w : World) (t : TypeId) {ps rs : Array TypeId} {vd : Bool} (h : P.underlying t = some (.func ps rs vd)) (f : Fn) (a b : Array Value) : (binOp .eql t (.func f a b) .nilFunc).run P w = .ok (.bool false) w := by
  have : (Op.equalIn 10000 t (.func f a b) .nilFunc).run P w = .ok false w := by
    rw [show (10000 : Nat) = 9999 + 1 from rfl, Op.equalIn]
    simp [run_underlying h]
  simp only [binOp]
  simp [Op.equal, Op.maxDepth, this]
theorem seqfn_eql (w : World) (f : Fn) (a b : Array Value) : (binOp .eql 61 (.func f a b) .nilFunc).run Try.prog w = .ok (.bool false) w := run_eql_func_nil w _ Try.underlying61 f a b
/-- The arena of ArenaAll when k cells were taken. -/
def arL (n k : Nat) : Ars := { most := n, cells := (List.range k).map fun (i : Nat) => some (((i % 5 : Nat) : Int), [4294967295]), back := [] }
theorem arL_take {n k : Nat} (h : k < n) : (arL n k).take ((k % 5 : Nat) : Int) 0 = arL n (k + 1) := by
  have hb : ¬ Ars.bad ((k % 5 : Nat) : Int) 0 := by unfold Ars.bad; omega
  have hE : (arL n k).takeE ((k % 5 : Nat) : Int) 0 = 0 := by
    unfold Ars.takeE
    rw [if_neg hb]
    unfold Ars.nextE
    simp [arL]; omega
  unfold Ars.take
  rw [if_neg (by rw [hE]; simp)]
  simp [arL, List.range_succ, Ars.fresh]
theorem arL_upto (n k : Nat) (h : k ≤ n) : (arL n n).upto k = (List.range k).map fun (i : Nat) => (i, ((i % 5 : Nat) : Int)) := by
  induction k with
  | zero => rfl
  | succ k ih =>
    rw [Ars.upto, ih (by omega), List.range_succ, List.map_append]
    have : (arL n n).cells[k]? = some (some (((k % 5 : Nat) : Int), [4294967295])) := by
      simp only [arL, List.getElem?_map, List.getElem?_range (show k < n by omega), Option.map_some]
    rw [this]; rfl

attribute [local go_sem] seqfn_eql
/-- The boxes of ArenaAll. -/
structure ABox (b3 b4 b5 A : Nat) (lv : Int) (W : World) : Prop where
  c3 : W.cell? ⟨b3, 0, none⟩ = some (.int .i64 lv)
  c4 : W.cell? ⟨b4, 0, none⟩ = some (.bool false)
  f4 : W.frozen? ⟨b4, 0, none⟩ = false
  c5 : W.cell? ⟨b5, 0, none⟩ = some (.pointer (some ⟨A, 0, none⟩))
theorem ABox.kq {b3 b4 b5 A : Nat} {lv : Int} {W W' : World} (h : ABox b3 b4 b5 A lv W) {X : List Nat} (hk : KQ X W W') (h3 : b3 ∈ X) (h4 : b4 ∈ X) (h5 : b5 ∈ X) : ABox b3 b4 b5 A lv W' :=
  ⟨(hk.cell (p := ⟨b3, 0, none⟩) h3).trans h.c3, (hk.cell (p := ⟨b4, 0, none⟩) h4).trans h.c4, (hk.frozen (p := ⟨b4, 0, none⟩) h4).trans h.f4, (hk.cell (p := ⟨b5, 0, none⟩) h5).trans h.c5⟩

theorem ABox.grown {b3 b4 b5 A : Nat} {lv : Int} {W W' : World} (h : ABox b3 b4 b5 A lv W) {row : Option Nat} (hg : W.grownBy W' row) (hr : ∀ r, row = some r → ∃ o : Obj, W.heap[r]? = some o ∧ o.isCells = false) : ABox b3 b4 b5 A lv W' :=
  ⟨cell_kept h.c3 hg hr, cell_kept h.c4 hg hr, (frozen_kept h.c4 hg hr).trans h.f4, cell_kept h.c5 hg hr⟩
theorem ABox.setOther {b3 b4 b5 A : Nat} {lv : Int} {W : World} (h : ABox b3 b4 b5 A lv W) {b : Nat} (n3 : b ≠ b3) (n4 : b ≠ b4) (n5 : b ≠ b5) (u : Value) : ABox b3 b4 b5 A lv (W.setCell ⟨b, 0, none⟩ u) := by
  have hne : ∀ {x : Nat}, b ≠ x → (⟨x, 0, none⟩ : Addr) ≠ ⟨b, 0, none⟩ := fun hx e => hx (by injection e with e _; exact e.symm)
  refine ⟨?_, ?_, ?_, ?_⟩
  · rw [World.cell?_of_block (w := W) (Below.heap_setCell W _ u _ (by simpa using fun e => n3 e.symm))]; exact h.c3
  · rw [World.cell?_of_block (w := W) (Below.heap_setCell W _ u _ (by simpa using fun e => n4 e.symm))]; exact h.c4
  · rw [World.frozen?_setCell]; exact h.f4
  · rw [World.cell?_of_block (w := W) (Below.heap_setCell W _ u _ (by simpa using fun e => n5 e.symm))]; exact h.c5
theorem Box2.grown {W W' : World} {B P : Nat} {v : Value} {l : List (Nat × Int)} (h : Box2 W B P v l) {row : Option Nat} (hg : W.grownBy W' row) (hr : ∀ r, row = some r → ∃ o : Obj, W.heap[r]? = some o ∧ o.isCells = false) : Box2 W' B P v l :=
  h.keep fun b hb => by
    simp only [List.mem_cons] at hb
    rcases hb with rfl | hb
    · exact grownBy_keeps_cells hg hr h.cell rfl
    · obtain ⟨_, hh⟩ := h.row.ty hb
      exact grownBy_keeps_cells hg hr hh rfl
/-- A counter in a box. -/
structure CBox (b : Nat) (k : Int) (W : World) : Prop where
  c : W.cell? ⟨b, 0, none⟩ = some (.int .i64 k)
  f : W.frozen? ⟨b, 0, none⟩ = false
theorem CBox.grown {b : Nat} {k : Int} {W W' : World} (h : CBox b k W) {row : Option Nat} (hg : W.grownBy W' row) (hr : ∀ r, row = some r → ∃ o : Obj, W.heap[r]? = some o ∧ o.isCells = false) : CBox b k W' :=
  ⟨cell_kept h.c hg hr, (frozen_kept h.c hg hr).trans h.f⟩
theorem CBox.kq {b : Nat} {k : Int} {W W' : World} (h : CBox b k W) {X : List Nat} (hk : KQ X W W') (hb : b ∈ X) : CBox b k W' := ⟨(hk.cell (p := ⟨b, 0, none⟩) hb).trans h.c, (hk.frozen (p := ⟨b, 0, none⟩) hb).trans h.f⟩
theorem CBox.set {b : Nat} {k : Int} {W : World} (h : CBox b k W) (j : Int) : CBox b j (W.setCell ⟨b, 0, none⟩ (.int .i64 j)) :=
  ⟨World.cell?_setCell_same' _ _ _ (by rw [h.c]; rfl), by rw [World.frozen?_setCell]; exact h.f⟩
theorem CBox.setOther {b : Nat} {k : Int} {W : World} (h : CBox b k W) {b' : Nat} (hn : b ≠ b') (u : Value) : CBox b k (W.setCell ⟨b', 0, none⟩ u) :=
  ⟨by rw [World.cell?_of_block (w := W) (Below.heap_setCell W _ u _ (by simpa using hn))]; exact h.c, by rw [World.frozen?_setCell]; exact h.f⟩
/-- What All goes over. -/
def gl (k : Nat) : List (Nat × Int) := (List.range k).map fun (i : Nat) => (i, ((i % 5 : Nat) : Int))
theorem gl_len (k : Nat) : (gl k).length = k := by simp [gl]
theorem gl_succ (k : Nat) : gl (k + 1) = gl k ++ [(k, ((k % 5 : Nat) : Int))] := by simp [gl, List.range_succ]
def good (pre : List (Nat × Int)) : Prop := pre = gl pre.length
theorem good_snoc {pre : List (Nat × Int)} (h : good pre) : good (pre ++ [(pre.length, ((pre.length % 5 : Nat) : Int))]) := by
  unfold good at h ⊢
  rw [List.length_append, List.length_singleton, gl_succ, ← h]
theorem good_last {pre : List (Nat × Int)} {x : Nat × Int} (h : good (pre ++ [x])) : x = (pre.length, ((pre.length % 5 : Nat) : Int)) := by
  unfold good at h
  rw [List.length_append, List.length_singleton, gl_succ] at h
  exact List.singleton_inj.1 (List.append_inj_right h (by simp [gl_len]))
theorem good_take (n k : Nat) : good ((gl n).take k) := by
  unfold good
  rw [List.length_take, gl_len]
  unfold gl
  rw [← List.map_take, List.take_range]
theorem good_gl (n : Nat) : good (gl n) := by unfold good; rw [gl_len]

/-- What stands between two rounds of ArenaAll's first loop. -/
structure R1 (w0 : World) (X : List Nat) (A b3 b4 b5 b9 B P : Nat) (v : Value) (xs : List (Nat × Int)) (lv : Int) (s : Int) (W : World) : Prop where
  ar : ∃ S, ArX w0 X A S W
  ab : ABox b3 b4 b5 A lv W
  bx : Box2 W B P v xs
  c9 : CBox b9 s W
section
variable {w0 : World} {X : List Nat} {A b3 b4 b5 b9 B P : Nat} {v : Value} {xs : List (Nat × Int)} {lv s : Int} {W W' : World}
theorem R1.grown (h : R1 w0 X A b3 b4 b5 b9 B P v xs lv s W) {row : Option Nat} (hg : W.grownBy W' row) {C : Nat} (hC : w0.heap.size ≤ C) (hr : ∀ r, row = some r → C ≤ r ∧ ∃ o : Obj, W.heap[r]? = some o ∧ o.isCells = false) : R1 w0 X A b3 b4 b5 b9 B P v xs lv s W' :=
  ⟨by obtain ⟨S, h⟩ := h.ar; exact ⟨S, h.grown hg hC hr⟩, h.ab.grown hg (fun r e => (hr r e).2), h.bx.grown hg (fun r e => (hr r e).2), h.c9.grown hg (fun r e => (hr r e).2)⟩
theorem R1.set9 (h : R1 w0 X A b3 b4 b5 b9 B P v xs lv s W) (hX : b9 ∈ X) (n3 : b9 ≠ b3) (n4 : b9 ≠ b4) (n5 : b9 ≠ b5) (nP : b9 ∉ P :: ownB v) (j : Int) : R1 w0 X A b3 b4 b5 b9 B P v xs lv j (W.setCell ⟨b9, 0, none⟩ (.int .i64 j)) := by
  obtain ⟨⟨S, h1⟩, h2, h3, h4⟩ := h
  exact ⟨⟨S, h1.setCell hX _⟩, h2.setOther n3 n4 n5 _, h3.keep fun b hb => Below.heap_setCell W _ _ b (fun e => nP (by have e' : b = b9 := e; exact e' ▸ hb)), h4.set j⟩
theorem R1.kq (h : R1 w0 X A b3 b4 b5 b9 B P v xs lv s W) {S : Ars} (hS : ArX w0 X A S W') (hk : KQ X W W') (h3 : b3 ∈ X) (h4 : b4 ∈ X) (h5 : b5 ∈ X) (h9 : b9 ∈ X) (hQ : ∀ b ∈ P :: ownB v, b ∈ X) : R1 w0 X A b3 b4 b5 b9 B P v xs lv s W' :=
  ⟨⟨S, hS⟩, h.ab.kq hk h3 h4 h5, h.bx.keep fun b hb => hk.same b (hQ b hb), h.c9.kq hk h9⟩
end
/-- What stands between two rounds of ArenaAll's second loop. -/
structure R2 (w0 : World) (A b3 b4 b5 b9 b12 D B P : Nat) (v : Value) (xs : List (Nat × Int)) (lv s j : Int) (W : World) : Prop where
  be : Below w0.heap.size w0 W
  ab : ABox b3 b4 b5 A lv W
  bx : Box2 W B P v xs
  c9 : CBox b9 s W
  c12 : CBox b12 j W
  dl : W.heap[D]? = some (.deferred (some []))
section
variable {w0 : World} {A b3 b4 b5 b9 b12 D B P : Nat} {v : Value} {xs : List (Nat × Int)} {lv s j : Int} {W W' : World}
theorem R2.grown (h : R2 w0 A b3 b4 b5 b9 b12 D B P v xs lv s j W) {row : Option Nat} (hg : W.grownBy W' row) {C : Nat} (hC : w0.heap.size ≤ C) (hD : D < C) (hr : ∀ r, row = some r → C ≤ r ∧ ∃ o : Obj, W.heap[r]? = some o ∧ o.isCells = false) : R2 w0 A b3 b4 b5 b9 b12 D B P v xs lv s j W' :=
  ⟨h.be.grown hg h.be.size (fun r e => Nat.le_trans hC (hr r e).1), h.ab.grown hg (fun r e => (hr r e).2), h.bx.grown hg (fun r e => (hr r e).2), h.c9.grown hg (fun r e => (hr r e).2), h.c12.grown hg (fun r e => (hr r e).2),
    (hg.block D (heap_lt h.dl) (fun e => by have := (hr D e.symm).1; omega)).trans h.dl⟩
theorem R2.set12 (h : R2 w0 A b3 b4 b5 b9 b12 D B P v xs lv s j W) (hw : w0.heap.size ≤ b12) (n3 : b12 ≠ b3) (n4 : b12 ≠ b4) (n5 : b12 ≠ b5) (n9 : b9 ≠ b12) (nP : b12 ∉ P :: ownB v) (nD : D ≠ b12) (i : Int) : R2 w0 A b3 b4 b5 b9 b12 D B P v xs lv s i (W.setCell ⟨b12, 0, none⟩ (.int .i64 i)) := by
  obtain ⟨h1, h2, h3, h4, h5, h6⟩ := h
  exact ⟨h1.setCell hw _, h2.setOther n3 n4 n5 _, h3.keep fun b hb => Below.heap_setCell W _ _ b (fun e => nP (by have e' : b = b12 := e; exact e' ▸ hb)), h4.setOther n9 _, h5.set i, (Below.heap_setCell W _ _ D (by simpa using nD)).trans h6⟩
end
def act2 (a : Act) (x : Nat × Int) : Act := { tmps := (((a.tmps.setIfInBounds 67 (.int .i64 (x.1 : Int))).setIfInBounds 68 (.int .i64 x.2)).setIfInBounds 13 (.int .i64 (x.1 : Int))).setIfInBounds 14 (.int .i64 x.2), defers := [] }
def act1 (a : Act) (x : Nat × Int) : Act := { tmps := (((a.tmps.setIfInBounds 47 (.int .i64 (x.1 : Int))).setIfInBounds 48 (.int .i64 x.2)).setIfInBounds 10 (.int .i64 (x.1 : Int))).setIfInBounds 11 (.int .i64 x.2), defers := [] }

set_option maxHeartbeats 2000000 in
theorem all_walk (n lv : Int) (w : World) : Calls Try.prog 9 #[.int .i64 n, .int .i64 lv] w fun e w' => e = .returned (.bool true) ∧ Below w.heap.size w w' := by
  refine (callsIn_wide (n := 5)).1 (callsIn_of_wp_marks Try.func9 rfl trivial (wpIn_wide.2 ?_) rfl)
  simp only [Try.ntmps9, List.size_toArray, List.length_cons, List.length_nil, Nat.reduceAdd, Nat.reduceSub, Array.replicate_succ, Array.replicate_zero, List.push_toArray, List.append_toArray, List.nil_append, List.cons_append]
  repeat go_step
  generalize hm : (if (60 : Int) < n then (60 : Int) else n) = m
  obtain ⟨N, hN, h1, h60⟩ : ∃ N : Nat, (if 1 < m then m else 1) = (N : Int) ∧ 1 ≤ N ∧ N ≤ 60 := by
    have hm60 : m ≤ 60 := by rw [← hm]; split <;> omega
    split
    · exact ⟨m.toNat, by omega, by omega, by omega⟩
    · exact ⟨1, rfl, by omega, by omega⟩
  rw [hN]
  clear hN hm
  have hB0 : Below w.heap.size w ((w.alloc (.cells #[.int .i64 lv] 3)).alloc (.cells #[.bool false] 4)) := ((Below.refl _ _).alloc (Nat.le_refl _) _).alloc (by simp) _
  refine (arx_new hB0 N h1 (by omega) [w.heap.size, w.heap.size + 1] (by simp; omega)).mono ?_
  rintro e w1 ⟨rfl, g1, hb1⟩
  have hz00 : w.heap.size < ((w.alloc (.cells #[.int .i64 lv] 3)).alloc (.cells #[.bool false] 4)).heap.size := by simp; omega
  have hz01 : w.heap.size + 1 < ((w.alloc (.cells #[.int .i64 lv] 3)).alloc (.cells #[.bool false] 4)).heap.size := by simp
  have k3 : w1.cell? ⟨w.heap.size, 0, none⟩ = some (.int .i64 lv) := (hb1.cell (p := ⟨w.heap.size, 0, none⟩) hz00).trans (by go_simp)
  have k4 : w1.cell? ⟨w.heap.size + 1, 0, none⟩ = some (.bool false) := (hb1.cell (p := ⟨w.heap.size + 1, 0, none⟩) hz01).trans (by go_simp)
  have f4 : w1.frozen? ⟨w.heap.size + 1, 0, none⟩ = false := (hb1.frozen (p := ⟨w.heap.size + 1, 0, none⟩) hz01).trans (by go_simp)
  have hz1 := hb1.size
  simp at hz1
  have hz3 : w.heap.size < w1.heap.size := by omega
  have hz4 : w.heap.size + 1 < w1.heap.size := by omega
  have hA' : ((w.alloc (.cells #[.int .i64 lv] 3)).alloc (.cells #[.bool false] 4)).heap.size = w.heap.size + 2 := by simp
  rw [hA'] at g1 ⊢
  clear hz00 hz01 hA'
  have G1 := Lib.hid g1
  clear g1 hb1 hB0
  go_wp2_with fail
  refine absW (fun W => ArX w [w1.heap.size, w.heap.size, w.heap.size + 1] (w.heap.size + 2) (arL N 0) W ∧ ABox w.heap.size (w.heap.size + 1) w1.heap.size (w.heap.size + 2) lv W) ⟨G1.out.alloc _, by go_simp, by go_simp, by go_simp, by go_simp⟩ ?_
  rintro W ⟨g2, bx2⟩
  have G2 := Lib.hid (And.intro g2 bx2)
  clear g2 bx2 k3 k4 f4
  go_loopw [7] (fun i wr => ∃ k : Nat, i = .int .i64 k ∧ k ≤ N ∧ Hid (ArX w [w1.heap.size, w.heap.size, w.heap.size + 1] (w.heap.size + 2) (arL N k) wr ∧ ABox w.heap.size (w.heap.size + 1) w1.heap.size (w.heap.size + 2) lv wr)) (fun i _ => N - (intOf i).toNat)
  case atStart => exact ⟨0, rfl, by omega, G2⟩
  case round =>
    obtain ⟨k, rfl, hk, X⟩ := hrel
    by_cases hlt : k < N
    · have c5 := X.out.2.c5
      go_wp2_with fail
      rw [show (k : Int) % 5 = ((k % 5 : Nat) : Int) by omega]
      refine (arx_take X.out.1 _ 0).mono ?_
      rintro e w3 ⟨rfl, g3, q3, _⟩
      rw [arL_take hlt] at g3
      have X3 := Lib.hid (And.intro g3 (X.out.2.kq q3 (by simp) (by simp) (by simp)))
      clear g3 q3 c5
      go_wp2
      go_roundw
      case rel => exact ⟨k + 1, by go_num, by omega, X3⟩
      case measure => simp [intOf]; omega
    · obtain rfl : k = N := by omega
      have c5 := X.out.2.c5
      obtain ⟨FA, pA, hFA⟩ := X.out.1.pa
      go_wp2_with fail
      refine (ar_all _ _ FA _ pA).mono ?_
      rintro e w3 ⟨v, rfl, hb3, bx⟩
      rw [show (arL k k).cells.length = k by simp [arL], arL_upto k k (Nat.le_refl _)] at bx
      have hz5 := hb3.size
      have hz6 := bx.lt
      have hbx : ∀ b ∈ [w1.heap.size, w.heap.size, w.heap.size + 1], b < wr.heap.size := fun b hb => (X.out.1.x b hb).2
      have q3 : KQ [w1.heap.size, w.heap.size, w.heap.size + 1] wr w3 := ⟨hb3.size, fun b hb => hb3.block b (hbx b hb)⟩
      have B3 := Lib.hid (X.out.2.kq q3 (by simp) (by simp) (by simp))
      have G3 := Lib.hid (X.out.1.add hb3 (wr.heap.size :: ownB v) (fun b hb => by
        simp only [List.mem_cons] at hb
        rcases hb with rfl | hb
        · exact ⟨Nat.le_refl _, bx.lt⟩
        · exact ⟨bx.own b hb, bx.row.lt b hb⟩))
      have BX := Lib.hid bx
      have c5' := B3.out.c5
      clear pA hFA hb3 bx q3 c5
      go_wp2_with fail
      refine (arx_give G3.out _).mono ?_
      rintro e w4 ⟨rfl, g4, q4, _⟩
      have B4 := Lib.hid (B3.out.kq q4 (by simp) (by simp) (by simp))
      have BX4 := Lib.hid (BX.out.keep fun b hb => q4.same b (by
        simp only [List.mem_append, List.mem_cons] at hb ⊢
        rcases hb with hb | hb
        · exact .inl (.inl hb)
        · exact .inl (.inr hb)))
      have G4 := Lib.hid g4
      have c54 := B4.out.c5
      have hz7 := q4.size
      clear g4 q4 c5'
      go_wp2_with fail
      have hb5lt : w1.heap.size < w4.heap.size := Nat.lt_of_lt_of_le (hbx w1.heap.size (by simp)) (by omega)
      have hz8 : w.heap.size < w4.heap.size := by omega
      have hPQ : ∀ b ∈ wr.heap.size :: ownB v, b < w4.heap.size := fun b hb => (G4.out.x b (by simp only [List.mem_append]; exact .inl hb)).2
      have T1 : Hid (R1 w (w4.heap.size :: (wr.heap.size :: ownB v ++ [w1.heap.size, w.heap.size, w.heap.size + 1])) (w.heap.size + 2) w.heap.size (w.heap.size + 1) w1.heap.size w4.heap.size wr.heap.size wr.heap.size v (gl k) lv 0 (w4.alloc (.cells #[.int .i64 0] 3))) :=
        Lib.hid ⟨⟨_, G4.out.alloc _⟩, B4.out.kq (X := [w1.heap.size, w.heap.size, w.heap.size + 1]) ⟨by simp, fun b hb => Below.heap_alloc _ _ b (by have := hbx b hb; omega)⟩ (by simp) (by simp) (by simp), BX4.out.alloc _, ⟨by go_simp, by go_simp⟩⟩
      refine rf rfl (enters_of Try.func59 (by kernel_rfl) rfl) (seq_stops 4 wr.heap.size wr.heap.size v (gl k) (by rw [gl_len]; omega) _ (BX4.out.alloc _)) (fun b hb => by have := hPQ b hb; simp; omega) (fun _ => rfl)
        (fun pre W => R1 w (w4.heap.size :: (wr.heap.size :: ownB v ++ [w1.heap.size, w.heap.size, w.heap.size + 1])) (w.heap.size + 2) w.heap.size (w.heap.size + 1) w1.heap.size w4.heap.size wr.heap.size wr.heap.size v (gl k) lv (pre.length : Int) W ∧ good pre ∧ (lv < 1 ∨ (pre.length : Int) < lv))
        (fun c pre W => (c = .ret ∧ ¬ good pre) ∨ (c = .exit 2 ∧ R1 w (w4.heap.size :: (wr.heap.size :: ownB v ++ [w1.heap.size, w.heap.size, w.heap.size + 1])) (w.heap.size + 2) w.heap.size (w.heap.size + 1) w1.heap.size w4.heap.size wr.heap.size wr.heap.size v (gl k) lv (pre.length : Int) W ∧ good pre ∧ (pre.length : Int) = lv ∧ 1 ≤ lv))
        (fun s W W' row h hg hr => ⟨h.1.grown hg (by simp; omega) hr, h.2⟩)
        (fun c s W W' row h hg hr => h.imp id fun h => ⟨h.1, h.2.1.grown hg (by simp; omega) hr, h.2.2⟩)
        ⟨T1.out, rfl, by simp; omega⟩ act1 ?assign ?body ?done ?stop
      case assign =>
        intro l x W K hK
        gi_wp2
        simpa [act1] using hK
      case body =>
        rintro l pre x W ⟨h1r, hg, hl⟩ hlen
        rw [gl_len] at hlen
        have i9 := h1r.c9.c
        have i9f := h1r.c9.f
        have i3 := h1r.ab.c3
        have i4 := h1r.ab.c4
        have i4f := h1r.ab.f4
        have i5 := h1r.ab.c5
        have R := Lib.hid h1r
        clear h1r
        simp only [act1]
        by_cases hx : x = (pre.length, ((pre.length % 5 : Nat) : Int))
        · have hgs := Lib.hid (good_snoc hg)
          subst hx
          have R9 : Hid (R1 w (w4.heap.size :: (wr.heap.size :: ownB v ++ [w1.heap.size, w.heap.size, w.heap.size + 1])) (w.heap.size + 2) w.heap.size (w.heap.size + 1) w1.heap.size w4.heap.size wr.heap.size wr.heap.size v (gl k) lv ((pre.length : Int) + 1) (W.setCell ⟨w4.heap.size, 0, none⟩ (.int .i64 ((pre.length : Int) + 1)))) :=
            R.out.set9 (by simp) (by omega) (by omega) (by omega) (fun hb => by have := hPQ _ hb; omega) _
          have hnQ : w4.heap.size ∉ wr.heap.size :: ownB v := fun hb => by have := hPQ _ hb; omega
          have hlen1 : ((pre ++ [(pre.length, ((pre.length % 5 : Nat) : Int))]).length : Int) = (pre.length : Int) + 1 := by simp
          gi_wp2_with fail
          all_goals first
            | (obtain ⟨S9, a9⟩ := R9.out.ar
               refine ⟨trivial, CallsIn.inRound l (callsIn_wide.2 ((arx_give a9 _).mono ?_))⟩
               rintro e W5 ⟨rfl, g5, q5, ko5⟩
               have R5 := Lib.hid (And.intro (R9.out.kq g5 q5 (by simp) (by simp) (by simp) (by simp) (fun b hb => by simp only [List.mem_cons, List.mem_append] at hb ⊢; rcases hb with hb | hb; exact .inr (.inl (.inl hb)); exact .inr (.inl (.inr hb))))
                 (And.intro (((KeepsOthers.setCell W ⟨w4.heap.size, 0, none⟩ (.int .i64 ((pre.length : Int) + 1))).trans ko5).from (w4.alloc (.cells #[.int .i64 0] 3)).heap.size)
                   (((KQ.refl _ W).setCell (p := ⟨w4.heap.size, 0, none⟩) hnQ (.int .i64 ((pre.length : Int) + 1))).trans (q5.sub (R := wr.heap.size :: ownB v) (fun b hb => by simp only [List.mem_cons, List.mem_append] at hb ⊢; rcases hb with hb | hb; exact .inr (.inl (.inl hb)); exact .inr (.inl (.inr hb)))))))
               clear g5 q5 ko5 a9
               gi_wp2
               exact ⟨R5.out.2.1, R5.out.2.2, by rw [hlen1]; exact R5.out.1, hgs.out, by rw [hlen1]; first | omega | (simp only [beq_eq_false_iff_ne, ne_eq] at *; omega)⟩)
            | exact ⟨(KeepsOthers.setCell _ _ _).from _, .inr ⟨rfl, by rw [hlen1]; exact R9.out, hgs.out, by rw [hlen1]; first | omega | (simp only [beq_iff_eq] at *; omega), by first | omega | (simp only [beq_iff_eq] at *; omega)⟩⟩
        · have hnb := Lib.hid (fun hb : good (pre ++ [x]) => hx (good_last hb))
          have hx2 : x.1 ≠ pre.length ∨ (x.1 = pre.length ∧ x.2 ≠ ((pre.length % 5 : Nat) : Int)) := by
            by_cases h1 : x.1 = pre.length
            · exact .inr ⟨h1, fun h2 => hx (Prod.ext h1 h2)⟩
            · exact .inl h1
          clear hx
          rcases hx2 with hx2 | ⟨hx2, hx3⟩
          · gi_wp2
            exact ⟨(KeepsOthers.setCell _ _ _).from _, .inl ⟨rfl, hnb.out⟩⟩
          · obtain ⟨x1, x2⟩ := x
            simp only at hx2 hx3
            subst hx2
            gi_wp2
            exact ⟨(KeepsOthers.setCell _ _ _).from _, .inl ⟨rfl, hnb.out⟩⟩
      case' done =>
        rintro D xs W hD rfl ⟨h1r, hg, hl⟩ hK
        obtain ⟨s, hs, T⟩ : ∃ s : Int, (((lv < 1 ∨ (k : Int) < lv) ∧ s = k) ∨ (1 ≤ lv ∧ lv ≤ k ∧ s = lv)) ∧ Hid (R1 w (w4.heap.size :: (wr.heap.size :: ownB v ++ [w1.heap.size, w.heap.size, w.heap.size + 1])) (w.heap.size + 2) w.heap.size (w.heap.size + 1) w1.heap.size w4.heap.size wr.heap.size wr.heap.size v (gl k) lv s W) := ⟨_, .inl ⟨by rw [gl_len] at hl; exact hl, rfl⟩, by rw [gl_len] at h1r; exact Lib.hid h1r⟩
        clear h1r hg hl
      case' stop =>
        rintro D c pre W hD ⟨j, hj, rfl⟩ (⟨rfl, hng⟩ | ⟨rfl, h1r, hg, hl, hl1⟩) hK
        · exact absurd (good_take k j) hng
        obtain ⟨s, hs, T⟩ : ∃ s : Int, (((lv < 1 ∨ (k : Int) < lv) ∧ s = k) ∨ (1 ≤ lv ∧ lv ≤ k ∧ s = lv)) ∧ Hid (R1 w (w4.heap.size :: (wr.heap.size :: ownB v ++ [w1.heap.size, w.heap.size, w.heap.size + 1])) (w.heap.size + 2) w.heap.size (w.heap.size + 1) w1.heap.size w4.heap.size wr.heap.size wr.heap.size v (gl k) lv s W) := ⟨_, .inr ⟨hl1, by rw [List.length_take, gl_len] at hl; omega, rfl⟩, by rw [hl] at h1r; exact Lib.hid h1r⟩
        clear h1r hg hl hl1
      all_goals
        go_wp2_with fail
        have hDW := heap_lt hK
        simp only [World.size_alloc] at hD
        have hb9W : w4.heap.size < W.heap.size := by obtain ⟨S9, a9⟩ := T.out.ar; exact (a9.x w4.heap.size (by simp)).2
        have hPW : ∀ b ∈ wr.heap.size :: ownB v, b < W.heap.size := fun b hb => by have := hPQ b hb; omega
        have T2 : Hid (R2 w (w.heap.size + 2) w.heap.size (w.heap.size + 1) w1.heap.size w4.heap.size W.heap.size D wr.heap.size wr.heap.size v (gl k) lv s 0 (W.alloc (.cells #[.int .i64 0] 3))) := by
          obtain ⟨S9, a9⟩ := T.out.ar
          have kq : KQ [w4.heap.size, w1.heap.size, w.heap.size, w.heap.size + 1] W (W.alloc (.cells #[.int .i64 0] 3)) := ⟨by simp, fun b hb => Below.heap_alloc _ _ b (by simp only [List.mem_cons, List.not_mem_nil, or_false] at hb; omega)⟩
          exact Lib.hid ⟨a9.below.alloc (by omega) _, T.out.ab.kq kq (by simp) (by simp) (by simp), T.out.bx.alloc _, T.out.c9.kq kq (by simp), ⟨by go_simp, by go_simp⟩, (Below.heap_alloc _ _ D hDW).trans hK⟩
        clear T
        refine rf rfl (enters_of Try.func59 (by kernel_rfl) rfl) (seq_stops 4 wr.heap.size wr.heap.size v (gl k) (by rw [gl_len]; omega) _ T2.out.bx) (fun b hb => by have := hPW b hb; simp; omega) (fun _ => rfl)
          (fun pre W' => R2 w (w.heap.size + 2) w.heap.size (w.heap.size + 1) w1.heap.size w4.heap.size W.heap.size D wr.heap.size wr.heap.size v (gl k) lv s (pre.length : Int) W' ∧ good pre)
          (fun c pre W' => c = .ret ∧ ¬ good pre)
          (fun s W1 W2 row h hg hr => ⟨h.1.grown hg (by simp; omega) (by simp; omega) hr, h.2⟩)
          (fun c s W1 W2 row h hg hr => h)
          ⟨T2.out, rfl⟩ act2 ?assign2 ?body2 ?done2 ?stop2
        case assign2 =>
          intro l x W' K hK
          gi_wp2
          simpa [act2] using hK
        case body2 =>
          rintro l pre x W' ⟨h2r, hg⟩ hlen
          rw [gl_len] at hlen
          have i12 := h2r.c12.c
          have i12f := h2r.c12.f
          have i4 := h2r.ab.c4
          have i4f := h2r.ab.f4
          have R := Lib.hid h2r
          clear h2r
          simp only [act2]
          by_cases hx : x = (pre.length, ((pre.length % 5 : Nat) : Int))
          · have hgs := Lib.hid (good_snoc hg)
            subst hx
            have R9 : Hid (R2 w (w.heap.size + 2) w.heap.size (w.heap.size + 1) w1.heap.size w4.heap.size W.heap.size D wr.heap.size wr.heap.size v (gl k) lv s ((pre.length : Int) + 1) (W'.setCell ⟨W.heap.size, 0, none⟩ (.int .i64 ((pre.length : Int) + 1)))) :=
              R.out.set12 (by omega) (by omega) (by omega) (by omega) (by omega) (fun hb => by have := hPW _ hb; omega) (by omega) _
            have hnQ : W.heap.size ∉ wr.heap.size :: ownB v := fun hb => by have := hPW _ hb; omega
            have hlen1 : ((pre ++ [(pre.length, ((pre.length % 5 : Nat) : Int))]).length : Int) = (pre.length : Int) + 1 := by simp
            gi_wp2
            exact ⟨(KeepsOthers.setCell _ _ _).from _, (KQ.refl _ W').setCell (p := ⟨W.heap.size, 0, none⟩) hnQ _, by rw [hlen1]; exact R9.out, hgs.out⟩
          · have hnb := Lib.hid (fun hb : good (pre ++ [x]) => hx (good_last hb))
            have hx2 : x.1 ≠ pre.length ∨ (x.1 = pre.length ∧ x.2 ≠ ((pre.length % 5 : Nat) : Int)) := by
              by_cases h1 : x.1 = pre.length
              · exact .inr ⟨h1, fun h2 => hx (Prod.ext h1 h2)⟩
              · exact .inl h1
            clear hx
            rcases hx2 with hx2 | ⟨hx2, hx3⟩
            · gi_wp2
              exact ⟨(KeepsOthers.setCell _ _ _).from _, rfl, hnb.out⟩
            · obtain ⟨x1, x2⟩ := x
              simp only at hx2 hx3
              subst hx2
              gi_wp2
              exact ⟨(KeepsOthers.setCell _ _ _).from _, rfl, hnb.out⟩
        case stop2 =>
          rintro D2 c pre W' _ ⟨j, _, rfl⟩ ⟨_, hng⟩ _
          exact absurd (good_take k j) hng
        case done2 =>
          rintro D2 xs W' hD2 rfl ⟨h2r, hg⟩ hK2
          rw [gl_len] at h2r
          simp only [World.size_alloc] at hD2
          have i12 := h2r.c12.c
          have i3 := h2r.ab.c3
          have i9 := h2r.c9.c
          have i4 := h2r.ab.c4
          have i4f := h2r.ab.f4
          have hDl := Lib.hid h2r.dl
          have hBW := Lib.hid h2r.be
          have hzW := h2r.be.size
          have hD2l := heap_lt hK2
          have hDl2 := heap_lt h2r.dl
          clear h2r hg
          have hb4W' : w.heap.size + 1 < W'.heap.size := by omega
          rcases (by omega : (lv < 1 ∧ s = k) ∨ (1 ≤ lv ∧ (k : Int) < lv ∧ s = k) ∨ (1 ≤ lv ∧ lv ≤ k ∧ s = lv)) with ⟨q1, rfl⟩ | ⟨q1, q2, rfl⟩ | ⟨q1, q2, rfl⟩
          all_goals
            go_wp2_with (go_at_call 36; refine (works07 _).mono ?_; rintro e w8 ⟨rfl, hb8⟩
                         have j4 : w8.cell? ⟨w.heap.size + 1, 0, none⟩ = some (.bool false) := (hb8.cell (p := ⟨w.heap.size + 1, 0, none⟩) hb4W').trans i4
                         have j4f : w8.frozen? ⟨w.heap.size + 1, 0, none⟩ = false := (hb8.frozen (p := ⟨w.heap.size + 1, 0, none⟩) hb4W').trans i4f)
            have hw8 := hb8.size
            have e0 : w.heap.size + 1 ≠ D := fun e => by have := hDl.out; rw [← e] at this; simp [World.cell?, this] at i4
            have x2 : (w8.setCell ⟨w.heap.size + 1, 0, none⟩ (.bool true)).heap[D2]? = some (.deferred (some [])) := (KeepsOthers.setCell w8 ⟨w.heap.size + 1, 0, none⟩ (.bool true)).same D2 _ ((hb8.block D2 hD2l).trans hK2) rfl
            have x1 : (w8.setCell ⟨w.heap.size + 1, 0, none⟩ (.bool true)).heap[D]? = some (.deferred (some [])) := (KeepsOthers.setCell w8 ⟨w.heap.size + 1, 0, none⟩ (.bool true)).same D _ ((hb8.block D hDl2).trans hDl.out) rfl
            have x3 : ((w8.setCell ⟨w.heap.size + 1, 0, none⟩ (.bool true)).putObj D2 (.deferred none)).heap[D]? = some (.deferred (some [])) := (World.putObj_heap_other (by omega)).trans x1
            have y1 := cell_kept (World.cell?_setCell_same' w8 ⟨w.heap.size + 1, 0, none⟩ (.bool true) (by rw [j4]; rfl)) (grownBy_putObj' _ D2 (.deferred none)) (fun r e => by cases e; exact ⟨_, x2, rfl⟩)
            have y2 := cell_kept y1 (grownBy_putObj' _ D (.deferred none)) (fun r e => by cases e; exact ⟨_, x3, rfl⟩)
            refine ⟨by simp, .inl ⟨_, _, rfl, run_takeDeferred x2, ?_⟩⟩
            refine ⟨by simp, .inl ⟨_, _, rfl, run_takeDeferred x3, ?_⟩⟩
            refine ⟨.bool true, by simp [results, Try.f9, go_sem, y2], rfl, ?_⟩
            refine (((hBW.out.trans (hb8.mono hzW)).setCell (p := ⟨w.heap.size + 1, 0, none⟩) (by simp) _).trans (belowK_b (w := w) (Nat.le_refl _) _ D2 _ _ (by omega) x2 rfl rfl)).trans (belowK_b (w := w) (Nat.le_refl _) _ D _ _ (by omega) x3 rfl rfl)
end Go.Proofs.Ytbdfkgchliakfaa
