/-
  skeinlaw07.row: the live cells as a list.
-/
import Derived.Test.YtbdfkgchliakfaaArenaLaw
namespace Go.Proofs.Ytbdfkgchliakfaa
open Go.RowKit Go.Shelf
attribute [local go_sem] cell_set
attribute [local go_sem] Oper.semAt_some
attribute [local go_sem] seqfn_eql
set_option maxRecDepth 100000

/-- append in a round. -/
theorem wpListIn_row_append {F : Fence} {fn : Nat} {P : Program} {w : World} {ops : Array Oper} {rest : List Oper} {o : Oper} {a : Act} {Q : Exit → Act → World → Prop} (hgd : o.guard = none)
    (s x : Operand) (t : TypeId) (ho : o.op = .call { callee := .builtin .append, args := #[s, x], argTypes := #[t, t] })
    {e : TypeId} {size n : Nat} {v : Value} {xs : List Value} (i : TypeInfo) (z : Value) (bytes : Nat) (ht : P.underlying t = some (.slice e)) (hi : P.info? e = some i) (hz : i.zero = some z)
    (hsize : i.size = size) (hby : i.bytes = bytes) (hzs : z.cells.size = size)
    (hs : a.eval s = v) (h : Row w e size v n xs) (A : Option Addr) (m c : Nat) (hx : a.eval x = .slice A m c) (news : List Value) (hsrc : Src w A m size news)
    (h63 : n + m ≤ maxLen) (hbytes : (n + m) * bytes ≤ 140737488355328)
    (hk : ∀ v' w', Row w' e size v' (n + m) (xs ++ news) → Kp (ownB v) w w' → (ownB v' = ownB v ∨ ownB v' = [w.heap.size]) → wpListIn F fn P ops Q rest (a.put o.dst v') w') : wpListIn F fn P ops Q (o :: rest) a w := by
  refine wpListIn_plain hgd fun K hK' => ?_
  obtain ⟨v', w', hr, h2, h3, h4⟩ := Row.append (P := P) t o.type i z bytes ht hi hz hsize hby hzs h A m c news hsrc h63 hbytes
  unfold Oper.wpIn
  refine ⟨?_, ?_⟩
  · simp [Oper.about, ho, resolve, Target.leads, Sem.run_pure]
  · rw [Oper.semAt_plain F _ _ (by rw [ho]; intro c hc'; cases hc')]
    simp [execOp, ho, resolve, invoke, builtin, hs, hx, hr, Result.andThen]
    exact hK' _ _ (hk v' w' h2 h3 h4)
theorem KeepsOthers.of_kp {G : List Nat} {W W' : World} (h : Kp G W W') (hG : ∀ b ∈ G, ∃ c t, W.heap[b]? = some (.cells c t (0, 0))) : KeepsOthers W W' :=
  ⟨h.size, fun k o hk ho => (h.block k (heap_lt hk) (fun hm => by obtain ⟨c, t, hh⟩ := hG k hm; rw [hh] at hk; injection hk with hk; subst hk; cases ho)).trans hk⟩

/-- Between two rounds of row's loop. -/
def RW (w : World) (Q : List Nat) (pre : List (Nat × Int)) (W : World) : Prop := ∃ v, Box2 W w.heap.size w.heap.size v pre ∧ (∀ b ∈ ownB v, b ∉ Q) ∧ (∀ b ∈ Q, b < W.heap.size) ∧ Below w.heap.size w W
theorem RW.grown {w : World} {Q : List Nat} {pre : List (Nat × Int)} {W W' : World} (h : RW w Q pre W) {row : Option Nat} (hg : W.grownBy W' row) {C : Nat} (hC : w.heap.size ≤ C) (hr : ∀ r, row = some r → C ≤ r ∧ ∃ o : Obj, W.heap[r]? = some o ∧ o.isCells = false) : RW w Q pre W' := by
  obtain ⟨v, h1, h2, h3, h4⟩ := h
  exact ⟨v, h1.grown hg (fun r e => (hr r e).2), h2, fun b hb => Nat.lt_of_lt_of_le (h3 b hb) hg.size, h4.grown hg h4.size (fun r e => Nat.le_trans hC (hr r e).1)⟩
def act3 (a : Act) (x : Nat × Int) : Act := { tmps := (((a.tmps.setIfInBounds 14 (.int .i64 (x.1 : Int))).setIfInBounds 15 (.int .i64 x.2)).setIfInBounds 5 (.int .i64 (x.1 : Int))).setIfInBounds 6 (.int .i64 x.2), defers := [] }

set_option maxHeartbeats 2000000 in
theorem row_of (A : Nat) (S : Ars) (F : List Nat) (w : World) (h : PA w A S F) : Calls Try.prog 67 #[.pointer (some ⟨A, 0, none⟩)] w fun e w' => ∃ v, e = .returned v ∧ Below w.heap.size w w' ∧ Row w' 77 2 v (S.upto S.cells.length).length (ncells (S.upto S.cells.length)) := by
  have hm2 := h.ok.most2
  have hcl := h.ok.len
  have hul := S.upto_len S.cells.length
  obtain ⟨i0, hi0, hi1, hi2, hi3⟩ := info_parts pair2_info
  have HP : Hid (PA (w.alloc (.cells #[.slice none 0 0] 95)) A S F) := h.keep fun b hb => Below.heap_alloc _ _ b (h.lt b hb)
  clear h
  refine (callsIn_wide (n := 5)).1 (callsIn_of_wp_marks Try.func67 rfl trivial (wpIn_wide.2 ?_) rfl)
  simp only [Try.ntmps67, List.size_toArray, List.length_cons, List.length_nil, Nat.reduceAdd, Nat.reduceSub, Array.replicate_succ, Array.replicate_zero, List.push_toArray, List.append_toArray, List.nil_append, List.cons_append]
  go_wp2_with (go_at_call 34; refine (ar_all _ S F _ HP.out).mono ?_; rintro e w1 ⟨v, rfl, hb1, bx⟩)
  have hz1 := hb1.size
  have hbl := bx.lt
  simp at hz1 hbl
  have hbo : ∀ b ∈ (w.heap.size + 1) :: ownB v, w.heap.size + 1 ≤ b ∧ b < w1.heap.size := fun b hb => by
    simp only [List.mem_cons] at hb
    rcases hb with rfl | hb
    · exact ⟨Nat.le_refl _, hbl⟩
    · have := bx.own b hb; simp at this; exact ⟨this, bx.row.lt b hb⟩
  have bx' : Box2 w1 (w.heap.size + 1) (w.heap.size + 1) v (S.upto S.cells.length) := by simpa using bx
  have R0 : Hid (RW w ((w.heap.size + 1) :: ownB v) [] w1) := by
    refine Lib.hid ⟨.slice none 0 0, ?_, by simp [ownB], fun b hb => (hbo b hb).2, ((Below.refl _ _).alloc (Nat.le_refl _) _).trans (hb1.mono (by simp))⟩
    have b0 : Box2 (w.alloc (.cells #[.slice none 0 0] 95)) w.heap.size w.heap.size (.slice none 0 0) [] := ⟨Nat.le_refl _, by simp, heap_alloc_new w _, Row.nil _ _ _, by simp [ownB]⟩
    exact b0.keep fun b hb => hb1.block b (by simp [ownB] at hb; subst hb; simp)
  refine rf rfl (enters_of Try.func59 (by kernel_rfl) rfl) (seq_stops 4 (w.heap.size + 1) (w.heap.size + 1) v (S.upto S.cells.length) (by omega) _ bx') (fun b hb => (hbo b hb).2) (fun _ => rfl)
    (fun pre W => RW w ((w.heap.size + 1) :: ownB v) pre W)
    (fun c pre W => False)
    (fun s W1 W2 row h hg hr => h.grown hg (by omega) hr)
    (fun c s W1 W2 row h hg hr => h)
    R0.out act3 ?assign ?body ?done ?stop
  case assign =>
    intro l x W K hK
    gi_wp2
    simpa [act3] using hK
  case body =>
    rintro l pre x W ⟨u, b1, hd, hQ, hbw⟩ hlen
    obtain ⟨U, cu, rfl, hcu⟩ := b1.row.len
    have B1 := Lib.hid b1
    have i1 : W.cell? ⟨w.heap.size, 0, none⟩ = some (.slice U pre.length cu) := by simp [World.cell?, b1.cell]
    have i2 : W.frozen? ⟨w.heap.size, 0, none⟩ = false := by simp [World.frozen?, b1.cell]
    have hwl := b1.lt
    have HR : Hid (Row (W.alloc (.cells #[.int .i64 (x.1 : Int), .int .i64 x.2] 77)) 77 2 (.slice U pre.length cu) pre.length (ncells pre)) := b1.row.alloc _
    have HSrc : Hid (Src (W.alloc (.cells #[.int .i64 (x.1 : Int), .int .i64 x.2] 77)) (some ⟨W.heap.size, 0, none⟩) 1 2 [.int .i64 (x.1 : Int), .int .i64 x.2]) :=
      Src.block (cs := #[.int .i64 (x.1 : Int), .int .i64 x.2]) (t := 77) (fr := (0, 0)) (heap_alloc_new W _) rfl (by simp [Value.oneCell'])
    have HB63 : pre.length + 1 ≤ maxLen := by simp only [maxLen]; omega
    have HB47 : (pre.length + 1) * 16 ≤ 140737488355328 := by omega
    have HX := Lib.hid b1.apart
    have HD := Lib.hid hd
    have HW := Lib.hid hbw
    have HQ := Lib.hid hQ
    have hsz := hbw.size
    clear b1 hd hbw hQ
    simp only [act3]
    gi_wp2_with (gi_at_builtin; go_loud (refine wpListIn_row_append rfl _ _ _ rfl i0 _ 16 Try.underlying95 hi0 hi1 hi2 hi3 rfl rfl HR.out _ 1 1 rfl [.int .i64 (x.1 : Int), .int .i64 x.2] HSrc.out HB63 HB47 ?_); intro sv5 w5 r5 k5 o5; obtain ⟨V5, cp5, rfl, hc5⟩ := r5.len
                 go_loud (have q2 : w5.cell? ⟨w.heap.size, 0, none⟩ = some (.slice U pre.length cu) := (k5.cell (p := ⟨w.heap.size, 0, none⟩) (by simp; omega) HX.out).trans (by go_simp))
                 go_loud (have q3 : w5.frozen? ⟨w.heap.size, 0, none⟩ = false := (k5.frozen (p := ⟨w.heap.size, 0, none⟩) (by simp; omega) HX.out).trans (by go_simp)))
    have kw5 : Kp (ownB (.slice U pre.length cu)) W w5 := ((Kp.refl _ W).alloc _).trans k5 (fun b hb => .inl hb)
    have hsz5 := k5.size
    simp at hsz5
    refine ⟨(((KeepsOthers.alloc W _).trans (KeepsOthers.of_kp k5 fun b hb => by obtain ⟨cur, hh⟩ := HR.out.ty hb; exact ⟨cur, _, hh⟩)).trans (KeepsOthers.setCell _ _ _)).from _, ?_, ?_⟩
    · refine ⟨by simpa using Nat.le_trans (Nat.le_succ _) hsz5, fun b hb => ?_⟩
      have := hbo b hb
      exact (Below.heap_setCell _ _ _ b (by simp; omega)).trans (kw5.block b (HQ.out b hb) (fun hm => HD.out b hm hb))
    · refine ⟨_, (B1.out.alloc _).append k5 o5 (p := x) r5, fun b hb hq => ?_, fun b hb => by have := HQ.out b hb; simp; omega, (B1.out.alloc _).appendBelow (HW.out.alloc (by omega) _) k5⟩
      rcases o5 with e | e
      · rw [e] at hb; exact HD.out b hb hq
      · rw [e] at hb; simp at hb; have := HQ.out b hq; omega
  case stop =>
    rintro D c pre W _ _ h _
    exact h.elim
  case done =>
    rintro D ys W hD rfl ⟨u, b1, hd, hQ, hbw⟩ hK
    obtain ⟨U, cu, rfl, hcu⟩ := b1.row.len
    have i1 : W.cell? ⟨w.heap.size, 0, none⟩ = some (.slice U (S.upto S.cells.length).length cu) := by simp [World.cell?, b1.cell]
    have B1 := Lib.hid b1
    have HW := Lib.hid hbw
    clear b1 hd hQ hbw
    go_wp2
    refine ⟨by simp, .inl ⟨_, _, rfl, run_takeDeferred hK, ?_⟩⟩
    refine ⟨_, results_tmp rfl _ _ _, _, rfl, HW.out.trans (belowK_b (w := w) (Nat.le_refl _) W D _ _ (by omega) hK rfl rfl), ?_⟩
    exact B1.out.row.keep fun b hb => World.putObj_heap_other (fun e => by subst e; obtain ⟨_, hh⟩ := B1.out.row.ty hb; rw [hh] at hK; cases hK)
end Go.Proofs.Ytbdfkgchliakfaa
