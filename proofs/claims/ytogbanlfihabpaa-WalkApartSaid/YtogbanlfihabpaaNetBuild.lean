/-
  Contract of net.build: a tidy net.
-/
import Derived.Test.YtogbanlfihabpaaRef03K
import Derived.Test.YtogbanlfihabpaaNetCheck
/-
  Contracts of net.before and net.links.
-/
/-
  Plain: the answer's tidy wires are the tidy wires.
-/
namespace Go.Proofs.Ytogbanlfihabpaa
open Go.RowKit
set_option linter.unusedVariables false

theorem take_succ_getD {α : Type} [Inhabited α] {W : List α} {k : Nat} (hk : k < W.length) : W.take (k + 1) = W.take k ++ [W.getD k default] := by
  rw [List.take_add_one, List.getElem?_eq_getElem hk, List.getD_eq_getElem?_getD, List.getElem?_eq_getElem hk]; rfl
theorem ends_append (A B : List (Pt × Pt)) : ends (A ++ B) = ends A ++ ends B := by simp [ends]
theorem ends_new {W : List (Pt × Pt)} (h : (ends W).Nodup) {k : Nat} (hk : k < W.length) {p : Pt} (hp : p ∈ ends (W.take k)) : p ≠ (W.getD k default).1 ∧ p ≠ (W.getD k default).2 := by
  have e : W = W.take k ++ ([W.getD k default] ++ W.drop (k + 1)) := by
    rw [← List.append_assoc, ← take_succ_getD hk, List.take_append_drop]
  rw [e, ends_append, ends_append, List.nodup_append] at h
  have := h.2.2 p hp
  exact ⟨this _ (by simp [ends]), this _ (by simp [ends])⟩
theorem lnk_mem {W : List (Pt × Pt)} {p q : Pt} (h : lnk W p = some q) : p ∈ ends W := by
  by_cases hp : p ∈ ends W
  · exact hp
  · rw [lnk_none hp] at h; cases h
section
variable {pn : Int → Nat} {cells : List Int} {free : Nat} {W : List (Pt × Pt)}
end
end Go.Proofs.Ytogbanlfihabpaa
namespace Go.Proofs.Ytogbanlfihabpaa
open Go.RowKit
attribute [local go_sem] cell_set
set_option maxRecDepth 100000
set_option linter.unusedVariables false

/-- What the ports are linked to, when k wires were read. -/
def linkF (W : List (Pt × Pt)) : Nat → Pt → Option Value
  | 0 => fun _ => none
  | k + 1 => upd (upd (linkF W k) (W.getD k default).1 (encPt (W.getD k default).2)) (W.getD k default).2 (encPt (W.getD k default).1)
theorem linkF_lnk {W : List (Pt × Pt)} (hn : (ends W).Nodup) {k : Nat} (hk : k ≤ W.length) : linkF W k = fun p => (lnk (W.take k) p).map encPt := by
  induction k with
  | zero => funext p; simp [linkF, lnk]
  | succ k ih =>
    have hkl : k < W.length := by omega
    funext p
    rw [linkF, ih (by omega), take_succ_getD hkl, show W.getD k default = ((W.getD k default).1, (W.getD k default).2) from rfl, lnk_snoc]
    have hne := ends_ne hn hkl
    unfold upd
    by_cases h2 : p = (W.getD k default).2
    · rw [if_pos h2]
      have : lnk (W.take k) p = none := by
        refine lnk_none fun hp => ?_
        exact (ends_new hn hkl hp).2 h2
      rw [this, Option.none_or, if_neg (by rw [h2]; exact hne), if_pos h2.symm]
      rfl
    · rw [if_neg h2]
      by_cases h1 : p = (W.getD k default).1
      · rw [if_pos h1]
        have : lnk (W.take k) p = none := by
          refine lnk_none fun hp => ?_
          exact (ends_new hn hkl hp).1 h1
        rw [this, Option.none_or, if_pos h1.symm]
        rfl
      · rw [if_neg h1]
        have e1 : ¬ (W.getD k default).1 = p := fun e => h1 e.symm
        have e2 : ¬ (W.getD k default).2 = p := fun e => h2 e.symm
        rw [if_neg e1, if_neg e2]
        show Option.map encPt (lnk (W.take k) p) = _
        cases lnk (W.take k) p <;> rfl

end Go.Proofs.Ytogbanlfihabpaa
namespace Go.Proofs.Ytogbanlfihabpaa
open Go.RowKit Go.Shelf
attribute [local go_sem] cell_set
attribute [local go_sem] Oper.semAt_some
set_option maxRecDepth 100000
set_option linter.unusedVariables false

/-- append in a round. -/
theorem wpListIn_row_append {F : Fence} {fn : Nat} {P : Program} {w : World} {ops : Array Oper} {rest : List Oper} {o : Oper} {a : Act} {Q : Exit → Act → World → Prop} (hgd : o.guard = none)
    (s x : Operand) (t : TypeId) (ho : o.op = .call { callee := .builtin .append, args := #[s, x], argTypes := #[t, t] })
    {e : TypeId} {size n : Nat} {v : Value} {xs : List Value} (i : TypeInfo) (z : Value) (bytes : Nat) (ht : P.underlying t = some (.slice e)) (hi : P.info? e = some i) (hz : i.zero = some z)
    (hsize : i.size = size) (hby : i.bytes = bytes) (hzs : z.cells.size = size)
    (hs : a.eval s = v) (h : Row w e size v n xs) (A : Option Addr) (m c : Nat) (hx : a.eval x = .slice A m c) (news : List Value) (hsrc : Src w A m size news)
    (h63 : n + m ≤ maxLen) (hbytes : (n + m) * bytes ≤ 140737488355328)
    (hk : ∀ v' w', Row w' e size v' (n + m) (xs ++ news) → Kp (ownB v) w w' → (ownB v' = ownB v ∨ ownB v' = [w.heap.size]) → wpListIn F fn P ops Q rest (a.put o.dst v') w') : wpListIn F fn P ops Q (o :: rest) a w := by
  refine wpListIn_plain hgd fun K hK' => ?_
  obtain ⟨v', w', hr, h2, h3, h4⟩ := Row.append (P := P) t o.type i z bytes ht hi hz hsize hby hzs h A m c news hsrc h63 hbytes
  unfold Oper.wpIn
  refine ⟨?_, ?_⟩
  · simp [Oper.about, ho, resolve, Target.leads, Sem.run_pure]
  · rw [Oper.semAt_plain F _ _ (by rw [ho]; intro c hc'; cases hc')]
    simp [execOp, ho, resolve, invoke, builtin, hs, hx, hr, Result.andThen]
    exact hK' _ _ (hk v' w' h2 h3 h4)
/-- A net in fresh memory. -/
def NetFresh (w w' : World) (V1 : Option Addr) (c1 : Nat) (cells : List Int) (V2 : Option Addr) (c2 : Nat) (W : List (Pt × Pt)) : Prop :=
  Fresh w w' 3 1 cells.length (.slice V1 cells.length c1) (ivals cells) ∧ Fresh w w' 43 4 W.length (.slice V2 W.length c2) (wrvals W)
/-- .. with a partner for everything. -/
def lkT (lk : Pt → Option Pt) (p : Pt) : Pt := (lk p).getD (0, 0)
theorem wrvals_snoc (W : List (Pt × Pt)) (p q : Pt) : wrvals (W ++ [(p, q)]) = wrvals W ++ [.int .i64 p.1, .int .i64 p.2, .int .i64 q.1, .int .i64 q.2] := by simp [wrvals]
/-- What the loop keeps: a net in a box, its wires in memory of the loop's own; nothing else has turned. -/
def BI (w0 : World) (Bn : Nat) (V1 : Option Addr) (c1 n1 : Nat) (free : Int) (ws : List (Pt × Pt)) (X : World) : Prop :=
  Kp [Bn] w0 X ∧ Bn < w0.heap.size ∧ ∃ V2 c2, X.heap[Bn]? = some (.cells #[.slice V1 n1 c1, .int .i64 free, .slice V2 ws.length c2] 26 (0, 0)) ∧ Row X 43 4 (.slice V2 ws.length c2) ws.length (wrvals ws) ∧ ∀ b ∈ ownB (.slice V2 ws.length c2), w0.heap.size ≤ b
section
variable {w0 X X' : World} {Bn : Nat} {V1 : Option Addr} {c1 n1 : Nat} {free : Int} {ws : List (Pt × Pt)}
theorem BI.keep (h : BI w0 Bn V1 c1 n1 free ws X) (hk : Kp [] X X') : BI w0 Bn V1 c1 n1 free ws X' := by
  obtain ⟨h1, h2, V2, c2, h3, h4, h5⟩ := h
  exact ⟨h1.trans hk (by simp), h2, V2, c2, (hk.block Bn (heap_lt h3) (by simp)).trans h3, h4.kp hk (by simp), h5⟩
theorem BI.grown (h : BI w0 Bn V1 c1 n1 free ws X) {row : Option Nat} (hg : X.grownBy X' row) (hr : ∀ r, row = some r → w0.heap.size ≤ r ∧ ∃ o : Obj, X.heap[r]? = some o ∧ o.isCells = false) : BI w0 Bn V1 c1 n1 free ws X' := by
  obtain ⟨h1, h2, V2, c2, h3, h4, h5⟩ := h
  have hr2 : ∀ r, row = some r → ∃ o : Obj, X.heap[r]? = some o ∧ o.isCells = false := fun r e => (hr r e).2
  refine ⟨?_, h2, V2, c2, (grownBy_keeps_cells hg hr2 h3 rfl).trans h3, h4.keep fun b hb => ?_, h5⟩
  · cases row with
    | none => exact h1.trans (G := []) ⟨hg.os, hg.tape, hg.output, hg.size, fun b hb _ => hg.block b hb (by simp)⟩ (by simp)
    | some r => exact h1.trans (G := [r]) ⟨hg.os, hg.tape, hg.output, hg.size, fun b hb hn => hg.block b hb (by simpa using hn)⟩ (fun b hb => by simp at hb; subst hb; exact .inr (hr b rfl).1)
  · rcases h4.2 with ⟨e, _⟩ | ⟨g, cap, cur, e, hh, _⟩
    · rw [e] at hb; simp [ownB] at hb
    · rw [e] at hb; simp [ownB] at hb; subst hb
      exact grownBy_keeps_cells hg hr2 hh rfl
theorem BI.cells (h : BI w0 Bn V1 c1 n1 free ws X) : X.cell? ⟨Bn, 0, none⟩ = some (.slice V1 n1 c1) ∧ X.cell? ⟨Bn, 1, none⟩ = some (.int .i64 free) ∧ X.frozen? ⟨Bn, 2, none⟩ = false := by
  obtain ⟨_, _, V2, c2, h3, _⟩ := h
  simp [World.cell?, World.frozen?, h3]
/-- One more wire. -/
theorem BI.app {V2 : Option Addr} {c2 : Nat} (h1 : Kp [Bn] w0 X) (h2 : Bn < w0.heap.size) (h3 : X.heap[Bn]? = some (.cells #[.slice V1 n1 c1, .int .i64 free, .slice V2 ws.length c2] 26 (0, 0)))
    (h5 : ∀ b ∈ ownB (.slice V2 ws.length c2), w0.heap.size ≤ b) {V5 : Option Addr} {c5 : Nat} {w5 : World} {p q : Pt}
    (k5 : Kp (ownB (.slice V2 ws.length c2)) X w5) (o5 : ownB (.slice V5 (ws.length + 1) c5) = ownB (.slice V2 ws.length c2) ∨ ownB (.slice V5 (ws.length + 1) c5) = [X.heap.size])
    (r5 : Row w5 43 4 (.slice V5 (ws.length + 1) c5) (ws.length + 1) (wrvals ws ++ [.int .i64 p.1, .int .i64 p.2, .int .i64 q.1, .int .i64 q.2])) :
    w5.cell? ⟨Bn, 2, none⟩ = some (.slice V2 ws.length c2) ∧ w5.frozen? ⟨Bn, 2, none⟩ = false ∧ Kp [Bn] w0 (w5.setCell ⟨Bn, 2, none⟩ (.slice V5 (ws.length + 1) c5)) ∧ BI w0 Bn V1 c1 n1 free (ws ++ [(p, q)]) (w5.setCell ⟨Bn, 2, none⟩ (.slice V5 (ws.length + 1) c5)) := by
  have hn : Bn ∉ ownB (.slice V2 ws.length c2) := fun hb => absurd (h5 _ hb) (by omega)
  have e3 : w5.heap[Bn]? = some (.cells #[.slice V1 n1 c1, .int .i64 free, .slice V2 ws.length c2] 26 (0, 0)) := (k5.block Bn (heap_lt h3) hn).trans h3
  have hz := h1.size
  have h5' : ∀ b ∈ ownB (.slice V5 (ws.length + 1) c5), w0.heap.size ≤ b := fun b hb => by
    rcases o5 with e | e
    · exact h5 b (e ▸ hb)
    · rw [e] at hb; simp at hb; omega
  have hk : Kp [Bn] w0 (w5.setCell ⟨Bn, 2, none⟩ (.slice V5 (ws.length + 1) c5)) := (h1.trans k5 (fun b hb => .inr (h5 b hb))).setCell (p := ⟨Bn, 2, none⟩) (.inl (by simp)) _
  refine ⟨by simp [World.cell?, e3], by simp [World.frozen?, e3], hk, hk, h2, V5, c5, ?_, ?_, ?_⟩
  · rw [List.length_append]
    simp [World.setCell, Array.getElem?_modify, e3]
  · rw [wrvals_snoc, List.length_append]
    exact r5.keep fun b hb => Below.heap_setCell w5 _ _ b (by
      have := h5' b hb
      show b ≠ Bn
      omega)
  · rw [List.length_append]; exact h5'
end
theorem KeepsFrom.below {B : Nat} {W W' : World} (h : Below W.heap.size W W') : KeepsFrom B W W' := ⟨h.size, fun k o _ hk _ => (h.block k (heap_lt hk)).trans hk⟩
end Go.Proofs.Ytogbanlfihabpaa
