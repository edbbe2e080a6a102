/-
  A queue of ints: a slice anywhere in a block; append at its end, cut at its head.
-/
import Derived.Test.YtogbanlfihabpaaRef03A
import Derived.Deep.AppendSrc
namespace Go.Proofs.Ytogbanlfihabpaa
open Go.RowKit
set_option maxRecDepth 100000
set_option linter.unusedVariables false

def WinI (w : World) (e : TypeId) (v : Value) (Q : List Int) : Prop :=
  ∃ g off cap cur, v = .slice (some ⟨g, off, none⟩) Q.length cap ∧ w.heap[g]? = some (.cells cur e (0, 0)) ∧ Q.length ≤ cap ∧ cap ≤ maxLen ∧ off + cap ≤ cur.size ∧
    ∀ j, j < Q.length → cur[off + j]? = some (.int .i64 (Q.getD j 0))
section
variable {w w' : World} {e : TypeId} {v : Value} {Q : List Int}
theorem WinI.lt (h : WinI w e v Q) : ∀ b ∈ ownB v, b < w.heap.size := by
  obtain ⟨g, off, cap, cur, rfl, hh, _⟩ := h
  intro b hb; simp [ownB] at hb; subst hb; exact heap_lt hh
theorem WinI.keep (h : WinI w e v Q) (hk : ∀ b ∈ ownB v, w'.heap[b]? = w.heap[b]?) : WinI w' e v Q := by
  obtain ⟨g, off, cap, cur, rfl, hh, r⟩ := h
  exact ⟨g, off, cap, cur, rfl, (hk g (by simp [ownB])).trans hh, r⟩
theorem WinI.below (h : WinI w e v Q) (hb : Below w.heap.size w w') : WinI w' e v Q := h.keep fun b hm => hb.block b (h.lt b hm)
theorem WinI.type (h : WinI w e v Q) : ∀ b ∈ ownB v, ∃ cur, w.heap[b]? = some (.cells cur e (0, 0)) := by
  obtain ⟨g, off, cap, cur, rfl, hh, _⟩ := h
  intro b hb; simp [ownB] at hb; subst hb; exact ⟨cur, hh⟩
theorem WinI.form (h : WinI w e v Q) : ∃ A cap, v = .slice A Q.length cap ∧ Q.length ≤ cap := by
  obtain ⟨g, off, cap, cur, rfl, _, hn, _⟩ := h
  exact ⟨_, cap, rfl, hn⟩
theorem WinI.one {g : Nat} {x : Int} (h : w.heap[g]? = some (.cells #[.int .i64 x] e (0, 0))) : WinI w e (.slice (some ⟨g, 0, none⟩) 1 1) [x] :=
  ⟨g, 0, 1, _, rfl, h, by simp, by unfold maxLen; omega, by simp, fun j hj => by
    have : j = 0 := by simpa using hj
    subst this; simp⟩
/-- The first of them; the others. -/
theorem WinI.head {p : Int} (h : WinI w e v (p :: Q)) : ∃ g off cap, v = .slice (some ⟨g, off, none⟩) (Q.length + 1) cap ∧ Q.length + 1 ≤ cap ∧ g < w.heap.size ∧ w.cell? ⟨g, off, none⟩ = some (.int .i64 p) ∧
    WinI w e (.slice (some (if cap = 1 then (⟨g, off, none⟩ : Addr) else ⟨g, off + 1, none⟩)) Q.length (cap - 1)) Q := by
  obtain ⟨g, off, cap, cur, rfl, hh, hn, hm, hs, hx⟩ := h
  have h0 := hx 0 (by simp)
  simp only [Nat.add_zero, List.getD_cons_zero] at h0
  simp only [List.length_cons] at hn hx
  refine ⟨g, off, cap, by simp, by simpa using hn, heap_lt hh, by simp [World.cell?, hh, h0], ?_⟩
  by_cases hc : cap = 1
  · subst hc
    have hq : Q = [] := List.eq_nil_of_length_eq_zero (by omega)
    subst hq
    rw [if_pos rfl]
    exact ⟨g, off, 0, cur, rfl, hh, by simp, by omega, by omega, fun j hj => by simp at hj⟩
  · rw [if_neg hc]
    refine ⟨g, off + 1, cap - 1, cur, rfl, hh, by omega, by omega, by omega, fun j hj => ?_⟩
    have := hx (j + 1) (by omega)
    simp only [List.getD_cons_succ] at this
    rw [show off + 1 + j = off + (j + 1) by omega]
    exact this
theorem WinI.push {P : Program} (h : WinI w e v Q) (t ty : TypeId) (i : TypeInfo) (z : Value) (ht : P.underlying t = some (.slice e)) (hi : P.info? e = some i) (hz : i.zero = some z) (hsize : i.size = 1) (hby : i.bytes = 8) (hzs : z.cells.size = 1)
    (A : Addr) (c : Nat) (x : Int) (h0 : w.cell? A = some (.int .i64 x)) (hA : A.add 0 = A) (hl : Q.length ≤ 1000000) :
    ∃ v' w', (Builtin.append_ #[t, t] ty #[v, .slice (some A) 1 c]).run P w = .ok v' w' ∧ WinI w' e v' (Q ++ [x]) ∧ Kp (ownB v) w w' ∧ (ownB v' = ownB v ∨ ownB v' = [w.heap.size]) := by
  have hnews : ∀ j u, ([.int .i64 x] : List Value)[j]? = some u → w.cell? (A.add j) = some u := fun j u hu => by
    match j, hu with
    | 0, hu => rw [hA, h0]; simpa using hu
    | j + 1, hu => simp at hu
  have hone : ∀ u ∈ ([.int .i64 x] : List Value), u.oneCell' = true := fun u hu => by
    simp only [List.mem_cons, List.not_mem_nil, or_false] at hu
    subst hu; rfl
  have hlen2 : ([.int .i64 x] : List Value).length = 1 * i.size := by rw [hsize]; rfl
  have hil : (ivals Q).length = Q.length := by simp [ivals]
  have hia : ∀ j, j < Q.length → (ivals Q)[j]? = some (.int .i64 (Q.getD j 0)) := fun j hj => by simp [ivals, hj]
  have fin : ∀ (old : Nat) (Z : Array Value), Z.size = (grownCap w (Q.length + 1) old e - (Q.length + 1)) →
      WinI (w.drew.alloc (.cells ((ivals Q).toArray ++ ([.int .i64 x] : List Value).toArray ++ Z) e)) e (.slice (some ⟨w.heap.size, 0, none⟩) (Q.length + 1) (grownCap w (Q.length + 1) old e)) (Q ++ [x]) := fun old Z hZ => by
    have hge := grownCap_ge w (Q.length + 1) old e
    refine ⟨w.heap.size, 0, grownCap w (Q.length + 1) old e, _, by simp, heap_alloc_new w.drew _, by simpa using hge, grownCap_le_maxLen w _ _ e (by simp only [maxLen]; omega), ?_, fun j hj => ?_⟩
    · simp only [Array.size_append, List.size_toArray, hil, hZ, List.length_cons, List.length_nil]
      omega
    · have hjl : j < Q.length + 1 := by simpa using hj
      rw [Nat.zero_add]
      by_cases hjq : j < Q.length
      · have e1 : (Q ++ [x]).getD j 0 = Q.getD j 0 := by simp [List.getD_eq_getElem?_getD, List.getElem?_append_left hjq]
        rw [e1, ← hia j hjq, Array.append_assoc, Array.getElem?_append_left (by simp [hil]; omega)]
        simp
      · obtain rfl : j = Q.length := by omega
        have e1 : (Q ++ [x]).getD Q.length 0 = x := by simp
        rw [e1, Array.getElem?_append_left (by simp [hil]), Array.getElem?_append_right (by simp [hil])]
        simp [hil]
  have kpn : ∀ (F : List Nat) (o : Obj), Kp F w (w.drew.alloc o) := fun F o => ((Kp.refl _ w).drew).alloc o
  obtain ⟨g, off, cap, cur, rfl, hg, hn, hm, hs, hx⟩ := h
  by_cases hroom : Q.length + 1 ≤ cap
  · have hsrc : Go.Src P i.size t (.slice (some A) 1 c) 1 [.int .i64 x] w := Go.Src.ofSlice w ht A 1 c _ hlen2 hnews hone
    have hc2 : ∀ j, j < 1 → (w.cell? ⟨g, off + Q.length * i.size + j, none⟩).isSome = true := fun j hj => by
      rw [hsize]
      obtain rfl : j = 0 := by omega
      have : off + Q.length < cur.size := by omega
      simp [World.cell?, hg, this]
    have hr := run_append_room_src (P := P) w t t ty e i ht hi g off Q.length cap (.slice (some A) 1 c) 1 _ hsrc hroom hc2 (fun j hj => by simp [World.frozen?, hg])
    rw [hsize] at hr
    refine ⟨_, _, hr, ⟨g, off, cap, cur.setIfInBounds (off + Q.length) (.int .i64 x), by simp, ?_, by simpa using hroom, hm, by simpa using hs, fun j hj => ?_⟩, ?_, .inl rfl⟩
    · simp [World.setCells, World.setCell, Array.getElem?_modify, hg]
    · have hjl : j < Q.length + 1 := by simpa using hj
      have hb : off + Q.length < cur.size := by omega
      by_cases hjq : j < Q.length
      · have e1 : (Q ++ [x]).getD j 0 = Q.getD j 0 := by simp [List.getD_eq_getElem?_getD, List.getElem?_append_left hjq]
        rw [e1, Array.getElem?_setIfInBounds_ne (by omega)]; exact hx j hjq
      · obtain rfl : j = Q.length := by omega
        have e1 : (Q ++ [x]).getD Q.length 0 = x := by simp
        rw [e1]
        simp [hb]
    · simp only [World.setCells]
      exact (Kp.refl _ w).setCell (p := ⟨g, _, none⟩) (.inl (by simp [ownB])) _
  · have holds : ∀ j u, (ivals Q)[j]? = some u → w.cell? ((⟨g, off, none⟩ : Addr).add j) = some u := fun j u hu => by
      have hjl : j < Q.length := by
        rw [← hil]
        rcases Nat.lt_or_ge j (ivals Q).length with hl | hl
        · exact hl
        · rw [List.getElem?_eq_none hl] at hu; cases hu
      rw [Addr.add_lit]
      obtain rfl := Option.some.inj ((hia j hjl).symm.trans hu)
      simp only [World.cell?, hg]
      exact hx j hjl
    have hr := run_append_grow (P := P) w t ty e i z ht hi hz ⟨g, off, none⟩ Q.length cap (ivals Q) (by rw [hil, hsize, Nat.mul_one]) holds A 1 c [.int .i64 x] hlen2 hnews (by omega) (by omega) (growslice_fits (by omega) (by rw [hby]; omega))
    exact ⟨_, _, hr, fin cap _ (by rw [size_zeroCells, hzs, Nat.mul_one]), kpn _ _, .inr rfl⟩
end
section
variable {P : Program} {w : World} {o : Oper} {a : Act} {K' : Act → World → Prop} {Q' : Exit → Act → World → Prop}
theorem wpo_winI_push (s x : Operand) (t : TypeId) (ho : o.op = .call { callee := .builtin .append, args := #[s, x], argTypes := #[t, t] }) {e : TypeId} {v : Value} {Q : List Int} (i : TypeInfo) (z : Value) (ht : P.underlying t = some (.slice e)) (hi : P.info? e = some i) (hz : i.zero = some z)
    (hsize : i.size = 1) (hby : i.bytes = 8) (hzs : z.cells.size = 1) (hs : a.eval s = v) (h : WinI w e v Q) (g : Nat) (c : Nat) (x0 : Int) (hx : a.eval x = .slice (some ⟨g, 0, none⟩) 1 c) {T : TypeId} (hb : w.heap[g]? = some (.cells #[.int .i64 x0] T (0, 0))) (hl : Q.length ≤ 1000000)
    (hk : ∀ v' w', WinI w' e v' (Q ++ [x0]) → Kp (ownB v) w w' → (ownB v' = ownB v ∨ ownB v' = [w.heap.size]) → K' (a.put o.dst v') w') : o.wp P a w K' Q' := by
  obtain ⟨v', w', hr, h2, h3, h4⟩ := h.push (P := P) t o.type i z ht hi hz hsize hby hzs ⟨g, 0, none⟩ c x0 (by simp [World.cell?, hb]) (by rw [Addr.add_lit]) hl
  unfold Oper.wp execOp
  simp only [ho, resolve, invoke, builtin, Sem.run_bind, Sem.run_pure, Result.andThen_ok, List.map_toArray, List.map_cons, List.map_nil, hs, hx, hr]
  exact hk v' w' h2 h3 h4
end
end Go.Proofs.Ytogbanlfihabpaa
