/-
  A queue of pairs of ints: a slice anywhere in a block; append at its end, cut at its head.
-/
import Derived.Test.YtcebejcdfdahjaaRowPorts
import Derived.Deep.AppendSrc
namespace Go.Proofs.Ytcebejcdfdahjaa
open Go.RowKit
set_option maxRecDepth 100000
set_option linter.unusedVariables false

def Win (w : World) (e : TypeId) (v : Value) (Q : List Pt) : Prop :=
  (v = .slice none 0 0 ∧ Q = []) ∨ ∃ g off cap cur, v = .slice (some ⟨g, off, none⟩) Q.length cap ∧ w.heap[g]? = some (.cells cur e (0, 0)) ∧ Q.length ≤ cap ∧ cap ≤ maxLen ∧ off + cap * 2 ≤ cur.size ∧
    ∀ j, j < Q.length → cur[off + j * 2]? = some (.int .i64 (Q.getD j default).1) ∧ cur[off + j * 2 + 1]? = some (.int .i64 (Q.getD j default).2)
section
variable {w w' : World} {e : TypeId} {v : Value} {Q : List Pt}
theorem Win.lt (h : Win w e v Q) : ∀ b ∈ ownB v, b < w.heap.size := by
  rcases h with ⟨rfl, _⟩ | ⟨g, off, cap, cur, rfl, hh, _⟩
  · simp [ownB]
  · intro b hb; simp [ownB] at hb; subst hb; exact heap_lt hh
theorem Win.keep (h : Win w e v Q) (hk : ∀ b ∈ ownB v, w'.heap[b]? = w.heap[b]?) : Win w' e v Q := by
  rcases h with h0 | ⟨g, off, cap, cur, rfl, hh, r⟩
  · exact .inl h0
  · exact .inr ⟨g, off, cap, cur, rfl, (hk g (by simp [ownB])).trans hh, r⟩
theorem Win.below (h : Win w e v Q) (hb : Below w.heap.size w w') : Win w' e v Q := h.keep fun b hm => hb.block b (h.lt b hm)
theorem Win.type (h : Win w e v Q) : ∀ b ∈ ownB v, ∃ cur, w.heap[b]? = some (.cells cur e (0, 0)) := by
  rcases h with ⟨rfl, _⟩ | ⟨g, off, cap, cur, rfl, hh, _⟩
  · simp [ownB]
  · intro b hb; simp [ownB] at hb; subst hb; exact ⟨cur, hh⟩
theorem Win.nil (w : World) (e : TypeId) : Win w e (.slice none 0 0) [] := .inl ⟨rfl, rfl⟩
theorem Win.form (h : Win w e v Q) : ∃ A cap, v = .slice A Q.length cap ∧ Q.length ≤ cap := by
  rcases h with ⟨rfl, rfl⟩ | ⟨g, off, cap, cur, rfl, _, hn, _⟩
  · exact ⟨none, 0, rfl, Nat.le_refl _⟩
  · exact ⟨_, cap, rfl, hn⟩
/-- The first pair. -/
theorem Win.head {p : Pt} (h : Win w e v (p :: Q)) : ∃ g off cap, v = .slice (some ⟨g, off, none⟩) (Q.length + 1) cap ∧ Q.length + 1 ≤ cap ∧ g < w.heap.size ∧ w.cell? ⟨g, off, none⟩ = some (.int .i64 p.1) ∧ w.cell? ⟨g, off + 1, none⟩ = some (.int .i64 p.2) ∧
    Win w e (.slice (if cap = 1 then some ⟨g, off, none⟩ else some ⟨g, off + 2, none⟩) Q.length (cap - 1)) Q := by
  rcases h with ⟨_, h⟩ | ⟨g, off, cap, cur, rfl, hh, hn, hm, hs, hx⟩
  · cases h
  · have h0 := hx 0 (by simp)
    simp only [Nat.zero_mul, Nat.add_zero, List.getD_cons_zero] at h0
    simp only [List.length_cons] at hn hx
    refine ⟨g, off, cap, by simp, by simpa using hn, heap_lt hh, by simp [World.cell?, hh, h0.1], by simp [World.cell?, hh, h0.2], .inr ?_⟩
    by_cases hc : cap = 1
    · subst hc
      have hq : Q = [] := List.eq_nil_of_length_eq_zero (by omega)
      subst hq
      rw [if_pos rfl]
      exact ⟨g, off, 0, cur, rfl, hh, by simp, by omega, by omega, fun j hj => by simp at hj⟩
    · rw [if_neg hc]
      refine ⟨g, off + 2, cap - 1, cur, rfl, hh, by omega, by omega, by omega, fun j hj => ?_⟩
      have := hx (j + 1) (by omega)
      simp only [List.getD_cons_succ] at this
      rw [show off + 2 + j * 2 = off + (j + 1) * 2 by omega]
      exact this
theorem Win.push {P : Program} (h : Win w e v Q) (t ty : TypeId) (i : TypeInfo) (z : Value) (ht : P.underlying t = some (.slice e)) (hi : P.info? e = some i) (hz : i.zero = some z) (hsize : i.size = 2) (hby : i.bytes = 16) (hzs : z.cells.size = 2)
    (A : Addr) (c : Nat) (x y : Int) (h0 : w.cell? A = some (.int .i64 x)) (h1 : w.cell? (A.add 1) = some (.int .i64 y)) (hA : A.add 0 = A) (hl : Q.length ≤ 1000000) :
    ∃ v' w', (Builtin.append_ #[t, t] ty #[v, .slice (some A) 1 c]).run P w = .ok v' w' ∧ Win w' e v' (Q ++ [(x, y)]) ∧ Kp (ownB v) w w' ∧ (ownB v' = ownB v ∨ ownB v' = [w.heap.size]) := by
  have hnews : ∀ j u, ([.int .i64 x, .int .i64 y] : List Value)[j]? = some u → w.cell? (A.add j) = some u := fun j u hu => by
    match j, hu with
    | 0, hu => rw [hA, h0]; simpa using hu
    | 1, hu => rw [h1]; simpa using hu
    | j + 2, hu => simp at hu
  have hone : ∀ u ∈ ([.int .i64 x, .int .i64 y] : List Value), u.oneCell' = true := fun u hu => by
    simp only [List.mem_cons, List.not_mem_nil, or_false] at hu
    rcases hu with rfl | rfl <;> rfl
  have hlen2 : ([.int .i64 x, .int .i64 y] : List Value).length = 1 * i.size := by rw [hsize]; rfl
  have fin : ∀ (old : Nat) (Z : Array Value), Z.size = (grownCap w (Q.length + 1) old e - (Q.length + 1)) * 2 →
      Win (w.drew.alloc (.cells ((pvals Q).toArray ++ ([.int .i64 x, .int .i64 y] : List Value).toArray ++ Z) e)) e (.slice (some ⟨w.heap.size, 0, none⟩) (Q.length + 1) (grownCap w (Q.length + 1) old e)) (Q ++ [(x, y)]) := fun old Z hZ => by
    have hge := grownCap_ge w (Q.length + 1) old e
    have hpl : (pvals Q).length = Q.length * 2 := pvals_len Q
    refine .inr ⟨w.heap.size, 0, grownCap w (Q.length + 1) old e, _, by simp, heap_alloc_new w.drew _, by simpa using hge, grownCap_le_maxLen w _ _ e (by simp only [maxLen]; omega), ?_, fun j hj => ?_⟩
    · simp only [Array.size_append, List.size_toArray, hpl, hZ, List.length_cons, List.length_nil]
      omega
    · have hjl : j < Q.length + 1 := by simpa using hj
      rw [Nat.zero_add]
      by_cases hjq : j < Q.length
      · obtain ⟨a0, a1⟩ := pvals_at Q hjq
        have e1 : (Q ++ [(x, y)]).getD j default = Q.getD j default := by simp [List.getD_eq_getElem?_getD, List.getElem?_append_left hjq]
        rw [e1, ← a0, ← a1]
        constructor <;> rw [Array.append_assoc, Array.getElem?_append_left (by simp [hpl]; omega)] <;> simp
      · obtain rfl : j = Q.length := by omega
        have e1 : (Q ++ [(x, y)]).getD Q.length default = (x, y) := by simp
        rw [e1]
        constructor
        · rw [Array.getElem?_append_left (by simp [hpl]), Array.getElem?_append_right (by simp [hpl])]
          simp [hpl]
        · rw [Array.getElem?_append_left (by simp [hpl]), Array.getElem?_append_right (by simp [hpl])]
          simp [hpl]
  have kpn : ∀ (F : List Nat) (o : Obj), Kp F w (w.drew.alloc o) := fun F o => ((Kp.refl _ w).drew).alloc o
  rcases h with ⟨rfl, rfl⟩ | ⟨g, off, cap, cur, rfl, hg, hn, hm, hs, hx⟩
  · have hr := run_append_nil (P := P) w t ty e i z ht hi hz A 1 c [.int .i64 x, .int .i64 y] hlen2 hnews (by omega) (by omega) (by omega)
    have hf := fin 0 (Builtin.zeroCells z.cells (grownCap w 1 0 e - 1)) (by rw [size_zeroCells, hzs]; rfl)
    simp only [List.length_nil, Nat.zero_add, List.nil_append, pvals, List.flatMap_nil, Array.empty_append] at hf ⊢
    exact ⟨_, _, hr, hf, kpn _ _, .inr rfl⟩
  · by_cases hroom : Q.length + 1 ≤ cap
    · have hsrc : Go.Src P i.size t (.slice (some A) 1 c) 1 [.int .i64 x, .int .i64 y] w := Go.Src.ofSlice w ht A 1 c _ hlen2 hnews hone
      have hc2 : ∀ j, j < 2 → (w.cell? ⟨g, off + Q.length * i.size + j, none⟩).isSome = true := fun j hj => by
        rw [hsize]
        have : off + Q.length * 2 + j < cur.size := by omega
        simp [World.cell?, hg, this]
      have hr := run_append_room_src (P := P) w t t ty e i ht hi g off Q.length cap (.slice (some A) 1 c) 1 _ hsrc hroom hc2 (fun j hj => by simp [World.frozen?, hg])
      rw [hsize] at hr
      refine ⟨_, _, hr, .inr ⟨g, off, cap, (cur.setIfInBounds (off + Q.length * 2) (.int .i64 x)).setIfInBounds (off + Q.length * 2 + 1) (.int .i64 y), by simp, ?_, by simpa using hroom, hm, by simpa using hs, fun j hj => ?_⟩, ?_, .inl rfl⟩
      · simp [World.setCells, World.setCell, Array.getElem?_modify, hg]
      · have hjl : j < Q.length + 1 := by simpa using hj
        have hb : off + Q.length * 2 + 1 < cur.size := by omega
        by_cases hjq : j < Q.length
        · have e1 : (Q ++ [(x, y)]).getD j default = Q.getD j default := by simp [List.getD_eq_getElem?_getD, List.getElem?_append_left hjq]
          rw [e1]
          obtain ⟨b0, b1⟩ := hx j hjq
          constructor
          · rw [Array.getElem?_setIfInBounds_ne (by omega), Array.getElem?_setIfInBounds_ne (by omega)]; exact b0
          · rw [Array.getElem?_setIfInBounds_ne (by omega), Array.getElem?_setIfInBounds_ne (by omega)]; exact b1
        · obtain rfl : j = Q.length := by omega
          have e1 : (Q ++ [(x, y)]).getD Q.length default = (x, y) := by simp
          rw [e1]
          constructor
          · rw [Array.getElem?_setIfInBounds_ne (by omega)]
            simp [show off + Q.length * 2 < cur.size by omega]
          · simp [hb]
      · simp only [World.setCells]
        exact ((Kp.refl _ w).setCell (p := ⟨g, off + Q.length * 2, none⟩) (.inl (by simp [ownB])) _).setCell (p := ⟨g, off + Q.length * 2 + 1, none⟩) (.inl (by simp [ownB])) _
    · have holds : ∀ j u, (pvals Q)[j]? = some u → w.cell? ((⟨g, off, none⟩ : Addr).add j) = some u := fun j u hu => by
        have hjl : j < Q.length * 2 := by
          rw [← pvals_len Q]
          rcases Nat.lt_or_ge j (pvals Q).length with hl | hl
          · exact hl
          · rw [List.getElem?_eq_none hl] at hu; cases hu
        rw [Addr.add_lit]
        obtain ⟨a0, a1⟩ := pvals_at Q (i := j / 2) (by omega)
        obtain ⟨b0, b1⟩ := hx (j / 2) (by omega)
        rcases (by omega : j = j / 2 * 2 ∨ j = j / 2 * 2 + 1) with hj | hj
        · rw [hj] at hu ⊢
          obtain rfl := Option.some.inj (a0.symm.trans hu)
          simp only [World.cell?, hg]
          exact b0
        · rw [hj] at hu ⊢
          obtain rfl := Option.some.inj (a1.symm.trans hu)
          simp only [World.cell?, hg]
          rw [← Nat.add_assoc]
          exact b1
      have hr := run_append_grow (P := P) w t ty e i z ht hi hz ⟨g, off, none⟩ Q.length cap (pvals Q) (by rw [pvals_len, hsize]) holds A 1 c [.int .i64 x, .int .i64 y] hlen2 hnews (by omega) (by omega) (growslice_fits (by omega) (by rw [hby]; omega))
      exact ⟨_, _, hr, fin cap _ (by rw [size_zeroCells, hzs]), kpn _ _, .inr rfl⟩
end
end Go.Proofs.Ytcebejcdfdahjaa
