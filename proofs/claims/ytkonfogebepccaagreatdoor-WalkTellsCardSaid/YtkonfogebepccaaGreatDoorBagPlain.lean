/-
  A bag of lists: what its lists hold, and what stays, while marks are written into them, and they are gone on with.
-/
import Derived.Test.YtkonfogebepccaaGreatDoorOwn
/-
  An append to a row leaves every row as it was that lies in the same block ahead of what is appended; how it stands in a walk.
-/
namespace Go.Proofs.YtkonfogebepccaaGreatDoor
open Go.RowKit

/-- Every row that lies in the block of v ahead of its first n elements stays, and every other one. -/
def Keeps (e : TypeId) (size n : Nat) (v : Value) (w w' : World) : Prop := ∀ v0 k ys, Row w e size v0 k ys → (∀ b ∈ ownB v0, b ∈ ownB v → k ≤ n) → Row w' e size v0 k ys
theorem Row.append_keeps {w : World} {e : TypeId} {size n : Nat} {v : Value} {xs : List Value} {P : Program} (t ty : TypeId) (i : TypeInfo) (z : Value) (bytes : Nat) (ht : P.underlying t = some (.slice e)) (hi : P.info? e = some i) (hz : i.zero = some z)
    (hsize : i.size = size) (hby : i.bytes = bytes) (hzs : z.cells.size = size)
    (h : Row w e size v n xs) (A : Option Addr) (m c : Nat) (news : List Value) (hs : Src w A m size news)
    (h63 : n + m ≤ maxLen) (hbytes : (n + m) * bytes ≤ 140737488355328) :
    ∃ v' w', (Builtin.append_ #[t, t] ty #[v, .slice A m c]).run P w = .ok v' w' ∧ Row w' e size v' (n + m) (xs ++ news) ∧ Kp (ownB v) w w' ∧ (ownB v' = ownB v ∨ ownB v' = [w.heap.size]) ∧ Keeps e size n v w w' := by
  subst hsize
  subst hby
  have hsmall : n + m ≤ 9223372036854775807 := by simp only [maxLen] at h63; omega
  obtain ⟨hl, h1, hs⟩ := hs
  have hlen : (xs ++ news).length = (n + m) * i.size := by rw [List.length_append, h.1, hl, Nat.add_mul]
  have same : Keeps e i.size n v w w := fun v0 k ys h0 _ => h0
  have new : ∀ o : Obj, Keeps e i.size n v w (w.drew.alloc o) := fun o v0 k ys h0 _ => h0.drew.alloc o
  rcases hs with ⟨rfl, rfl⟩ | ⟨ad, rfl, hnews⟩
  · have hn : news = [] := List.eq_nil_of_length_eq_zero (by simpa using hl)
    subst hn
    refine ⟨v, w, ?_, by simpa using h, Kp.refl _ _, .inl rfl, same⟩
    rcases h.2 with ⟨rfl, rfl⟩ | ⟨g, cap, cur, rfl, hg, hnc, _⟩
    · simp [Builtin.append_, run_underlying ht, sizeOf, typeInfo, hi, Builtin.lenOf, Builtin.firstCells]
    · simp [Builtin.append_, run_underlying ht, sizeOf, typeInfo, hi, Builtin.lenOf, Builtin.firstCells, hnc, storeCells]
  · have grown : ∀ old, (Row (w.drew.alloc (.cells (xs.toArray ++ news.toArray ++ Builtin.zeroCells z.cells (grownCap w (n + m) old e - (n + m))) e)) e i.size
        (.slice (some ⟨w.heap.size, 0, none⟩) (n + m) (grownCap w (n + m) old e)) (n + m) (xs ++ news)) := by
      intro old
      refine ⟨hlen, .inr ⟨w.heap.size, _, _, rfl, heap_alloc_new w.drew _, grownCap_ge w (n + m) old e, grownCap_le_maxLen w (n + m) old e h63, ?_, ?_⟩⟩
      · have hge := grownCap_ge w (n + m) old e
        simp only [Array.size_append, List.size_toArray, size_zeroCells, hzs, h.1, hl, ← Nat.add_mul]
        rw [show n + m + (grownCap w (n + m) old e - (n + m)) = grownCap w (n + m) old e by omega]
        exact Nat.le_refl _
      · simp only [Array.toList_append, List.append_assoc]
        rw [← List.append_assoc, ← hlen]
        exact List.take_left
    have kpn : ∀ o : Obj, Kp (ownB v) w (w.drew.alloc o) := fun o => ((Kp.refl _ w).drew).alloc o
    rcases h.2 with ⟨rfl, rfl⟩ | ⟨g, cap, cur, rfl, hg, hnc, hcm, hcs, htake⟩
    · have hx : xs = [] := List.eq_nil_of_length_eq_zero (by simpa using h.1)
      subst hx
      by_cases hm : m = 0
      · subst hm
        have hn : news = [] := List.eq_nil_of_length_eq_zero (by simpa using hl)
        subst hn
        refine ⟨.slice none 0 0, w, ?_, by simpa using h, Kp.refl _ _, .inl rfl, same⟩
        simp [Builtin.append_, run_underlying ht, sizeOf, typeInfo, hi, Builtin.lenOf, Builtin.firstCells, loadCells, loadCellsFrom]
      · have hr := run_append_nil (P := P) w t ty e i z ht hi hz ad m c news hl hnews (by omega) (by omega) (by have hb := hbytes; simp only [Nat.zero_add] at hb; omega)
        have hgr := grown 0
        simp only [Nat.zero_add, List.nil_append, Array.empty_append] at hgr ⊢
        exact ⟨_, _, hr, hgr, kpn _, .inr rfl, new _⟩
    · by_cases hroom : n + m ≤ cap
      · have hfit : n * i.size + news.length ≤ cur.size := by rw [hl, ← Nat.add_mul]; exact Nat.le_trans (Nat.mul_le_mul_right _ hroom) hcs
        have hr := run_append_room (P := P) w t ty e i ht hi g n cap cur hg ad m c news hl hnews h1 hroom hfit
        refine ⟨_, _, hr, ⟨hlen, .inr ⟨g, cap, _, rfl, setRow_heap w g cur _ e _ hg, hroom, hcm, ?_, ?_⟩⟩, ⟨rfl, rfl, rfl, by simp, fun k _ hk => setRow_other w g k _ (fun e => hk (by simp [ownB, e]))⟩, .inl rfl, ?_⟩
        · simp only [List.size_toArray, List.length_append, List.length_take, List.length_drop, Array.length_toList]
          omega
        · rw [htake, ← hlen]
          exact List.take_left
        · intro v0 k ys h0 hk0
          refine ⟨h0.1, ?_⟩
          rcases h0.2 with hn0 | ⟨g0, cap0, cur0, rfl, hg0, hkc, hcm0, hcs0, ht0⟩
          · exact .inl hn0
          · by_cases hgg : g0 = g
            · subst hgg
              have hkn : k ≤ n := hk0 g0 (by simp [ownB]) (by simp [ownB])
              obtain rfl : cur0 = cur := by rw [hg] at hg0; injection hg0 with hg0; injection hg0 with a; exact a.symm
              refine .inr ⟨g0, cap0, _, rfl, setRow_heap w g0 cur0 _ e _ hg, hkc, hcm0, ?_, ?_⟩
              · simp only [List.size_toArray, List.length_append, List.length_take, List.length_drop, Array.length_toList]
                have : n * i.size ≤ cur0.size := by omega
                omega
              · rw [← ht0]
                simp only [List.append_assoc]
                rw [List.take_append_of_le_length, List.take_take, Nat.min_eq_left (Nat.mul_le_mul_right _ hkn)]
                rw [List.length_take, Array.length_toList]
                have := Nat.mul_le_mul_right i.size hkn
                omega
            · exact .inr ⟨g0, cap0, cur0, rfl, (setRow_other w g g0 _ hgg).trans hg0, hkc, hcm0, hcs0, ht0⟩
      · have holds := h.cells rfl rfl
        have hr := run_append_grow (P := P) w t ty e i z ht hi hz ⟨g, 0, none⟩ n cap xs h.1 holds ad m c news hl hnews (by omega) (by omega) (growslice_fits (by omega) hbytes)
        exact ⟨_, _, hr, grown cap, kpn _, .inr rfl, new _⟩
section
variable {P : Program} {w : World} {o : Oper} {a : Act} {K' : Act → World → Prop} {Q : Exit → Act → World → Prop}
theorem wpo_row_append_keeps (s x : Operand) (t : TypeId) (ho : o.op = .call { callee := .builtin .append, args := #[s, x], argTypes := #[t, t] })
    {e : TypeId} {size n : Nat} {v : Value} {xs : List Value} (i : TypeInfo) (z : Value) (bytes : Nat) (ht : P.underlying t = some (.slice e)) (hi : P.info? e = some i) (hz : i.zero = some z)
    (hsize : i.size = size) (hby : i.bytes = bytes) (hzs : z.cells.size = size)
    (hs : a.eval s = v) (h : Row w e size v n xs) (A : Option Addr) (m c : Nat) (hx : a.eval x = .slice A m c) (news : List Value) (hsrc : Src w A m size news)
    (h63 : n + m ≤ maxLen) (hbytes : (n + m) * bytes ≤ 140737488355328)
    (hk : ∀ v' w', Row w' e size v' (n + m) (xs ++ news) → Kp (ownB v) w w' → (ownB v' = ownB v ∨ ownB v' = [w.heap.size]) → Keeps e size n v w w' → K' (a.put o.dst v') w') : o.wp P a w K' Q := by
  obtain ⟨v', w', hr, h2, h3, h4, h5⟩ := Row.append_keeps (P := P) t o.type i z bytes ht hi hz hsize hby hzs h A m c news hsrc h63 hbytes
  unfold Oper.wp execOp
  simp only [ho, resolve, invoke, builtin, Sem.run_bind, Sem.run_pure, Result.andThen_ok, List.map_toArray, List.map_cons, List.map_nil, hs, hx, hr]
  exact hk v' w' h2 h3 h4 h5
end
end Go.Proofs.YtkonfogebepccaaGreatDoor
namespace Go.Proofs.YtkonfogebepccaaGreatDoor
open Go.RowKit
set_option linter.unusedVariables false

def markB (n i : Nat) : Int := 1048576 * n + i + 1
/-- The first k marks of list n, c the cells of a mark. -/
def mkB (c : Int → List Value) (n k : Nat) : List Value := (List.range k).flatMap fun i => c (markB n i)
theorem mkB_0 (c : Int → List Value) (n : Nat) : mkB c n 0 = [] := rfl
theorem mkB_succ (c : Int → List Value) (n k : Nat) : mkB c n (k + 1) = mkB c n k ++ c (markB n k) := by simp [mkB, List.range_succ]
theorem mkB_len {c : Int → List Value} {size : Nat} (hc : ∀ x, (c x).length = size) (n k : Nat) : (mkB c n k).length = k * size := by
  induction k with
  | zero => simp [mkB]
  | succ k ih => rw [mkB_succ, List.length_append, ih, hc, Nat.add_mul, Nat.one_mul]
theorem mkB_at {c : Int → List Value} {size : Nat} (hc : ∀ x, (c x).length = size) (n : Nat) {k i t : Nat} (hi : i < k) (ht : t < size) : (mkB c n k)[i * size + t]? = (c (markB n i))[t]? := by
  induction k with
  | zero => omega
  | succ k ih =>
    have hl := mkB_len hc n k
    rw [mkB_succ]
    by_cases h : i < k
    · have h2 : i * size + t < k * size := by
        have := Nat.mul_le_mul_right size (show i + 1 ≤ k by omega)
        rw [Nat.add_mul, Nat.one_mul] at this
        omega
      rw [List.getElem?_append_left (by omega), ih h]
    · obtain rfl : i = k := by omega
      rw [List.getElem?_append_right (by omega), hl, Nat.add_sub_cancel_left]
theorem cons_of_len {α : Type} {xs : List α} {n : Nat} (h : xs.length = n + 1) : ∃ x r, xs = x :: r ∧ r.length = n := by
  cases xs with
  | nil => simp at h
  | cons x r => exact ⟨x, r, rfl, by simpa using h⟩
theorem set_app {α : Type} {ys : List α} {x u : α} {r : List α} {j : Nat} (h : ys.length = j) : (ys ++ x :: r).set j u = (ys ++ [u]) ++ r := by
  subst h
  rw [List.set_append_right _ _ (Nat.le_refl _), Nat.sub_self, List.set_cons_zero, List.append_assoc]; rfl
theorem row_mark1 {w : World} {e : TypeId} {g cap L j : Nat} {ys xs : List Value} (h : Row w e 1 (.slice (some ⟨g, 0, none⟩) L cap) L (ys ++ xs)) (hy : ys.length = j * 1) (hj : j < L) (u : Value) :
    ∃ xs', Row (w.setCell ⟨g, j, none⟩ u) e 1 (.slice (some ⟨g, 0, none⟩) L cap) L ((ys ++ [u]) ++ xs') := by
  have hl := h.1
  rw [List.length_append] at hl
  obtain ⟨x, r, rfl, hr⟩ := cons_of_len (xs := xs) (n := L - j - 1) (by omega)
  have := h.set j u
  rw [set_app (by omega)] at this
  exact ⟨r, this⟩
theorem row_mark2 {w : World} {e : TypeId} {g cap L j : Nat} {ys xs : List Value} (h : Row w e 2 (.slice (some ⟨g, 0, none⟩) L cap) L (ys ++ xs)) (hy : ys.length = j * 2) (hj : j < L) (u0 u1 : Value) :
    ∃ xs', Row ((w.setCell ⟨g, j * 2, none⟩ u0).setCell ⟨g, j * 2 + 1, none⟩ u1) e 2 (.slice (some ⟨g, 0, none⟩) L cap) L ((ys ++ [u0, u1]) ++ xs') := by
  have hl := h.1
  rw [List.length_append] at hl
  obtain ⟨x, r, rfl, hr⟩ := cons_of_len (xs := xs) (n := (L - j - 1) * 2 + 1) (by omega)
  obtain ⟨x1, r, rfl, hr⟩ := cons_of_len hr
  have := (h.set (j * 2) u0).set (j * 2 + 1) u1
  rw [set_app (by omega), set_app (by simp; omega)] at this
  exact ⟨r, by simpa using this⟩
theorem row_mark4 {w : World} {e : TypeId} {g cap L j : Nat} {ys xs : List Value} (h : Row w e 4 (.slice (some ⟨g, 0, none⟩) L cap) L (ys ++ xs)) (hy : ys.length = j * 4) (hj : j < L) (u0 u1 u2 u3 : Value) :
    ∃ xs', Row ((((w.setCell ⟨g, j * 4, none⟩ u0).setCell ⟨g, j * 4 + 1, none⟩ u1).setCell ⟨g, j * 4 + 2, none⟩ u2).setCell ⟨g, j * 4 + 3, none⟩ u3) e 4 (.slice (some ⟨g, 0, none⟩) L cap) L ((ys ++ [u0, u1, u2, u3]) ++ xs') := by
  have hl := h.1
  rw [List.length_append] at hl
  obtain ⟨x, r1, rfl, hr1⟩ := cons_of_len (xs := xs) (n := (L - j - 1) * 4 + 3) (by omega)
  obtain ⟨x1, r2, rfl, hr2⟩ := cons_of_len (xs := r1) (n := (L - j - 1) * 4 + 2) (by omega)
  obtain ⟨x2, r3, rfl, hr3⟩ := cons_of_len (xs := r2) (n := (L - j - 1) * 4 + 1) (by omega)
  obtain ⟨x3, r, rfl, hr⟩ := cons_of_len (xs := r3) (n := (L - j - 1) * 4) (by omega)
  have := (((h.set (j * 4) u0).set (j * 4 + 1) u1).set (j * 4 + 2) u2).set (j * 4 + 3) u3
  rw [set_app (by omega), set_app (by simp; omega), set_app (by simp; omega), set_app (by simp; omega)] at this
  exact ⟨r, by simpa using this⟩
theorem row_end {w : World} {e : TypeId} {s L k : Nat} {v : Value} {c : Int → List Value} {xs : List Value} (hc : ∀ x, (c x).length = s) (h : Row w e s v L (mkB c k L ++ xs)) : Row w e s v L (mkB c k L) := by
  have hl := h.1
  rw [List.length_append, mkB_len hc] at hl
  have hx : xs = [] := List.eq_nil_of_length_eq_zero (by omega)
  subst hx
  simpa using h
theorem row_ne {w : World} {e e' : TypeId} {s s' n n' : Nat} {v v' : Value} {xs xs' : List Value} (h : Row w e s v n xs) (h' : Row w e' s' v' n' xs') (hne : e ≠ e') : ∀ b ∈ ownB v, b ∉ ownB v' := by
  intro b hb hb'
  rcases h.2 with ⟨rfl, _⟩ | ⟨g, cap, cur, rfl, hh, _⟩
  · simp [ownB] at hb
  · rcases h'.2 with ⟨rfl, _⟩ | ⟨g', cap', cur', rfl, hh', _⟩
    · simp [ownB] at hb'
    · simp [ownB] at hb hb'
      subst hb; subst hb'
      rw [hh] at hh'; injection hh' with hh'; injection hh' with _ ht; exact hne ht
theorem row_block {w : World} {e : TypeId} {s n : Nat} {v : Value} {xs : List Value} (h : Row w e s v n xs) : ∀ b ∈ ownB v, ∃ cur, w.heap[b]? = some (.cells cur e (0, 0)) := by
  intro b hb
  rcases h.2 with ⟨rfl, _⟩ | ⟨g, cap, cur, rfl, hh, _⟩
  · simp [ownB] at hb
  · simp [ownB] at hb; subst hb; exact ⟨cur, hh⟩
/-- The bag at block G, its lists v 0 .. v (N - 1) of length len 0 ..; the first k of them are written full. F: the lists' blocks. -/
structure Bg (e e' : TypeId) (size : Nat) (c : Int → List Value) (G off : Nat) (V : Value) (N : Nat) (v : Nat → Value) (len : Nat → Nat) (F : List Nat) (w0 : World) (k : Nat) (X : World) : Prop where
  hd : X.cell? ⟨G, off, none⟩ = some V
  gl : G < w0.heap.size
  rw : Row X e' 1 V N ((List.range N).map v)
  rl : ∀ b ∈ ownB V, b < w0.heap.size
  os : ∀ i, i < N → ∃ xs, Row X e size (v i) (len i) xs ∧ (i < k → xs = mkB c i (len i))
  ol : ∀ i, i < N → ∀ b ∈ ownB (v i), b < w0.heap.size ∧ b ≠ G ∧ b ∈ F
  dj : ∀ i j, i < N → j < N → i ≠ j → ∀ b ∈ ownB (v i), b ∉ ownB (v j)
  ne : e ≠ e'
  kp : Kp F w0 X
section
variable {e e' : TypeId} {size : Nat} {c : Int → List Value} {G off : Nat} {V : Value} {N : Nat} {v : Nat → Value} {len : Nat → Nat} {F : List Nat} {w0 X X' : World} {k : Nat}
theorem Bg.lt (h : Bg e e' size c G off V N v len F w0 k X) : G < X.heap.size := Nat.lt_of_lt_of_le h.gl h.kp.size
theorem Bg.listAt (h : Bg e e' size c G off V N v len F w0 k X) {i : Nat} (hi : i < N) : ∃ g cap, V = .slice (some ⟨g, 0, none⟩) N cap ∧ g < X.heap.size ∧ X.cell? ⟨g, i, none⟩ = some (v i) := by
  obtain ⟨g, cap, cur, rfl, hh, _⟩ := h.rw.some_ (by omega)
  refine ⟨g, cap, rfl, heap_lt hh, (h.rw.cellAt i (by omega)).trans ?_⟩
  simp [hi]
theorem Bg.full (h : Bg e e' size c G off V N v len F w0 N X) {i : Nat} (hi : i < N) : Row X e size (v i) (len i) (mkB c i (len i)) := by
  obtain ⟨xs, h1, h2⟩ := h.os i hi
  rw [h2 hi] at h1; exact h1
/-- A change in the blocks of list k alone. -/
theorem Bg.touch (h : Bg e e' size c G off V N v len F w0 k X) (hk : k < N) (hp : Kp (ownB (v k)) X X') {ys : List Value} (hr : Row X' e size (v k) (len k) ys) : Bg e e' size c G off V N v len F w0 k X' := by
  obtain ⟨xs, h1, _⟩ := h.os k hk
  refine ⟨?_, h.gl, ?_, h.rl, fun i hi => ?_, h.ol, h.dj, h.ne, h.kp.trans hp (fun b hb => .inl (h.ol k hk b hb).2.2)⟩
  · exact (hp.cell (p := ⟨G, off, none⟩) h.lt (fun hb => (h.ol k hk _ hb).2.1 rfl)).trans h.hd
  · exact h.rw.kp hp (fun b hb hb' => row_ne h1 h.rw h.ne b hb' hb)
  · by_cases hik : i = k
    · subst hik; exact ⟨ys, hr, fun hh => absurd hh (by omega)⟩
    · obtain ⟨zs, h3, h4⟩ := h.os i hi
      exact ⟨zs, h3.kp hp (fun b hb => h.dj i k hi hk hik b hb), h4⟩
theorem Bg.next (h : Bg e e' size c G off V N v len F w0 k X) (hr : Row X e size (v k) (len k) (mkB c k (len k))) : Bg e e' size c G off V N v len F w0 (k + 1) X := by
  refine ⟨h.hd, h.gl, h.rw, h.rl, fun i hi => ?_, h.ol, h.dj, h.ne, h.kp⟩
  by_cases hik : i = k
  · subst hik; exact ⟨_, hr, fun _ => rfl⟩
  · obtain ⟨zs, h3, h4⟩ := h.os i hi
    exact ⟨zs, h3, fun hh => h4 (by omega)⟩
theorem Bg.grow (h : Bg e e' size c G off V N v len F w0 k X) (hb : Below X.heap.size X X') : Bg e e' size c G off V N v len F w0 k X' := by
  refine ⟨(hb.cell (p := ⟨G, off, none⟩) h.lt).trans h.hd, h.gl, h.rw.keep fun b hm => hb.block b (h.rw.lt b hm), h.rl, fun i hi => ?_, h.ol, h.dj, h.ne, h.kp.thenBelow hb⟩
  obtain ⟨zs, h3, h4⟩ := h.os i hi
  exact ⟨zs, h3.keep fun b hm => hb.block b (h3.lt b hm), h4⟩
/-- A change in a block of its own (beyond w0), of whatever lies there. -/
theorem Bg.fresh (h : Bg e e' size c G off V N v len F w0 k X) {E : List Nat} (hp : Kp E X X') (hE : ∀ b ∈ E, w0.heap.size ≤ b) : Bg e e' size c G off V N v len F w0 k X' := by
  refine ⟨(hp.cell (p := ⟨G, off, none⟩) h.lt (fun hb => ?_)).trans h.hd, h.gl, h.rw.kp hp (fun b hb hb' => ?_), h.rl, fun i hi => ?_, h.ol, h.dj, h.ne, h.kp.trans hp (fun b hb => .inr (hE b hb))⟩
  · have h1 : w0.heap.size ≤ G := hE _ hb; have := h.gl; omega
  · have := hE _ hb'; have := h.rl b hb; omega
  · obtain ⟨zs, h3, h4⟩ := h.os i hi
    refine ⟨zs, h3.kp hp (fun b hb hb' => ?_), h4⟩
    have := hE _ hb'; have := (h.ol i hi b hb).1; omega
end
/-- The lists are gone on with: 'one' (k5 lists) by one, 'more' (k6) by many. -/
structure P2 (e e' : TypeId) (size : Nat) (c : Int → List Value) (G off : Nat) (V : Value) (N : Nat) (v : Nat → Value) (len : Nat → Nat) (F : List Nat) (w0 : World) (k5 k6 : Nat) (s5 s6 : Value) (ov mv : Nat → Value) (X : World) : Prop where
  bg : Bg e e' size c G off V N v len F w0 N X
  r5 : Row X e' 1 s5 k5 ((List.range k5).map ov)
  r6 : Row X e' 1 s6 k6 ((List.range k6).map mv)
  f5 : ∀ b ∈ ownB s5, w0.heap.size ≤ b
  f6 : ∀ b ∈ ownB s6, w0.heap.size ≤ b
  d56 : ∀ b ∈ ownB s5, b ∉ ownB s6
  o5 : ∀ i, i < k5 → Row X e size (ov i) (len i + 1) (mkB c i (len i + 1)) ∧ ∀ b ∈ ownB (ov i), b ∈ ownB (v i) ∨ w0.heap.size ≤ b
  o6 : ∀ i, i < k6 → Row X e size (mv i) (len i + 70) (mkB c i (len i + 70)) ∧ ∀ b ∈ ownB (mv i), b ∈ ownB (v i) ∨ w0.heap.size ≤ b
def K5 (j k k5 : Nat) : Prop := j = 0 ∧ k5 = k ∨ 0 < j ∧ k5 = k + 1
/-- .. and list k, so far by j. -/
structure P3 (e e' : TypeId) (size : Nat) (c : Int → List Value) (G off : Nat) (V : Value) (N : Nat) (v : Nat → Value) (len : Nat → Nat) (F : List Nat) (w0 : World) (k5 k : Nat) (s5 s6 : Value) (ov mv : Nat → Value) (j : Nat) (l : Value) (X : World) : Prop where
  p : P2 e e' size c G off V N v len F w0 k5 k s5 s6 ov mv X
  kl : k < N
  rl : Row X e size l (len k + j) (mkB c k (len k + j))
  bl : ∀ b ∈ ownB l, b ∈ ownB (v k) ∨ w0.heap.size ≤ b
  d5 : ∀ i, i < k5 → i ≠ k → ∀ b ∈ ownB l, b ∉ ownB (ov i)
  d6 : ∀ i, i < k → ∀ b ∈ ownB l, b ∉ ownB (mv i)
  h5 : k5 = k ∨ (k5 = k + 1 ∧ 1 ≤ j)
section
variable {e e' : TypeId} {size : Nat} {c : Int → List Value} {G off : Nat} {V : Value} {N : Nat} {v : Nat → Value} {len : Nat → Nat} {F : List Nat} {w0 X X' : World} {k5 k6 k j : Nat} {s5 s6 l : Value} {ov mv : Nat → Value}
theorem P2.begin (h : Bg e e' size c G off V N v len F w0 N X) (ov mv : Nat → Value) : P2 e e' size c G off V N v len F w0 0 0 (.slice none 0 0) (.slice none 0 0) ov mv X :=
  ⟨h, Row.nil _ _ _, Row.nil _ _ _, by simp [ownB], by simp [ownB], by simp [ownB], fun i hi => by omega, fun i hi => by omega⟩
theorem P3.begin (h : P2 e e' size c G off V N v len F w0 k k s5 s6 ov mv X) (hk : k < N) : P3 e e' size c G off V N v len F w0 k k s5 s6 ov mv 0 (v k) X := by
  have key : ∀ i, i < k → ∀ u : Value, (∀ b ∈ ownB u, b ∈ ownB (v i) ∨ w0.heap.size ≤ b) → ∀ b ∈ ownB (v k), b ∉ ownB u := fun i hi u hu b hb hb' => by
    rcases hu b hb' with h1 | h1
    · exact h.bg.dj k i hk (by omega) (by omega) b hb h1
    · have := (h.bg.ol k hk b hb).1; omega
  exact ⟨h, hk, h.bg.full hk, fun b hb => .inl hb, fun i hi _ => key i hi _ (h.o5 i hi).2, fun i hi => key i hi _ (h.o6 i hi).2, .inl rfl⟩
theorem P2.grow (h : P2 e e' size c G off V N v len F w0 k5 k6 s5 s6 ov mv X) (hb : Below X.heap.size X X') : P2 e e' size c G off V N v len F w0 k5 k6 s5 s6 ov mv X' :=
  ⟨h.bg.grow hb, h.r5.keep fun b hm => hb.block b (h.r5.lt b hm), h.r6.keep fun b hm => hb.block b (h.r6.lt b hm), h.f5, h.f6, h.d56,
    fun i hi => ⟨(h.o5 i hi).1.keep fun b hm => hb.block b ((h.o5 i hi).1.lt b hm), (h.o5 i hi).2⟩, fun i hi => ⟨(h.o6 i hi).1.keep fun b hm => hb.block b ((h.o6 i hi).1.lt b hm), (h.o6 i hi).2⟩⟩
theorem P3.grow (h : P3 e e' size c G off V N v len F w0 k5 k s5 s6 ov mv j l X) (hb : Below X.heap.size X X') : P3 e e' size c G off V N v len F w0 k5 k s5 s6 ov mv j l X' :=
  ⟨h.p.grow hb, h.kl, h.rl.keep fun b hm => hb.block b (h.rl.lt b hm), h.bl, h.d5, h.d6, h.h5⟩
/-- A mark is laid behind the list. -/
theorem P3.app (h : P3 e e' size c G off V N v len F w0 k5 k s5 s6 ov mv j l X) {l' : Value} (hr : Row X' e size l' (len k + j + 1) (mkB c k (len k + j) ++ c (markB k (len k + j)))) (hp : Kp (ownB l) X X') (ho : ownB l' = ownB l ∨ ownB l' = [X.heap.size]) (hk : Keeps e size (len k + j) l X X') :
    P3 e e' size c G off V N v len F w0 k5 k s5 s6 ov mv (j + 1) l' X' := by
  have hsz := h.p.bg.kp.size
  have hne := h.p.bg.ne
  have hlV : ∀ b ∈ ownB V, b ∉ ownB l := fun b hb hb' => row_ne h.rl h.p.bg.rw hne b hb' hb
  have hl5 : ∀ b ∈ ownB s5, b ∉ ownB l := fun b hb hb' => row_ne h.rl h.p.r5 hne b hb' hb
  have hl6 : ∀ b ∈ ownB s6, b ∉ ownB l := fun b hb hb' => row_ne h.rl h.p.r6 hne b hb' hb
  have hv : ∀ i, i < N → i ≠ k → ∀ b ∈ ownB (v i), b ∉ ownB l := fun i hi hik b hb hb' => by
    rcases h.bl b hb' with h1 | h1
    · exact h.p.bg.dj i k hi h.kl hik b hb h1
    · have := (h.p.bg.ol i hi b hb).1; omega
  have hG : G ∉ ownB l := fun hb' => by
    rcases h.bl _ hb' with h1 | h1
    · exact (h.p.bg.ol k h.kl _ h1).2.1 rfl
    · have := h.p.bg.gl; omega
  have hkF : ∀ b ∈ ownB l, b ∈ F ∨ w0.heap.size ≤ b := fun b hb => by
    rcases h.bl b hb with h1 | h1
    · exact .inl (h.p.bg.ol k h.kl b h1).2.2
    · exact .inr h1
  have fresh : ∀ {u : Value} {n : Nat} {ys : List Value}, Row X e size u n ys → ∀ b ∈ [X.heap.size], b ∉ ownB u := fun hu b hb hb' => by
    have := hu.lt b hb'; simp at hb; omega
  refine ⟨⟨⟨(hp.cell (p := ⟨G, off, none⟩) h.p.bg.lt hG).trans h.p.bg.hd, h.p.bg.gl, h.p.bg.rw.kp hp hlV, h.p.bg.rl, fun i hi => ?_, h.p.bg.ol, h.p.bg.dj, hne, h.p.bg.kp.trans hp hkF⟩,
    h.p.r5.kp hp hl5, h.p.r6.kp hp hl6, h.p.f5, h.p.f6, h.p.d56, fun i hi => ⟨?_, (h.p.o5 i hi).2⟩, fun i hi => ⟨(h.p.o6 i hi).1.kp hp (fun b hb hb' => h.d6 i hi b hb' hb), (h.p.o6 i hi).2⟩⟩, h.kl, ?_, ?_, ?_, ?_, ?_⟩
  · obtain ⟨zs, h3, h4⟩ := h.p.bg.os i hi
    refine ⟨zs, ?_, h4⟩
    by_cases hik : i = k
    · subst hik; exact hk _ _ _ h3 (fun _ _ _ => Nat.le_add_right _ _)
    · exact h3.kp hp (hv i hi hik)
  · by_cases hik : i = k
    · subst hik
      refine hk _ _ _ (h.p.o5 i hi).1 (fun _ _ _ => ?_)
      rcases h.h5 with h5 | h5
      · omega
      · omega
    · exact (h.p.o5 i hi).1.kp hp (fun b hb hb' => h.d5 i hi hik b hb' hb)
  · rw [← Nat.add_assoc, mkB_succ]; exact hr
  · intro b hb
    rcases ho with e1 | e1 <;> rw [e1] at hb
    · exact h.bl b hb
    · simp at hb; subst hb; exact .inr hsz
  · intro i hi hik
    rcases ho with e1 | e1 <;> rw [e1]
    · exact h.d5 i hi hik
    · exact fresh (h.p.o5 i hi).1
  · intro i hi
    rcases ho with e1 | e1 <;> rw [e1]
    · exact h.d6 i hi
    · exact fresh (h.p.o6 i hi).1
  · rcases h.h5 with h5 | h5
    · exact .inl h5
    · exact .inr ⟨h5.1, by omega⟩
def updV (f : Nat → Value) (k : Nat) (u : Value) : Nat → Value := fun i => if i = k then u else f i
theorem range_updV (f : Nat → Value) (k : Nat) (u : Value) : (List.range (k + 1)).map (updV f k u) = (List.range k).map f ++ [u] := by
  rw [List.range_succ, List.map_append]
  congr 1
  · refine List.map_congr_left fun i hi => ?_
    have := List.mem_range.1 hi
    unfold updV; rw [if_neg (by omega)]
  · simp [updV]
/-- The list that was gone on with by one is laid into 'one'. -/
theorem P3.one (h : P3 e e' size c G off V N v len F w0 k k s5 s6 ov mv 1 l X) {s5' : Value} (hr : Row X' e' 1 s5' (k + 1) ((List.range k).map ov ++ [l])) (hp : Kp (ownB s5) X X') (ho : ownB s5' = ownB s5 ∨ ownB s5' = [X.heap.size]) :
    P3 e e' size c G off V N v len F w0 (k + 1) k s5' s6 (updV ov k l) mv 1 l X' := by
  have hne := h.p.bg.ne
  have hsz := h.p.bg.kp.size
  have ke : ∀ {u : Value} {n : Nat} {ys : List Value}, Row X e size u n ys → Row X' e size u n ys := fun hu => hu.kp hp (fun b hb hb' => row_ne hu h.p.r5 hne b hb hb')
  refine ⟨⟨h.p.bg.fresh hp h.p.f5, by rw [range_updV]; exact hr, h.p.r6.kp hp (fun b hb hb' => h.p.d56 b hb' hb), ?_, h.p.f6, ?_, fun i hi => ?_, fun i hi => ⟨ke (h.p.o6 i hi).1, (h.p.o6 i hi).2⟩⟩, h.kl, ke h.rl, h.bl, fun i hi hik => ?_, h.d6, .inr ⟨rfl, Nat.le_refl _⟩⟩
  · intro b hb
    rcases ho with e1 | e1 <;> rw [e1] at hb
    · exact h.p.f5 b hb
    · simp at hb; subst hb; exact hsz
  · intro b hb
    rcases ho with e1 | e1 <;> rw [e1] at hb
    · exact h.p.d56 b hb
    · intro hb'; have := h.p.r6.lt b hb'; simp at hb; omega
  · unfold updV
    by_cases hik : i = k
    · subst hik; rw [if_pos rfl]; exact ⟨ke h.rl, h.bl⟩
    · rw [if_neg hik]; exact ⟨ke (h.p.o5 i (by omega)).1, (h.p.o5 i (by omega)).2⟩
  · unfold updV; rw [if_neg hik]; exact h.d5 i (by omega) hik
/-- The list is laid into 'more'. -/
theorem P3.more (h : P3 e e' size c G off V N v len F w0 (k + 1) k s5 s6 ov mv 70 l X) {s6' : Value} (hr : Row X' e' 1 s6' (k + 1) ((List.range k).map mv ++ [l])) (hp : Kp (ownB s6) X X') (ho : ownB s6' = ownB s6 ∨ ownB s6' = [X.heap.size]) :
    P2 e e' size c G off V N v len F w0 (k + 1) (k + 1) s5 s6' ov (updV mv k l) X' := by
  have hne := h.p.bg.ne
  have hsz := h.p.bg.kp.size
  have ke : ∀ {u : Value} {n : Nat} {ys : List Value}, Row X e size u n ys → Row X' e size u n ys := fun hu => hu.kp hp (fun b hb hb' => row_ne hu h.p.r6 hne b hb hb')
  refine ⟨h.p.bg.fresh hp h.p.f6, h.p.r5.kp hp (fun b hb hb' => h.p.d56 b hb hb'), by rw [range_updV]; exact hr, h.p.f5, ?_, ?_, fun i hi => ⟨ke (h.p.o5 i hi).1, (h.p.o5 i hi).2⟩, fun i hi => ?_⟩
  · intro b hb
    rcases ho with e1 | e1 <;> rw [e1] at hb
    · exact h.p.f6 b hb
    · simp at hb; subst hb; exact hsz
  · intro b hb
    rcases ho with e1 | e1 <;> rw [e1]
    · exact h.p.d56 b hb
    · intro hb'; have := h.p.r5.lt b hb; simp at hb'; omega
  · unfold updV
    by_cases hik : i = k
    · subst hik; rw [if_pos rfl]; exact ⟨ke h.rl, h.bl⟩
    · rw [if_neg hik]; exact ⟨ke (h.p.o6 i (by omega)).1, (h.p.o6 i (by omega)).2⟩
end
theorem row_listAt {X : World} {e : TypeId} {s : Value} {N : Nat} {f : Nat → Value} (h : Row X e 1 s N ((List.range N).map f)) {i : Nat} (hi : i < N) : ∃ g cap, s = .slice (some ⟨g, 0, none⟩) N cap ∧ g < X.heap.size ∧ X.cell? ⟨g, i, none⟩ = some (f i) := by
  obtain ⟨g, cap, cur, rfl, hh, _⟩ := h.some_ (by omega)
  refine ⟨g, cap, rfl, heap_lt hh, (h.cellAt i (by omega)).trans ?_⟩
  simp [hi]
theorem row_markAt {X : World} {e : TypeId} {size n k i : Nat} {c : Int → List Value} {s : Value} (hc : ∀ x, (c x).length = size) (h : Row X e size s n (mkB c k n)) (hi : i < n) : ∃ g cap, s = .slice (some ⟨g, 0, none⟩) n cap ∧ g < X.heap.size ∧ ∀ t, t < size → X.cell? ⟨g, i * size + t, none⟩ = (c (markB k i))[t]? := by
  obtain ⟨g, cap, cur, rfl, hh, _⟩ := h.some_ (by omega)
  refine ⟨g, cap, rfl, heap_lt hh, fun t ht => (h.cellAt _ ?_).trans (mkB_at hc k hi ht)⟩
  have := Nat.mul_le_mul_right size (show i + 1 ≤ n by omega)
  rw [Nat.add_mul, Nat.one_mul] at this
  omega
end Go.Proofs.YtkonfogebepccaaGreatDoor
