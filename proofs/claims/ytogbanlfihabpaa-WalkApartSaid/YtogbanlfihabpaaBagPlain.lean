/-
  A bag of lists: what its lists hold, and what stays, while marks are written into them, and they are gone on with.
-/
import Derived.Test.YtogbanlfihabpaaOwn
/-
  An append to a row leaves every row as it was that lies in the same block ahead of what is appended; how it stands in a walk.
-/
namespace Go.Proofs.Ytogbanlfihabpaa
open Go.RowKit

/-- Every row that lies in the block of v ahead of its first n elements stays, and every other one. -/
def Keeps (e : TypeId) (size n : Nat) (v : Value) (w w' : World) : Prop := ∀ v0 k ys, Row w e size v0 k ys → (∀ b ∈ ownB v0, b ∈ ownB v → k ≤ n) → Row w' e size v0 k ys
section
variable {P : Program} {w : World} {o : Oper} {a : Act} {K' : Act → World → Prop} {Q : Exit → Act → World → Prop}
end
end Go.Proofs.Ytogbanlfihabpaa
namespace Go.Proofs.Ytogbanlfihabpaa
open Go.RowKit
set_option linter.unusedVariables false

def markB (n i : Nat) : Int := 1048576 * n + i + 1
/-- The first k marks of list n, c the cells of a mark. -/
def mkB (c : Int → List Value) (n k : Nat) : List Value := (List.range k).flatMap fun i => c (markB n i)
theorem mkB_succ (c : Int → List Value) (n k : Nat) : mkB c n (k + 1) = mkB c n k ++ c (markB n k) := by simp [mkB, List.range_succ]
theorem row_ne {w : World} {e e' : TypeId} {s s' n n' : Nat} {v v' : Value} {xs xs' : List Value} (h : Row w e s v n xs) (h' : Row w e' s' v' n' xs') (hne : e ≠ e') : ∀ b ∈ ownB v, b ∉ ownB v' := by
  intro b hb hb'
  rcases h.2 with ⟨rfl, _⟩ | ⟨g, cap, cur, rfl, hh, _⟩
  · simp [ownB] at hb
  · rcases h'.2 with ⟨rfl, _⟩ | ⟨g', cap', cur', rfl, hh', _⟩
    · simp [ownB] at hb'
    · simp [ownB] at hb hb'
      subst hb; subst hb'
      rw [hh] at hh'; injection hh' with hh'; injection hh' with _ ht; exact hne ht
theorem row_block {w : World} {e : TypeId} {s n : Nat} {v : Value} {xs : List Value} (h : Row w e s v n xs) : ∀ b ∈ ownB v, ∃ cur, w.heap[b]? = some (.cells cur e (0, 0)) := by
  intro b hb
  rcases h.2 with ⟨rfl, _⟩ | ⟨g, cap, cur, rfl, hh, _⟩
  · simp [ownB] at hb
  · simp [ownB] at hb; subst hb; exact ⟨cur, hh⟩
/-- The bag at block G, its lists v 0 .. v (N - 1) of length len 0 ..; the first k of them are written full. F: the lists' blocks. -/
structure Bg (e e' : TypeId) (size : Nat) (c : Int → List Value) (G off : Nat) (V : Value) (N : Nat) (v : Nat → Value) (len : Nat → Nat) (F : List Nat) (w0 : World) (k : Nat) (X : World) : Prop where
  hd : X.cell? ⟨G, off, none⟩ = some V
  gl : G < w0.heap.size
  rw : Row X e' 1 V N ((List.range N).map v)
  rl : ∀ b ∈ ownB V, b < w0.heap.size
  os : ∀ i, i < N → ∃ xs, Row X e size (v i) (len i) xs ∧ (i < k → xs = mkB c i (len i))
  ol : ∀ i, i < N → ∀ b ∈ ownB (v i), b < w0.heap.size ∧ b ≠ G ∧ b ∈ F
  dj : ∀ i j, i < N → j < N → i ≠ j → ∀ b ∈ ownB (v i), b ∉ ownB (v j)
  ne : e ≠ e'
  kp : Kp F w0 X
section
variable {e e' : TypeId} {size : Nat} {c : Int → List Value} {G off : Nat} {V : Value} {N : Nat} {v : Nat → Value} {len : Nat → Nat} {F : List Nat} {w0 X X' : World} {k : Nat}
theorem Bg.lt (h : Bg e e' size c G off V N v len F w0 k X) : G < X.heap.size := Nat.lt_of_lt_of_le h.gl h.kp.size
theorem Bg.grow (h : Bg e e' size c G off V N v len F w0 k X) (hb : Below X.heap.size X X') : Bg e e' size c G off V N v len F w0 k X' := by
  refine ⟨(hb.cell (p := ⟨G, off, none⟩) h.lt).trans h.hd, h.gl, h.rw.keep fun b hm => hb.block b (h.rw.lt b hm), h.rl, fun i hi => ?_, h.ol, h.dj, h.ne, h.kp.thenBelow hb⟩
  obtain ⟨zs, h3, h4⟩ := h.os i hi
  exact ⟨zs, h3.keep fun b hm => hb.block b (h3.lt b hm), h4⟩
/-- A change in a block of its own (beyond w0), of whatever lies there. -/
theorem Bg.fresh (h : Bg e e' size c G off V N v len F w0 k X) {E : List Nat} (hp : Kp E X X') (hE : ∀ b ∈ E, w0.heap.size ≤ b) : Bg e e' size c G off V N v len F w0 k X' := by
  refine ⟨(hp.cell (p := ⟨G, off, none⟩) h.lt (fun hb => ?_)).trans h.hd, h.gl, h.rw.kp hp (fun b hb hb' => ?_), h.rl, fun i hi => ?_, h.ol, h.dj, h.ne, h.kp.trans hp (fun b hb => .inr (hE b hb))⟩
  · have h1 : w0.heap.size ≤ G := hE _ hb; have := h.gl; omega
  · have := hE _ hb'; have := h.rl b hb; omega
  · obtain ⟨zs, h3, h4⟩ := h.os i hi
    refine ⟨zs, h3.kp hp (fun b hb hb' => ?_), h4⟩
    have := hE _ hb'; have := (h.ol i hi b hb).1; omega
end
/-- The lists are gone on with: 'one' (k5 lists) by one, 'more' (k6) by many. -/
structure P2 (e e' : TypeId) (size : Nat) (c : Int → List Value) (G off : Nat) (V : Value) (N : Nat) (v : Nat → Value) (len : Nat → Nat) (F : List Nat) (w0 : World) (k5 k6 : Nat) (s5 s6 : Value) (ov mv : Nat → Value) (X : World) : Prop where
  bg : Bg e e' size c G off V N v len F w0 N X
  r5 : Row X e' 1 s5 k5 ((List.range k5).map ov)
  r6 : Row X e' 1 s6 k6 ((List.range k6).map mv)
  f5 : ∀ b ∈ ownB s5, w0.heap.size ≤ b
  f6 : ∀ b ∈ ownB s6, w0.heap.size ≤ b
  d56 : ∀ b ∈ ownB s5, b ∉ ownB s6
  o5 : ∀ i, i < k5 → Row X e size (ov i) (len i + 1) (mkB c i (len i + 1)) ∧ ∀ b ∈ ownB (ov i), b ∈ ownB (v i) ∨ w0.heap.size ≤ b
  o6 : ∀ i, i < k6 → Row X e size (mv i) (len i + 70) (mkB c i (len i + 70)) ∧ ∀ b ∈ ownB (mv i), b ∈ ownB (v i) ∨ w0.heap.size ≤ b
/-- .. and list k, so far by j. -/
structure P3 (e e' : TypeId) (size : Nat) (c : Int → List Value) (G off : Nat) (V : Value) (N : Nat) (v : Nat → Value) (len : Nat → Nat) (F : List Nat) (w0 : World) (k5 k : Nat) (s5 s6 : Value) (ov mv : Nat → Value) (j : Nat) (l : Value) (X : World) : Prop where
  p : P2 e e' size c G off V N v len F w0 k5 k s5 s6 ov mv X
  kl : k < N
  rl : Row X e size l (len k + j) (mkB c k (len k + j))
  bl : ∀ b ∈ ownB l, b ∈ ownB (v k) ∨ w0.heap.size ≤ b
  d5 : ∀ i, i < k5 → i ≠ k → ∀ b ∈ ownB l, b ∉ ownB (ov i)
  d6 : ∀ i, i < k → ∀ b ∈ ownB l, b ∉ ownB (mv i)
  h5 : k5 = k ∨ (k5 = k + 1 ∧ 1 ≤ j)
section
variable {e e' : TypeId} {size : Nat} {c : Int → List Value} {G off : Nat} {V : Value} {N : Nat} {v : Nat → Value} {len : Nat → Nat} {F : List Nat} {w0 X X' : World} {k5 k6 k j : Nat} {s5 s6 l : Value} {ov mv : Nat → Value}
theorem P2.grow (h : P2 e e' size c G off V N v len F w0 k5 k6 s5 s6 ov mv X) (hb : Below X.heap.size X X') : P2 e e' size c G off V N v len F w0 k5 k6 s5 s6 ov mv X' :=
  ⟨h.bg.grow hb, h.r5.keep fun b hm => hb.block b (h.r5.lt b hm), h.r6.keep fun b hm => hb.block b (h.r6.lt b hm), h.f5, h.f6, h.d56,
    fun i hi => ⟨(h.o5 i hi).1.keep fun b hm => hb.block b ((h.o5 i hi).1.lt b hm), (h.o5 i hi).2⟩, fun i hi => ⟨(h.o6 i hi).1.keep fun b hm => hb.block b ((h.o6 i hi).1.lt b hm), (h.o6 i hi).2⟩⟩
theorem P3.grow (h : P3 e e' size c G off V N v len F w0 k5 k s5 s6 ov mv j l X) (hb : Below X.heap.size X X') : P3 e e' size c G off V N v len F w0 k5 k s5 s6 ov mv j l X' :=
  ⟨h.p.grow hb, h.kl, h.rl.keep fun b hm => hb.block b (h.rl.lt b hm), h.bl, h.d5, h.d6, h.h5⟩
/-- A mark is laid behind the list. -/
theorem P3.app (h : P3 e e' size c G off V N v len F w0 k5 k s5 s6 ov mv j l X) {l' : Value} (hr : Row X' e size l' (len k + j + 1) (mkB c k (len k + j) ++ c (markB k (len k + j)))) (hp : Kp (ownB l) X X') (ho : ownB l' = ownB l ∨ ownB l' = [X.heap.size]) (hk : Keeps e size (len k + j) l X X') :
    P3 e e' size c G off V N v len F w0 k5 k s5 s6 ov mv (j + 1) l' X' := by
  have hsz := h.p.bg.kp.size
  have hne := h.p.bg.ne
  have hlV : ∀ b ∈ ownB V, b ∉ ownB l := fun b hb hb' => row_ne h.rl h.p.bg.rw hne b hb' hb
  have hl5 : ∀ b ∈ ownB s5, b ∉ ownB l := fun b hb hb' => row_ne h.rl h.p.r5 hne b hb' hb
  have hl6 : ∀ b ∈ ownB s6, b ∉ ownB l := fun b hb hb' => row_ne h.rl h.p.r6 hne b hb' hb
  have hv : ∀ i, i < N → i ≠ k → ∀ b ∈ ownB (v i), b ∉ ownB l := fun i hi hik b hb hb' => by
    rcases h.bl b hb' with h1 | h1
    · exact h.p.bg.dj i k hi h.kl hik b hb h1
    · have := (h.p.bg.ol i hi b hb).1; omega
  have hG : G ∉ ownB l := fun hb' => by
    rcases h.bl _ hb' with h1 | h1
    · exact (h.p.bg.ol k h.kl _ h1).2.1 rfl
    · have := h.p.bg.gl; omega
  have hkF : ∀ b ∈ ownB l, b ∈ F ∨ w0.heap.size ≤ b := fun b hb => by
    rcases h.bl b hb with h1 | h1
    · exact .inl (h.p.bg.ol k h.kl b h1).2.2
    · exact .inr h1
  have fresh : ∀ {u : Value} {n : Nat} {ys : List Value}, Row X e size u n ys → ∀ b ∈ [X.heap.size], b ∉ ownB u := fun hu b hb hb' => by
    have := hu.lt b hb'; simp at hb; omega
  refine ⟨⟨⟨(hp.cell (p := ⟨G, off, none⟩) h.p.bg.lt hG).trans h.p.bg.hd, h.p.bg.gl, h.p.bg.rw.kp hp hlV, h.p.bg.rl, fun i hi => ?_, h.p.bg.ol, h.p.bg.dj, hne, h.p.bg.kp.trans hp hkF⟩,
    h.p.r5.kp hp hl5, h.p.r6.kp hp hl6, h.p.f5, h.p.f6, h.p.d56, fun i hi => ⟨?_, (h.p.o5 i hi).2⟩, fun i hi => ⟨(h.p.o6 i hi).1.kp hp (fun b hb hb' => h.d6 i hi b hb' hb), (h.p.o6 i hi).2⟩⟩, h.kl, ?_, ?_, ?_, ?_, ?_⟩
  · obtain ⟨zs, h3, h4⟩ := h.p.bg.os i hi
    refine ⟨zs, ?_, h4⟩
    by_cases hik : i = k
    · subst hik; exact hk _ _ _ h3 (fun _ _ _ => Nat.le_add_right _ _)
    · exact h3.kp hp (hv i hi hik)
  · by_cases hik : i = k
    · subst hik
      refine hk _ _ _ (h.p.o5 i hi).1 (fun _ _ _ => ?_)
      rcases h.h5 with h5 | h5
      · omega
      · omega
    · exact (h.p.o5 i hi).1.kp hp (fun b hb hb' => h.d5 i hi hik b hb' hb)
  · rw [← Nat.add_assoc, mkB_succ]; exact hr
  · intro b hb
    rcases ho with e1 | e1 <;> rw [e1] at hb
    · exact h.bl b hb
    · simp at hb; subst hb; exact .inr hsz
  · intro i hi hik
    rcases ho with e1 | e1 <;> rw [e1]
    · exact h.d5 i hi hik
    · exact fresh (h.p.o5 i hi).1
  · intro i hi
    rcases ho with e1 | e1 <;> rw [e1]
    · exact h.d6 i hi
    · exact fresh (h.p.o6 i hi).1
  · rcases h.h5 with h5 | h5
    · exact .inl h5
    · exact .inr ⟨h5.1, by omega⟩
def updV (f : Nat → Value) (k : Nat) (u : Value) : Nat → Value := fun i => if i = k then u else f i
theorem range_updV (f : Nat → Value) (k : Nat) (u : Value) : (List.range (k + 1)).map (updV f k u) = (List.range k).map f ++ [u] := by
  rw [List.range_succ, List.map_append]
  congr 1
  · refine List.map_congr_left fun i hi => ?_
    have := List.mem_range.1 hi
    unfold updV; rw [if_neg (by omega)]
  · simp [updV]
/-- The list that was gone on with by one is laid into 'one'. -/
theorem P3.one (h : P3 e e' size c G off V N v len F w0 k k s5 s6 ov mv 1 l X) {s5' : Value} (hr : Row X' e' 1 s5' (k + 1) ((List.range k).map ov ++ [l])) (hp : Kp (ownB s5) X X') (ho : ownB s5' = ownB s5 ∨ ownB s5' = [X.heap.size]) :
    P3 e e' size c G off V N v len F w0 (k + 1) k s5' s6 (updV ov k l) mv 1 l X' := by
  have hne := h.p.bg.ne
  have hsz := h.p.bg.kp.size
  have ke : ∀ {u : Value} {n : Nat} {ys : List Value}, Row X e size u n ys → Row X' e size u n ys := fun hu => hu.kp hp (fun b hb hb' => row_ne hu h.p.r5 hne b hb hb')
  refine ⟨⟨h.p.bg.fresh hp h.p.f5, by rw [range_updV]; exact hr, h.p.r6.kp hp (fun b hb hb' => h.p.d56 b hb' hb), ?_, h.p.f6, ?_, fun i hi => ?_, fun i hi => ⟨ke (h.p.o6 i hi).1, (h.p.o6 i hi).2⟩⟩, h.kl, ke h.rl, h.bl, fun i hi hik => ?_, h.d6, .inr ⟨rfl, Nat.le_refl _⟩⟩
  · intro b hb
    rcases ho with e1 | e1 <;> rw [e1] at hb
    · exact h.p.f5 b hb
    · simp at hb; subst hb; exact hsz
  · intro b hb
    rcases ho with e1 | e1 <;> rw [e1] at hb
    · exact h.p.d56 b hb
    · intro hb'; have := h.p.r6.lt b hb'; simp at hb; omega
  · unfold updV
    by_cases hik : i = k
    · subst hik; rw [if_pos rfl]; exact ⟨ke h.rl, h.bl⟩
    · rw [if_neg hik]; exact ⟨ke (h.p.o5 i (by omega)).1, (h.p.o5 i (by omega)).2⟩
  · unfold updV; rw [if_neg hik]; exact h.d5 i (by omega) hik
/-- The list is laid into 'more'. -/
theorem P3.more (h : P3 e e' size c G off V N v len F w0 (k + 1) k s5 s6 ov mv 70 l X) {s6' : Value} (hr : Row X' e' 1 s6' (k + 1) ((List.range k).map mv ++ [l])) (hp : Kp (ownB s6) X X') (ho : ownB s6' = ownB s6 ∨ ownB s6' = [X.heap.size]) :
    P2 e e' size c G off V N v len F w0 (k + 1) (k + 1) s5 s6' ov (updV mv k l) X' := by
  have hne := h.p.bg.ne
  have hsz := h.p.bg.kp.size
  have ke : ∀ {u : Value} {n : Nat} {ys : List Value}, Row X e size u n ys → Row X' e size u n ys := fun hu => hu.kp hp (fun b hb hb' => row_ne hu h.p.r6 hne b hb hb')
  refine ⟨h.p.bg.fresh hp h.p.f6, h.p.r5.kp hp (fun b hb hb' => h.p.d56 b hb hb'), by rw [range_updV]; exact hr, h.p.f5, ?_, ?_, fun i hi => ⟨ke (h.p.o5 i hi).1, (h.p.o5 i hi).2⟩, fun i hi => ?_⟩
  · intro b hb
    rcases ho with e1 | e1 <;> rw [e1] at hb
    · exact h.p.f6 b hb
    · simp at hb; subst hb; exact hsz
  · intro b hb
    rcases ho with e1 | e1 <;> rw [e1]
    · exact h.p.d56 b hb
    · intro hb'; have := h.p.r5.lt b hb; simp at hb'; omega
  · unfold updV
    by_cases hik : i = k
    · subst hik; rw [if_pos rfl]; exact ⟨ke h.rl, h.bl⟩
    · rw [if_neg hik]; exact ⟨ke (h.p.o6 i (by omega)).1, (h.p.o6 i (by omega)).2⟩
end
end Go.Proofs.Ytogbanlfihabpaa
