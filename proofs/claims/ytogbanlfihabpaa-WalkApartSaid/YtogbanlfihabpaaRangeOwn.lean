/-
  'for x := range f' over an iterator that keeps memory of its own: the iterator's contract names the blocks D that the body lives in (they may grow); all else it may lay and turn.
-/
import Derived.Test.YtogbanlfihabpaaRange
import Derived.Test.YtogbanlfihabpaaMaps
import Derived.RangeFuncBox
namespace Go.Proofs.Ytogbanlfihabpaa
open Go.RowKit
set_option linter.unusedVariables false

/-- D' is of D, or new since W. -/
def Gr (D : List Nat) (W : World) (D' : List Nat) : Prop := ∀ b ∈ D', b ∈ D ∨ W.heap.size ≤ b
theorem Gr.refl (D : List Nat) (W : World) : Gr D W D := fun b h => .inl h
theorem Gr.trans {D D1 D2 : List Nat} {W W1 : World} (h : Gr D W D1) (k : Gr D1 W1 D2) (hz : W.heap.size ≤ W1.heap.size) : Gr D W D2 := fun b hb => (k b hb).elim (fun h1 => h b h1) (fun h1 => .inr (Nat.le_trans hz h1))
theorem Kp.putObj (W : World) (l : Nat) (o : Obj) (hl : l < W.heap.size) : Kp [l] W (W.putObj l o) :=
  Kp.grown (grownBy_putObj' W l o) (fun k hk => by cases hk; simp)
/-- It lives in the blocks D. -/
structure Stab {α : Type} (J : List α → List Nat → World → Prop) : Prop where
  keep : ∀ s D A B, J s D A → (∀ b ∈ D, B.heap[b]? = A.heap[b]?) → A.heap.size ≤ B.heap.size → J s D B
  lt : ∀ s D A, J s D A → ∀ b ∈ D, b < A.heap.size
/-- What a round's body leaves. -/
def ownPostD {α : Type} (I : List α → List Nat → World → Prop) (D : List Nat) (xs : List α) (W : World) : Exit → Act → World → Prop
  | .normal, _, W' => ∃ D', I xs D' W' ∧ Gr D W D' ∧ Kp D W W'
  | _, _, _ => False
/-- The contract of an iterator that gives xs, one by one, reads the blocks Qs and turns the blocks O. -/
def SeqD {α : Type} (n : Nat) (P : Program) (gf : Nat) (lb : Array Value) (encs : α → Array Value) (Qs O : List Nat) (xs : List α) (w : World) : Prop :=
  ∀ (l : Nat) (J : List α → List Nat → World → Prop) (D : List Nat) (W : World), Below w.heap.size w W → Stab J →
    (∀ pre x D W1, pre ++ [x] <+: xs → J pre D W1 → YieldAt Fence.wide (n - 1) P l (encs x) W1 fun e W' => e = .returned (.bool true) ∧ ∃ D', J (pre ++ [x]) D' W' ∧ Gr D W1 D' ∧ Kp D W1 W') →
    J [] D W → (∀ b ∈ D, b ∉ Qs ∧ b ∉ O) →
    CallsIn Fence.wide n P gf (#[.func (.yield l) #[] #[]] ++ lb) W fun e W' => (∃ v, e = .returned v) ∧ ∃ D', J xs D' W' ∧ Gr D W D' ∧ Kp (O ++ D) W W'

theorem rfo {P : Program} {α : Type} {g : Operand} {ps : Array Tmp} {assign body : Code} {Q : Exit → Act → World → Prop} {a : Act} {w : World}
    {gf : Nat} {lb : Array Value} (hg : a.eval g = .func (.func gf) #[] lb) (eg : ∀ args w, (callFunc gf args).run P w = .ok (.enter gf args) w)
    {encs : α → Array Value} {Qs O : List Nat} {xs : List α} (hseq : SeqD 4 P gf lb encs Qs O xs w) (hQ : ∀ b ∈ Qs ++ O, b < w.heap.size) (hps : ∀ x, (encs x).size = ps.size)
    (I : List α → List Nat → World → Prop) (hI : Stab I) (D0 : List Nat) (h0 : I [] D0 w) (hD : ∀ b ∈ D0, b ∉ Qs ∧ b ∉ O) (f : Act → α → Act)
    (hassign : ∀ (l : Nat) (x : α) (W : World) (K : Act → World → Prop), K (f a x) W →
      assign.wpIn (Fence.wide.inRound l) 3 P (Exit.then K (fun _ _ _ => False)) { tmps := (ps.zip (encs x)).foldl (fun t (p, v) => t.setIfInBounds p v) a.tmps, defers := [] } W)
    (hbody : ∀ (l : Nat) (pre : List α) (x : α) (D : List Nat) (W : World), pre ++ [x] <+: xs → I pre D W → w.heap.size ≤ W.heap.size → body.wpIn (Fence.wide.inRound l) 3 P (ownPostD I D (pre ++ [x]) W) (f a x) W)
    (hdone : ∀ (L : Nat) (D : List Nat) (W : World), w.heap.size ≤ L → I xs D W → Gr D0 w D → Kp (O ++ D0) w W → W.heap[L]? = some (.deferred (some [])) → Q .normal { a with defers := { target := .collected L, args := #[] } :: a.defers } W) :
    (Code.rangeFunc g ps assign body).wp P Q a w := by
  refine (wpIn_wide (n := 5)).1 (wpIn_rangeFunc ?_)
  intro fn hfn
  rw [show Fence.wide.round = none from rfl]
  obtain ⟨rec, hrec⟩ : ∃ rec : LoopState → Option Code → Loop, rec = fun st pe => { state := st, pending := pe, fn, tmps := a.tmps, params := ps, assign, body, defers := w.heap.size } := ⟨_, rfl⟩
  obtain ⟨W1, hW1⟩ : ∃ W1, (w.alloc (.deferred (some []))).alloc (.loop (rec .ready none)) = W1 := ⟨_, rfl⟩
  have hL1 : W1.heap[w.heap.size + 1]? = some (.loop (rec .ready none)) := by
    rw [← hW1]; have := World.alloc_heap_new (w.alloc (.deferred (some []))) (.loop (rec .ready none)); rwa [World.size_alloc] at this
  have hK1 : W1.heap[w.heap.size]? = some (.deferred (some [])) := by
    rw [← hW1]; exact (Below.heap_alloc _ _ _ (by simp)).trans (World.alloc_heap_new w _)
  have hb1 : Below w.heap.size w W1 := by
    rw [← hW1]; exact ((Below.refl _ w).alloc (Nat.le_refl _) _).alloc (by simp) _
  have hD0 := hI.lt _ _ _ h0
  have hI1 : I [] D0 W1 := hI.keep _ _ _ _ h0 (fun b hb => hb1.block b (hD0 b hb)) hb1.size
  have hz1 : W1.heap.size = w.heap.size + 2 := by rw [← hW1]; simp
  refine ⟨w.heap.size + 1, [{ target := .collected w.heap.size, args := #[] }], W1, { target := .fn (.func gf) lb, args := #[.func (.yield (w.heap.size + 1)) #[] #[]] }, W1, gf,
    #[.func (.yield (w.heap.size + 1)) #[] #[]] ++ lb, W1, ?_, ?_, ?_, ?_, fun _ => by omega, ?_⟩
  · rw [← hW1, hrec]; exact run_enterLoop_outer _ _ _ _ _
  · simp only [resolve, hg]
    simp [go_sem]
  · intro f' hf'; trivial
  · simp [invoke, go_sem, eg]
  · refine (hseq (w.heap.size + 1)
      (fun pre D W => ∃ D1, D = (w.heap.size + 1) :: w.heap.size :: D1 ∧ (∀ b ∈ D1, b ≠ w.heap.size ∧ b ≠ w.heap.size + 1) ∧ w.heap.size + 2 ≤ W.heap.size ∧ I pre D1 W ∧ W.heap[w.heap.size + 1]? = some (.loop (rec .ready none)) ∧ W.heap[w.heap.size]? = some (.deferred (some [])))
      ((w.heap.size + 1) :: w.heap.size :: D0) W1 hb1 ⟨?_, ?_⟩ ?_ ⟨D0, rfl, fun b hb => by have := hD0 b hb; omega, by omega, hI1, hL1, hK1⟩ ?_).mono ?_
    · rintro s D A B ⟨D1, rfl, h1, h2, h3, h4, h5⟩ hk hz
      exact ⟨D1, rfl, h1, Nat.le_trans h2 hz, hI.keep _ _ _ _ h3 (fun b hb => hk b (by simp [hb])) hz, (hk _ (by simp)).trans h4, (hk _ (by simp)).trans h5⟩
    · rintro s D A ⟨D1, rfl, h1, h2, h3, h4, h5⟩ b hb
      simp only [List.mem_cons] at hb
      rcases hb with rfl | rfl | hb
      · omega
      · omega
      · exact hI.lt _ _ _ h3 b hb
    · rintro pre x D W0 hpre ⟨D1, rfl, hne, hz0, hi, hl, hk⟩
      have hlt : w.heap.size + 1 < W0.heap.size := by omega
      have hy := run_yield (P := P) (args := encs x) hl (by rw [hrec]; exact hps x)
      rw [hrec] at hy
      refine ⟨fn, _, assign, body, hy, roundIn_of_wpIn hfn (hassign _ x W0 _ ⟨_, run_beginRound hl (by rw [hrec]), ?_⟩)⟩
      have hl2 : (W0.putObj (w.heap.size + 1) (.loop { rec .ready none with state := .busy })).heap[w.heap.size + 1]? = some (.loop { rec .ready none with state := .busy }) := World.putObj_heap_same hlt
      have hk2 : (W0.putObj (w.heap.size + 1) (.loop { rec .ready none with state := .busy })).heap[w.heap.size]? = some (.deferred (some [])) := (World.putObj_heap_other (by omega)).trans hk
      have kp2 := Kp.putObj W0 (w.heap.size + 1) (.loop { rec .ready none with state := .busy }) hlt
      have hz2 : (W0.putObj (w.heap.size + 1) (.loop { rec .ready none with state := .busy })).heap.size = W0.heap.size := by simp
      have hi2 := hI.keep _ _ _ (W0.putObj (w.heap.size + 1) (.loop { rec .ready none with state := .busy })) hi (fun b hb => World.putObj_heap_other (fun e => (hne b hb).2 e)) (by rw [hz2]; exact Nat.le_refl _)
      generalize hW2 : W0.putObj (w.heap.size + 1) (.loop { rec .ready none with state := .busy }) = W2 at hl2 hk2 kp2 hz2 hi2
      refine wpIn_mono (hbody _ pre x D1 W2 hpre hi2 (by omega)) ?_
      rintro e a3 W3 hp
      cases e with
      | normal =>
        obtain ⟨D', hI3, hG3, hk3⟩ := hp
        have hz3 := hk3.size
        have hl3 : W3.heap[w.heap.size + 1]? = some (.loop { rec .ready none with state := .busy }) := (hk3.block _ (by omega) (fun hm => (hne _ hm).2 rfl)).trans hl2
        have hd3 : W3.heap[w.heap.size]? = some (.deferred (some [])) := (hk3.block _ (by omega) (fun hm => (hne _ hm).1 rfl)).trans hk2
        have hr := run_endRound (P := P) none hl3
        rw [hrec] at hr
        have hlt3 : w.heap.size + 1 < W3.heap.size := by omega
        have kp4 := Kp.putObj W3 (w.heap.size + 1) (.loop (rec .ready none)) hlt3
        have hne3 : ∀ b ∈ D', b ≠ w.heap.size ∧ b ≠ w.heap.size + 1 := fun b hb => by
          rcases hG3 b hb with h1 | h1
          · exact hne b h1
          · omega
        refine ⟨_, W3.putObj (w.heap.size + 1) (.loop (rec .ready none)), by rw [hrec]; exact hr, rfl, (w.heap.size + 1) :: w.heap.size :: D', ⟨D', rfl, hne3, by simp; omega, hI.keep _ _ _ _ hI3 (fun b hb => World.putObj_heap_other (fun e => (hne3 b hb).2 e)) (by simp), World.putObj_heap_same hlt3, (World.putObj_heap_other (by omega)).trans hd3⟩, ?_, ?_⟩
        · intro b hb
          simp only [List.mem_cons] at hb ⊢
          rcases hb with rfl | rfl | hb
          · exact .inl (.inl rfl)
          · exact .inl (.inr (.inl rfl))
          · rcases hG3 b hb with h1 | h1
            · exact .inl (.inr (.inr h1))
            · right; omega
        · refine ((kp2.mono (by simp)).trans hk3 (fun b hb => .inl (by simp [hb]))).trans kp4 (fun b hb => .inl (by simp at hb; simp [hb]))
      | ret => exact hp.elim
      | exit id => exact hp.elim
      | goto t => exact hp.elim
      | panic ch => exact hp.elim
      | outgrown => exact hp.elim
    · intro b hb
      simp only [List.mem_cons] at hb
      rcases hb with rfl | rfl | hb
      · exact ⟨fun hm => by have := hQ _ (List.mem_append_left _ hm); omega, fun hm => by have := hQ _ (List.mem_append_right _ hm); omega⟩
      · exact ⟨fun hm => by have := hQ _ (List.mem_append_left _ hm); omega, fun hm => by have := hQ _ (List.mem_append_right _ hm); omega⟩
      · exact hD b hb
    · rintro e W2 ⟨⟨v, rfl⟩, D', ⟨D1, rfl, hne, hz, hi, hl, hk⟩, hG, hkp⟩
      have hlt : w.heap.size + 1 < W2.heap.size := by omega
      have hr := run_endLoop (P := P) hl (by rw [hrec]; simp)
      rw [hrec] at hr
      have kp4 := Kp.putObj W2 (w.heap.size + 1) (.loop { (rec .ready none) with state := .exhausted }) hlt
      refine ⟨none, _, hr, hdone _ D1 _ (Nat.le_refl _) (hI.keep _ _ _ _ hi (fun b hb => World.putObj_heap_other (fun e => (hne b hb).2 e)) (by simp)) (fun b hb => ?_) ?_ ((World.putObj_heap_other (by omega)).trans hk)⟩
      · rcases hG b (by simp [hb]) with h1 | h1
        · simp only [List.mem_cons] at h1
          rcases h1 with h1 | h1 | h1
          · exact absurd h1 (hne b hb).2
          · exact absurd h1 (hne b hb).1
          · exact .inl h1
        · right; omega
      · have k1 : Kp (O ++ D0) w W1 := (Kp.of_below hb1)
        refine (k1.trans hkp (fun b hb => ?_)).trans (Kp.putObj W2 (w.heap.size + 1) _ hlt) (fun b hb => by simp at hb; right; omega)
        rcases List.mem_append.1 hb with hb | hb
        · exact .inl (List.mem_append_left _ hb)
        · simp only [List.mem_cons] at hb
          rcases hb with rfl | rfl | hb
          · right; omega
          · right; omega
          · exact .inl (List.mem_append_right _ hb)
end Go.Proofs.Ytogbanlfihabpaa
