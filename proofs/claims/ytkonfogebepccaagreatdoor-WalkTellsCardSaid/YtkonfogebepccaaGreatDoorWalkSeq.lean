/-
  A net that is looked at by package walk, in memory; what the walk over its cells keeps.
-/
import Derived.Test.YtkonfogebepccaaGreatDoorNetIs
import Derived.Test.YtkonfogebepccaaGreatDoorOwn
import Derived.RangeFuncBox
import Derived.Test.YtkonfogebepccaaGreatDoorRef03A
import Derived.Deep.AppendSrc
import Derived.Test.YtkonfogebepccaaGreatDoorRWalk
import Derived.Test.YtkonfogebepccaaGreatDoorNetIs
import Derived.Test.YtkonfogebepccaaGreatDoorSamePlain
/-
  'for x := range f' over an iterator that keeps memory of its own: the iterator's contract names the blocks D that the body lives in (they may grow); all else it may lay and turn.
-/
namespace Go.Proofs.YtkonfogebepccaaGreatDoor
open Go.RowKit
set_option linter.unusedVariables false

/-- D' is of D, or new since W. -/
def Gr (D : List Nat) (W : World) (D' : List Nat) : Prop := ∀ b ∈ D', b ∈ D ∨ W.heap.size ≤ b
theorem Gr.refl (D : List Nat) (W : World) : Gr D W D := fun b h => .inl h
theorem Gr.trans {D D1 D2 : List Nat} {W W1 : World} (h : Gr D W D1) (k : Gr D1 W1 D2) (hz : W.heap.size ≤ W1.heap.size) : Gr D W D2 := fun b hb => (k b hb).elim (fun h1 => h b h1) (fun h1 => .inr (Nat.le_trans hz h1))
theorem Kp.putObj (W : World) (l : Nat) (o : Obj) (hl : l < W.heap.size) : Kp [l] W (W.putObj l o) :=
  Kp.grown (grownBy_putObj' W l o) (fun k hk => by cases hk; simp)
/-- It lives in the blocks D. -/
structure Stab {α : Type} (J : List α → List Nat → World → Prop) : Prop where
  keep : ∀ s D A B, J s D A → (∀ b ∈ D, B.heap[b]? = A.heap[b]?) → A.heap.size ≤ B.heap.size → J s D B
  lt : ∀ s D A, J s D A → ∀ b ∈ D, b < A.heap.size
/-- What a round's body leaves. -/
def ownPostD {α : Type} (I : List α → List Nat → World → Prop) (D : List Nat) (xs : List α) (W : World) : Exit → Act → World → Prop
  | .normal, _, W' => ∃ D', I xs D' W' ∧ Gr D W D' ∧ Kp D W W'
  | _, _, _ => False
/-- The contract of an iterator that gives xs, one by one, reads the blocks Qs and turns the blocks O. -/
def SeqD {α : Type} (n : Nat) (P : Program) (gf : Nat) (lb : Array Value) (encs : α → Array Value) (Qs O : List Nat) (xs : List α) (w : World) : Prop :=
  ∀ (l : Nat) (J : List α → List Nat → World → Prop) (D : List Nat) (W : World), Below w.heap.size w W → Stab J →
    (∀ pre x D W1, pre ++ [x] <+: xs → J pre D W1 → YieldAt Fence.wide (n - 1) P l (encs x) W1 fun e W' => e = .returned (.bool true) ∧ ∃ D', J (pre ++ [x]) D' W' ∧ Gr D W1 D' ∧ Kp D W1 W') →
    J [] D W → (∀ b ∈ D, b ∉ Qs ∧ b ∉ O) →
    CallsIn Fence.wide n P gf (#[.func (.yield l) #[] #[]] ++ lb) W fun e W' => (∃ v, e = .returned v) ∧ ∃ D', J xs D' W' ∧ Gr D W D' ∧ Kp (O ++ D) W W'

theorem rfo {P : Program} {α : Type} {g : Operand} {ps : Array Tmp} {assign body : Code} {Q : Exit → Act → World → Prop} {a : Act} {w : World}
    {gf : Nat} {lb : Array Value} (hg : a.eval g = .func (.func gf) #[] lb) (eg : ∀ args w, (callFunc gf args).run P w = .ok (.enter gf args) w)
    {encs : α → Array Value} {Qs O : List Nat} {xs : List α} (hseq : SeqD 4 P gf lb encs Qs O xs w) (hQ : ∀ b ∈ Qs ++ O, b < w.heap.size) (hps : ∀ x, (encs x).size = ps.size)
    (I : List α → List Nat → World → Prop) (hI : Stab I) (D0 : List Nat) (h0 : I [] D0 w) (hD : ∀ b ∈ D0, b ∉ Qs ∧ b ∉ O) (f : Act → α → Act)
    (hassign : ∀ (l : Nat) (x : α) (W : World) (K : Act → World → Prop), K (f a x) W →
      assign.wpIn (Fence.wide.inRound l) 3 P (Exit.then K (fun _ _ _ => False)) { tmps := (ps.zip (encs x)).foldl (fun t (p, v) => t.setIfInBounds p v) a.tmps, defers := [] } W)
    (hbody : ∀ (l : Nat) (pre : List α) (x : α) (D : List Nat) (W : World), pre ++ [x] <+: xs → I pre D W → w.heap.size ≤ W.heap.size → body.wpIn (Fence.wide.inRound l) 3 P (ownPostD I D (pre ++ [x]) W) (f a x) W)
    (hdone : ∀ (L : Nat) (D : List Nat) (W : World), w.heap.size ≤ L → I xs D W → Gr D0 w D → Kp (O ++ D0) w W → W.heap[L]? = some (.deferred (some [])) → Q .normal { a with defers := { target := .collected L, args := #[] } :: a.defers } W) :
    (Code.rangeFunc g ps assign body).wp P Q a w := by
  refine (wpIn_wide (n := 5)).1 (wpIn_rangeFunc ?_)
  intro fn hfn
  rw [show Fence.wide.round = none from rfl]
  obtain ⟨rec, hrec⟩ : ∃ rec : LoopState → Option Code → Loop, rec = fun st pe => { state := st, pending := pe, fn, tmps := a.tmps, params := ps, assign, body, defers := w.heap.size } := ⟨_, rfl⟩
  obtain ⟨W1, hW1⟩ : ∃ W1, (w.alloc (.deferred (some []))).alloc (.loop (rec .ready none)) = W1 := ⟨_, rfl⟩
  have hL1 : W1.heap[w.heap.size + 1]? = some (.loop (rec .ready none)) := by
    rw [← hW1]; have := World.alloc_heap_new (w.alloc (.deferred (some []))) (.loop (rec .ready none)); rwa [World.size_alloc] at this
  have hK1 : W1.heap[w.heap.size]? = some (.deferred (some [])) := by
    rw [← hW1]; exact (Below.heap_alloc _ _ _ (by simp)).trans (World.alloc_heap_new w _)
  have hb1 : Below w.heap.size w W1 := by
    rw [← hW1]; exact ((Below.refl _ w).alloc (Nat.le_refl _) _).alloc (by simp) _
  have hD0 := hI.lt _ _ _ h0
  have hI1 : I [] D0 W1 := hI.keep _ _ _ _ h0 (fun b hb => hb1.block b (hD0 b hb)) hb1.size
  have hz1 : W1.heap.size = w.heap.size + 2 := by rw [← hW1]; simp
  refine ⟨w.heap.size + 1, [{ target := .collected w.heap.size, args := #[] }], W1, { target := .fn (.func gf) lb, args := #[.func (.yield (w.heap.size + 1)) #[] #[]] }, W1, gf,
    #[.func (.yield (w.heap.size + 1)) #[] #[]] ++ lb, W1, ?_, ?_, ?_, ?_, fun _ => by omega, ?_⟩
  · rw [← hW1, hrec]; exact run_enterLoop_outer _ _ _ _ _
  · simp only [resolve, hg]
    simp [go_sem]
  · intro f' hf'; trivial
  · simp [invoke, go_sem, eg]
  · refine (hseq (w.heap.size + 1)
      (fun pre D W => ∃ D1, D = (w.heap.size + 1) :: w.heap.size :: D1 ∧ (∀ b ∈ D1, b ≠ w.heap.size ∧ b ≠ w.heap.size + 1) ∧ w.heap.size + 2 ≤ W.heap.size ∧ I pre D1 W ∧ W.heap[w.heap.size + 1]? = some (.loop (rec .ready none)) ∧ W.heap[w.heap.size]? = some (.deferred (some [])))
      ((w.heap.size + 1) :: w.heap.size :: D0) W1 hb1 ⟨?_, ?_⟩ ?_ ⟨D0, rfl, fun b hb => by have := hD0 b hb; omega, by omega, hI1, hL1, hK1⟩ ?_).mono ?_
    · rintro s D A B ⟨D1, rfl, h1, h2, h3, h4, h5⟩ hk hz
      exact ⟨D1, rfl, h1, Nat.le_trans h2 hz, hI.keep _ _ _ _ h3 (fun b hb => hk b (by simp [hb])) hz, (hk _ (by simp)).trans h4, (hk _ (by simp)).trans h5⟩
    · rintro s D A ⟨D1, rfl, h1, h2, h3, h4, h5⟩ b hb
      simp only [List.mem_cons] at hb
      rcases hb with rfl | rfl | hb
      · omega
      · omega
      · exact hI.lt _ _ _ h3 b hb
    · rintro pre x D W0 hpre ⟨D1, rfl, hne, hz0, hi, hl, hk⟩
      have hlt : w.heap.size + 1 < W0.heap.size := by omega
      have hy := run_yield (P := P) (args := encs x) hl (by rw [hrec]; exact hps x)
      rw [hrec] at hy
      refine ⟨fn, _, assign, body, hy, roundIn_of_wpIn hfn (hassign _ x W0 _ ⟨_, run_beginRound hl (by rw [hrec]), ?_⟩)⟩
      have hl2 : (W0.putObj (w.heap.size + 1) (.loop { rec .ready none with state := .busy })).heap[w.heap.size + 1]? = some (.loop { rec .ready none with state := .busy }) := World.putObj_heap_same hlt
      have hk2 : (W0.putObj (w.heap.size + 1) (.loop { rec .ready none with state := .busy })).heap[w.heap.size]? = some (.deferred (some [])) := (World.putObj_heap_other (by omega)).trans hk
      have kp2 := Kp.putObj W0 (w.heap.size + 1) (.loop { rec .ready none with state := .busy }) hlt
      have hz2 : (W0.putObj (w.heap.size + 1) (.loop { rec .ready none with state := .busy })).heap.size = W0.heap.size := by simp
      have hi2 := hI.keep _ _ _ (W0.putObj (w.heap.size + 1) (.loop { rec .ready none with state := .busy })) hi (fun b hb => World.putObj_heap_other (fun e => (hne b hb).2 e)) (by rw [hz2]; exact Nat.le_refl _)
      generalize hW2 : W0.putObj (w.heap.size + 1) (.loop { rec .ready none with state := .busy }) = W2 at hl2 hk2 kp2 hz2 hi2
      refine wpIn_mono (hbody _ pre x D1 W2 hpre hi2 (by omega)) ?_
      rintro e a3 W3 hp
      cases e with
      | normal =>
        obtain ⟨D', hI3, hG3, hk3⟩ := hp
        have hz3 := hk3.size
        have hl3 : W3.heap[w.heap.size + 1]? = some (.loop { rec .ready none with state := .busy }) := (hk3.block _ (by omega) (fun hm => (hne _ hm).2 rfl)).trans hl2
        have hd3 : W3.heap[w.heap.size]? = some (.deferred (some [])) := (hk3.block _ (by omega) (fun hm => (hne _ hm).1 rfl)).trans hk2
        have hr := run_endRound (P := P) none hl3
        rw [hrec] at hr
        have hlt3 : w.heap.size + 1 < W3.heap.size := by omega
        have kp4 := Kp.putObj W3 (w.heap.size + 1) (.loop (rec .ready none)) hlt3
        have hne3 : ∀ b ∈ D', b ≠ w.heap.size ∧ b ≠ w.heap.size + 1 := fun b hb => by
          rcases hG3 b hb with h1 | h1
          · exact hne b h1
          · omega
        refine ⟨_, W3.putObj (w.heap.size + 1) (.loop (rec .ready none)), by rw [hrec]; exact hr, rfl, (w.heap.size + 1) :: w.heap.size :: D', ⟨D', rfl, hne3, by simp; omega, hI.keep _ _ _ _ hI3 (fun b hb => World.putObj_heap_other (fun e => (hne3 b hb).2 e)) (by simp), World.putObj_heap_same hlt3, (World.putObj_heap_other (by omega)).trans hd3⟩, ?_, ?_⟩
        · intro b hb
          simp only [List.mem_cons] at hb ⊢
          rcases hb with rfl | rfl | hb
          · exact .inl (.inl rfl)
          · exact .inl (.inr (.inl rfl))
          · rcases hG3 b hb with h1 | h1
            · exact .inl (.inr (.inr h1))
            · right; omega
        · refine ((kp2.mono (by simp)).trans hk3 (fun b hb => .inl (by simp [hb]))).trans kp4 (fun b hb => .inl (by simp at hb; simp [hb]))
      | ret => exact hp.elim
      | exit id => exact hp.elim
      | goto t => exact hp.elim
      | panic ch => exact hp.elim
      | outgrown => exact hp.elim
    · intro b hb
      simp only [List.mem_cons] at hb
      rcases hb with rfl | rfl | hb
      · exact ⟨fun hm => by have := hQ _ (List.mem_append_left _ hm); omega, fun hm => by have := hQ _ (List.mem_append_right _ hm); omega⟩
      · exact ⟨fun hm => by have := hQ _ (List.mem_append_left _ hm); omega, fun hm => by have := hQ _ (List.mem_append_right _ hm); omega⟩
      · exact hD b hb
    · rintro e W2 ⟨⟨v, rfl⟩, D', ⟨D1, rfl, hne, hz, hi, hl, hk⟩, hG, hkp⟩
      have hlt : w.heap.size + 1 < W2.heap.size := by omega
      have hr := run_endLoop (P := P) hl (by rw [hrec]; simp)
      rw [hrec] at hr
      have kp4 := Kp.putObj W2 (w.heap.size + 1) (.loop { (rec .ready none) with state := .exhausted }) hlt
      refine ⟨none, _, hr, hdone _ D1 _ (Nat.le_refl _) (hI.keep _ _ _ _ hi (fun b hb => World.putObj_heap_other (fun e => (hne b hb).2 e)) (by simp)) (fun b hb => ?_) ?_ ((World.putObj_heap_other (by omega)).trans hk)⟩
      · rcases hG b (by simp [hb]) with h1 | h1
        · simp only [List.mem_cons] at h1
          rcases h1 with h1 | h1 | h1
          · exact absurd h1 (hne b hb).2
          · exact absurd h1 (hne b hb).1
          · exact .inl h1
        · right; omega
      · have k1 : Kp (O ++ D0) w W1 := (Kp.of_below hb1)
        refine (k1.trans hkp (fun b hb => ?_)).trans (Kp.putObj W2 (w.heap.size + 1) _ hlt) (fun b hb => by simp at hb; right; omega)
        rcases List.mem_append.1 hb with hb | hb
        · exact .inl (List.mem_append_left _ hb)
        · simp only [List.mem_cons] at hb
          rcases hb with rfl | rfl | hb
          · right; omega
          · right; omega
          · exact .inl (List.mem_append_right _ hb)
end Go.Proofs.YtkonfogebepccaaGreatDoor
/-
  A queue of ints: a slice anywhere in a block; append at its end, cut at its head.
-/
namespace Go.Proofs.YtkonfogebepccaaGreatDoor
open Go.RowKit
set_option maxRecDepth 100000
set_option linter.unusedVariables false

def WinI (w : World) (e : TypeId) (v : Value) (Q : List Int) : Prop :=
  ∃ g off cap cur, v = .slice (some ⟨g, off, none⟩) Q.length cap ∧ w.heap[g]? = some (.cells cur e (0, 0)) ∧ Q.length ≤ cap ∧ cap ≤ maxLen ∧ off + cap ≤ cur.size ∧
    ∀ j, j < Q.length → cur[off + j]? = some (.int .i64 (Q.getD j 0))
section
variable {w w' : World} {e : TypeId} {v : Value} {Q : List Int}
theorem WinI.lt (h : WinI w e v Q) : ∀ b ∈ ownB v, b < w.heap.size := by
  obtain ⟨g, off, cap, cur, rfl, hh, _⟩ := h
  intro b hb; simp [ownB] at hb; subst hb; exact heap_lt hh
theorem WinI.keep (h : WinI w e v Q) (hk : ∀ b ∈ ownB v, w'.heap[b]? = w.heap[b]?) : WinI w' e v Q := by
  obtain ⟨g, off, cap, cur, rfl, hh, r⟩ := h
  exact ⟨g, off, cap, cur, rfl, (hk g (by simp [ownB])).trans hh, r⟩
theorem WinI.below (h : WinI w e v Q) (hb : Below w.heap.size w w') : WinI w' e v Q := h.keep fun b hm => hb.block b (h.lt b hm)
theorem WinI.type (h : WinI w e v Q) : ∀ b ∈ ownB v, ∃ cur, w.heap[b]? = some (.cells cur e (0, 0)) := by
  obtain ⟨g, off, cap, cur, rfl, hh, _⟩ := h
  intro b hb; simp [ownB] at hb; subst hb; exact ⟨cur, hh⟩
theorem WinI.form (h : WinI w e v Q) : ∃ A cap, v = .slice A Q.length cap ∧ Q.length ≤ cap := by
  obtain ⟨g, off, cap, cur, rfl, _, hn, _⟩ := h
  exact ⟨_, cap, rfl, hn⟩
theorem WinI.one {g : Nat} {x : Int} (h : w.heap[g]? = some (.cells #[.int .i64 x] e (0, 0))) : WinI w e (.slice (some ⟨g, 0, none⟩) 1 1) [x] :=
  ⟨g, 0, 1, _, rfl, h, by simp, by unfold maxLen; omega, by simp, fun j hj => by
    have : j = 0 := by simpa using hj
    subst this; simp⟩
/-- The first of them; the others. -/
theorem WinI.head {p : Int} (h : WinI w e v (p :: Q)) : ∃ g off cap, v = .slice (some ⟨g, off, none⟩) (Q.length + 1) cap ∧ Q.length + 1 ≤ cap ∧ g < w.heap.size ∧ w.cell? ⟨g, off, none⟩ = some (.int .i64 p) ∧
    WinI w e (.slice (some (if cap = 1 then (⟨g, off, none⟩ : Addr) else ⟨g, off + 1, none⟩)) Q.length (cap - 1)) Q := by
  obtain ⟨g, off, cap, cur, rfl, hh, hn, hm, hs, hx⟩ := h
  have h0 := hx 0 (by simp)
  simp only [Nat.add_zero, List.getD_cons_zero] at h0
  simp only [List.length_cons] at hn hx
  refine ⟨g, off, cap, by simp, by simpa using hn, heap_lt hh, by simp [World.cell?, hh, h0], ?_⟩
  by_cases hc : cap = 1
  · subst hc
    have hq : Q = [] := List.eq_nil_of_length_eq_zero (by omega)
    subst hq
    rw [if_pos rfl]
    exact ⟨g, off, 0, cur, rfl, hh, by simp, by omega, by omega, fun j hj => by simp at hj⟩
  · rw [if_neg hc]
    refine ⟨g, off + 1, cap - 1, cur, rfl, hh, by omega, by omega, by omega, fun j hj => ?_⟩
    have := hx (j + 1) (by omega)
    simp only [List.getD_cons_succ] at this
    rw [show off + 1 + j = off + (j + 1) by omega]
    exact this
theorem WinI.push {P : Program} (h : WinI w e v Q) (t ty : TypeId) (i : TypeInfo) (z : Value) (ht : P.underlying t = some (.slice e)) (hi : P.info? e = some i) (hz : i.zero = some z) (hsize : i.size = 1) (hby : i.bytes = 8) (hzs : z.cells.size = 1)
    (A : Addr) (c : Nat) (x : Int) (h0 : w.cell? A = some (.int .i64 x)) (hA : A.add 0 = A) (hl : Q.length ≤ 1000000) :
    ∃ v' w', (Builtin.append_ #[t, t] ty #[v, .slice (some A) 1 c]).run P w = .ok v' w' ∧ WinI w' e v' (Q ++ [x]) ∧ Kp (ownB v) w w' ∧ (ownB v' = ownB v ∨ ownB v' = [w.heap.size]) := by
  have hnews : ∀ j u, ([.int .i64 x] : List Value)[j]? = some u → w.cell? (A.add j) = some u := fun j u hu => by
    match j, hu with
    | 0, hu => rw [hA, h0]; simpa using hu
    | j + 1, hu => simp at hu
  have hone : ∀ u ∈ ([.int .i64 x] : List Value), u.oneCell' = true := fun u hu => by
    simp only [List.mem_cons, List.not_mem_nil, or_false] at hu
    subst hu; rfl
  have hlen2 : ([.int .i64 x] : List Value).length = 1 * i.size := by rw [hsize]; rfl
  have hil : (ivals Q).length = Q.length := by simp [ivals]
  have hia : ∀ j, j < Q.length → (ivals Q)[j]? = some (.int .i64 (Q.getD j 0)) := fun j hj => by simp [ivals, hj]
  have fin : ∀ (old : Nat) (Z : Array Value), Z.size = (grownCap w (Q.length + 1) old e - (Q.length + 1)) →
      WinI (w.drew.alloc (.cells ((ivals Q).toArray ++ ([.int .i64 x] : List Value).toArray ++ Z) e)) e (.slice (some ⟨w.heap.size, 0, none⟩) (Q.length + 1) (grownCap w (Q.length + 1) old e)) (Q ++ [x]) := fun old Z hZ => by
    have hge := grownCap_ge w (Q.length + 1) old e
    refine ⟨w.heap.size, 0, grownCap w (Q.length + 1) old e, _, by simp, heap_alloc_new w.drew _, by simpa using hge, grownCap_le_maxLen w _ _ e (by simp only [maxLen]; omega), ?_, fun j hj => ?_⟩
    · simp only [Array.size_append, List.size_toArray, hil, hZ, List.length_cons, List.length_nil]
      omega
    · have hjl : j < Q.length + 1 := by simpa using hj
      rw [Nat.zero_add]
      by_cases hjq : j < Q.length
      · have e1 : (Q ++ [x]).getD j 0 = Q.getD j 0 := by simp [List.getD_eq_getElem?_getD, List.getElem?_append_left hjq]
        rw [e1, ← hia j hjq, Array.append_assoc, Array.getElem?_append_left (by simp [hil]; omega)]
        simp
      · obtain rfl : j = Q.length := by omega
        have e1 : (Q ++ [x]).getD Q.length 0 = x := by simp
        rw [e1, Array.getElem?_append_left (by simp [hil]), Array.getElem?_append_right (by simp [hil])]
        simp [hil]
  have kpn : ∀ (F : List Nat) (o : Obj), Kp F w (w.drew.alloc o) := fun F o => ((Kp.refl _ w).drew).alloc o
  obtain ⟨g, off, cap, cur, rfl, hg, hn, hm, hs, hx⟩ := h
  by_cases hroom : Q.length + 1 ≤ cap
  · have hsrc : Go.Src P i.size t (.slice (some A) 1 c) 1 [.int .i64 x] w := Go.Src.ofSlice w ht A 1 c _ hlen2 hnews hone
    have hc2 : ∀ j, j < 1 → (w.cell? ⟨g, off + Q.length * i.size + j, none⟩).isSome = true := fun j hj => by
      rw [hsize]
      obtain rfl : j = 0 := by omega
      have : off + Q.length < cur.size := by omega
      simp [World.cell?, hg, this]
    have hr := run_append_room_src (P := P) w t t ty e i ht hi g off Q.length cap (.slice (some A) 1 c) 1 _ hsrc hroom hc2 (fun j hj => by simp [World.frozen?, hg])
    rw [hsize] at hr
    refine ⟨_, _, hr, ⟨g, off, cap, cur.setIfInBounds (off + Q.length) (.int .i64 x), by simp, ?_, by simpa using hroom, hm, by simpa using hs, fun j hj => ?_⟩, ?_, .inl rfl⟩
    · simp [World.setCells, World.setCell, Array.getElem?_modify, hg]
    · have hjl : j < Q.length + 1 := by simpa using hj
      have hb : off + Q.length < cur.size := by omega
      by_cases hjq : j < Q.length
      · have e1 : (Q ++ [x]).getD j 0 = Q.getD j 0 := by simp [List.getD_eq_getElem?_getD, List.getElem?_append_left hjq]
        rw [e1, Array.getElem?_setIfInBounds_ne (by omega)]; exact hx j hjq
      · obtain rfl : j = Q.length := by omega
        have e1 : (Q ++ [x]).getD Q.length 0 = x := by simp
        rw [e1]
        simp [hb]
    · simp only [World.setCells]
      exact (Kp.refl _ w).setCell (p := ⟨g, _, none⟩) (.inl (by simp [ownB])) _
  · have holds : ∀ j u, (ivals Q)[j]? = some u → w.cell? ((⟨g, off, none⟩ : Addr).add j) = some u := fun j u hu => by
      have hjl : j < Q.length := by
        rw [← hil]
        rcases Nat.lt_or_ge j (ivals Q).length with hl | hl
        · exact hl
        · rw [List.getElem?_eq_none hl] at hu; cases hu
      rw [Addr.add_lit]
      obtain rfl := Option.some.inj ((hia j hjl).symm.trans hu)
      simp only [World.cell?, hg]
      exact hx j hjl
    have hr := run_append_grow (P := P) w t ty e i z ht hi hz ⟨g, off, none⟩ Q.length cap (ivals Q) (by rw [hil, hsize, Nat.mul_one]) holds A 1 c [.int .i64 x] hlen2 hnews (by omega) (by omega) (growslice_fits (by omega) (by rw [hby]; omega))
    exact ⟨_, _, hr, fin cap _ (by rw [size_zeroCells, hzs, Nat.mul_one]), kpn _ _, .inr rfl⟩
end
section
variable {P : Program} {w : World} {o : Oper} {a : Act} {K' : Act → World → Prop} {Q' : Exit → Act → World → Prop}
theorem wpo_winI_push (s x : Operand) (t : TypeId) (ho : o.op = .call { callee := .builtin .append, args := #[s, x], argTypes := #[t, t] }) {e : TypeId} {v : Value} {Q : List Int} (i : TypeInfo) (z : Value) (ht : P.underlying t = some (.slice e)) (hi : P.info? e = some i) (hz : i.zero = some z)
    (hsize : i.size = 1) (hby : i.bytes = 8) (hzs : z.cells.size = 1) (hs : a.eval s = v) (h : WinI w e v Q) (g : Nat) (c : Nat) (x0 : Int) (hx : a.eval x = .slice (some ⟨g, 0, none⟩) 1 c) {T : TypeId} (hb : w.heap[g]? = some (.cells #[.int .i64 x0] T (0, 0))) (hl : Q.length ≤ 1000000)
    (hk : ∀ v' w', WinI w' e v' (Q ++ [x0]) → Kp (ownB v) w w' → (ownB v' = ownB v ∨ ownB v' = [w.heap.size]) → K' (a.put o.dst v') w') : o.wp P a w K' Q' := by
  obtain ⟨v', w', hr, h2, h3, h4⟩ := h.push (P := P) t o.type i z ht hi hz hsize hby hzs ⟨g, 0, none⟩ c x0 (by simp [World.cell?, hb]) (by rw [Addr.add_lit]) hl
  unfold Oper.wp execOp
  simp only [ho, resolve, invoke, builtin, Sem.run_bind, Sem.run_pure, Result.andThen_ok, List.map_toArray, List.map_cons, List.map_nil, hs, hx, hr]
  exact hk v' w' h2 h3 h4
end
end Go.Proofs.YtkonfogebepccaaGreatDoor
namespace Go.Proofs.YtkonfogebepccaaGreatDoor
open Go.RowKit
set_option maxRecDepth 100000
set_option linter.unusedVariables false

def webQ (P m : Nat) (A VA : Option Addr) (L : List (ByteArray × Int)) (cells : List Int) : List Nat := P :: m :: ((if L.length = 0 then [] else ablk A) ++ ablkL VA cells)
/-- A web at block P, its map at m. -/
structure WebS (X : World) (P m : Nat) (A : Option Addr) (cap : Nat) (L : List (ByteArray × Int)) (VA VB : Option Addr) (ca cb : Nat) (cells : List Int) (f : Nat) (W : List (Pt × Pt)) : Prop where
  blk : X.heap[P]? = some (.cells #[.slice VA cells.length ca, .int .i64 (f : Int), .slice VB W.length cb, .slice A L.length cap, .map (some m)] 82 (0, 0))
  mp : MP encPt X m (fun p => (lnk W p).map encPt)
  c : IntsRd X VA cells
  a : AgRd X A L
section
variable {X Y : World} {P m cap ca cb f : Nat} {A VA VB : Option Addr} {L : List (ByteArray × Int)} {cells : List Int} {W : List (Pt × Pt)}
theorem WebS.lt (h : WebS X P m A cap L VA VB ca cb cells f W) : ∀ b ∈ webQ P m A VA L cells, b < X.heap.size := by
  intro b hb
  simp only [webQ, List.mem_cons, List.mem_append] at hb
  rcases hb with rfl | rfl | hb | hb
  · exact heap_lt h.blk
  · exact h.mp.lt
  · split at hb
    · cases hb
    · obtain ⟨b', off, rfl, hlt, _⟩ := h.a 0 (by omega)
      simp [ablk] at hb; subst hb; exact hlt
  · unfold ablkL at hb
    split at hb
    · cases hb
    · obtain ⟨b', off, rfl, hlt, _⟩ := h.c 0 (by omega)
      simp [ablk] at hb; subst hb; exact hlt
theorem WebS.keep (h : WebS X P m A cap L VA VB ca cb cells f W) (hk : ∀ b ∈ webQ P m A VA L cells, Y.heap[b]? = X.heap[b]?) (hz : X.heap.size ≤ Y.heap.size) : WebS Y P m A cap L VA VB ca cb cells f W := by
  have hkq : KQ (webQ P m A VA L cells) X Y := ⟨hz, hk⟩
  refine ⟨(hk P (by simp [webQ])).trans h.blk, h.mp.keep (hk m (by simp [webQ])), h.c.kq hkq (fun b hb => by simp [webQ, hb]), fun i hi => ?_⟩
  obtain ⟨b, off, rfl, hlt, h0, h1⟩ := h.a i hi
  have hbq : b ∈ webQ P m (some ⟨b, off, none⟩) VA L cells := by
    simp only [webQ, List.mem_cons, List.mem_append]
    right; right; left
    rw [if_neg (by omega)]; simp [ablk]
  exact ⟨b, off, rfl, Nat.lt_of_lt_of_le hlt hz, (hkq.cell (p := ⟨b, off + i * 2, none⟩) hbq).trans h0, (hkq.cell (p := ⟨b, off + i * 2 + 1, none⟩) hbq).trans h1⟩
theorem WebS.below (h : WebS X P m A cap L VA VB ca cb cells f W) (hb : Below X.heap.size X Y) : WebS Y P m A cap L VA VB ca cb cells f W := h.keep (fun b hm => hb.block b (h.lt b hm)) hb.size
theorem WebS.kp {F : List Nat} (h : WebS X P m A cap L VA VB ca cb cells f W) (hk : Kp F X Y) (hF : ∀ b ∈ webQ P m A VA L cells, b ∉ F) : WebS Y P m A cap L VA VB ca cb cells f W := h.keep (fun b hm => hk.block b (h.lt b hm) (hF b hm)) hk.size
theorem WebS.fld (h : WebS X P m A cap L VA VB ca cb cells f W) : X.cell? ⟨P, 0, none⟩ = some (.slice VA cells.length ca) ∧ X.cell? ⟨P, 3, none⟩ = some (.slice A L.length cap) ∧ X.cell? ⟨P, 4, none⟩ = some (.map (some m)) ∧ P < X.heap.size :=
  ⟨by simp [World.cell?, h.blk], by simp [World.cell?, h.blk], by simp [World.cell?, h.blk], heap_lt h.blk⟩
/-- A look-up of a port of the net. -/
theorem WebS.look {pn : Int → Nat} (h : WebS X P m A cap L VA VB ca cb cells f W) (hok : NetOk pn cells f W) {p : Pt} (hp : isPt pn cells f p = true) :
    (Instr.lookup 80 (.map (some m)) (encPt p) false).run Tryz.prog X = .ok (encPt (lkM W p)) X := by
  have := h.mp.lookup kport Tryz.underlying80 zport p false
  simp only [Bool.false_eq_true, if_false] at this
  rw [this]
  obtain ⟨q, hq, _⟩ := hok.lnk hp
  simp [lkM, hq]
end
def encI (x : Int) : Array Value := #[.int .i64 x]

/-- What the iterator keeps: kj were given, kq are cut off the queue, fl are found. -/
structure ItS (J : List Int → List Nat → World → Prop) (W0 : World) (D0 O : List Nat) (b2 P m : Nat) (A : Option Addr) (cap : Nat) (L : List (ByteArray × Int)) (VA VB : Option Addr) (ca cb : Nat) (cells : List Int) (f : Nat) (W : List (Pt × Pt)) (g n : Nat) (D : List Nat) (fl : List Int) (kj kq : Nat) (v : Value) (X : World) : Prop where
  j : J (fl.take kj) D X
  web : WebS X P m A cap L VA VB ca cb cells f W
  bw : X.heap[b2]? = some (.cells #[.pointer (some ⟨P, 0, none⟩)] 76 (0, 0))
  sn : Row X 4 1 (.slice (some ⟨g, 0, none⟩) n n) n (seenB n fl)
  q : WinI X 3 v (fl.drop kq)
  gw : W0.heap.size ≤ g ∧ g ∉ D
  qw : ∀ b ∈ ownB v, W0.heap.size ≤ b ∧ b ∉ D
  ww : ∀ b ∈ b2 :: webQ P m A VA L cells, b < W0.heap.size ∧ b ∉ D
  gr : Gr D0 W0 D
  kp : Kp (O ++ D0) W0 X
section
variable {J : List Int → List Nat → World → Prop} {W0 X Y : World} {D0 O D D' : List Nat} {b2 P m cap ca cb f g n : Nat} {A VA VB : Option Addr} {L : List (ByteArray × Int)} {cells : List Int} {W : List (Pt × Pt)} {fl : List Int} {kj kq : Nat} {v v' : Value}
theorem ItS.yield (h : ItS J W0 D0 O b2 P m A cap L VA VB ca cb cells f W g n D fl kj kq v X) {kj' : Nat} (hJ : J (fl.take kj') D' Y) (hG : Gr D X D') (hK : Kp D X Y) : ItS J W0 D0 O b2 P m A cap L VA VB ca cb cells f W g n D' fl kj' kq v Y := by
  have hz := h.kp.size
  have hgl : g < X.heap.size := h.sn.lt g (by simp [ownB])
  refine ⟨hJ, h.web.kp hK (fun b hb => (h.ww b (by simp [hb])).2), (hK.block b2 (heap_lt h.bw) (h.ww b2 (by simp)).2).trans h.bw, h.sn.kp hK (fun b hb => by simp [ownB] at hb; subst hb; exact h.gw.2), h.q.keep (fun b hb => hK.block b (h.q.lt b hb) (h.qw b hb).2), ⟨h.gw.1, fun hd => ?_⟩, fun b hb => ⟨(h.qw b hb).1, fun hd => ?_⟩, fun b hb => ⟨(h.ww b hb).1, fun hd => ?_⟩, h.gr.trans hG hz, h.kp.trans hK (fun b hb => ?_)⟩
  · rcases hG g hd with h1 | h1
    · exact h.gw.2 h1
    · omega
  · rcases hG b hd with h1 | h1
    · exact (h.qw b hb).2 h1
    · have := h.q.lt b hb; omega
  · rcases hG b hd with h1 | h1
    · exact (h.ww b hb).2 h1
    · have := (h.ww b hb).1; omega
  · rcases h.gr b hb with h1 | h1
    · exact .inl (List.mem_append_right _ h1)
    · exact .inr h1
theorem ItS.alloc (h : ItS J W0 D0 O b2 P m A cap L VA VB ca cb cells f W g n D fl kj kq v X) (hJ : Stab J) (o : Obj) : ItS J W0 D0 O b2 P m A cap L VA VB ca cb cells f W g n D fl kj kq v (X.alloc o) := by
  have hb : Below X.heap.size X (X.alloc o) := (Below.refl _ _).alloc (Nat.le_refl _) o
  exact ⟨hJ.keep _ _ _ _ h.j (fun b hm => hb.block b (hJ.lt _ _ _ h.j b hm)) hb.size, h.web.below hb, (hb.block _ (heap_lt h.bw)).trans h.bw, h.sn.keep (fun b hm => hb.block b (h.sn.lt b hm)), h.q.below hb, h.gw, h.qw, h.ww, h.gr, h.kp.thenBelow hb⟩
theorem ItS.draw (h : ItS J W0 D0 O b2 P m A cap L VA VB ca cb cells f W g n D fl kj kq v X) (hJ : Stab J) (k : Nat) : ItS J W0 D0 O b2 P m A cap L VA VB ca cb cells f W g n D fl kj kq v (X.drewN k) := by
  have hb : Below X.heap.size X (X.drewN k) := below_drewN (Below.refl _ _) _
  exact ⟨hJ.keep _ _ _ _ h.j (fun b hm => hb.block b (hJ.lt _ _ _ h.j b hm)) hb.size, h.web.below hb, (hb.block _ (heap_lt h.bw)).trans h.bw, h.sn.keep (fun b hm => hb.block b (h.sn.lt b hm)), h.q.below hb, h.gw, h.qw, h.ww, h.gr, h.kp.thenBelow hb⟩
theorem ItS.gq (h : ItS J W0 D0 O b2 P m A cap L VA VB ca cb cells f W g n D fl kj kq v X) : g ∉ ownB v := fun hb => by
  obtain ⟨c, h1⟩ := h.q.type g hb
  obtain ⟨c2, h2⟩ := row_block h.sn g (by simp [ownB])
  exact ty_no2 h1 h2 (by decide)
theorem ItS.push (h : ItS J W0 D0 O b2 P m A cap L VA VB ca cb cells f W g n D fl kj kq v X) (hJ : Stab J) {d : Nat} {o : Obj} {Y : World} (hkj : kj ≤ fl.length) (hkq : kq ≤ fl.length)
    (r : WinI Y 3 v' (fl.drop kq ++ [(d : Int)])) (k : Kp (ownB v) ((X.setCell ⟨g, d, none⟩ (.bool true)).alloc o) Y) (ho : ownB v' = ownB v ∨ ownB v' = [((X.setCell ⟨g, d, none⟩ (.bool true)).alloc o).heap.size]) :
    ItS J W0 D0 O b2 P m A cap L VA VB ca cb cells f W g n D (fl ++ [(d : Int)]) kj kq v' Y := by
  have hz := h.kp.size
  have hgl : g < X.heap.size := h.sn.lt g (by simp [ownB])
  have hk : Kp (g :: ownB v) X Y := ((((Kp.refl [g] X).setCell (p := ⟨g, d, none⟩) (.inl (by simp)) (.bool true)).alloc o).mono (by simp)).trans k (fun b hb => .inl (by simp [hb]))
  have hDF : ∀ b ∈ D, b ∉ g :: ownB v := fun b hb hm => by
    rcases List.mem_cons.1 hm with rfl | hm
    · exact h.gw.2 hb
    · exact (h.qw b hm).2 hb
  have hWF : ∀ b ∈ b2 :: webQ P m A VA L cells, b ∉ g :: ownB v := fun b hb hm => by
    have := (h.ww b hb).1
    rcases List.mem_cons.1 hm with rfl | hm
    · have := h.gw.1; omega
    · have := (h.qw b hm).1; omega
  have hsz : ((X.setCell ⟨g, d, none⟩ (.bool true)).alloc o).heap.size = X.heap.size + 1 := by simp
  refine ⟨?_, h.web.kp hk (fun b hb => hWF b (by simp [hb])), (hk.block b2 (heap_lt h.bw) (hWF b2 (by simp))).trans h.bw, ?_, ?_, h.gw, fun b hb => ?_, h.ww, h.gr, h.kp.trans hk (fun b hb => ?_)⟩
  · rw [List.take_append_of_le_length hkj]
    exact hJ.keep _ _ _ _ h.j (fun b hb => hk.block b (hJ.lt _ _ _ h.j b hb) (hDF b hb)) hk.size
  · rw [seenB_snoc]
    have h1 := (h.sn.set d (.bool true)).alloc o
    exact h1.kp k (fun b hb => by simp [ownB] at hb; subst hb; exact h.gq)
  · rw [List.drop_append_of_le_length hkq]; exact r
  · rcases ho with e | e <;> rw [e] at hb
    · exact h.qw b hb
    · rw [hsz] at hb; simp at hb; subst hb
      exact ⟨by omega, fun hd => by have := hJ.lt _ _ _ h.j _ hd; omega⟩
  · right
    rcases List.mem_cons.1 hb with rfl | hb
    · exact h.gw.1
    · exact (h.qw b hb).1
theorem ItS.cut (h : ItS J W0 D0 O b2 P m A cap L VA VB ca cb cells f W g n D fl kj kq v X) {kq' : Nat} (hq : WinI X 3 v' (fl.drop kq')) (ho : ownB v' = ownB v) : ItS J W0 D0 O b2 P m A cap L VA VB ca cb cells f W g n D fl kj kq' v' X :=
  ⟨h.j, h.web, h.bw, h.sn, hq, h.gw, by rw [ho]; exact h.qw, h.ww, h.gr, h.kp⟩
theorem ItS.seen (h : ItS J W0 D0 O b2 P m A cap L VA VB ca cb cells f W g n D fl kj kq v X) {c : Nat} (hc : c < n) : g < X.heap.size ∧ X.cell? ⟨g, c, none⟩ = some (.bool (decide ((c : Int) ∈ fl))) ∧ X.frozen? ⟨g, c, none⟩ = false :=
  ⟨h.sn.lt g (by simp [ownB]), (h.sn.cellAt c (by omega)).trans (seenB_at fl hc), h.sn.frozenAt c⟩
theorem ItS.bwc (h : ItS J W0 D0 O b2 P m A cap L VA VB ca cb cells f W g n D fl kj kq v X) : X.cell? ⟨b2, 0, none⟩ = some (.pointer (some ⟨P, 0, none⟩)) ∧ b2 < X.heap.size := ⟨by simp [World.cell?, h.bw], heap_lt h.bw⟩
end
end Go.Proofs.YtkonfogebepccaaGreatDoor
