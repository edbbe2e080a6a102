/-
  Contract of net.Check$1: is it a port?
-/
import Derived.RangeFuncWrites
import Derived.RangeFuncBox
import Derived.RangeFuncLeaves
import Derived.RangeFuncCalls
import Derived.Test.YtkonfogebepccaaGreatDoorOwn
import Derived.Test.YtkonfogebepccaaGreatDoorRef03K
import Derived.Shelf.Abstract
import Derived.OwnWalkIn
import Derived.TacticsInMore
import Derived.LoopNIn
import Derived.LoopIn
import Derived.Test.YtkonfogebepccaaGreatDoorEqN
/-
  'for x := range f' where each round lays a box for its variable: the law of XRange, the assignment laying one block.
-/
/-
  'for x := range f': the kit's law over an iterator that stops, without fences, the frame of a round told by a function of the frame at the loop.
-/
namespace Go.Proofs.YtkonfogebepccaaGreatDoor
open Go.RowKit

/-- What an iterator over a slice wants kept: the blocks Q. -/
structure KQ (Q : List Nat) (W W' : World) : Prop where
  size : W.heap.size ≤ W'.heap.size
  same : ∀ b ∈ Q, W'.heap[b]? = W.heap[b]?
theorem KQ.refl (Q : List Nat) (A : World) : KQ Q A A := ⟨Nat.le_refl _, fun _ _ => rfl⟩
theorem KQ.trans {Q : List Nat} {A B C : World} (h : KQ Q A B) (k : KQ Q B C) : KQ Q A C := ⟨Nat.le_trans h.size k.size, fun b hb => (k.same b hb).trans (h.same b hb)⟩
theorem KQ.sub {Q R : List Nat} {A B : World} (h : KQ Q A B) (hR : ∀ b ∈ R, b ∈ Q) : KQ R A B := ⟨h.size, fun b hb => h.same b (hR b hb)⟩
theorem KQ.setCell {Q : List Nat} {A B : World} (h : KQ Q A B) {p : Addr} (hp : p.block ∉ Q) (u : Value) : KQ Q A (B.setCell p u) :=
  ⟨by simpa using h.size, fun b hb => (Below.heap_setCell B p u b (fun e => hp (e ▸ hb))).trans (h.same b hb)⟩
theorem KQ.book {Q : List Nat} {n0 : Nat} (hQ : ∀ b ∈ Q, b < n0) (W : World) (l : Nat) (o o' : Obj) (hl : n0 ≤ l) (_ : W.heap[l]? = some o) (_ : o.isCells = false) (_ : o.isWalk = false) : KQ Q W (W.putObj l o') :=
  ⟨by simp, fun b hb => World.putObj_heap_other (fun e => by have := hQ b hb; omega)⟩
theorem KQ.cell {Q : List Nat} {w w' : World} (h : KQ Q w w') {p : Addr} (hp : p.block ∈ Q) : w'.cell? p = w.cell? p := World.cell?_of_block (h.same _ hp)
theorem KQ.frozen {Q : List Nat} {w w' : World} (h : KQ Q w w') {p : Addr} (hp : p.block ∈ Q) : w'.frozen? p = w.frozen? p := World.frozen?_of_block (h.same _ hp)

end Go.Proofs.YtkonfogebepccaaGreatDoor
namespace Go.Proofs.YtkonfogebepccaaGreatDoor
open Go.RowKit
set_option linter.unusedVariables false

theorem KQ.alloc {Q : List Nat} {A B : World} (h : KQ Q A B) (hQ : ∀ b ∈ Q, b < A.heap.size) (o : Obj) : KQ Q A (B.alloc o) :=
  ⟨by have := h.size; simp; omega, fun b hb => (Below.heap_alloc B o b (Nat.lt_of_lt_of_le (hQ b hb) h.size)).trans (h.same b hb)⟩
theorem KQ.below {Q : List Nat} {A B : World} (hb : Below A.heap.size A B) (hQ : ∀ b ∈ Q, b < A.heap.size) : KQ Q A B := ⟨hb.size, fun b h => hb.block b (hQ b h)⟩
theorem KQ.kp {Q F : List Nat} {A B : World} (h : Kp F A B) (hQ : ∀ b ∈ Q, b < A.heap.size ∧ b ∉ F) : KQ Q A B := ⟨h.size, fun b hb => h.block b (hQ b hb).1 (hQ b hb).2⟩

theorem rfb {P : Program} {α : Type} {g : Operand} {ps : Array Tmp} {assign body : Code} {Q : Exit → Act → World → Prop} {a : Act} {w : World}
    {gf : Nat} {lb : Array Value} (hg : a.eval g = .func (.func gf) #[] lb) (eg : ∀ args w, (callFunc gf args).run P w = .ok (.enter gf args) w)
    {encs : α → Array Value} {QQ : List Nat} {S Sp : List α → Prop} {N : Nat} (hseq : SeqStopsK Fence.wide 4 P gf lb encs (KQ QQ) S Sp N w) (hQ : ∀ b ∈ QQ, b < w.heap.size) (hps : ∀ x, (encs x).size = ps.size)
    (I : List α → World → Prop) (Ix : Code → List α → World → Prop) (hI : OwnFrom w.heap.size I) (hIx : ∀ c, OwnFrom w.heap.size (Ix c)) (h0 : I [] w) (ob : α → Obj) (f : Act → α → Nat → Act)
    (hassign : ∀ (l : Nat) (x : α) (W : World) (K : Act → World → Prop), K (f a x W.heap.size) (W.alloc (ob x)) →
      assign.wpIn (Fence.wide.inRound l) 3 P (Exit.then K (fun _ _ _ => False)) { tmps := (ps.zip (encs x)).foldl (fun t (p, v) => t.setIfInBounds p v) a.tmps, defers := [] } W)
    (hbody : ∀ (l : Nat) (pre : List α) (x : α) (b : Nat) (W : World), I pre W → pre.length < N → w.heap.size ≤ b → W.heap[b]? = some (ob x) → body.wpIn (Fence.wide.inRound l) 3 P (ownPostG w.heap.size (KQ QQ) I Ix (pre ++ [x]) W) (f a x b) W)
    (hdone : ∀ (D : Nat) (xs : List α) (W : World), w.heap.size ≤ D → S xs → I xs W → W.heap[D]? = some (.deferred (some [])) → Q .normal { a with defers := { target := .collected D, args := #[] } :: a.defers } W)
    (hstop : ∀ (D : Nat) (c : Code) (pre : List α) (W : World), w.heap.size ≤ D → Sp pre → Ix c pre W → W.heap[D]? = some (.deferred (some [])) → c.wp P Q { a with defers := { target := .collected D, args := #[] } :: a.defers } W) :
    (Code.rangeFunc g ps assign body).wp P Q a w := by
  refine (wpIn_wide (n := 5)).1 (wpIn_rangeFunc ?_)
  intro fn hfn
  rw [show Fence.wide.round = none from rfl]
  obtain ⟨rec, hrec⟩ : ∃ rec : LoopState → Option Code → Loop, rec = fun st pe => { state := st, pending := pe, fn, tmps := a.tmps, params := ps, assign, body, defers := w.heap.size } := ⟨_, rfl⟩
  obtain ⟨W1, hW1⟩ : ∃ W1, (w.alloc (.deferred (some []))).alloc (.loop (rec .ready none)) = W1 := ⟨_, rfl⟩
  have hL1 : W1.heap[w.heap.size + 1]? = some (.loop (rec .ready none)) := by
    rw [← hW1]; have := World.alloc_heap_new (w.alloc (.deferred (some []))) (.loop (rec .ready none)); rwa [World.size_alloc] at this
  have hK1 : W1.heap[w.heap.size]? = some (.deferred (some [])) := by
    rw [← hW1]; exact (Below.heap_alloc _ _ _ (by simp)).trans (World.alloc_heap_new w _)
  have hI1 : I [] W1 := by rw [← hW1]; exact hI.alloc _ (hI.alloc _ h0)
  have hb1 : Below w.heap.size w W1 := by
    rw [← hW1]; exact ((Below.refl _ w).alloc (Nat.le_refl _) _).alloc (by simp) _
  have hz1 : W1.heap.size = w.heap.size + 2 := by rw [← hW1]; simp
  refine ⟨w.heap.size + 1, [{ target := .collected w.heap.size, args := #[] }], W1, { target := .fn (.func gf) lb, args := #[.func (.yield (w.heap.size + 1)) #[] #[]] }, W1, gf,
    #[.func (.yield (w.heap.size + 1)) #[] #[]] ++ lb, W1, ?_, ?_, ?_, ?_, fun _ => by omega, ?_⟩
  · rw [← hW1, hrec]; exact run_enterLoop_outer _ _ _ _ _
  · simp only [resolve, hg]
    simp [go_sem]
  · intro f' hf'; trivial
  · simp [invoke, go_sem, eg]
  · have hnw : ∀ {A B : World} {row : Option Nat}, (∀ r, row = some r → W1.heap.size ≤ r ∧ ∃ o : Obj, A.heap[r]? = some o ∧ o.isWalk = true) → (∀ r, row = some r → w.heap.size ≤ r ∧ ∃ o : Obj, A.heap[r]? = some o ∧ o.isCells = false) :=
      fun hr r e => by obtain ⟨hB, o, ho, hw⟩ := hr r e; exact ⟨by omega, o, ho, Obj.not_cells_of_walk hw⟩
    refine (hseq (w.heap.size + 1)
      (fun pre W => I pre W ∧ W.heap[w.heap.size + 1]? = some (.loop (rec .ready none)) ∧ W.heap[w.heap.size]? = some (.deferred (some [])))
      (fun pre W => ∃ c, Ix c pre W ∧ W.heap[w.heap.size + 1]? = some (.loop (rec .done (some c))) ∧ W.heap[w.heap.size]? = some (.deferred (some [])))
      W1 hb1
      (fun s A B row hs hg' hr => ⟨hI s A B row hs.1 hg' (hnw (B := B) hr), (grownBy_keeps hg' (fun r e => (hr r e).2) hs.2.1 rfl).trans hs.2.1, (grownBy_keeps hg' (fun r e => (hr r e).2) hs.2.2 rfl).trans hs.2.2⟩)
      (fun s A B row hs hg' hr => by
        obtain ⟨c, hc, hl, hk⟩ := hs
        exact ⟨c, hIx c s A B row hc hg' (hnw (B := B) hr), (grownBy_keeps hg' (fun r e => (hr r e).2) hl rfl).trans hl, (grownBy_keeps hg' (fun r e => (hr r e).2) hk rfl).trans hk⟩)
      ?_ ⟨hI1, hL1, hK1⟩).mono ?_
    · rintro pre x W0 ⟨hi0, hl0, hk0⟩ hlen
      have hlt0 : w.heap.size + 1 < W0.heap.size := (Array.getElem?_eq_some_iff.1 hl0).1
      have hy := run_yield (P := P) (args := encs x) hl0 (by rw [hrec]; exact hps x)
      rw [hrec] at hy
      have hi : I pre (W0.alloc (ob x)) := hI.alloc _ hi0
      have hl : (W0.alloc (ob x)).heap[w.heap.size + 1]? = some (.loop (rec .ready none)) := (Below.heap_alloc _ _ _ hlt0).trans hl0
      have hk : (W0.alloc (ob x)).heap[w.heap.size]? = some (.deferred (some [])) := (Below.heap_alloc _ _ _ (by omega)).trans hk0
      have hnew : (W0.alloc (ob x)).heap[W0.heap.size]? = some (ob x) := World.alloc_heap_new W0 _
      have hw0 : KQ QQ W0 (W0.alloc (ob x)) := (KQ.refl _ _).alloc (fun b hb => by have := hQ b hb; omega) _
      have hlt : w.heap.size + 1 < (W0.alloc (ob x)).heap.size := by simp; omega
      refine ⟨fn, _, assign, body, hy, roundIn_of_wpIn hfn (hassign _ x W0 _ ⟨_, run_beginRound hl (by rw [hrec]), ?_⟩)⟩
      generalize hW : W0.alloc (ob x) = W at hi hl hk hnew hw0 hlt
      have hl2 : (W.putObj (w.heap.size + 1) (.loop { rec .ready none with state := .busy })).heap[w.heap.size + 1]? = some (.loop { rec .ready none with state := .busy }) := World.putObj_heap_same hlt
      have hk2 : (W.putObj (w.heap.size + 1) (.loop { rec .ready none with state := .busy })).heap[w.heap.size]? = some (.deferred (some [])) := (World.putObj_heap_other (by omega)).trans hk
      have hw2 : KQ QQ W0 (W.putObj (w.heap.size + 1) (.loop { rec .ready none with state := .busy })) := hw0.trans (KQ.book hQ _ _ _ _ (by omega) hl rfl rfl)
      have hn2 : (W.putObj (w.heap.size + 1) (.loop { rec .ready none with state := .busy })).heap[W0.heap.size]? = some (ob x) := (World.putObj_heap_other (by omega)).trans hnew
      refine wpIn_mono (hbody _ pre x W0.heap.size _ (hI.putObj _ hi (by omega) hl rfl) hlen (by omega) hn2) ?_
      have fin : ∀ (jump : Option Code) (W3 : World), KeepsFrom w.heap.size (W.putObj (w.heap.size + 1) (.loop { rec .ready none with state := .busy })) W3 →
          (Instr.endRound (w.heap.size + 1) jump).run P W3 = .ok (.bool jump.isNone) (W3.putObj (w.heap.size + 1) (.loop (rec (if jump.isNone then .ready else .done) jump))) ∧
          W3.heap[w.heap.size + 1]? = some (.loop { rec .ready none with state := .busy }) ∧
          (W3.putObj (w.heap.size + 1) (.loop (rec (if jump.isNone then .ready else .done) jump))).heap[w.heap.size + 1]? = some (.loop (rec (if jump.isNone then .ready else .done) jump)) ∧
          (W3.putObj (w.heap.size + 1) (.loop (rec (if jump.isNone then .ready else .done) jump))).heap[w.heap.size]? = some (.deferred (some [])) := fun jump W3 hk3 => by
        have hl3 := hk3.same _ _ (by omega) hl2 rfl
        have := run_endRound (P := P) jump hl3
        rw [hrec] at this ⊢
        exact ⟨this, by rw [hrec] at hl3; exact hl3, World.putObj_heap_same (Array.getElem?_eq_some_iff.1 hl3).1, (World.putObj_heap_other (by omega)).trans (hk3.same _ _ (Nat.le_refl _) hk2 rfl)⟩
      rintro e a3 W3 hp
      cases e with
      | normal =>
        obtain ⟨hk3, hkp3, hi3⟩ := hp
        obtain ⟨hr, hl3, hl4, hk4⟩ := fin none W3 hk3
        exact ⟨_, _, hr, .inl ⟨rfl, ⟨hI.putObj _ hi3 (by omega) hl3 rfl, hl4, hk4⟩, (hw2.trans hkp3).trans (KQ.book hQ _ _ _ _ (by omega) hl3 rfl rfl)⟩⟩
      | ret =>
        obtain ⟨hk3, hi3⟩ := hp
        obtain ⟨hr, hl3, hl4, hk4⟩ := fin (some .ret) W3 hk3
        exact ⟨_, _, hr, .inr ⟨rfl, .ret, (hIx _).putObj _ hi3 (by omega) hl3 rfl, hl4, hk4⟩⟩
      | exit id =>
        obtain ⟨hk3, hi3⟩ := hp
        obtain ⟨hr, hl3, hl4, hk4⟩ := fin (some (.exit id)) W3 hk3
        exact ⟨_, _, hr, .inr ⟨rfl, .exit id, (hIx _).putObj _ hi3 (by omega) hl3 rfl, hl4, hk4⟩⟩
      | goto t =>
        obtain ⟨hk3, hi3⟩ := hp
        obtain ⟨hr, hl3, hl4, hk4⟩ := fin (some (.goto t)) W3 hk3
        exact ⟨_, _, hr, .inr ⟨rfl, .goto t, (hIx _).putObj _ hi3 (by omega) hl3 rfl, hl4, hk4⟩⟩
      | panic ch => exact hp.elim
      | outgrown => exact hp.elim
    · rintro e W2 ⟨⟨v, rfl⟩, (⟨xs, hS, hi, hl, hk⟩ | ⟨pre, hSp, c, hi, hl, hk⟩)⟩
      · exact ⟨none, _, by have := run_endLoop (P := P) hl (by rw [hrec]; simp); rw [hrec] at this; exact this, hdone _ xs _ (Nat.le_refl _) hS (hI.putObj _ hi (by omega) hl rfl) ((World.putObj_heap_other (by omega)).trans hk)⟩
      · exact ⟨some c, _, by have := run_endLoop (P := P) hl (by rw [hrec]; simp); rw [hrec] at this; exact this, (wpIn_wide (n := 5)).2 (hstop _ c pre _ (Nat.le_refl _) hSp ((hIx c).putObj _ hi (by omega) hl rfl) ((World.putObj_heap_other (by omega)).trans hk))⟩
end Go.Proofs.YtkonfogebepccaaGreatDoor
/-
  The ports of a net as an iterator: net.ports$1, net.ports.
-/
/-
  What a map of seen numbers holds. (Split off from Numbers.)
-/
namespace Go.Proofs.YtkonfogebepccaaGreatDoor
open Go.RowKit
attribute [local go_sem] cell_set
set_option maxRecDepth 100000
set_option linter.unusedVariables false

theorem zbool : ∀ W, (zeroValue 4).run Tryz.prog W = .ok (.bool false) W := fun W => by kernel_rfl
end Go.Proofs.YtkonfogebepccaaGreatDoor
namespace Go.Proofs.YtkonfogebepccaaGreatDoor
open Go.RowKit Go.Shelf
attribute [local go_sem] Oper.semAt_some
set_option maxRecDepth 100000
set_option linter.unusedVariables false

def ablk : Option Addr → List Nat
  | some a => [a.block]
  | none => []
def ablkL (A : Option Addr) (l : List Int) : List Nat := if l.length = 0 then [] else ablk A
theorem IntsRd.kq {w w' : World} {A : Option Addr} {l : List Int} {Q : List Nat} (h : IntsRd w A l) (hk : KQ Q w w') (hQ : ∀ b ∈ ablkL A l, b ∈ Q) : IntsRd w' A l := fun i hi => by
  obtain ⟨b, off, rfl, hlt, h0⟩ := h i hi
  exact ⟨b, off, rfl, Nat.lt_of_lt_of_le hlt hk.size, (hk.cell (p := ⟨b, off + i, none⟩) (hQ b (by unfold ablkL; rw [if_neg (by omega)]; simp [ablk]))).trans h0⟩
theorem AgRd.kq {w w' : World} {A : Option Addr} {L : List (ByteArray × Int)} {Q : List Nat} (h : AgRd w A L) (hk : KQ Q w w') (hQ : ∀ b ∈ ablk A, b ∈ Q) : AgRd w' A L := fun i hi => by
  obtain ⟨b, off, rfl, hlt, h0, h1⟩ := h i hi
  exact ⟨b, off, rfl, Nat.lt_of_lt_of_le hlt hk.size, (hk.cell (p := ⟨b, off + i * 2, none⟩) (hQ b (by simp [ablk]))).trans h0, (hk.cell (p := ⟨b, off + i * 2 + 1, none⟩) (hQ b (by simp [ablk]))).trans h1⟩
/-- What the iterator reads. -/
structure PSet (w : World) (Bn Bs : Nat) (A : Option Addr) (cap : Nat) (L : List (ByteArray × Int)) (VA VB : Option Addr) (ca cb : Nat) (cells : List Int) (free n2 : Nat) : Prop where
  n : NBox w Bn VA cells.length ca free VB n2 cb
  s : w.cell? ⟨Bs, 0, none⟩ = some (.slice A L.length cap)
  sl : Bs < w.heap.size
  c : IntsRd w VA cells
  a : AgRd w A L
def pQ (Bn Bs : Nat) (A VA : Option Addr) (cells : List Int) : List Nat := Bn :: Bs :: (ablk A ++ ablkL VA cells)
theorem PSet.kq {w w' : World} {Bn Bs cap ca cb free n2 : Nat} {A VA VB : Option Addr} {L : List (ByteArray × Int)} {cells : List Int} {Q : List Nat} (h : PSet w Bn Bs A cap L VA VB ca cb cells free n2) (hk : KQ Q w w') (hQ : ∀ b ∈ pQ Bn Bs A VA cells, b ∈ Q) : PSet w' Bn Bs A cap L VA VB ca cb cells free n2 :=
  ⟨⟨Nat.lt_of_lt_of_le h.n.lt hk.size, (hk.cell (p := ⟨Bn, 0, none⟩) (hQ _ (by simp [pQ]))).trans h.n.c0, (hk.cell (p := ⟨Bn, 1, none⟩) (hQ _ (by simp [pQ]))).trans h.n.c1, (hk.cell (p := ⟨Bn, 2, none⟩) (hQ _ (by simp [pQ]))).trans h.n.c2⟩,
    (hk.cell (p := ⟨Bs, 0, none⟩) (hQ _ (by simp [pQ]))).trans h.s, Nat.lt_of_lt_of_le h.sl hk.size, h.c.kq hk (fun b hb => hQ b (by simp [pQ, hb])), h.a.kq hk (fun b hb => hQ b (by simp [pQ, hb]))⟩
theorem PSet.below {w w' : World} {Bn Bs cap ca cb free n2 : Nat} {A VA VB : Option Addr} {L : List (ByteArray × Int)} {cells : List Int} (h : PSet w Bn Bs A cap L VA VB ca cb cells free n2) (hb : Below w.heap.size w w') : PSet w' Bn Bs A cap L VA VB ca cb cells free n2 :=
  ⟨h.n.below hb, (hb.cell (p := ⟨Bs, 0, none⟩) h.sl).trans h.s, Nat.lt_of_lt_of_le h.sl hb.size, h.c.below hb, h.a.below hb⟩
def numd (P : List Pt) : List (Nat × Pt) := P.zipIdx.map fun x => (x.2, x.1)
theorem numd_len (P : List Pt) : (numd P).length = P.length := by simp [numd]
theorem numd_snoc (P : List Pt) (p : Pt) : numd (P ++ [p]) = numd P ++ [(P.length, p)] := by simp [numd, List.zipIdx_append]
theorem numd_pre {P Q : List Pt} (h : P <+: Q) : numd P <+: numd Q := by
  obtain ⟨R, rfl⟩ := h
  unfold numd
  rw [List.zipIdx_append, List.map_append]
  exact List.prefix_append _ _
theorem numd_at (P : List Pt) {i : Nat} {x : Nat × Pt} (h : (numd P)[i]? = some x) : x.1 = i ∧ P[i]? = some x.2 := by
  simp only [numd, List.getElem?_map, Option.map_eq_some_iff] at h
  obtain ⟨y, hy, rfl⟩ := h
  rw [List.getElem?_zipIdx] at hy
  simp only [Nat.zero_add, Option.map_eq_some_iff] at hy
  obtain ⟨z, hz, rfl⟩ := hy
  exact ⟨rfl, hz⟩
theorem range_pre {a b : Nat} (h : a ≤ b) : List.range a <+: List.range b := by
  have : List.range a = (List.range b).take a := by rw [List.take_range, Nat.min_eq_left h]
  rw [this]; exact List.take_prefix _ _
theorem freePs_pre {a b : Nat} (h : a ≤ b) : freePs a <+: freePs b := by
  unfold freePs
  exact (range_pre h).map _
theorem cellPs_app (pn : Int → Nat) (c0 : Nat) (a b : List Int) : cellPs pn c0 (a ++ b) = cellPs pn c0 a ++ cellPs pn (c0 + a.length) b := by
  induction a generalizing c0 with
  | nil => simp [cellPs]
  | cons x r ih => simp only [List.cons_append, cellPs, ih, List.append_assoc, List.length_cons]; rw [show c0 + 1 + r.length = c0 + (r.length + 1) by omega]
theorem partPs_pre (pn : Int → Nat) (cells : List Int) (free c s : Nat) (hc : c < cells.length) (hs : s ≤ pn (cells.getD c 0)) : partPs pn cells free c s <+: allPs pn cells free := by
  unfold partPs allPs
  have e : cells = cells.take c ++ (cells.getD c 0 :: cells.drop (c + 1)) := by
    have h1 : cells.getD c 0 = cells[c] := by rw [List.getD_eq_getElem?_getD, List.getElem?_eq_getElem hc]; rfl
    rw [h1, ← List.drop_eq_getElem_cons hc, List.take_append_drop]
  have hl : (cells.take c).length = c := by simp; omega
  have e2 : cellPs pn 0 cells = cellPs pn 0 (cells.take c) ++ ((List.range (pn (cells.getD c 0))).map (fun (k : Nat) => ((c : Int), (k : Int))) ++ cellPs pn (c + 1) (cells.drop (c + 1))) := by
    conv => lhs; rw [e, cellPs_app, hl, Nat.zero_add, cellPs]
  rw [e2]
  refine (List.prefix_append_right_inj _).2 ((List.prefix_append_right_inj _).2 ?_)
  exact ((range_pre hs).map _).trans (List.prefix_append _ _)
theorem partPs_len_eq (pn : Int → Nat) (cells : List Int) (free : Nat) {c s : Nat} (hc : c ≤ cells.length) : (partPs pn cells free c s).length = firstN pn cells free c + s := by
  simp only [partPs, freePs, List.length_append, List.length_map, List.length_range, cellPs_len, firstN]; omega
theorem partPs_lt (pn : Int → Nat) (cells : List Int) (free c s : Nat) (hc : c < cells.length) (hs : s < pn (cells.getD c 0)) : (partPs pn cells free c s).length < (allPs pn cells free).length := by
  rw [partPs_len_eq pn cells free (by omega), allPs_len]
  have := firstN_mono pn cells free (c := c) (d := cells.length) hc (Nat.le_refl _)
  omega
def encP (x : Nat × Pt) : Array Value := #[.int .i64 (x.1 : Int), .agg #[.int .i64 x.2.1, .int .i64 x.2.2]]

set_option maxHeartbeats 4000000 in
theorem ports1_in (n l Bn Bs : Nat) (A : Option Addr) (cap : Nat) (L : List (ByteArray × Int)) (VA VB : Option Addr) (ca cb : Nat) (cells : List Int) (free n2 : Nat) (hs : SigOk L) (hc : cells.length ≤ 5000) (hf : free ≤ 100) (J Jx : List (Nat × Pt) → World → Prop) (W : World) (hJ : AbidesFrom W.heap.size J)
    (hY : ∀ pre x W1, J pre W1 → pre.length < (allPs (pnL L) cells free).length → YieldAt Fence.wide (n - 1) Tryz.prog l (encP x) W1 fun e W' =>
      (e = .returned (.bool true) ∧ J (pre ++ [x]) W' ∧ KQ (pQ Bn Bs A VA cells) W1 W') ∨ (e = .returned (.bool false) ∧ Jx (pre ++ [x]) W'))
    (hb : PSet W Bn Bs A cap L VA VB ca cb cells free n2) (h0 : J [] W) :
    CallsIn Fence.wide n Tryz.prog 83 #[.func (.yield l) #[] #[], .pointer (some ⟨Bn, 0, none⟩), .pointer (some ⟨Bs, 0, none⟩)] W fun e W' => (∃ v, e = .returned v) ∧
      ((∃ ys, ys = numd (allPs (pnL L) cells free) ∧ J ys W') ∨ (∃ pre, pre <+: numd (allPs (pnL L) cells free) ∧ Jx pre W')) := by
  have hll := hs.len
  refine callsIn_of_wp Tryz.func83 rfl trivial ?_ rfl
  simp only [Tryz.ntmps83, List.size_toArray, List.length_cons, List.length_nil, Nat.reduceAdd, Nat.reduceSub, Array.replicate_succ, Array.replicate_zero, List.push_toArray, List.append_toArray, List.nil_append, List.cons_append]
  have n1 := hb.n.c1
  have HB := Lib.hid hb
  have HY := Lib.hid hY
  have HJ := Lib.hid hJ
  have H0 := Lib.hid h0
  clear hb hY hJ h0
  gi_wp2
  gi_loopw [4, 5, 11] (fun at_ _ i wr => ∃ k : Nat, k ≤ free ∧ i = .int .i64 k ∧ at_ = .int .i64 k ∧ Hid (J (numd (freePs k)) wr ∧ KQ (pQ Bn Bs A VA cells) W wr)) (fun _ _ i _ => free - (intOf i).toNat)
  case atStart => exact ⟨0, Nat.zero_le _, rfl, rfl, Lib.hid ⟨H0.out, KQ.refl _ _⟩⟩
  case round =>
    obtain ⟨k, hk, rfl, rfl, X⟩ := hrel
    by_cases hlt : k < free
    · have HA2 : Hid (J (numd (freePs k)) (wr)) := X.out.1
      obtain ⟨fn, tmps, assign, body, hy, hR⟩ := HY.out _ (k, ((-1 : Int), (k : Int))) _ HA2.out (by rw [numd_len]; simp [freePs, allPs]; omega)
      have HR := Lib.hid hR
      unfold encP at hy
      clear hR n1
      gi_wp2
      refine ⟨fun h => (by cases h), HR.out.mono ?_⟩
      rintro e W3 (⟨rfl, hJ3, hk3⟩ | ⟨rfl, hJx3⟩)
      · have X3 : Hid (J (numd (freePs (k + 1))) W3 ∧ KQ (pQ Bn Bs A VA cells) W W3) := ⟨by rw [freePs_succ, numd_snoc, show (freePs k).length = k by simp [freePs]]; exact hJ3, X.out.2.trans hk3⟩
        clear hJ3 hk3
        gi_wp2
        go_roundw
        case rel => exact ⟨k + 1, by omega, by go_num, by go_num, X3⟩
        case measure => simp [intOf]; omega
      · have XX : Hid (Jx (numd (freePs (k + 1))) W3) := by show Jx _ _; rw [freePs_succ, numd_snoc, show (freePs k).length = k by simp [freePs]]; exact hJx3
        clear hJx3
        gi_wp2
        refine bodyPost_ret (results_none rfl _ _ _) rfl ?_
        exact ⟨⟨_, rfl⟩, .inr ⟨_, numd_pre ((freePs_pre (show k + 1 ≤ free by omega)).trans (List.prefix_append _ _)), XX.out⟩⟩
    · obtain rfl : k = free := by omega
      have HB2 := Lib.hid (HB.out.kq X.out.2 (fun b hb => hb))
      have X0 : Hid (J (numd (partPs (pnL L) cells k 0 0)) wr ∧ KQ (pQ Bn Bs A VA cells) wr wr) := ⟨by rw [show partPs (pnL L) cells k 0 0 = freePs k by simp [partPs, cellPs]]; exact X.out.1, KQ.refl _ _⟩
      have hk0 : Hid ((k : Int) = ((partPs (pnL L) cells k 0 0).length : Int)) := by show _ = _; simp [partPs, cellPs, freePs]
      have n0 := HB2.out.n.c0
      clear n1 X HB H0
      obtain ⟨wo, hwo⟩ : ∃ wo, wo = wr := ⟨_, rfl⟩
      subst hwo
      gi_wp2
      clear n0
      gi_loopw [4, 6, 7, 26] (fun at_ _ _ i wr => ∃ d : Nat, d ≤ cells.length ∧ i = .int .i64 d ∧ at_ = .int .i64 ((partPs (pnL L) cells k d 0).length : Int) ∧ Hid (J (numd (partPs (pnL L) cells k d 0)) wr ∧ KQ (pQ Bn Bs A VA cells) wo wr)) (fun _ _ _ i _ => cells.length - (intOf i).toNat)
      case atStart => exact ⟨0, Nat.zero_le _, rfl, by rw [hk0.out], X0⟩
      case round =>
        obtain ⟨d, hd, rfl, rfl, X2⟩ := hrel
        by_cases hltd : d < cells.length
        · have HB3 := Lib.hid (HB2.out.kq X2.out.2 (fun b hb => hb))
          obtain ⟨b, off, rfl, hb, e0⟩ := HB3.out.c d hltd
          have hnext := partPs_next (pnL L) cells k hltd
          have hpre : ∀ s, s ≤ pnL L (cells.getD d 0) → partPs (pnL L) cells k d s <+: allPs (pnL L) cells k := fun s h => partPs_pre _ _ _ _ _ hltd h
          have hltl : ∀ s, s < pnL L (cells.getD d 0) → (partPs (pnL L) cells k d s).length < (allPs (pnL L) cells k).length := fun s h => partPs_lt _ _ _ _ _ hltd h
          have hp := Lib.hid (hs.ports (cells.getD d 0))
          have HPE := Lib.hid (pnL_eq hs (cells.getD d 0))
          have hp7 := pnL_le hs (cells.getD d 0)
          generalize cells.getD d 0 = x at e0 hnext hp HPE hp7 hpre hltl
          have HNX := Lib.hid hnext
          have HPre := Lib.hid hpre
          have HLt := Lib.hid hltl
          have s0 := HB3.out.s
          have HLr := Lib.hid HB3.out.a
          obtain ⟨wo2, hwo2⟩ : ∃ wo, wo = wr := ⟨_, rfl⟩
          subst hwo2
          clear hnext hpre hltl X0 hk0
          gi_wp2_with fail
          refine ⟨trivial, fun h => (by cases h), callsIn_wide.2 ((ports_any _ _ _ L _ _ rfl (by simp only [maxLen]; omega) HLr hp.out.2.2).mono ?_)⟩
          rintro e w6 ⟨rfl, rfl⟩
          rw [HPE.out]
          gi_wp2
          clear e0 s0
          gi_loopw [4, 8, 34] (fun at_ _ i wr => ∃ s : Nat, s ≤ pnL L x ∧ i = .int .i64 s ∧ at_ = .int .i64 ((partPs (pnL L) cells k d s).length : Int) ∧ Hid (J (numd (partPs (pnL L) cells k d s)) wr ∧ KQ (pQ Bn Bs (A) (some ⟨b, off, none⟩) cells) wo wr)) (fun _ _ i _ => pnL L x - (intOf i).toNat)
          case atStart => exact ⟨0, Nat.zero_le _, rfl, rfl, X2⟩
          case round =>
            obtain ⟨s, hs3, rfl, rfl, X3⟩ := hrel
            clear X2
            by_cases hlts : s < pnL L x
            · have HA2 : Hid (J (numd (partPs (pnL L) cells k d s)) wr) := X3.out.1
              have hl1 := HLt.out s hlts
              obtain ⟨fn, tmps, assign, body, hy, hR⟩ := HY.out _ ((partPs (pnL L) cells k d s).length, ((d : Int), (s : Int))) _ HA2.out (by rw [numd_len]; exact hl1)
              have HR := Lib.hid hR
              have hl2 : (partPs (pnL L) cells k d (s + 1)).length = (partPs (pnL L) cells k d s).length + 1 := by rw [partPs_succ]; simp
              have hl3 : (partPs (pnL L) cells k d s).length ≤ 40000 := by have := partPs_len (pnL L) (pnL_le hs) cells k (c := d) (s := s) hd (by omega); omega
              have HL2 := Lib.hid hl2
              unfold encP at hy
              clear hR hl1 hl2
              generalize hLEN : (partPs (pnL L) cells k d s).length = len at hl3 hy HL2
              have HLEN := Lib.hid hLEN
              clear hLEN
              gi_wp2
              refine ⟨fun h => (by cases h), HR.out.mono ?_⟩
              rintro e W3 (⟨rfl, hJ3, hk3⟩ | ⟨rfl, hJx3⟩)
              · have X4 : Hid (J (numd (partPs (pnL L) cells k d (s + 1))) W3 ∧ KQ (pQ Bn Bs A (some ⟨b, off, none⟩) cells) wo W3) := ⟨by rw [partPs_succ, numd_snoc]; exact hJ3, X3.out.2.trans hk3⟩
                clear hJ3 hk3
                gi_wp2
                go_roundw
                case rel => exact ⟨s + 1, by omega, by go_num, by rw [HL2.out]; go_num, X4⟩
                case measure => simp [intOf]; omega
              · have XX : Hid (Jx (numd (partPs (pnL L) cells k d (s + 1))) W3) := by show Jx _ _; rw [partPs_succ, numd_snoc]; exact hJx3
                clear hJx3
                gi_wp2
                refine bodyPost_ret (results_none rfl _ _ _) rfl ?_
                exact ⟨⟨_, rfl⟩, .inr ⟨_, numd_pre (HPre.out (s + 1) (by omega)), XX.out⟩⟩
            · obtain rfl : s = pnL L x := by omega
              gi_wp2
              go_roundw
              case rel => exact ⟨d + 1, by omega, by go_num, by rw [HNX.out], by rw [← HNX.out]; exact X3⟩
              case measure => simp [intOf]; omega
        · obtain rfl : d = cells.length := by omega
          rw [partPs_all] at X2 ⊢
          gi_wp2
          go_end0
          exact ⟨⟨_, rfl⟩, .inl ⟨_, rfl, X2.out.1⟩⟩
theorem ports_seq (n Bn Bs : Nat) (A : Option Addr) (cap : Nat) (L : List (ByteArray × Int)) (VA VB : Option Addr) (ca cb : Nat) (cells : List Int) (free n2 : Nat) (hs : SigOk L) (hc : cells.length ≤ 5000) (hf : free ≤ 100) (w : World) (hb : PSet w Bn Bs A cap L VA VB ca cb cells free n2) :
    SeqStopsK Fence.wide n Tryz.prog 83 #[.pointer (some ⟨Bn, 0, none⟩), .pointer (some ⟨Bs, 0, none⟩)] encP (KQ (pQ Bn Bs A VA cells)) (fun ys => ys = numd (allPs (pnL L) cells free)) (fun pre => pre <+: numd (allPs (pnL L) cells free)) (allPs (pnL L) cells free).length w :=
  fun l J Jx W hW hJ _ hY h0 => ports1_in n l Bn Bs A cap L VA VB ca cb cells free n2 hs hc hf J Jx W hJ hY (hb.below hW) h0

set_option maxHeartbeats 400000 in
theorem net_ports (A : Option Addr) (n cap : Nat) (VA VB : Option Addr) (ca cb : Nat) (cells : List Int) (free : Nat) (W : List (Pt × Pt)) (L : List (ByteArray × Int)) (w : World) (hn : n = L.length) (HC : Hid (IntsRd w VA cells)) (HL : Hid (AgRd w A L)) :
    Calls Tryz.prog 66 #[.slice A n cap, netV VA ca cells free VB cb W] w fun e w' => e = .returned (.func (.func 83) #[] #[.pointer (some ⟨w.heap.size + 1, 0, none⟩), .pointer (some ⟨w.heap.size, 0, none⟩)]) ∧ PSet w' (w.heap.size + 1) w.heap.size A cap L VA VB ca cb cells free W.length ∧ Below w.heap.size w w' := by
  subst hn
  go_enter Tryz.func66, Tryz.ntmps66
  go_wp2
  go_ret
  have hB : Below w.heap.size w ((w.alloc (.cells #[.slice A L.length cap] 22)).alloc (.cells #[.slice VA cells.length ca, .int .i64 (free : Int), .slice VB W.length cb] 26)) := by (repeat (first | exact Below.refl _ _ | (with_reducible refine Below.drew ?_) | (with_reducible refine Below.alloc ?_ (by (try simp); (try omega)) _) | (with_reducible refine Below.setCell ?_ (by (try simp); (try omega)) _) | (with_reducible refine Below.trans ?_ (Below.mono (by assumption) (by (try simp); (try omega))))))
  exact ⟨rfl, ⟨⟨by simp, by go_simp, by go_simp, by go_simp⟩, by go_simp, by simp; omega, HC.out.below hB, HL.out.below hB⟩, hB⟩
end Go.Proofs.YtkonfogebepccaaGreatDoor
/-
  Maps whose keys are ports.
-/
namespace Go.Proofs.YtkonfogebepccaaGreatDoor
open Go.RowKit
set_option maxRecDepth 100000
set_option linter.unusedVariables false

def encPt (p : Pt) : Value := .agg #[.int .i64 p.1, .int .i64 p.2]
theorem zport : ∀ W, (zeroValue 28).run Tryz.prog W = .ok (encPt (0, 0)) W := fun W => by kernel_rfl
theorem chk_int (b : Bool) (n : Nat) (x : Int) (W : World) : (Instr.checkKey b (n + 1) 3 (.int .i64 x)).run Tryz.prog W = .ok () W := by
  rw [Instr.checkKey]
  simp [run_underlying Tryz.underlying3]
theorem kport : KOk Tryz.prog 28 encPt :=
  KOk.agg (fun p => #[.int .i64 p.1, .int .i64 p.2]) (fun _ => rfl) Tryz.underlying28
    (fun a b W => by
      have := run_equal_port 9997 a.1 a.2 b.1 b.2 W
      unfold eqP at this
      exact this)
    (fun b a W => by
      unfold encPt
      rw [show (10000 : Nat) = 9999 + 1 from rfl, Instr.checkKey]
      go_simp
      have h1 := chk_int b 9998 a.1 W
      have h2 := chk_int b 9998 a.2 W
      simp only [Nat.reduceAdd] at h1 h2
      rw [h1]
      exact h2)
    (fun a => by
      unfold encPt
      simp [Instr.sameBits])
end Go.Proofs.YtkonfogebepccaaGreatDoor
namespace Go.Proofs.YtkonfogebepccaaGreatDoor
open Go.RowKit
attribute [local go_sem] cell_set
set_option maxRecDepth 100000
set_option linter.unusedVariables false

section
variable (Bn Bs : Nat) (A : Option Addr) (cap : Nat) (L : List (ByteArray × Int)) (VA VB : Option Addr) (ca cb : Nat) (cells : List Int) (free n2 : Nat) (c s : Int) (w : World)
set_option maxHeartbeats 400000 in
theorem is_free (hP : Hid (PSet w Bn Bs A cap L VA VB ca cb cells free n2)) (hf : free ≤ 100) (hc1 : c = -1) :
    Calls Tryz.prog 64 #[.agg #[.int .i64 c, .int .i64 s], .pointer (some ⟨Bn, 0, none⟩), .pointer (some ⟨Bs, 0, none⟩)] w fun e w' => e = .returned (.bool (isPt (pnL L) cells free (c, s))) ∧ Below w.heap.size w w' := by
  subst hc1
  have n1 := hP.out.n.c1
  have nl := hP.out.n.lt
  have HP : Hid (isPt (pnL L) cells free (-1, s) = decide (0 ≤ s ∧ s < free)) := by
    show _ = _
    unfold isPt
    rw [if_pos rfl]
  rcases (by omega : s < 0 ∨ (0 ≤ s ∧ (free : Int) ≤ s) ∨ (0 ≤ s ∧ s < free)) with h | ⟨h, h'⟩ | ⟨h, h'⟩
  all_goals
    go_enter Tryz.func64, Tryz.ntmps64
    go_wp2
    go_ret
    exact ⟨ret_b (by rw [HP.out]; simp; omega), by (repeat (first | exact Below.refl _ _ | (with_reducible refine Below.drew ?_) | (with_reducible refine Below.alloc ?_ (by (try simp); (try omega)) _) | (with_reducible refine Below.setCell ?_ (by (try simp); (try omega)) _) | (with_reducible refine Below.trans ?_ (Below.mono (by assumption) (by (try simp); (try omega))))))⟩
set_option maxHeartbeats 400000 in
theorem is_neg (hP : Hid (PSet w Bn Bs A cap L VA VB ca cb cells free n2)) (hc1 : c ≠ -1) (h : c < 0) :
    Calls Tryz.prog 64 #[.agg #[.int .i64 c, .int .i64 s], .pointer (some ⟨Bn, 0, none⟩), .pointer (some ⟨Bs, 0, none⟩)] w fun e w' => e = .returned (.bool (isPt (pnL L) cells free (c, s))) ∧ Below w.heap.size w w' := by
  have hcb : (c == -1) = false := by rw [beq_eq_false_iff_ne]; exact hc1
  have HP : Hid (isPt (pnL L) cells free (c, s) = false) := by
    show _ = _
    unfold isPt
    rw [if_neg hc1]; simp; omega
  have d1 : decide (0 ≤ c) = false := by simpa using h
  go_enter Tryz.func64, Tryz.ntmps64
  go_wp2_with fail
  refine absW (fun X => Below w.heap.size w X ∧ X.cell? ⟨w.heap.size, 0, none⟩ = some (.int .i64 c) ∧ X.cell? ⟨w.heap.size, 1, none⟩ = some (.int .i64 s)) ⟨(Below.refl _ _).alloc (Nat.le_refl _) _, by go_simp, by go_simp⟩ ?_
  rintro X ⟨hbX, x1, x2⟩
  have HX := Lib.hid hbX
  clear hbX
  go_quiet (fail)
  go_wp2
  go_ret
  exact ⟨ret_b HP.out.symm, below_drewN HX.out _⟩
set_option maxHeartbeats 400000 in
theorem is_big (hP : Hid (PSet w Bn Bs A cap L VA VB ca cb cells free n2)) (h : 0 ≤ c ∧ (cells.length : Int) ≤ c) :
    Calls Tryz.prog 64 #[.agg #[.int .i64 c, .int .i64 s], .pointer (some ⟨Bn, 0, none⟩), .pointer (some ⟨Bs, 0, none⟩)] w fun e w' => e = .returned (.bool (isPt (pnL L) cells free (c, s))) ∧ Below w.heap.size w w' := by
  obtain ⟨h, h'⟩ := h
  have hcb : (c == -1) = false := by rw [beq_eq_false_iff_ne]; omega
  have HP : Hid (isPt (pnL L) cells free (c, s) = false) := by
    show _ = _
    unfold isPt
    rw [if_neg (by omega)]; simp; omega
  have d1 : decide (0 ≤ c) = true := by simpa using h
  have d2 : decide (c < (cells.length : Int)) = false := by simpa using h'
  have n0 := hP.out.n.c0
  have nl := hP.out.n.lt
  go_enter Tryz.func64, Tryz.ntmps64
  go_wp2_with fail
  refine absW (fun X => Below w.heap.size w X ∧ X.cell? ⟨w.heap.size, 0, none⟩ = some (.int .i64 c) ∧ X.cell? ⟨w.heap.size, 1, none⟩ = some (.int .i64 s) ∧ X.cell? ⟨Bn, 0, none⟩ = some (.slice VA cells.length ca)) ⟨(Below.refl _ _).alloc (Nat.le_refl _) _, by go_simp, by go_simp, by go_simp⟩ ?_
  rintro X ⟨hbX, x1, x2, x3⟩
  have HX := Lib.hid hbX
  clear hbX n0
  go_quiet (fail)
  go_wp2
  go_ret
  exact ⟨ret_b HP.out.symm, below_drewN HX.out _⟩
set_option maxHeartbeats 400000 in
theorem is_slot (hP : Hid (PSet w Bn Bs A cap L VA VB ca cb cells free n2)) (h : 0 ≤ c ∧ c < cells.length ∧ s < 0) :
    Calls Tryz.prog 64 #[.agg #[.int .i64 c, .int .i64 s], .pointer (some ⟨Bn, 0, none⟩), .pointer (some ⟨Bs, 0, none⟩)] w fun e w' => e = .returned (.bool (isPt (pnL L) cells free (c, s))) ∧ Below w.heap.size w w' := by
  obtain ⟨h, h', h''⟩ := h
  have hcb : (c == -1) = false := by rw [beq_eq_false_iff_ne]; omega
  have HP : Hid (isPt (pnL L) cells free (c, s) = false) := by
    show _ = _
    unfold isPt
    rw [if_neg (by omega)]; simp; omega
  have d1 : decide (0 ≤ c) = true := by simpa using h
  have d2 : decide (c < (cells.length : Int)) = true := by simpa using h'
  have d3 : decide (0 ≤ s) = false := by simpa using h''
  have n0 := hP.out.n.c0
  have nl := hP.out.n.lt
  go_enter Tryz.func64, Tryz.ntmps64
  go_wp2_with fail
  refine absW (fun X => Below w.heap.size w X ∧ X.cell? ⟨w.heap.size, 0, none⟩ = some (.int .i64 c) ∧ X.cell? ⟨w.heap.size, 1, none⟩ = some (.int .i64 s) ∧ X.cell? ⟨Bn, 0, none⟩ = some (.slice VA cells.length ca)) ⟨(Below.refl _ _).alloc (Nat.le_refl _) _, by go_simp, by go_simp, by go_simp⟩ ?_
  rintro X ⟨hbX, x1, x2, x3⟩
  have HX := Lib.hid hbX
  clear hbX n0
  go_quiet (fail)
  go_wp2
  go_ret
  exact ⟨ret_b HP.out.symm, below_drewN HX.out _⟩
set_option maxHeartbeats 800000 in
theorem is_ok (hP : Hid (PSet w Bn Bs A cap L VA VB ca cb cells free n2)) (hs : SigOk L) (hc : cells.length ≤ 5000) (h : 0 ≤ c ∧ c < cells.length ∧ 0 ≤ s) :
    Calls Tryz.prog 64 #[.agg #[.int .i64 c, .int .i64 s], .pointer (some ⟨Bn, 0, none⟩), .pointer (some ⟨Bs, 0, none⟩)] w fun e w' => e = .returned (.bool (isPt (pnL L) cells free (c, s))) ∧ Below w.heap.size w w' := by
  have hll := hs.len
  obtain ⟨h, h', h''⟩ := h
  obtain ⟨k, rfl⟩ := Int.eq_ofNat_of_zero_le h
  have hk : k < cells.length := by omega
  have HP : Hid (isPt (pnL L) cells free ((k : Int), s) = decide (s < (pnL L (cells.getD k 0) : Int))) := by
    show _ = _
    unfold isPt
    rw [if_neg (by show ¬ (k : Int) = -1; omega)]
    refine decide_eq_decide.2 ?_
    dsimp only
    rw [Int.toNat_natCast]; omega
  obtain ⟨b, off, rfl, hb, e0⟩ := hP.out.c k hk
  have hp := Lib.hid (hs.ports (cells.getD k 0))
  have HPE := Lib.hid (pnL_eq hs (cells.getD k 0))
  have hp7 := pnL_le hs (cells.getD k 0)
  generalize cells.getD k 0 = x at e0 HP hp HPE hp7
  have d0 : ((k : Int) == -1) = false := by rw [beq_eq_false_iff_ne]; omega
  have d1 : decide (0 ≤ (k : Int)) = true := by simp
  have d2 : decide ((k : Int) < (cells.length : Int)) = true := by simpa using hk
  have d3 : decide (0 ≤ s) = true := by simpa using h''
  have n0 := hP.out.n.c0
  have nl := hP.out.n.lt
  have s0 := hP.out.s
  have sl := hP.out.sl
  have HL := Lib.hid hP.out.a
  clear hs
  go_enter Tryz.func64, Tryz.ntmps64
  go_wp2_with fail
  refine absW (fun X => Below w.heap.size w X ∧ X.cell? ⟨w.heap.size, 0, none⟩ = some (.int .i64 (k : Int)) ∧ X.cell? ⟨w.heap.size, 1, none⟩ = some (.int .i64 s) ∧ X.cell? ⟨Bn, 0, none⟩ = some (.slice (some ⟨b, off, none⟩) cells.length ca) ∧ X.cell? ⟨Bs, 0, none⟩ = some (.slice A L.length cap)) ⟨(Below.refl _ _).alloc (Nat.le_refl _) _, by go_simp, by go_simp, by go_simp, by go_simp⟩ ?_
  rintro X ⟨hbX, x1, x2, x3, x4⟩
  have HX := Lib.hid hbX
  have y0 : X.cell? ⟨b, off + k, none⟩ = some (.int .i64 x) := (hbX.cell (p := ⟨b, off + k, none⟩) hb).trans e0
  have HQ : Hid (∀ n, AgRd (X.drewN n) A L) := fun n => HL.out.below (below_drewN hbX n)
  clear hbX n0 e0 s0
  go_quiet (exact Calls.quiet_of_same ((ports_any _ _ _ L _ _ rfl (by simp only [maxLen]; omega) (HQ.out _) hp.out.2.2).mono fun e w' h => ⟨by rw [h.1, HPE.out], h.2.symm⟩))
  go_wp2
  go_ret
  exact ⟨ret_b HP.out.symm, below_drewN HX.out _⟩
theorem is_any (hP : Hid (PSet w Bn Bs A cap L VA VB ca cb cells free n2)) (hs : SigOk L) (hc : cells.length ≤ 5000) (hf : free ≤ 100) :
    Calls Tryz.prog 64 #[.agg #[.int .i64 c, .int .i64 s], .pointer (some ⟨Bn, 0, none⟩), .pointer (some ⟨Bs, 0, none⟩)] w fun e w' => e = .returned (.bool (isPt (pnL L) cells free (c, s))) ∧ Below w.heap.size w w' := by
  by_cases hc1 : c = -1
  · exact is_free Bn Bs A cap L VA VB ca cb cells free n2 c s w hP hf hc1
  · rcases (by omega : c < 0 ∨ (0 ≤ c ∧ (cells.length : Int) ≤ c) ∨ (0 ≤ c ∧ c < cells.length ∧ s < 0) ∨ (0 ≤ c ∧ c < cells.length ∧ 0 ≤ s)) with h | h | h | h
    · exact is_neg Bn Bs A cap L VA VB ca cb cells free n2 c s w hP hc1 h
    · exact is_big Bn Bs A cap L VA VB ca cb cells free n2 c s w hP h
    · exact is_slot Bn Bs A cap L VA VB ca cb cells free n2 c s w hP h
    · exact is_ok Bn Bs A cap L VA VB ca cb cells free n2 c s w hP hs hc h
end
end Go.Proofs.YtkonfogebepccaaGreatDoor
