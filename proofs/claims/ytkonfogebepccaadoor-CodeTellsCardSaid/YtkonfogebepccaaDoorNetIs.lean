/-
  Contract of net.Check$1: is it a port?
-/
import Derived.Test.YtkonfogebepccaaDoorNetSeq
import Derived.Test.YtkonfogebepccaaDoorMaps
import Derived.RangeFuncBox
import Derived.Test.YtkonfogebepccaaDoorNetSeq
import Derived.Test.YtkonfogebepccaaDoorEqN
/-
  'for x := range f' where each round lays a box for its variable: the law of XRange, the assignment laying one block.
-/
namespace Go.Proofs.YtkonfogebepccaaDoor
open Go.RowKit
set_option linter.unusedVariables false

theorem KQ.alloc {Q : List Nat} {A B : World} (h : KQ Q A B) (hQ : ∀ b ∈ Q, b < A.heap.size) (o : Obj) : KQ Q A (B.alloc o) :=
  ⟨by have := h.size; simp; omega, fun b hb => (Below.heap_alloc B o b (Nat.lt_of_lt_of_le (hQ b hb) h.size)).trans (h.same b hb)⟩
theorem KQ.below {Q : List Nat} {A B : World} (hb : Below A.heap.size A B) (hQ : ∀ b ∈ Q, b < A.heap.size) : KQ Q A B := ⟨hb.size, fun b h => hb.block b (hQ b h)⟩
theorem KQ.kp {Q F : List Nat} {A B : World} (h : Kp F A B) (hQ : ∀ b ∈ Q, b < A.heap.size ∧ b ∉ F) : KQ Q A B := ⟨h.size, fun b hb => h.block b (hQ b hb).1 (hQ b hb).2⟩

theorem rfb {P : Program} {α : Type} {g : Operand} {ps : Array Tmp} {assign body : Code} {Q : Exit → Act → World → Prop} {a : Act} {w : World}
    {gf : Nat} {lb : Array Value} (hg : a.eval g = .func (.func gf) #[] lb) (eg : ∀ args w, (callFunc gf args).run P w = .ok (.enter gf args) w)
    {encs : α → Array Value} {QQ : List Nat} {S Sp : List α → Prop} {N : Nat} (hseq : SeqStopsK Fence.wide 4 P gf lb encs (KQ QQ) S Sp N w) (hQ : ∀ b ∈ QQ, b < w.heap.size) (hps : ∀ x, (encs x).size = ps.size)
    (I : List α → World → Prop) (Ix : Code → List α → World → Prop) (hI : OwnFrom w.heap.size I) (hIx : ∀ c, OwnFrom w.heap.size (Ix c)) (h0 : I [] w) (ob : α → Obj) (f : Act → α → Nat → Act)
    (hassign : ∀ (l : Nat) (x : α) (W : World) (K : Act → World → Prop), K (f a x W.heap.size) (W.alloc (ob x)) →
      assign.wpIn (Fence.wide.inRound l) 3 P (Exit.then K (fun _ _ _ => False)) { tmps := (ps.zip (encs x)).foldl (fun t (p, v) => t.setIfInBounds p v) a.tmps, defers := [] } W)
    (hbody : ∀ (l : Nat) (pre : List α) (x : α) (b : Nat) (W : World), I pre W → pre.length < N → w.heap.size ≤ b → W.heap[b]? = some (ob x) → body.wpIn (Fence.wide.inRound l) 3 P (ownPostG w.heap.size (KQ QQ) I Ix (pre ++ [x]) W) (f a x b) W)
    (hdone : ∀ (D : Nat) (xs : List α) (W : World), w.heap.size ≤ D → S xs → I xs W → W.heap[D]? = some (.deferred (some [])) → Q .normal { a with defers := { target := .collected D, args := #[] } :: a.defers } W)
    (hstop : ∀ (D : Nat) (c : Code) (pre : List α) (W : World), w.heap.size ≤ D → Sp pre → Ix c pre W → W.heap[D]? = some (.deferred (some [])) → c.wp P Q { a with defers := { target := .collected D, args := #[] } :: a.defers } W) :
    (Code.rangeFunc g ps assign body).wp P Q a w := by
  refine (wpIn_wide (n := 5)).1 (wpIn_rangeFunc ?_)
  intro fn hfn
  rw [show Fence.wide.round = none from rfl]
  obtain ⟨rec, hrec⟩ : ∃ rec : LoopState → Option Code → Loop, rec = fun st pe => { state := st, pending := pe, fn, tmps := a.tmps, params := ps, assign, body, defers := w.heap.size } := ⟨_, rfl⟩
  obtain ⟨W1, hW1⟩ : ∃ W1, (w.alloc (.deferred (some []))).alloc (.loop (rec .ready none)) = W1 := ⟨_, rfl⟩
  have hL1 : W1.heap[w.heap.size + 1]? = some (.loop (rec .ready none)) := by
    rw [← hW1]; have := World.alloc_heap_new (w.alloc (.deferred (some []))) (.loop (rec .ready none)); rwa [World.size_alloc] at this
  have hK1 : W1.heap[w.heap.size]? = some (.deferred (some [])) := by
    rw [← hW1]; exact (Below.heap_alloc _ _ _ (by simp)).trans (World.alloc_heap_new w _)
  have hI1 : I [] W1 := by rw [← hW1]; exact hI.alloc _ (hI.alloc _ h0)
  have hb1 : Below w.heap.size w W1 := by
    rw [← hW1]; exact ((Below.refl _ w).alloc (Nat.le_refl _) _).alloc (by simp) _
  have hz1 : W1.heap.size = w.heap.size + 2 := by rw [← hW1]; simp
  refine ⟨w.heap.size + 1, [{ target := .collected w.heap.size, args := #[] }], W1, { target := .fn (.func gf) lb, args := #[.func (.yield (w.heap.size + 1)) #[] #[]] }, W1, gf,
    #[.func (.yield (w.heap.size + 1)) #[] #[]] ++ lb, W1, ?_, ?_, ?_, ?_, fun _ => by omega, ?_⟩
  · rw [← hW1, hrec]; exact run_enterLoop_outer _ _ _ _ _
  · simp only [resolve, hg]
    simp [go_sem]
  · intro f' hf'; trivial
  · simp [invoke, go_sem, eg]
  · have hnw : ∀ {A B : World} {row : Option Nat}, (∀ r, row = some r → W1.heap.size ≤ r ∧ ∃ o : Obj, A.heap[r]? = some o ∧ o.isWalk = true) → (∀ r, row = some r → w.heap.size ≤ r ∧ ∃ o : Obj, A.heap[r]? = some o ∧ o.isCells = false) :=
      fun hr r e => by obtain ⟨hB, o, ho, hw⟩ := hr r e; exact ⟨by omega, o, ho, Obj.not_cells_of_walk hw⟩
    refine (hseq (w.heap.size + 1)
      (fun pre W => I pre W ∧ W.heap[w.heap.size + 1]? = some (.loop (rec .ready none)) ∧ W.heap[w.heap.size]? = some (.deferred (some [])))
      (fun pre W => ∃ c, Ix c pre W ∧ W.heap[w.heap.size + 1]? = some (.loop (rec .done (some c))) ∧ W.heap[w.heap.size]? = some (.deferred (some [])))
      W1 hb1
      (fun s A B row hs hg' hr => ⟨hI s A B row hs.1 hg' (hnw (B := B) hr), (grownBy_keeps hg' (fun r e => (hr r e).2) hs.2.1 rfl).trans hs.2.1, (grownBy_keeps hg' (fun r e => (hr r e).2) hs.2.2 rfl).trans hs.2.2⟩)
      (fun s A B row hs hg' hr => by
        obtain ⟨c, hc, hl, hk⟩ := hs
        exact ⟨c, hIx c s A B row hc hg' (hnw (B := B) hr), (grownBy_keeps hg' (fun r e => (hr r e).2) hl rfl).trans hl, (grownBy_keeps hg' (fun r e => (hr r e).2) hk rfl).trans hk⟩)
      ?_ ⟨hI1, hL1, hK1⟩).mono ?_
    · rintro pre x W0 ⟨hi0, hl0, hk0⟩ hlen
      have hlt0 : w.heap.size + 1 < W0.heap.size := (Array.getElem?_eq_some_iff.1 hl0).1
      have hy := run_yield (P := P) (args := encs x) hl0 (by rw [hrec]; exact hps x)
      rw [hrec] at hy
      have hi : I pre (W0.alloc (ob x)) := hI.alloc _ hi0
      have hl : (W0.alloc (ob x)).heap[w.heap.size + 1]? = some (.loop (rec .ready none)) := (Below.heap_alloc _ _ _ hlt0).trans hl0
      have hk : (W0.alloc (ob x)).heap[w.heap.size]? = some (.deferred (some [])) := (Below.heap_alloc _ _ _ (by omega)).trans hk0
      have hnew : (W0.alloc (ob x)).heap[W0.heap.size]? = some (ob x) := World.alloc_heap_new W0 _
      have hw0 : KQ QQ W0 (W0.alloc (ob x)) := (KQ.refl _ _).alloc (fun b hb => by have := hQ b hb; omega) _
      have hlt : w.heap.size + 1 < (W0.alloc (ob x)).heap.size := by simp; omega
      refine ⟨fn, _, assign, body, hy, roundIn_of_wpIn hfn (hassign _ x W0 _ ⟨_, run_beginRound hl (by rw [hrec]), ?_⟩)⟩
      generalize hW : W0.alloc (ob x) = W at hi hl hk hnew hw0 hlt
      have hl2 : (W.putObj (w.heap.size + 1) (.loop { rec .ready none with state := .busy })).heap[w.heap.size + 1]? = some (.loop { rec .ready none with state := .busy }) := World.putObj_heap_same hlt
      have hk2 : (W.putObj (w.heap.size + 1) (.loop { rec .ready none with state := .busy })).heap[w.heap.size]? = some (.deferred (some [])) := (World.putObj_heap_other (by omega)).trans hk
      have hw2 : KQ QQ W0 (W.putObj (w.heap.size + 1) (.loop { rec .ready none with state := .busy })) := hw0.trans (KQ.book hQ _ _ _ _ (by omega) hl rfl rfl)
      have hn2 : (W.putObj (w.heap.size + 1) (.loop { rec .ready none with state := .busy })).heap[W0.heap.size]? = some (ob x) := (World.putObj_heap_other (by omega)).trans hnew
      refine wpIn_mono (hbody _ pre x W0.heap.size _ (hI.putObj _ hi (by omega) hl rfl) hlen (by omega) hn2) ?_
      have fin : ∀ (jump : Option Code) (W3 : World), KeepsFrom w.heap.size (W.putObj (w.heap.size + 1) (.loop { rec .ready none with state := .busy })) W3 →
          (Instr.endRound (w.heap.size + 1) jump).run P W3 = .ok (.bool jump.isNone) (W3.putObj (w.heap.size + 1) (.loop (rec (if jump.isNone then .ready else .done) jump))) ∧
          W3.heap[w.heap.size + 1]? = some (.loop { rec .ready none with state := .busy }) ∧
          (W3.putObj (w.heap.size + 1) (.loop (rec (if jump.isNone then .ready else .done) jump))).heap[w.heap.size + 1]? = some (.loop (rec (if jump.isNone then .ready else .done) jump)) ∧
          (W3.putObj (w.heap.size + 1) (.loop (rec (if jump.isNone then .ready else .done) jump))).heap[w.heap.size]? = some (.deferred (some [])) := fun jump W3 hk3 => by
        have hl3 := hk3.same _ _ (by omega) hl2 rfl
        have := run_endRound (P := P) jump hl3
        rw [hrec] at this ⊢
        exact ⟨this, by rw [hrec] at hl3; exact hl3, World.putObj_heap_same (Array.getElem?_eq_some_iff.1 hl3).1, (World.putObj_heap_other (by omega)).trans (hk3.same _ _ (Nat.le_refl _) hk2 rfl)⟩
      rintro e a3 W3 hp
      cases e with
      | normal =>
        obtain ⟨hk3, hkp3, hi3⟩ := hp
        obtain ⟨hr, hl3, hl4, hk4⟩ := fin none W3 hk3
        exact ⟨_, _, hr, .inl ⟨rfl, ⟨hI.putObj _ hi3 (by omega) hl3 rfl, hl4, hk4⟩, (hw2.trans hkp3).trans (KQ.book hQ _ _ _ _ (by omega) hl3 rfl rfl)⟩⟩
      | ret =>
        obtain ⟨hk3, hi3⟩ := hp
        obtain ⟨hr, hl3, hl4, hk4⟩ := fin (some .ret) W3 hk3
        exact ⟨_, _, hr, .inr ⟨rfl, .ret, (hIx _).putObj _ hi3 (by omega) hl3 rfl, hl4, hk4⟩⟩
      | exit id =>
        obtain ⟨hk3, hi3⟩ := hp
        obtain ⟨hr, hl3, hl4, hk4⟩ := fin (some (.exit id)) W3 hk3
        exact ⟨_, _, hr, .inr ⟨rfl, .exit id, (hIx _).putObj _ hi3 (by omega) hl3 rfl, hl4, hk4⟩⟩
      | goto t =>
        obtain ⟨hk3, hi3⟩ := hp
        obtain ⟨hr, hl3, hl4, hk4⟩ := fin (some (.goto t)) W3 hk3
        exact ⟨_, _, hr, .inr ⟨rfl, .goto t, (hIx _).putObj _ hi3 (by omega) hl3 rfl, hl4, hk4⟩⟩
      | panic ch => exact hp.elim
      | outgrown => exact hp.elim
    · rintro e W2 ⟨⟨v, rfl⟩, (⟨xs, hS, hi, hl, hk⟩ | ⟨pre, hSp, c, hi, hl, hk⟩)⟩
      · exact ⟨none, _, by have := run_endLoop (P := P) hl (by rw [hrec]; simp); rw [hrec] at this; exact this, hdone _ xs _ (Nat.le_refl _) hS (hI.putObj _ hi (by omega) hl rfl) ((World.putObj_heap_other (by omega)).trans hk)⟩
      · exact ⟨some c, _, by have := run_endLoop (P := P) hl (by rw [hrec]; simp); rw [hrec] at this; exact this, (wpIn_wide (n := 5)).2 (hstop _ c pre _ (Nat.le_refl _) hSp ((hIx c).putObj _ hi (by omega) hl rfl) ((World.putObj_heap_other (by omega)).trans hk))⟩
end Go.Proofs.YtkonfogebepccaaDoor
/-
  Maps whose keys are ports.
-/
namespace Go.Proofs.YtkonfogebepccaaDoor
open Go.RowKit
set_option maxRecDepth 100000
set_option linter.unusedVariables false

def encPt (p : Pt) : Value := .agg #[.int .i64 p.1, .int .i64 p.2]
theorem chk_int (b : Bool) (n : Nat) (x : Int) (W : World) : (Instr.checkKey b (n + 1) 3 (.int .i64 x)).run Tryd.prog W = .ok () W := by
  rw [Instr.checkKey]
  simp [run_underlying Tryd.underlying3]
theorem kport : KOk Tryd.prog 83 encPt :=
  KOk.agg (fun p => #[.int .i64 p.1, .int .i64 p.2]) (fun _ => rfl) Tryd.underlying83
    (fun a b W => by
      have := run_equal_port 9997 a.1 a.2 b.1 b.2 W
      unfold eqP at this
      exact this)
    (fun b a W => by
      unfold encPt
      rw [show (10000 : Nat) = 9999 + 1 from rfl, Instr.checkKey]
      go_simp
      have h1 := chk_int b 9998 a.1 W
      have h2 := chk_int b 9998 a.2 W
      simp only [Nat.reduceAdd] at h1 h2
      rw [h1]
      exact h2)
    (fun a => by
      unfold encPt
      simp [Instr.sameBits])
end Go.Proofs.YtkonfogebepccaaDoor
namespace Go.Proofs.YtkonfogebepccaaDoor
open Go.RowKit
attribute [local go_sem] cell_set
set_option maxRecDepth 100000
set_option linter.unusedVariables false

section
variable (Bn Bs : Nat) (A : Option Addr) (cap : Nat) (L : List (ByteArray × Int)) (VA VB : Option Addr) (ca cb : Nat) (cells : List Int) (free n2 : Nat) (c s : Int) (w : World)
set_option maxHeartbeats 400000 in
theorem is_free (hP : Hid (PSet w Bn Bs A cap L VA VB ca cb cells free n2)) (hf : free ≤ 100) (hc1 : c = -1) :
    Calls Tryd.prog 69 #[.agg #[.int .i64 c, .int .i64 s], .pointer (some ⟨Bn, 0, none⟩), .pointer (some ⟨Bs, 0, none⟩)] w fun e w' => e = .returned (.bool (isPt (pnL L) cells free (c, s))) ∧ Below w.heap.size w w' := by
  subst hc1
  have n1 := hP.out.n.c1
  have nl := hP.out.n.lt
  have HP : Hid (isPt (pnL L) cells free (-1, s) = decide (0 ≤ s ∧ s < free)) := by
    show _ = _
    unfold isPt
    rw [if_pos rfl]
  rcases (by omega : s < 0 ∨ (0 ≤ s ∧ (free : Int) ≤ s) ∨ (0 ≤ s ∧ s < free)) with h | ⟨h, h'⟩ | ⟨h, h'⟩
  all_goals
    go_enter Tryd.func69, Tryd.ntmps69
    go_wp2
    go_ret
    exact ⟨ret_b (by rw [HP.out]; simp; omega), by (repeat (first | exact Below.refl _ _ | (with_reducible refine Below.drew ?_) | (with_reducible refine Below.alloc ?_ (by (try simp); (try omega)) _) | (with_reducible refine Below.setCell ?_ (by (try simp); (try omega)) _) | (with_reducible refine Below.trans ?_ (Below.mono (by assumption) (by (try simp); (try omega))))))⟩
set_option maxHeartbeats 400000 in
theorem is_neg (hP : Hid (PSet w Bn Bs A cap L VA VB ca cb cells free n2)) (hc1 : c ≠ -1) (h : c < 0) :
    Calls Tryd.prog 69 #[.agg #[.int .i64 c, .int .i64 s], .pointer (some ⟨Bn, 0, none⟩), .pointer (some ⟨Bs, 0, none⟩)] w fun e w' => e = .returned (.bool (isPt (pnL L) cells free (c, s))) ∧ Below w.heap.size w w' := by
  have hcb : (c == -1) = false := by rw [beq_eq_false_iff_ne]; exact hc1
  have HP : Hid (isPt (pnL L) cells free (c, s) = false) := by
    show _ = _
    unfold isPt
    rw [if_neg hc1]; simp; omega
  have d1 : decide (0 ≤ c) = false := by simpa using h
  go_enter Tryd.func69, Tryd.ntmps69
  go_wp2_with fail
  refine absW (fun X => Below w.heap.size w X ∧ X.cell? ⟨w.heap.size, 0, none⟩ = some (.int .i64 c) ∧ X.cell? ⟨w.heap.size, 1, none⟩ = some (.int .i64 s)) ⟨(Below.refl _ _).alloc (Nat.le_refl _) _, by go_simp, by go_simp⟩ ?_
  rintro X ⟨hbX, x1, x2⟩
  have HX := Lib.hid hbX
  clear hbX
  go_quiet (fail)
  go_wp2
  go_ret
  exact ⟨ret_b HP.out.symm, below_drewN HX.out _⟩
set_option maxHeartbeats 400000 in
theorem is_big (hP : Hid (PSet w Bn Bs A cap L VA VB ca cb cells free n2)) (h : 0 ≤ c ∧ (cells.length : Int) ≤ c) :
    Calls Tryd.prog 69 #[.agg #[.int .i64 c, .int .i64 s], .pointer (some ⟨Bn, 0, none⟩), .pointer (some ⟨Bs, 0, none⟩)] w fun e w' => e = .returned (.bool (isPt (pnL L) cells free (c, s))) ∧ Below w.heap.size w w' := by
  obtain ⟨h, h'⟩ := h
  have hcb : (c == -1) = false := by rw [beq_eq_false_iff_ne]; omega
  have HP : Hid (isPt (pnL L) cells free (c, s) = false) := by
    show _ = _
    unfold isPt
    rw [if_neg (by omega)]; simp; omega
  have d1 : decide (0 ≤ c) = true := by simpa using h
  have d2 : decide (c < (cells.length : Int)) = false := by simpa using h'
  have n0 := hP.out.n.c0
  have nl := hP.out.n.lt
  go_enter Tryd.func69, Tryd.ntmps69
  go_wp2_with fail
  refine absW (fun X => Below w.heap.size w X ∧ X.cell? ⟨w.heap.size, 0, none⟩ = some (.int .i64 c) ∧ X.cell? ⟨w.heap.size, 1, none⟩ = some (.int .i64 s) ∧ X.cell? ⟨Bn, 0, none⟩ = some (.slice VA cells.length ca)) ⟨(Below.refl _ _).alloc (Nat.le_refl _) _, by go_simp, by go_simp, by go_simp⟩ ?_
  rintro X ⟨hbX, x1, x2, x3⟩
  have HX := Lib.hid hbX
  clear hbX n0
  go_quiet (fail)
  go_wp2
  go_ret
  exact ⟨ret_b HP.out.symm, below_drewN HX.out _⟩
set_option maxHeartbeats 400000 in
theorem is_slot (hP : Hid (PSet w Bn Bs A cap L VA VB ca cb cells free n2)) (h : 0 ≤ c ∧ c < cells.length ∧ s < 0) :
    Calls Tryd.prog 69 #[.agg #[.int .i64 c, .int .i64 s], .pointer (some ⟨Bn, 0, none⟩), .pointer (some ⟨Bs, 0, none⟩)] w fun e w' => e = .returned (.bool (isPt (pnL L) cells free (c, s))) ∧ Below w.heap.size w w' := by
  obtain ⟨h, h', h''⟩ := h
  have hcb : (c == -1) = false := by rw [beq_eq_false_iff_ne]; omega
  have HP : Hid (isPt (pnL L) cells free (c, s) = false) := by
    show _ = _
    unfold isPt
    rw [if_neg (by omega)]; simp; omega
  have d1 : decide (0 ≤ c) = true := by simpa using h
  have d2 : decide (c < (cells.length : Int)) = true := by simpa using h'
  have d3 : decide (0 ≤ s) = false := by simpa using h''
  have n0 := hP.out.n.c0
  have nl := hP.out.n.lt
  go_enter Tryd.func69, Tryd.ntmps69
  go_wp2_with fail
  refine absW (fun X => Below w.heap.size w X ∧ X.cell? ⟨w.heap.size, 0, none⟩ = some (.int .i64 c) ∧ X.cell? ⟨w.heap.size, 1, none⟩ = some (.int .i64 s) ∧ X.cell? ⟨Bn, 0, none⟩ = some (.slice VA cells.length ca)) ⟨(Below.refl _ _).alloc (Nat.le_refl _) _, by go_simp, by go_simp, by go_simp⟩ ?_
  rintro X ⟨hbX, x1, x2, x3⟩
  have HX := Lib.hid hbX
  clear hbX n0
  go_quiet (fail)
  go_wp2
  go_ret
  exact ⟨ret_b HP.out.symm, below_drewN HX.out _⟩
set_option maxHeartbeats 800000 in
theorem is_ok (hP : Hid (PSet w Bn Bs A cap L VA VB ca cb cells free n2)) (hs : SigOk L) (hc : cells.length ≤ 5000) (h : 0 ≤ c ∧ c < cells.length ∧ 0 ≤ s) :
    Calls Tryd.prog 69 #[.agg #[.int .i64 c, .int .i64 s], .pointer (some ⟨Bn, 0, none⟩), .pointer (some ⟨Bs, 0, none⟩)] w fun e w' => e = .returned (.bool (isPt (pnL L) cells free (c, s))) ∧ Below w.heap.size w w' := by
  have hll := hs.len
  obtain ⟨h, h', h''⟩ := h
  obtain ⟨k, rfl⟩ := Int.eq_ofNat_of_zero_le h
  have hk : k < cells.length := by omega
  have HP : Hid (isPt (pnL L) cells free ((k : Int), s) = decide (s < (pnL L (cells.getD k 0) : Int))) := by
    show _ = _
    unfold isPt
    rw [if_neg (by show ¬ (k : Int) = -1; omega)]
    refine decide_eq_decide.2 ?_
    dsimp only
    rw [Int.toNat_natCast]; omega
  obtain ⟨b, off, rfl, hb, e0⟩ := hP.out.c k hk
  have hp := Lib.hid (hs.ports (cells.getD k 0))
  have HPE := Lib.hid (pnL_eq hs (cells.getD k 0))
  have hp7 := pnL_le hs (cells.getD k 0)
  generalize cells.getD k 0 = x at e0 HP hp HPE hp7
  have d0 : ((k : Int) == -1) = false := by rw [beq_eq_false_iff_ne]; omega
  have d1 : decide (0 ≤ (k : Int)) = true := by simp
  have d2 : decide ((k : Int) < (cells.length : Int)) = true := by simpa using hk
  have d3 : decide (0 ≤ s) = true := by simpa using h''
  have n0 := hP.out.n.c0
  have nl := hP.out.n.lt
  have s0 := hP.out.s
  have sl := hP.out.sl
  have HL := Lib.hid hP.out.a
  clear hs
  go_enter Tryd.func69, Tryd.ntmps69
  go_wp2_with fail
  refine absW (fun X => Below w.heap.size w X ∧ X.cell? ⟨w.heap.size, 0, none⟩ = some (.int .i64 (k : Int)) ∧ X.cell? ⟨w.heap.size, 1, none⟩ = some (.int .i64 s) ∧ X.cell? ⟨Bn, 0, none⟩ = some (.slice (some ⟨b, off, none⟩) cells.length ca) ∧ X.cell? ⟨Bs, 0, none⟩ = some (.slice A L.length cap)) ⟨(Below.refl _ _).alloc (Nat.le_refl _) _, by go_simp, by go_simp, by go_simp, by go_simp⟩ ?_
  rintro X ⟨hbX, x1, x2, x3, x4⟩
  have HX := Lib.hid hbX
  have y0 : X.cell? ⟨b, off + k, none⟩ = some (.int .i64 x) := (hbX.cell (p := ⟨b, off + k, none⟩) hb).trans e0
  have HQ : Hid (∀ n, AgRd (X.drewN n) A L) := fun n => HL.out.below (below_drewN hbX n)
  clear hbX n0 e0 s0
  go_quiet (exact Calls.quiet_of_same ((ports_any _ _ _ L _ _ rfl (by simp only [maxLen]; omega) (HQ.out _) hp.out.2.2).mono fun e w' h => ⟨by rw [h.1, HPE.out], h.2.symm⟩))
  go_wp2
  go_ret
  exact ⟨ret_b HP.out.symm, below_drewN HX.out _⟩
theorem is_any (hP : Hid (PSet w Bn Bs A cap L VA VB ca cb cells free n2)) (hs : SigOk L) (hc : cells.length ≤ 5000) (hf : free ≤ 100) :
    Calls Tryd.prog 69 #[.agg #[.int .i64 c, .int .i64 s], .pointer (some ⟨Bn, 0, none⟩), .pointer (some ⟨Bs, 0, none⟩)] w fun e w' => e = .returned (.bool (isPt (pnL L) cells free (c, s))) ∧ Below w.heap.size w w' := by
  by_cases hc1 : c = -1
  · exact is_free Bn Bs A cap L VA VB ca cb cells free n2 c s w hP hf hc1
  · rcases (by omega : c < 0 ∨ (0 ≤ c ∧ (cells.length : Int) ≤ c) ∨ (0 ≤ c ∧ c < cells.length ∧ s < 0) ∨ (0 ≤ c ∧ c < cells.length ∧ 0 ≤ s)) with h | h | h | h
    · exact is_neg Bn Bs A cap L VA VB ca cb cells free n2 c s w hP hc1 h
    · exact is_big Bn Bs A cap L VA VB ca cb cells free n2 c s w hP h
    · exact is_slot Bn Bs A cap L VA VB ca cb cells free n2 c s w hP h
    · exact is_ok Bn Bs A cap L VA VB ca cb cells free n2 c s w hP hs hc h
end
end Go.Proofs.YtkonfogebepccaaDoor
