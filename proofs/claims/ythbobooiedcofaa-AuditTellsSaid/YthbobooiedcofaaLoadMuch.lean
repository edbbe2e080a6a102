/-
  Contracts of skeinlaw09.much and skeinlaw09.works.
-/
import Derived.Test.YthbobooiedcofaaStoreG
import Derived.Test.YthbobooiedcofaaArenaOps
import Derived.RangeFuncBound
import Derived.Test.YthbobooiedcofaaEqN
import Derived.Deep.Cut
import Derived.Deep.DeepCutAuto
import Derived.Deep.RegionHeld3
import Derived.Deep.DrawnRows
import Derived.Test.YthbobooiedcofaaNetCheck
import Derived.Test.YthbobooiedcofaaStoreG
import Derived.Test.YthbobooiedcofaaRef03C
import Derived.Test.YthbobooiedcofaaLoadC
import Derived.Test.YthbobooiedcofaaRef02
/-
  load.Store: what it returns; the contract, of a wiring that is a net.
-/
/-
  load.Store: the free ports.
-/
/-
  load.Store: its beginning.
-/
namespace Go.Proofs.Ythbobooiedcofaa
open Go.RowKit
attribute [local go_sem] cell_set
set_option maxRecDepth 100000
set_option linter.unusedVariables false

section
variable (Q : Exit → Act → World → Prop) (w : World) (As : Option Addr) (n cap : Nat) (L : List (ByteArray × Int)) (B A : Nat) (S : Wir) (FA : List Nat)
end
end Go.Proofs.Ythbobooiedcofaa
namespace Go.Proofs.Ythbobooiedcofaa
open Go.RowKit
attribute [local go_sem] cell_set
set_option maxRecDepth 100000
set_option linter.unusedVariables false

theorem SF.cells {w X : World} {As : Option Addr} {n cap A : Nat} (h : SF w As n cap A X) : X.cell? ⟨w.heap.size, 0, none⟩ = some (.slice As n cap) ∧ X.cell? ⟨w.heap.size + 4, 0, none⟩ = some (.pointer (some ⟨A, 0, none⟩)) ∧ w.heap.size + 4 < X.heap.size := by
  have h1 := h.s
  have h2 := h.a
  exact ⟨by simp [World.cell?, h1], by simp [World.cell?, h2], heap_lt h2⟩
/-- Both, as the loop keeps them. -/
structure SB (w w0 : World) (As : Option Addr) (n cap A b10 b11 b12 b13 m : Nat) (f : Int) (C K : List Int) (P : List Pt) (T : List (Pt × Pt)) (g : Int → Option Value) (X : World) : Prop where
  s : SF w As n cap A X
  t : St w0 b10 b11 b13 m f C K P T g X
  b : X.heap[b12]? = some (.cells #[.map (some m)] 136 (0, 0))
  l : w.heap.size + 5 ≤ b10 ∧ w.heap.size + 5 ≤ b11 ∧ w.heap.size + 5 ≤ b12 ∧ w.heap.size + 5 ≤ b13 ∧ w.heap.size + 5 ≤ m
  d : b12 < w0.heap.size
  z : SF w As n cap A w0
  b0 : w0.heap[b12]? = some (.cells #[.map (some m)] 136 (0, 0))
  ne : b12 ∉ [b10, b11, b13, m]
section
variable {w w0 X X' : World} {As : Option Addr} {n cap A b10 b11 b12 b13 m : Nat} {f : Int} {C K C' K' : List Int} {P P' : List Pt} {T T' : List (Pt × Pt)} {g g' : Int → Option Value}
/-- Whatever is built further. -/
theorem SB.of (h : SB w w0 As n cap A b10 b11 b12 b13 m f C K P T g X) (ht : St w0 b10 b11 b13 m f C' K' P' T' g' X') : SB w w0 As n cap A b10 b11 b12 b13 m f C' K' P' T' g' X' :=
  ⟨h.z.kp ht.kp (fun b hb => by have := h.l; simp at hb; omega), ht, (ht.kp.block b12 h.d h.ne).trans h.b0, h.l, h.d, h.z, h.b0, h.ne⟩
theorem SB.below (h : SB w w0 As n cap A b10 b11 b12 b13 m f C K P T g X) (hb : Below X.heap.size X X') : SB w w0 As n cap A b10 b11 b12 b13 m f C K P T g X' := h.of (h.t.below hb)
theorem SB.first (hs : SF w As n cap A X) (ht : St X b10 b11 b13 m f C K P T g X) (hb : X.heap[b12]? = some (.cells #[.map (some m)] 136 (0, 0))) (hl : w.heap.size + 5 ≤ b10 ∧ w.heap.size + 5 ≤ b11 ∧ w.heap.size + 5 ≤ b12 ∧ w.heap.size + 5 ≤ b13 ∧ w.heap.size + 5 ≤ m) : SB w X As n cap A b10 b11 b12 b13 m f C K P T g X := by
  refine ⟨hs, ht, hb, hl, heap_lt hb, hs, hb, ?_⟩
  obtain ⟨F1, F2, F3, ⟨V1, c1, V2, c2, x1, _⟩, ⟨⟨V, c, x2, _⟩, _⟩, ⟨⟨V', c', x3, _⟩, _⟩, _⟩ := ht.ex
  obtain ⟨lm, cm, hm, _⟩ := ht.mp
  have n1 : b12 ≠ b10 := ty_ne hb x1 (by decide)
  have n2 : b12 ≠ b11 := ty_ne hb x2 (by decide)
  have n3 : b12 ≠ b13 := ty_ne hb x3 (by decide)
  have n4 : b12 ≠ m := fun e => by subst e; rw [hm] at hb; cases hb
  simp only [List.mem_cons, List.not_mem_nil, or_false, not_or]
  exact ⟨n1, n2, n3, n4⟩
theorem SB.wg {B : Nat} {S : Wir} {FA : List Nat} (h : SB w w0 As n cap A b10 b11 b12 b13 m f C K P T g X) (hG : WG w B A S FA) : WG X B A S FA := hG.below h.s.bel
theorem SB.free (h : SB w w0 As n cap A b10 b11 b12 b13 m f C K P T g X) : X.cell? ⟨b10, 1, none⟩ = some (.int .i64 f) ∧ b10 < X.heap.size := by
  obtain ⟨F1, F2, F3, ⟨V1, c1, V2, c2, x1, _⟩, _⟩ := h.t.ex
  exact ⟨by simp [World.cell?, x1], heap_lt x1⟩
theorem SB.map (h : SB w w0 As n cap A b10 b11 b12 b13 m f C K P T g X) : X.cell? ⟨b12, 0, none⟩ = some (.map (some m)) ∧ b12 < X.heap.size := by
  have := h.b
  exact ⟨by simp [World.cell?, this], heap_lt this⟩
end
section
variable (Q : Exit → Act → World → Prop) (w w0 : World) (As : Option Addr) (n cap B A b10 b11 b12 b13 m : Nat)
end
end Go.Proofs.Ythbobooiedcofaa
/-
  load.Store: the range over the live cells.
-/
/-
  Contracts of package arena, continued: what All hands back, as an iterator whose rounds know that what they are handed is one of the list.
-/
namespace Go.Proofs.Ythbobooiedcofaa
open Go.RowKit Go.Shelf
attribute [local go_sem] Oper.semAt_some
set_option maxRecDepth 100000
set_option linter.unusedVariables false

/-! Where a walk in a round stands. -/
end Go.Proofs.Ythbobooiedcofaa
namespace Go.Proofs.Ythbobooiedcofaa
open Go.RowKit
attribute [local go_sem] cell_set
attribute [local go_sem] Oper.semAt_some
set_option maxRecDepth 100000
set_option linter.unusedVariables false

/-- What a round keeps. -/
structure RK (B : Nat) (QQ : List Nat) (Y X : World) : Prop where
  kf : KeepsFrom B Y X
  kq : KQ QQ Y X
section
variable {B : Nat} {QQ : List Nat} {Y X X' : World}
theorem RK.refl (B : Nat) (QQ : List Nat) (Y : World) : RK B QQ Y Y := ⟨KeepsFrom.refl _ _, KQ.refl _ _⟩
theorem RK.kp {F : List Nat} (h : RK B QQ Y X) (hk : Kp F X X') (hF : ∀ b ∈ F, b < B ∨ ∃ c t, X.heap[b]? = some (.cells c t (0, 0))) (hQ : ∀ y ∈ QQ, y < Y.heap.size ∧ y ∉ F) : RK B QQ Y X' :=
  ⟨h.kf.trans (KeepsFrom.kpC hk hF), h.kq.trans (KQ.kp hk fun y hy => ⟨Nat.lt_of_lt_of_le (hQ y hy).1 h.kq.size, (hQ y hy).2⟩)⟩
theorem RK.below (h : RK B QQ Y X) (hb : Below X.heap.size X X') (hQ : ∀ y ∈ QQ, y < Y.heap.size) : RK B QQ Y X' := h.kp (Kp.of_below (F := []) hb) (by simp) fun y hy => ⟨hQ y hy, by simp⟩
/-- The blocks that the iterator reads. -/
def QTy (QQ : List Nat) (Y : World) : Prop := ∀ y ∈ QQ, y < Y.heap.size ∧ ∃ c t, Y.heap[y]? = some (.cells c t (0, 0)) ∧ (t = 176 ∨ t = 174)
theorem QTy.kq (h : QTy QQ Y) (hk : KQ QQ Y X) : QTy QQ X := fun y hy => by
  obtain ⟨h1, c, t, h2, h3⟩ := h y hy
  exact ⟨Nat.lt_of_lt_of_le h1 hk.size, c, t, (hk.same y hy).trans h2, h3⟩
end
theorem KC.dead {X X' : World} (h : KC X X') {D : Nat} {l : Option (List Deferred)} (hD : X.heap[D]? = some (.deferred l)) : X'.heap[D]? = some (.deferred l) := by
  obtain ⟨G, hk, hG⟩ := h
  exact (hk.block D (heap_lt hD) (fun hm => by obtain ⟨c, t, h1, _⟩ := hG D hm; rw [h1] at hD; cases hD)).trans hD
section
variable {w w0 X X' : World} {As : Option Addr} {n cap A b10 b11 b12 b13 m : Nat} {f : Int} {C K : List Int} {P : List Pt} {T : List (Pt × Pt)} {g : Int → Option Value}
theorem SB.grown (h : SB w w0 As n cap A b10 b11 b12 b13 m f C K P T g X) {row : Option Nat} (hg : X.grownBy X' row) {N : Nat} (hN : w0.heap.size ≤ N) (hr : ∀ r, row = some r → N ≤ r ∧ ∃ o : Obj, X.heap[r]? = some o ∧ o.isCells = false) : SB w w0 As n cap A b10 b11 b12 b13 m f C K P T g X' := h.of (h.t.grown hg hN hr)
theorem KQ.grown {QQ : List Nat} {Y : World} (h : KQ QQ Y X) {row : Option Nat} (hg : X.grownBy X' row) {N : Nat} (hQ : ∀ y ∈ QQ, y < Y.heap.size ∧ y < N) (hr : ∀ r, row = some r → N ≤ r ∧ ∃ o : Obj, X.heap[r]? = some o ∧ o.isCells = false) : KQ QQ Y X' :=
  ⟨Nat.le_trans h.size hg.size, fun b hb => (hg.block b (Nat.lt_of_lt_of_le (hQ b hb).1 h.size) (fun e => by have := (hr b e.symm).1; have := (hQ b hb).2; omega)).trans (h.same b hb)⟩
end
section
variable (Q : Exit → Act → World → Prop) (w w0 : World) (As : Option Addr) (n cap : Nat) (L : List (ByteArray × Int)) (B A b10 b11 b12 b13 m : Nat) (S : Wir) (FA : List Nat) (cells : List Int)
end
end Go.Proofs.Ythbobooiedcofaa
/-
  load.Store: the wires.
-/
namespace Go.Proofs.Ythbobooiedcofaa
open Go.RowKit
attribute [local go_sem] cell_set
attribute [local go_sem high] run_neq_port
attribute [local go_sem high] run_eql_port
attribute [local go_sem ↓] Go.wp_at_zero Go.wp_at_succ
set_option maxRecDepth 100000
set_option linter.unusedVariables false

/-- What the loop over the ports keeps. -/
structure S2 (w w0 : World) (As : Option Addr) (n cap A b10 b11 b12 b13 m : Nat) (f : Int) (C K : List Int) (Ps : List Pt) (T : List (Pt × Pt)) (g : Int → Option Value) (D : Nat) (V : Option Addr) (c : Nat) (X : World) : Prop where
  b : SB w w0 As n cap A b10 b11 b12 b13 m f C K Ps T g X
  d : X.heap[D]? = some (.deferred (some []))
  r : Row X 39 2 (.slice V Ps.length c) Ps.length (pvals Ps)
section
variable {w w0 X X' : World} {As : Option Addr} {n cap A b10 b11 b12 b13 m : Nat} {f : Int} {C K : List Int} {Ps : List Pt} {T T' : List (Pt × Pt)} {g : Int → Option Value} {D : Nat} {V : Option Addr} {c : Nat}
theorem S2.below (h : S2 w w0 As n cap A b10 b11 b12 b13 m f C K Ps T g D V c X) (hb : Below X.heap.size X X') : S2 w w0 As n cap A b10 b11 b12 b13 m f C K Ps T g D V c X' :=
  ⟨h.b.below hb, (hb.block D (heap_lt h.d)).trans h.d, h.r.keep fun y hy => hb.block y (h.r.lt y hy)⟩
end
section
variable (Q : Exit → Act → World → Prop) (w w0 : World) (As : Option Addr) (n cap : Nat) (B A b10 b11 b12 b13 m : Nat) (S : Wir) (FA : List Nat)
end
end Go.Proofs.Ythbobooiedcofaa
namespace Go.Proofs.Ythbobooiedcofaa
open Go.RowKit
attribute [local go_sem] cell_set
set_option maxRecDepth 100000
set_option linter.unusedVariables false

section
variable (Q : Exit → Act → World → Prop) (w w0 : World) (As : Option Addr) (n cap : Nat) (B A b10 b11 b12 b13 m : Nat)
end

theorem Fresh.put {w X : World} {e : TypeId} {size n : Nat} {v : Value} {xs : List Value} {D : Nat} {l : Option (List Deferred)} (h : Fresh w X e size n v xs) (hD : X.heap[D]? = some (.deferred l)) (hw : w.heap.size ≤ D) (o : Obj) : Fresh w (X.putObj D o) e size n v xs :=
  ⟨h.1.keep fun y hy => World.putObj_heap_other (fun e => by
    subst e
    obtain ⟨cur, hh⟩ := h.1.ty hy
    rw [hD] at hh; cases hh), h.2.1, below_put h.2.2 hw o⟩
end Go.Proofs.Ythbobooiedcofaa
/-
  Plain: what was loaded is a net: its cells, where its ports lead.
-/
/-
  Plain: nets that may be, by what they are; rules turned round, and back; left sides.
-/
namespace Go.Proofs.Ythbobooiedcofaa
open Go.RowKit
set_option linter.unusedVariables false

/-! ### Left sides -/
end Go.Proofs.Ythbobooiedcofaa
namespace Go.Proofs.Ythbobooiedcofaa
open Go.RowKit
set_option maxRecDepth 100000
set_option linter.unusedVariables false

theorem tookA_ok {m : Nat} {ar : Int → Int} {cells : List Int} (h1 : 1 ≤ m) (h2 : m ≤ 4096) (hl : cells.length ≤ m) (hb : ∀ a ∈ cells, ¬ Ars.bad a (ar a)) : (tookA m ar cells).Ok := by
  have key : ∀ k, k ≤ cells.length → (tookA m ar (cells.take k)).Ok := by
    intro k
    induction k with
    | zero => intro _; rw [List.take_zero, tookA_nil]; exact Ars.Ok.empty h1 h2
    | succ k ih =>
      intro hk
      have e : cells.take (k + 1) = cells.take k ++ [cells[k]] := by rw [List.take_add_one, List.getElem?_eq_getElem hk]; rfl
      have := tookA_take (most := m) (ar := ar) (cells := cells.take k) (a := cells[k]) (by simp; omega) (hb _ (List.getElem_mem hk))
      rw [e, ← this.2.2]
      exact (ih (by omega)).take _ _
  have := key cells.length (Nat.le_refl _)
  rwa [List.take_length] at this
theorem new_wV {m f : Nat} {ar : Int → Int} {cells : List Int} {p : Pt} (h : (Wir.new (tookA m ar cells) f).wE p = 0) : (Wir.new (tookA m ar cells) f).wV p = 4294967295 := by
  unfold Wir.wE at h
  unfold Wir.wV
  by_cases hp : p.1 = -1
  · rw [if_pos hp] at h ⊢
    by_cases hs : p.2 < 0 ∨ ((Wir.new (tookA m ar cells) f).P.length : Int) ≤ p.2
    · rw [if_pos hs] at h; exact absurd h (by decide)
    · rw [if_neg hs]
      simp only [Wir.new, List.length_replicate] at hs ⊢
      rw [List.getD_eq_getElem?_getD, List.getElem?_replicate, if_pos (by omega)]; rfl
  · rw [if_neg hp] at h ⊢
    have hs : (tookA m ar cells).slotE p.1 p.2 = 0 := by
      by_cases hs : (Wir.new (tookA m ar cells) f).A.slotE p.1 p.2 = 0
      · exact hs
      · rw [if_neg hs] at h; exact absurd h (by decide)
    obtain ⟨ag, ws, hc, h0, h1⟩ := Ars.slot_ok hs
    have hv := (Ars.slot_of hc h0 h1).2
    rw [tookA_cell] at hc
    show (tookA m ar cells).getV p.1 p.2 = _
    rw [hv]
    by_cases hb : 0 ≤ p.1 ∧ p.1 < cells.length
    · rw [if_pos hb] at hc
      simp only [Ars.fresh, Option.some.injEq, Prod.mk.injEq] at hc
      obtain ⟨_, rfl⟩ := hc
      rw [List.length_replicate] at h1
      rw [List.getD_eq_getElem?_getD, List.getElem?_replicate, if_pos (by omega)]; rfl
    · rw [if_neg hb] at hc; cases hc
/-- Of a net that may be, loaded. -/
theorem loaded {L : List (ByteArray × Int)} {cells : List Int} {f m : Nat} {T : List (Pt × Pt)} (hs : SigOk L) (hag : ∀ j, j < cells.length → 0 ≤ cells.getD j 0 ∧ cells.getD j 0 < L.length) (hok : NetOk (pnL L) cells f T) (h1 : 1 ≤ m) (h2 : m ≤ 4096) (hl : cells.length ≤ m) (hf : f ≤ 64) :
    LN (pnL L) cells f ((Wir.new (tookA m (arL L) cells) f).linkAll T) ∧ Wir.Lk (Wir.new (tookA m (arL L) cells) f) T ((Wir.new (tookA m (arL L) cells) f).linkAll T) ∧ (∀ p, (Wir.new (tookA m (arL L) cells) f).wE p = 0 ↔ isPt (pnL L) cells f p = true) := by
  have hmem : ∀ a ∈ cells, (arL L a).toNat + 1 = pnL L a ∧ ¬ Ars.bad a (arL L a) := fun a ha => by
    obtain ⟨j, hj, rfl⟩ := List.mem_iff_getElem.1 ha
    have := hag j hj
    rw [List.getD_eq_getElem?_getD, List.getElem?_eq_getElem hj] at this
    obtain ⟨q1, _, _, q4⟩ := arL_pn hs this.1 this.2
    exact ⟨q1, q4⟩
  have hA := tookA_ok h1 h2 hl fun a ha => (hmem a ha).2
  have hw : ∀ p, (Wir.new (tookA m (arL L) cells) f).wE p = 0 ↔ isPt (pnL L) cells f p = true := fun p => Wir.took_wE (by simp) (fun a ha => (hmem a ha).1) p
  have hlk := (Wir.link_all hok (Wir.Ok.new hA hf) hw (fun p hp => new_wV hp) (Nat.le_refl T.length)).1
  rw [List.take_length] at hlk
  exact ⟨(LN.new fun a ha => (hmem a ha).1).linkAll, hlk, hw⟩
end Go.Proofs.Ythbobooiedcofaa
/-
  The small net of skeinlaw03.works: as data, and in memory.
-/
namespace Go.Proofs.Ythbobooiedcofaa
open Go.RowKit
attribute [local go_sem] cell_set
set_option maxRecDepth 100000
set_option linter.unusedVariables false

def L3 : List (ByteArray × Int) := [(⟨#[90]⟩, 0), (⟨#[83]⟩, 1)]
def W3 : List (Pt × Pt) := [((1, 0), (0, 0)), ((0, 1), (-1, 0))]
theorem chk3 : chk L3 = (0, 0) := by decide +kernel
theorem ag_lit {w : World} {b : Nat} {c : Nat × Nat} (h : w.heap[b]? = some (.cells #[.string ⟨#[90]⟩, .int .i64 0, .string ⟨#[83]⟩, .int .i64 1] 89 c)) : AgRd w (some ⟨b, 0, none⟩) L3 := fun i hi => by
  have hi2 : i = 0 ∨ i = 1 := by simp [L3] at hi; omega
  refine ⟨b, 0, rfl, heap_lt h, ?_, ?_⟩ <;> rcases hi2 with rfl | rfl <;> simp [World.cell?, h, L3, agN, agA]
theorem ints_lit {w : World} {b : Nat} {c : Nat × Nat} (h : w.heap[b]? = some (.cells #[.int .i64 1, .int .i64 0] 3 c)) : IntsRd w (some ⟨b, 0, none⟩) [1, 0] := fun i hi => by
  have hi2 : i = 0 ∨ i = 1 := by simp at hi; omega
  refine ⟨b, 0, rfl, heap_lt h, ?_⟩
  rcases hi2 with rfl | rfl <;> simp [World.cell?, h]
theorem heap4 (w : World) (a b c d : Obj) : ((((w.alloc a).alloc b).alloc c).alloc d).heap[w.heap.size]? = some a ∧ ((((w.alloc a).alloc b).alloc c).alloc d).heap[w.heap.size + 1]? = some b ∧ ((((w.alloc a).alloc b).alloc c).alloc d).heap[w.heap.size + 2]? = some c ∧ ((((w.alloc a).alloc b).alloc c).alloc d).heap[w.heap.size + 3]? = some d := by
  have e1 := heap_alloc_new w a
  have e2 := heap_alloc_new (w.alloc a) b
  have e3 := heap_alloc_new ((w.alloc a).alloc b) c
  have e4 := heap_alloc_new (((w.alloc a).alloc b).alloc c) d
  simp only [World.size_alloc, Nat.add_assoc, Nat.reduceAdd] at e2 e3 e4
  refine ⟨?_, ?_, ?_, e4⟩
  · exact (Below.heap_alloc _ _ _ (by simp <;> omega)).trans ((Below.heap_alloc _ _ _ (by simp <;> omega)).trans ((Below.heap_alloc _ _ _ (by simp <;> omega)).trans e1))
  · exact (Below.heap_alloc _ _ _ (by simp <;> omega)).trans ((Below.heap_alloc _ _ _ (by simp <;> omega)).trans e2)
  · exact (Below.heap_alloc _ _ _ (by simp <;> omega)).trans e3
/-- The net of 'works' lies in memory. -/
def Lit3 (b : Nat) (X : World) : Prop := X.heap[b]? = some (.cells #[.string ⟨#[90]⟩, .int .i64 0, .string ⟨#[83]⟩, .int .i64 1] 89 (0, 0)) ∧ X.heap[b + 1]? = some (.cells #[.int .i64 1, .int .i64 0] 3 (0, 0)) ∧
  X.heap[b + 2]? = some (.cells #[.int .i64 1, .int .i64 0, .int .i64 0, .int .i64 0, .int .i64 0, .int .i64 1, .int .i64 (-1), .int .i64 0] 55 (0, 0)) ∧ X.heap[b + 3]? = some (.cells #[.slice (some ⟨b + 1, 0, none⟩) 2 2, .int .i64 1, .slice (some ⟨b + 2, 0, none⟩) 2 2] 67 (0, 0))
theorem Lit3.below {b : Nat} {X X' : World} (h : Lit3 b X) (hb : Below X.heap.size X X') : Lit3 b X' :=
  ⟨(hb.block _ (heap_lt h.1)).trans h.1, (hb.block _ (heap_lt h.2.1)).trans h.2.1, (hb.block _ (heap_lt h.2.2.1)).trans h.2.2.1, (hb.block _ (heap_lt h.2.2.2)).trans h.2.2.2⟩
end Go.Proofs.Ythbobooiedcofaa
/-
  Contract of skeinref00.SizeAgents.
-/
namespace Go.Proofs.Ythbobooiedcofaa
open Go.RowKit
attribute [local go_sem] cell_set
set_option maxRecDepth 100000
set_option linter.unusedVariables false

def SomeI (w : World) (e : Ending) (w' : World) : Prop := ∃ m : Int, e = .returned (.int .i64 m) ∧ w = w'
set_option maxHeartbeats 400000 in
theorem size_agents (A : Option Addr) (n cap : Nat) (L : List (ByteArray × Int)) (w : World) (hn : n = L.length) (hl : L.length ≤ maxLen) (HL : Hid (AgRd w A L)) :
    Calls Try.prog 45 #[.slice A n cap] w (SomeI w) := by
  subst hn
  unfold maxLen at hl
  go_enter Try.func45, Try.ntmps45
  go_wp2
  go_loop [3, 4] (fun t i => ∃ k : Nat, ∃ m : Int, i = .int .i64 k ∧ k ≤ L.length ∧ t = .int .i64 m) (fun _ i => L.length - (intOf i).toNat)
  case atStart => exact ⟨0, _, rfl, by omega, rfl⟩
  case round =>
    obtain ⟨k, m, rfl, hk, rfl⟩ := hrel
    by_cases hlt : k < L.length
    · by_cases hm : m ≤ 2147483647
      · obtain ⟨b, off, rfl, hb, e0, e1⟩ := HL.out k hlt
        clear e1
        generalize agN L k = s at e0
        go_wp2
        go_round
        case rel => exact ⟨k + 1, _, by go_num, by omega, rfl⟩
        case measure => simp [intOf]; omega
      · go_wp2
        go_ret
        exact ⟨_, rfl, rfl⟩
    · go_wp2
      go_ret
      exact ⟨_, rfl, rfl⟩

end Go.Proofs.Ythbobooiedcofaa
namespace Go.Proofs.Ythbobooiedcofaa
open Go.RowKit
attribute [local go_sem] cell_set
attribute [local go_sem high] run_eql_wire
set_option maxRecDepth 100000
set_option linter.unusedVariables false

/-- The net of skeinlaw09.works. -/
def W9 : List (Pt × Pt) := [((0, 1), (1, 0)), ((0, 0), (-1, 0))]
def T9 : List (Pt × Pt) := [((-1, 0), (0, 0)), ((0, 1), (1, 0))]
theorem net9 : (netChk (pnL L3) L3.length (chk L3) [1, 0] 1 W9).1 = 0 := by decide +kernel
theorem tidy9 : tidyW (allPs (pnL L3) [1, 0] 1) W9 = T9 := by decide +kernel
theorem load9 : loadE L3 [1, 0] 1 W9 2 = 0 := by unfold loadE; rw [if_neg (by rw [net9]; decide), if_neg (by decide), if_neg (by decide)]
theorem wires9_lit {w : World} {b : Nat} {c : Nat × Nat} (h : w.heap[b]? = some (.cells #[.int .i64 0, .int .i64 1, .int .i64 1, .int .i64 0, .int .i64 0, .int .i64 0, .int .i64 (-1), .int .i64 0] 55 c)) : WrRd w (some ⟨b, 0, none⟩) W9 := fun i hi => by
  have hi2 : i = 0 ∨ i = 1 := by simp [W9] at hi; omega
  refine ⟨b, 0, rfl, heap_lt h, ?_, ?_, ?_, ?_⟩ <;> rcases hi2 with rfl | rfl <;> simp [World.cell?, h, W9]
def Lit9 (b : Nat) (X : World) : Prop := X.heap[b]? = some (.cells #[.string ⟨#[90]⟩, .int .i64 0, .string ⟨#[83]⟩, .int .i64 1] 89 (0, 0)) ∧ X.heap[b + 1]? = some (.cells #[.int .i64 1, .int .i64 0] 3 (0, 0)) ∧
  X.heap[b + 2]? = some (.cells #[.int .i64 0, .int .i64 1, .int .i64 1, .int .i64 0, .int .i64 0, .int .i64 0, .int .i64 (-1), .int .i64 0] 55 (0, 0)) ∧ X.heap[b + 3]? = some (.cells #[.slice (some ⟨b + 1, 0, none⟩) 2 2, .int .i64 1, .slice (some ⟨b + 2, 0, none⟩) 2 2] 67 (0, 0))
theorem Lit9.below {b : Nat} {X X' : World} (h : Lit9 b X) (hb : Below X.heap.size X X') : Lit9 b X' :=
  ⟨(hb.block _ (heap_lt h.1)).trans h.1, (hb.block _ (heap_lt h.2.1)).trans h.2.1, (hb.block _ (heap_lt h.2.2.1)).trans h.2.2.1, (hb.block _ (heap_lt h.2.2.2)).trans h.2.2.2⟩
/-- The wiring of skeinlaw09.works. -/
def S9 : Wir := (Wir.new (tookA 2 (arL L3) [1, 0]) 1).linkAll T9
theorem lit9_load {b : Nat} {X : World} (h : Lit9 b X) : Calls Try.prog 30 #[.slice (some ⟨b, 0, none⟩) 2 2, .agg #[.slice (some ⟨b + 1, 0, none⟩) 2 2, .int .i64 1, .slice (some ⟨b + 2, 0, none⟩) 2 2], .int .i64 2] X fun e w' => ∃ B A, e = .returned (.tuple #[.pointer (some ⟨B, 0, none⟩), .int .i64 0]) ∧ OW X B A S9 w' := by
  refine (load_is (some ⟨b, 0, none⟩) 2 2 L3 (some ⟨b + 1, 0, none⟩) (some ⟨b + 2, 0, none⟩) 2 2 [1, 0] 1 W9 2 X rfl (by decide) (Lib.hid (ag_lit h.1)) (by decide) (Lib.hid (ints_lit h.2.1)) (Lib.hid (wires9_lit h.2.2.1)) (by decide) (by decide)).mono ?_
  rintro e w' (⟨h0, _⟩ | ⟨_, B, A, rfl, ho⟩)
  · exact absurd load9 h0
  · refine ⟨B, A, rfl, ?_⟩
    rw [show (1 : Int).toNat = 1 from rfl, show (2 : Int).toNat = 2 from rfl, tidy9] at ho
    exact ho
end Go.Proofs.Ythbobooiedcofaa
