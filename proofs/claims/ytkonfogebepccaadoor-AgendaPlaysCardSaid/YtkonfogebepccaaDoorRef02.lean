/-
  Contracts of skeinref02 (Of, Ports, Check); nets by value.
-/
import Derived.Test.YtkonfogebepccaaDoorReads
import Derived.StillTailTactics
import Derived.Deep.QuietTactic
import Derived.BigQuiet
import Derived.Deep.RegionHeld3
import Derived.Deep.RegionLaw
import Derived.WalkSmall
import Derived.Deep.OwnRows
namespace Go.Proofs.YtkonfogebepccaaDoor
open Go.RowKit
attribute [local go_sem] cell_set
set_option maxRecDepth 100000

/-! ### Nets by value -/
theorem Fresh.app {w W w5 : World} {e : TypeId} {size n m : Nat} {v v5 : Value} {xs news : List Value} {o : Obj} (h : Fresh w W e size n v xs) (k5 : Kp (ownB v) (W.alloc o) w5) (o5 : ownB v5 = ownB v ∨ ownB v5 = [(W.alloc o).heap.size])
    (r5 : Row w5 e size v5 (n + m) (xs ++ news)) : Fresh w w5 e size (n + m) v5 (xs ++ news) := by
  obtain ⟨h1, h2, h3⟩ := h
  have hs := h3.size
  refine ⟨r5, fun b hb => ?_, (h3.alloc hs o).trans (k5.below (by simp; omega) h2)⟩
  rcases o5 with e | e
  · rw [e] at hb; exact h2 b hb
  · rw [e] at hb; simp at hb; omega
theorem Fresh.nil (w : World) (e : TypeId) (size : Nat) : Fresh w w e size 0 (.slice none 0 0) [] := ⟨Row.nil _ _ _, by simp [ownB], Below.refl _ _⟩
theorem Fresh.later {w W w' : World} {e : TypeId} {size n : Nat} {v : Value} {xs : List Value} (h : Fresh w W e size n v xs) (hb : Below W.heap.size W w') : Fresh w w' e size n v xs :=
  ⟨h.1.keep fun b hm => hb.block b (h.1.lt b hm), h.2.1, h.2.2.trans (hb.mono h.2.2.size)⟩
theorem Fresh.from {w0 w W : World} {e : TypeId} {size n : Nat} {v : Value} {xs : List Value} (h : Fresh w W e size n v xs) (hb : Below w0.heap.size w0 w) : Fresh w0 W e size n v xs :=
  ⟨h.1, fun b hm => Nat.le_trans hb.size (h.2.1 b hm), hb.trans (h.2.2.mono hb.size)⟩
/-- A net in a box. -/
structure NBox (w : World) (b : Nat) (VA : Option Addr) (n1 ca : Nat) (free : Int) (VB : Option Addr) (n2 cb : Nat) : Prop where
  lt : b < w.heap.size
  c0 : w.cell? ⟨b, 0, none⟩ = some (.slice VA n1 ca)
  c1 : w.cell? ⟨b, 1, none⟩ = some (.int .i64 free)
  c2 : w.cell? ⟨b, 2, none⟩ = some (.slice VB n2 cb)
theorem NBox.below {w w' : World} {b : Nat} {VA VB : Option Addr} {n1 ca n2 cb : Nat} {free : Int} (h : NBox w b VA n1 ca free VB n2 cb) (hb : Below w.heap.size w w') : NBox w' b VA n1 ca free VB n2 cb :=
  ⟨Nat.lt_of_lt_of_le h.lt hb.size, (hb.cell (p := ⟨b, 0, none⟩) h.lt).trans h.c0, (hb.cell (p := ⟨b, 1, none⟩) h.lt).trans h.c1, (hb.cell (p := ⟨b, 2, none⟩) h.lt).trans h.c2⟩
/-- A signature whose arities are as they may be. -/
structure SigOk (L : List (ByteArray × Int)) : Prop where
  len : L.length ≤ 32
  ar : ∀ i, i < L.length → 0 ≤ agA L i ∧ agA L i ≤ 6
end Go.Proofs.YtkonfogebepccaaDoor
