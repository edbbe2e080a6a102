/-
  Contracts of package sig over lists of agents: Of, Ports, Check, and of the reference for them.
-/
import Derived.Test.YtkonfogebepccaaDoorSigW
import Derived.Deep.QuietTactic
import Derived.BigQuiet
import Derived.StillTailTactics
namespace Go.Proofs.YtkonfogebepccaaDoor
open Go.RowKit
attribute [local go_sem] cell_set
set_option maxRecDepth 100000

/-- A list of agents: names and arities. -/
def agN (L : List (ByteArray × Int)) (i : Nat) : ByteArray := (L.getD i (ByteArray.empty, 0)).1
def agA (L : List (ByteArray × Int)) (i : Nat) : Int := (L.getD i (ByteArray.empty, 0)).2
/-- The slice at A reads as L. -/
def AgRd (w : World) (A : Option Addr) (L : List (ByteArray × Int)) : Prop :=
  ∀ i, i < L.length → ∃ b off, A = some ⟨b, off, none⟩ ∧ b < w.heap.size ∧ w.cell? ⟨b, off + i * 2, none⟩ = some (.string (agN L i)) ∧ w.cell? ⟨b, off + i * 2 + 1, none⟩ = some (.int .i64 (agA L i))
theorem AgRd.below {w w' : World} {A : Option Addr} {L : List (ByteArray × Int)} (h : AgRd w A L) (hb : Below w.heap.size w w') : AgRd w' A L := by
  intro i hi
  obtain ⟨b, off, hA, hlt, h0, h1⟩ := h i hi
  exact ⟨b, off, hA, Nat.lt_of_lt_of_le hlt hb.size, by rw [hb.cell (p := ⟨b, off + i * 2, none⟩) hlt]; exact h0, by rw [hb.cell (p := ⟨b, off + i * 2 + 1, none⟩) hlt]; exact h1⟩
theorem agN_take {L : List (ByteArray × Int)} {i k : Nat} (h : i < k) : agN (L.take k) i = agN L i := by
  unfold agN; simp [h]
theorem agA_take {L : List (ByteArray × Int)} {i k : Nat} (h : i < k) : agA (L.take k) i = agA L i := by
  unfold agA; simp [h]
theorem AgRd.take {w : World} {A : Option Addr} {L : List (ByteArray × Int)} (h : AgRd w A L) (k : Nat) : AgRd w A (L.take k) := by
  intro i hi
  have hi' : i < k ∧ i < L.length := by simp at hi; omega
  rw [agN_take hi'.1, agA_take hi'.1]
  exact h i hi'.2

def ofN (L : List (ByteArray × Int)) (s : ByteArray) : Int :=
  match L.findIdx? (fun a => a.1.toList == s.toList) with
  | some i => (i : Int)
  | none => -1
/-- What is wrong with the agent of a number; 0: nothing. -/
def agBad (L : List (ByteArray × Int)) (i : Nat) : Int :=
  if bgnS (agN L i) 65 90 = false then 12 else if 0 ≤ ofN (L.take i) (agN L i) then 21 else if agA L i < 0 ∨ 6 < agA L i then 22 else 0
def chk (L : List (ByteArray × Int)) : Int × Int :=
  if L.length = 0 then (20, 0) else if 32 < L.length then (15, 32) else
  match (List.range L.length).find? (fun i => agBad L i != 0) with
  | some i => (agBad L i, i)
  | none => (0, 0)
end Go.Proofs.YtkonfogebepccaaDoor
