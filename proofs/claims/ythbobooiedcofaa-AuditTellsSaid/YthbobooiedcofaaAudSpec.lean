/-
  Plain: what an audit of a wiring tells. (Plain Lean, no program.)
-/
import Derived.Test.YthbobooiedcofaaWirPts
set_option linter.unusedVariables false
namespace Go.Proofs.Ythbobooiedcofaa
namespace Wir
def isOpen (S : Wir) (p : Pt) : Bool := decide (S.wV p = 4294967295)
def isBad (S : Wir) (p : Pt) : Bool := decide (S.toE p ≠ 0 ∨ S.wV (S.toP p) ≠ pkW p.1 p.2 ∨ S.toP p = p)
/-- What is wrong with a port: it is linked, and not back. -/
def wrong (S : Wir) (p : Pt) : Bool := !S.isOpen p && S.isBad p
def nOpen (S : Wir) (l : List Pt) : Nat := (l.filter S.isOpen).length
def nWire (S : Wir) (l : List Pt) : Nat := (l.filter fun p => !S.isOpen p).length
def firstBad (S : Wir) (l : List Pt) : Option Pt := l.find? S.wrong
theorem nOpen_snoc (S : Wir) (l : List Pt) (p : Pt) : S.nOpen (l ++ [p]) = S.nOpen l + if S.isOpen p = true then 1 else 0 := by
  unfold nOpen
  rw [List.filter_append, List.length_append]
  cases h : S.isOpen p <;> simp [h]
theorem nWire_snoc (S : Wir) (l : List Pt) (p : Pt) : S.nWire (l ++ [p]) = S.nWire l + if S.isOpen p = true then 0 else 1 := by
  unfold nWire
  rw [List.filter_append, List.length_append]
  cases h : S.isOpen p <;> simp [h]
theorem nOpen_le (S : Wir) (l : List Pt) : S.nOpen l ≤ l.length := List.length_filter_le _ _
theorem nWire_le (S : Wir) (l : List Pt) : S.nWire l ≤ l.length := List.length_filter_le _ _
theorem nOpen_append (S : Wir) (l r : List Pt) : S.nOpen (l ++ r) = S.nOpen l + S.nOpen r := by unfold nOpen; rw [List.filter_append, List.length_append]
theorem nWire_append (S : Wir) (l r : List Pt) : S.nWire (l ++ r) = S.nWire l + S.nWire r := by unfold nWire; rw [List.filter_append, List.length_append]
theorem firstBad_snoc (S : Wir) (l : List Pt) (p : Pt) (h : S.firstBad l = none) : S.firstBad (l ++ [p]) = if S.wrong p = true then some p else none := by
  unfold firstBad at h ⊢
  rw [List.find?_append, h]
  cases hp : S.wrong p <;> simp [hp]
theorem firstBad_append (S : Wir) (l r : List Pt) (h : S.firstBad l = none) : S.firstBad (l ++ r) = S.firstBad r := by
  unfold firstBad at h ⊢
  rw [List.find?_append, h]; rfl
theorem firstBad_pre (S : Wir) {l r : List Pt} {p : Pt} (h : S.firstBad l = some p) : S.firstBad (l ++ r) = some p := by
  unfold firstBad at h ⊢
  rw [List.find?_append, h]; rfl
/-- The first of these cells whose agent the signature does not have so. -/
def agBad (S : Wir) (ps : Int → Int) (l : List (Nat × Int)) : Option (Nat × Int) := l.find? fun x => decide (ps x.2 ≠ S.A.agA (x.1 : Int) + 1)
/-- What Audit answers: cells, free ports, wires, open ones, where; the error. -/
def auditV (S : Wir) (ps : Int → Int) (ck : Int) : (Int × Int × Int × Int × Pt) × Int :=
  if ck ≠ 0 then ((0, 0, 0, 0, (0, 0)), ck) else match S.agBad ps (S.A.upto S.A.cells.length) with
    | some x => ((0, 0, 0, 0, ((x.1 : Int), 0)), 20)
    | none => match S.firstBad S.pts with
      | some p => ((0, 0, 0, 0, p), 42)
      | none => ((S.A.live, (S.P.length : Int), ((S.nWire S.pts / 2 : Nat) : Int), (S.nOpen S.pts : Int), (0, 0)), 0)
end Wir
end Go.Proofs.Ythbobooiedcofaa
