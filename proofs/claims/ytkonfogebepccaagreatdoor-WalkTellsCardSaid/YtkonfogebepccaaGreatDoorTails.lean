/-
  What is left of a code from a region on; frames by look-ups.
-/
import Derived.Test.YtkonfogebepccaaGreatDoorBase
namespace Go.Proofs.YtkonfogebepccaaGreatDoor
open Go.RowKit
set_option maxRecDepth 100000

def leadQ : Code → Option Nat
  | .region id _ _ => some id
  | .seq a _ => leadQ a
  | _ => none
/-- What is left of a code from region n on. -/
def tailQ (n : Nat) : Code → Option Code
  | .region id o d => if id = n then some (.region id o d) else none
  | .seq a b => if leadQ a = some n then some (.seq a b) else (tailQ n a).or (tailQ n b)
  | .cond _ a b => (tailQ n a).or (tailQ n b)
  | .block _ a => tailQ n a
  | .loop a => tailQ n a
  | .scope a => tailQ n a
  | .rangeFunc _ _ a b => (tailQ n a).or (tailQ n b)
  | _ => none
theorem list_of_range (l : List Value) (d : Value) : l = (List.range l.length).map fun i => (l[i]?).getD d := by
  refine List.ext_getElem (by simp) fun i h1 h2 => ?_
  simp [h1]
/-- What slots of a frame hold. -/
def Sl (a : Act) : List (Nat × Value) → Prop
  | [] => True
  | (i, v) :: r => a.tmps[i]? = some v ∧ Sl a r
def Us (U : Nat → Value) : List (Nat × Value) → Prop
  | [] => True
  | (i, v) :: r => U i = v ∧ Us U r
structure FrN (n : Nat) (ds : List Deferred) (L : List (Nat × Value)) (a : Act) : Prop where
  sz : a.tmps.size = n
  df : a.defers = ds
  sl : Sl a L
theorem sl_us {a : Act} {U : Nat → Value} (h : ∀ i v, a.tmps[i]? = some v → U i = v) : ∀ L, Sl a L → Us U L
  | [], _ => trivial
  | (i, v) :: r, hs => ⟨h i v hs.1, sl_us h r hs.2⟩
theorem FrN.open_ {n : Nat} {ds : List Deferred} {L : List (Nat × Value)} {a : Act} (h : FrN n ds L a) : ∃ U : Nat → Value, a = { tmps := ((List.range n).map U).toArray, defers := ds } ∧ Us U L := by
  obtain ⟨⟨l⟩, df⟩ := a
  obtain ⟨sz, rfl, sl⟩ := h
  have e := list_of_range l undef
  obtain ⟨U, hU⟩ : ∃ U : Nat → Value, (fun i => (l[i]?).getD undef) = U := ⟨_, rfl⟩
  have g : ∀ i v, ((⟨⟨l⟩, df⟩ : Act)).tmps[i]? = some v → U i = v := fun i v h => by
    have h' : l[i]? = some v := by simpa using h
    rw [← hU]; simp [h']
  simp only [List.size_toArray] at sz
  rw [sz, hU] at e
  exact ⟨U, by rw [e], sl_us g L sl⟩
/-- Where the walk stands ahead of a region. -/
theorem at_seq {P : Program} {Q : Exit → Act → World → Prop} {a : Act} {w : World} (n : Nat) {l : Array Oper} {d : Bool} {c : Code} (h : (Code.seq (.region n l d) c).wp P Q a w) : (Code.seq (.region n l d) c).wp P Q a w := h
theorem at_seq2 {P : Program} {Q : Exit → Act → World → Prop} {a : Act} {w : World} (n : Nat) {l : Array Oper} {d : Bool} {c c2 : Code} (h : (Code.seq (Code.seq (.region n l d) c) c2).wp P Q a w) : (Code.seq (Code.seq (.region n l d) c) c2).wp P Q a w := h
theorem at_seq3 {P : Program} {Q : Exit → Act → World → Prop} {a : Act} {w : World} (n : Nat) {l : Array Oper} {d : Bool} {c c2 c3 : Code} (h : (Code.seq (Code.seq (Code.seq (.region n l d) c) c2) c3).wp P Q a w) : (Code.seq (Code.seq (Code.seq (.region n l d) c) c2) c3).wp P Q a w := h
end Go.Proofs.YtkonfogebepccaaGreatDoor
