/-
  Plain: how net.Plug fills its map of the ports that are left.
-/
import Derived.Test.YtcebejcdfdahjaaPlugPlace
import Derived.Test.YtcebejcdfdahjaaPlugMap
namespace Go.Proofs.Ytcebejcdfdahjaa
open Go.RowKit
set_option linter.unusedVariables false

abbrev StT := (Sd → Option Value) × Nat
/-- A port is seen: what the map holds, and the next number. -/
def stp (J : List (Int × Int)) (off : Int) (st : StT) (x : Sd) : StT :=
  if x.2.1 < 0 then (if (twJ J x).isSome = true then st else (upd st.1 x (encPt (-1, (st.2 : Int))), st.2 + 1)) else (upd st.1 x (encPt (IntKind.i64.wrap (x.2.1 + off), x.2.2)), st.2)
def stT (J : List (Int × Int)) (off : Int) (sc : Bool) (st : StT) (ps : List Pt) : StT := (ps.map fun p => ((sc, p) : Sd)).foldl (stp J off) st
theorem stT_snoc (J : List (Int × Int)) (off : Int) (sc : Bool) (st : StT) (ps : List Pt) (p : Pt) : stT J off sc st (ps ++ [p]) = stp J off (stT J off sc st ps) (sc, p) := by
  unfold stT
  rw [List.map_append, List.foldl_append]
  rfl
theorem stp_le (J : List (Int × Int)) (off : Int) (st : StT) (x : Sd) : (stp J off st x).2 ≤ st.2 + 1 := by
  unfold stp
  split
  · split
    · exact Nat.le_succ _
    · exact Nat.le_refl _
  · exact Nat.le_succ _
theorem stT_le (J : List (Int × Int)) (off : Int) (sc : Bool) (st : StT) (ps : List Pt) : (stT J off sc st ps).2 ≤ st.2 + ps.length := by
  unfold stT
  suffices h : ∀ (l : List Sd) (st : StT), (l.foldl (stp J off) st).2 ≤ st.2 + l.length by simpa using h (ps.map fun p => ((sc, p) : Sd)) st
  intro l
  induction l with
  | nil => intro st; simp
  | cons x r ih =>
    intro st
    rw [List.foldl_cons]
    have h1 := ih (stp J off st x)
    have h2 := stp_le J off st x
    simp only [List.length_cons]
    omega
section
variable {pn : Int → Nat} {csA csB : List Int} {fA fB : Nat} {J : List (Int × Int)}
/-- What the map holds when the sides of l are seen. -/
def toL (pn : Int → Nat) (csA csB : List Int) (fA fB : Nat) (J : List (Int × Int)) (l : List Sd) (x : Sd) : Option Value := if x ∈ l ∧ x ∈ leftS pn csA csB fA fB J then some (encPt (toS csA.length fA fB J x)) else none
def cF (J : List (Int × Int)) (x : Sd) : Bool := decide (x.2.1 < 0) && isL J x
theorem sides_nodup : (sides pn csA csB fA fB).Nodup := by
  refine List.nodup_append.2 ⟨nodup_mapOn (allPs_nodup pn csA fA) fun a _ b _ h => by simpa using h, nodup_mapOn (allPs_nodup pn csB fB) fun a _ b _ h => by simpa using h, fun x hx y hy e => ?_⟩
  obtain ⟨p, _, rfl⟩ := List.mem_map.1 hx
  obtain ⟨q, _, e2⟩ := List.mem_map.1 hy
  rw [← e] at e2
  simp at e2
theorem sides_mem {x : Sd} : x ∈ sides pn csA csB fA fB ↔ isSd pn csA csB fA fB x := by
  obtain ⟨b, p⟩ := x
  unfold sides isSd
  cases b <;> simp [allPs_mem]
theorem sides_cF : (sides pn csA csB fA fB).filter (cF J) = leftF fA fB J := by
  have h1 : ∀ (cs : List Int) (f : Nat) (sc : Bool), ((allPs pn cs f).map fun p => ((sc, p) : Sd)).filter (cF J) = ((freePs f).map fun p => ((sc, p) : Sd)).filter (isL J) := fun cs f sc => by
    unfold allPs
    rw [List.map_append, List.filter_append, filter_no (l := (cellPs pn 0 cs).map fun p => ((sc, p) : Sd)), List.append_nil]
    · refine List.filter_congr fun x hx => ?_
      obtain ⟨p, hp, rfl⟩ := List.mem_map.1 hx
      unfold freePs at hp
      obtain ⟨k, _, rfl⟩ := List.mem_map.1 hp
      unfold cF
      rw [decide_eq_true (by show (-1 : Int) < 0; omega), Bool.true_and]
    · intro x hx
      obtain ⟨p, hp, rfl⟩ := List.mem_map.1 hx
      obtain ⟨c, k, _, _, rfl⟩ := cellPs_mem pn hp
      unfold cF
      rw [decide_eq_false (by show ¬ ((0 + c : Nat) : Int) < 0; omega), Bool.false_and]
  unfold sides leftF frS
  rw [List.filter_append, List.filter_append, h1, h1]
theorem left_of {x : Sd} (hx : isSd pn csA csB fA fB x) : x ∈ leftS pn csA csB fA fB J ↔ (x.2.1 < 0 → twJ J x = none) := ⟨fun h => (leftS_mem.1 h).2, fun h => leftS_mem.2 ⟨hx, h⟩⟩
theorem toL_snoc (l : List Sd) (x : Sd) (y : Sd) : toL pn csA csB fA fB J (l ++ [x]) y = if y = x then (if x ∈ leftS pn csA csB fA fB J then some (encPt (toS csA.length fA fB J x)) else toL pn csA csB fA fB J l x) else toL pn csA csB fA fB J l y := by
  unfold toL
  by_cases e : y = x
  · subst e
    rw [if_pos rfl]
    by_cases h : y ∈ leftS pn csA csB fA fB J
    · rw [if_pos ⟨by simp, h⟩, if_pos h]
    · rw [if_neg (fun e => h e.2), if_neg h, if_neg (fun e => h e.2)]
  · rw [if_neg e]
    have : y ∈ l ++ [x] ↔ y ∈ l := by simp [e]
    simp only [this]
/-- One more side. -/
theorem toL_stp {l r : List Sd} {x : Sd} (hl : sides pn csA csB fA fB = l ++ x :: r) (hc : csA.length ≤ 5000) (hcB : csB.length ≤ 5000) (off : Int) (ho : off = if x.1 = true then (csA.length : Int) else 0) :
    stp J off (toL pn csA csB fA fB J l, (l.filter (cF J)).length) x = (toL pn csA csB fA fB J (l ++ [x]), ((l ++ [x]).filter (cF J)).length) := by
  have hx : isSd pn csA csB fA fB x := sides_mem.1 (by rw [hl]; simp)
  have hlm := left_of (J := J) hx
  have hnl : x ∉ l := by
    have := sides_nodup (pn := pn) (csA := csA) (csB := csB) (fA := fA) (fB := fB)
    rw [hl, List.nodup_append] at this
    intro h
    exact this.2.2 x h x (by simp) rfl
  rw [List.filter_append, List.length_append]
  unfold stp
  by_cases h0 : x.2.1 < 0
  · rw [if_pos h0]
    cases ht : twJ J x with
    | some y =>
      have hnot : x ∉ leftS pn csA csB fA fB J := fun h => by rw [hlm.1 h h0] at ht; cases ht
      have hcf : cF J x = false := by simp [cF, isL, ht]
      rw [if_pos (show (some y).isSome = true from rfl)]
      refine Prod.ext ?_ (by simp [hcf])
      funext z
      dsimp only
      rw [toL_snoc, if_neg hnot]
      by_cases e : z = x
      · rw [if_pos e, e]
      · rw [if_neg e]
    | none =>
      have hin : x ∈ leftS pn csA csB fA fB J := hlm.2 fun _ => ht
      have hcf : cF J x = true := by simp [cF, isL, ht, h0]
      rw [if_neg (by simp)]
      refine Prod.ext ?_ (by simp [hcf])
      funext z
      dsimp only
      rw [toL_snoc, if_pos hin]
      unfold upd
      have hidx : (leftF fA fB J).idxOf x = (l.filter (cF J)).length := by
        rw [← sides_cF (pn := pn) (csA := csA) (csB := csB), hl, List.filter_append, List.filter_cons, if_pos hcf, List.idxOf_append, if_neg]
        · simp
        · intro h
          exact hnl (List.mem_filter.1 h).1
      by_cases e : z = x
      · rw [if_pos e, if_pos e]
        unfold toS
        rw [if_pos h0, hidx]
      · rw [if_neg e, if_neg e]
  · rw [if_neg h0]
    have hin : x ∈ leftS pn csA csB fA fB J := hlm.2 fun h => absurd h h0
    have hcf : cF J x = false := by simp [cF, h0]
    refine Prod.ext ?_ (by simp [hcf])
    funext z
    dsimp only
    rw [toL_snoc, if_pos hin]
    unfold upd
    have hxl : x.2.1 < 5000 := by
      obtain ⟨b, p⟩ := x
      have key : ∀ (cs : List Int) (f : Nat), isPt pn cs f p = true → ¬ p.1 < 0 → p.1 < (cs.length : Int) := fun cs f hp h => by
        unfold isPt at hp
        rw [if_neg (by omega), decide_eq_true_eq] at hp
        omega
      cases b
      · have := key csA fA (hx.1 rfl) h0; show p.1 < 5000; omega
      · have := key csB fB (hx.2 rfl) h0; show p.1 < 5000; omega
    have hw : IntKind.i64.wrap (x.2.1 + off) = x.2.1 + off := IntWalk.i64_in _ (by
      have : 0 ≤ off ∧ off ≤ 5000 := by
        rw [ho]
        split <;> omega
      omega)
    by_cases e : z = x
    · rw [if_pos e, if_pos e, hw, ho]
      unfold toS
      rw [if_neg h0]
    · rw [if_neg e, if_neg e]
theorem toL_run (off : Int) : ∀ (m l r : List Sd), sides pn csA csB fA fB = l ++ (m ++ r) → (∀ x ∈ m, off = if x.1 = true then (csA.length : Int) else 0) → csA.length ≤ 5000 → csB.length ≤ 5000 →
    m.foldl (stp J off) (toL pn csA csB fA fB J l, (l.filter (cF J)).length) = (toL pn csA csB fA fB J (l ++ m), ((l ++ m).filter (cF J)).length)
  | [], l, r, _, _, _, _ => by simp
  | x :: m, l, r, hl, ho, hc, hcB => by
    rw [List.foldl_cons, toL_stp (r := m ++ r) (by rw [hl]; simp) hc hcB off (ho x (by simp)), toL_run off m (l ++ [x]) r (by rw [hl]; simp) (fun y hy => ho y (by simp [hy])) hc hcB]
    simp
/-- Both nets seen. -/
theorem toL_all (hc : csA.length ≤ 5000) (hcB : csB.length ≤ 5000) :
    stT J (csA.length : Int) true (stT J 0 false (fun _ => none, 0) (allPs pn csA fA)) (allPs pn csB fB) = (fun x => if x ∈ leftS pn csA csB fA fB J then some (encPt (toS csA.length fA fB J x)) else none, (leftF fA fB J).length) := by
  have h1 : stT J 0 false (fun _ => none, 0) (allPs pn csA fA) = (toL pn csA csB fA fB J ((allPs pn csA fA).map fun p => ((false, p) : Sd)), (((allPs pn csA fA).map fun p => ((false, p) : Sd)).filter (cF J)).length) := by
    have := toL_run (pn := pn) (csA := csA) (csB := csB) (fA := fA) (fB := fB) (J := J) 0 ((allPs pn csA fA).map fun p => ((false, p) : Sd)) [] ((allPs pn csB fB).map fun p => ((true, p) : Sd)) rfl (fun x hx => by
      obtain ⟨p, _, rfl⟩ := List.mem_map.1 hx
      simp) hc hcB
    have e : (toL pn csA csB fA fB J [], (([] : List Sd).filter (cF J)).length) = ((fun _ => none, 0) : StT) := by
      refine Prod.ext ?_ rfl
      funext x
      simp [toL]
    rw [e] at this
    exact this
  have h2 := toL_run (pn := pn) (csA := csA) (csB := csB) (fA := fA) (fB := fB) (J := J) (csA.length : Int) ((allPs pn csB fB).map fun p => ((true, p) : Sd)) ((allPs pn csA fA).map fun p => ((false, p) : Sd)) [] (by unfold sides; simp) (fun x hx => by
      obtain ⟨p, _, rfl⟩ := List.mem_map.1 hx
      simp) hc hcB
  rw [h1]
  unfold stT
  rw [h2]
  have e : (allPs pn csA fA).map (fun p => ((false, p) : Sd)) ++ (allPs pn csB fB).map (fun p => ((true, p) : Sd)) = sides pn csA csB fA fB := rfl
  rw [e, sides_cF]
  refine Prod.ext ?_ rfl
  funext x
  unfold toL
  dsimp only
  by_cases h : x ∈ leftS pn csA csB fA fB J
  · rw [if_pos ⟨sides_mem.2 (leftS_mem.1 h).1, h⟩, if_pos h]
  · rw [if_neg (fun e => h e.2), if_neg h]
end
end Go.Proofs.Ytcebejcdfdahjaa
