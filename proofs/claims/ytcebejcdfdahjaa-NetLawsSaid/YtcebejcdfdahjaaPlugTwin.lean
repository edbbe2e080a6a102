/-
  Plain: the answer's list of twins, and what its inner loop goes through.
-/
import Derived.Test.YtcebejcdfdahjaaPlugPlace
namespace Go.Proofs.Ytcebejcdfdahjaa
open Go.RowKit
set_option linter.unusedVariables false

theorem twJ_snoc (J : List (Int × Int)) (j : Int × Int) (x : Sd) : twJ (J ++ [j]) x = (twJ J x).or (if x = (false, (-1, j.1)) then some (true, (-1, j.2)) else if x = (true, (-1, j.2)) then some (false, (-1, j.1)) else none) := by
  induction J with
  | nil => simp [twJ]
  | cons k r ih =>
    rw [List.cons_append, twJ, twJ]
    by_cases h1 : x = (false, (-1, k.1))
    · rw [if_pos h1, if_pos h1]; rfl
    · rw [if_neg h1, if_neg h1]
      by_cases h2 : x = (true, (-1, k.2))
      · rw [if_pos h2, if_pos h2]; rfl
      · rw [if_neg h2, if_neg h2, ih]
theorem jOkTake {fA fB : Nat} {J : List (Int × Int)} (h : JOk fA fB J) (k : Nat) : JOk fA fB (J.take k) :=
  ⟨fun j hj => h.r j (List.mem_of_mem_take hj), by rw [List.map_take]; exact h.a.sublist (List.take_sublist _ _), by rw [List.map_take]; exact h.b.sublist (List.take_sublist _ _)⟩
section
variable (pn : Int → Nat) (csA csB : List Int) (fA fB : Nat)
/-- The list of twins. -/
structure TwL (J : List (Int × Int)) (l : List Int) : Prop where
  len : l.length = firstN pn csA fA csA.length + firstN pn csB fB csB.length
  at_ : ∀ x, isSd pn csA csB fA fB x → l[plS pn csA csB fA fB x]? = some (match twJ J x with
    | none => 0
    | some z => (plS pn csA csB fA fB z : Int) + 1)
variable {pn csA csB fA fB} {J : List (Int × Int)} {WA WB : List (Pt × Pt)}
theorem TwL.nil : TwL pn csA csB fA fB [] (List.replicate (firstN pn csA fA csA.length + firstN pn csB fB csB.length) 0) := by
  refine ⟨by simp, fun x hx => ?_⟩
  rw [List.getElem?_replicate, if_pos (plS_lt hx)]
  rfl
theorem TwL.snoc {l : List Int} {j : Int × Int} (h : TwL pn csA csB fA fB J l) (hJ : JOk fA fB (J ++ [j])) :
    TwL pn csA csB fA fB (J ++ [j]) ((l.set (plS pn csA csB fA fB (false, (-1, j.1))) ((plS pn csA csB fA fB (true, (-1, j.2)) : Int) + 1)).set (plS pn csA csB fA fB (true, (-1, j.2))) ((plS pn csA csB fA fB (false, (-1, j.1)) : Int) + 1)) := by
  obtain ⟨r1, r2, r3, r4⟩ := hJ.r j (by simp)
  have hX : isSd pn csA csB fA fB (false, (-1, j.1)) := ⟨fun _ => isPt_fr r1 r2, fun h => by simp at h⟩
  have hY : isSd pn csA csB fA fB (true, (-1, j.2)) := ⟨fun h => by simp at h, fun _ => isPt_fr r3 r4⟩
  have hnX : twJ J (false, (-1, j.1)) = none := by
    cases ht : twJ J (false, (-1, j.1)) with
    | none => rfl
    | some y =>
      have := hJ.a
      rw [List.map_append, List.nodup_append] at this
      have h0 := hJ.b
      rw [List.map_append, List.nodup_append] at h0
      obtain ⟨k, hk, (⟨e, _⟩ | ⟨e, _⟩)⟩ := (twJ_spec J this.1 h0.1 _ _).1 ht
      · simp at e
        exact absurd e.symm (this.2.2 _ (List.mem_map_of_mem hk) _ (by simp))
      · simp at e
  have hnY : twJ J (true, (-1, j.2)) = none := by
    cases ht : twJ J (true, (-1, j.2)) with
    | none => rfl
    | some y =>
      have := hJ.a
      rw [List.map_append, List.nodup_append] at this
      have h0 := hJ.b
      rw [List.map_append, List.nodup_append] at h0
      obtain ⟨k, hk, (⟨e, _⟩ | ⟨e, _⟩)⟩ := (twJ_spec J this.1 h0.1 _ _).1 ht
      · simp at e
      · simp at e
        exact absurd e.symm (h0.2.2 _ (List.mem_map_of_mem hk) _ (by simp))
  refine ⟨by simpa using h.len, fun x hx => ?_⟩
  have hl := plS_lt hx
  rw [twJ_snoc, List.getElem?_set, List.getElem?_set]
  by_cases e2 : x = (true, (-1, j.2))
  · subst e2
    rw [if_pos rfl, if_pos (by simp [h.len]; exact hl), hnY, if_neg (by simp), if_pos rfl]
    rfl
  · rw [if_neg (fun e => e2 (plS_inj hx hY e.symm))]
    by_cases e1 : x = (false, (-1, j.1))
    · subst e1
      rw [if_pos rfl, if_pos (by rw [h.len]; exact hl), hnX, if_pos rfl]
      rfl
    · rw [if_neg (fun e => e1 (plS_inj hx hX e.symm)), h.at_ x hx, if_neg e1, if_neg e2]
      cases twJ J x <;> rfl
/-- The list of links of both. -/
structure LkL (WA WB : List (Pt × Pt)) (l : List Int) : Prop where
  len : l.length = firstN pn csA fA csA.length + firstN pn csB fB csB.length
  at_ : ∀ x, isSd pn csA csB fA fB x → l[plS pn csA csB fA fB x]? = some (plS pn csA csB fA fB (nxS WA WB x) : Int)
theorem LkL.mk' (hA : NetOk pn csA fA WA) (hB : NetOk pn csB fB WB) : LkL (pn := pn) (csA := csA) (csB := csB) (fA := fA) (fB := fB) WA WB (lkK pn csA fA WA WA.length ++ (lkK pn csB fB WB WB.length).map (· + (firstN pn csA fA csA.length : Int))) := by
  have key : ∀ (cs : List Int) (f : Nat) (W : List (Pt × Pt)) (p : Pt), NetOk pn cs f W → isPt pn cs f p = true → (lkK pn cs f W W.length)[plc pn cs f p]? = some (plc pn cs f (lkT (lnk W) p) : Int) := fun cs f W p h hp => by
    obtain ⟨q, hq, _⟩ := h.lnk hp
    have := lkK_at h (Nat.le_refl W.length) hp (by rw [List.take_length]; exact hq)
    have e : lkT (lnk W) p = q := by unfold lkT; rw [hq]; rfl
    rw [e]; exact this
  refine ⟨by simp [lkK_len], fun x hx => ?_⟩
  obtain ⟨b, p⟩ := x
  unfold plS nxS
  cases b
  · have h1 : plc pn csA fA p < _ := plc_lt pn (hx.1 rfl)
    simp only [Bool.false_eq_true, if_false]
    rw [List.getElem?_append_left (by rw [lkK_len]; exact h1)]
    exact key csA fA WA p hA (hx.1 rfl)
  · simp only [if_true]
    rw [List.getElem?_append_right (by rw [lkK_len]; omega), lkK_len, Nat.add_sub_cancel_left, List.getElem?_map]
    have := key csB fB WB p hB (hx.2 rfl)
    rw [this]
    simp only [Option.map_some]
    congr 1
    omega
end
end Go.Proofs.Ytcebejcdfdahjaa
