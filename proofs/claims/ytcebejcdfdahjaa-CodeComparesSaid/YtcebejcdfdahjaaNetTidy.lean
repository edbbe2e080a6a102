/-
  Plain: the answer's tidy wires are the tidy wires.
-/
import Derived.Test.YtcebejcdfdahjaaRef03L
namespace Go.Proofs.Ytcebejcdfdahjaa
open Go.RowKit
set_option linter.unusedVariables false

theorem filterMap_congr' {α β : Type} {l : List α} {f g : α → Option β} (h : ∀ x ∈ l, f x = g x) : l.filterMap f = l.filterMap g := by
  induction l with
  | nil => rfl
  | cons x r ih =>
    rw [List.filterMap_cons, List.filterMap_cons, h x (by simp), ih (fun y hy => h y (by simp [hy]))]
theorem take_succ_getD {α : Type} [Inhabited α] {W : List α} {k : Nat} (hk : k < W.length) : W.take (k + 1) = W.take k ++ [W.getD k default] := by
  rw [List.take_add_one, List.getElem?_eq_getElem hk, List.getD_eq_getElem?_getD, List.getElem?_eq_getElem hk]; rfl
theorem ends_append (A B : List (Pt × Pt)) : ends (A ++ B) = ends A ++ ends B := by simp [ends]
theorem ends_new {W : List (Pt × Pt)} (h : (ends W).Nodup) {k : Nat} (hk : k < W.length) {p : Pt} (hp : p ∈ ends (W.take k)) : p ≠ (W.getD k default).1 ∧ p ≠ (W.getD k default).2 := by
  have e : W = W.take k ++ ([W.getD k default] ++ W.drop (k + 1)) := by
    rw [← List.append_assoc, ← take_succ_getD hk, List.take_append_drop]
  rw [e, ends_append, ends_append, List.nodup_append] at h
  have := h.2.2 p hp
  exact ⟨this _ (by simp [ends]), this _ (by simp [ends])⟩
theorem lnk_mem {W : List (Pt × Pt)} {p q : Pt} (h : lnk W p = some q) : p ∈ ends W := by
  by_cases hp : p ∈ ends W
  · exact hp
  · rw [lnk_none hp] at h; cases h
section
variable {pn : Int → Nat} {cells : List Int} {free : Nat} {W : List (Pt × Pt)}
theorem lkK_at (hok : NetOk pn cells free W) {k : Nat} (hk : k ≤ W.length) {p q : Pt} (hp : isPt pn cells free p = true) (h : lnk (W.take k) p = some q) :
    (lkK pn cells free W k)[plc pn cells free p]? = some (plc pn cells free q : Int) := by
  induction k generalizing q with
  | zero => simp [lnk] at h
  | succ k ih =>
    have hkl : k < W.length := by omega
    have hm := ends_at hkl
    have i1 := hok.is _ hm.1
    have i2 := hok.is _ hm.2
    have hne := ends_ne hok.nodup hkl
    have l1 := plc_lt pn i1
    have l2 := plc_lt pn i2
    have hlen := lkK_len pn cells free W k
    rw [take_succ_getD hkl, show W.getD k default = ((W.getD k default).1, (W.getD k default).2) from rfl, lnk_snoc] at h
    rw [lkK]
    cases ho : lnk (W.take k) p with
    | some q' =>
      rw [ho] at h
      simp only [Option.some_or, Option.some.injEq] at h
      subst h
      obtain ⟨n1, n2⟩ := ends_new hok.nodup hkl (lnk_mem ho)
      rw [List.getElem?_set_ne (fun e => n2 (plc_inj pn hp i2 e.symm)), List.getElem?_set_ne (fun e => n1 (plc_inj pn hp i1 e.symm))]
      exact ih (by omega) ho
    | none =>
      rw [ho] at h
      simp only [Option.none_or] at h
      by_cases h1 : (W.getD k default).1 = p
      · rw [if_pos h1] at h
        simp only [Option.some.injEq] at h
        subst h h1
        rw [List.getElem?_set_ne (fun e => hne (plc_inj pn i1 i2 e.symm)), List.getElem?_set_self (by omega)]
      · rw [if_neg h1] at h
        by_cases h2 : (W.getD k default).2 = p
        · rw [if_pos h2] at h
          simp only [Option.some.injEq] at h
          subst h h2
          rw [List.getElem?_set_self (by rw [List.length_set]; omega)]
        · rw [if_neg h2] at h; cases h
/-- What the answer's loop has laid when k places were looked at. -/
def refW (P : List Pt) (l : List Int) (k : Nat) : List (Pt × Pt) := (List.range k).filterMap fun (i : Nat) => if (i : Int) < l.getD i 0 then some (P.getD i default, P.getD (l.getD i 0).toNat default) else none
theorem refW_succ (P : List Pt) (l : List Int) (k : Nat) : refW P l (k + 1) = refW P l k ++ (if (k : Int) < l.getD k 0 then [(P.getD k default, P.getD (l.getD k 0).toNat default)] else []) := by
  unfold refW
  rw [List.range_succ, List.filterMap_append]
  congr 1
  by_cases h : (k : Int) < l.getD k 0
  · rw [if_pos h, List.filterMap_cons, if_pos h]; rfl
  · rw [if_neg h, List.filterMap_cons, if_neg h]; rfl
theorem refW_tidy (hok : NetOk pn cells free W) : refW (allPs pn cells free) (lkK pn cells free W W.length) (firstN pn cells free cells.length) = tidyW (allPs pn cells free) W := by
  have e : allPs pn cells free = (List.range (firstN pn cells free cells.length)).map fun (i : Nat) => (allPs pn cells free).getD i default := by
    refine List.ext_getElem (by simp [allPs_len]) fun i h1 h2 => ?_
    simp [List.getD_eq_getElem?_getD, h1]
  unfold refW tidyW
  conv => rhs; rw [e]
  rw [List.filterMap_map]
  refine filterMap_congr' fun i hi => ?_
  have hil : i < (allPs pn cells free).length := by rw [allPs_len]; exact List.mem_range.1 hi
  have hg : (allPs pn cells free).getD i default = (allPs pn cells free)[i] := by rw [List.getD_eq_getElem?_getD, List.getElem?_eq_getElem hil]; rfl
  have hp := allPs_is pn (List.getElem_mem hil)
  have hpi := plc_at pn (List.getElem?_eq_getElem hil)
  simp only [Function.comp, hg]
  generalize (allPs pn cells free)[i] = p at hp hpi
  obtain ⟨q, hq1, hq2⟩ := hok.lnk hp
  have hl := lkK_at hok (Nat.le_refl _) hp (by rw [List.take_length]; exact hq1)
  rw [hpi] at hl
  have hl2 : (lkK pn cells free W W.length).getD i 0 = (plc pn cells free q : Int) := by rw [List.getD_eq_getElem?_getD, hl]; rfl
  have hq3 : (allPs pn cells free).getD (plc pn cells free q) default = q := by rw [List.getD_eq_getElem?_getD, allPs_plc pn hq2]; rfl
  rw [hl2, hq1, Int.toNat_natCast, hq3]
  show _ = if bef p q = true then some (p, q) else none
  rw [bef_plc pn hp hq2, hpi]
  by_cases h : i < plc pn cells free q
  · rw [if_pos (by omega), if_pos (by simpa using h)]
  · rw [if_neg (by omega), if_neg (by simpa using h)]
end
end Go.Proofs.Ytcebejcdfdahjaa
