/-
  Plain: two codes are the same just if two walks side by side see the same.
-/
import Derived.Test.YtkonfogebepccaaGreatDoorWebPlain
namespace Go.Proofs.YtkonfogebepccaaGreatDoor
set_option linter.unusedVariables false

theorem visit_eq (R : List Pt) (l : List Int) : visit R l = R.foldl (fun l p => addC l p.1) l := by unfold visit visitK; rw [List.take_length]
theorem visit_nil (l : List Int) : visit [] l = l := rfl
theorem visit_cons (p : Pt) (R : List Pt) (l : List Int) : visit (p :: R) l = visit R (addC l p.1) := by simp [visit_eq]
theorem visit_append (R R' : List Pt) (l : List Int) : visit (R ++ R') l = visit R' (visit R l) := by simp [visit_eq, List.foldl_append]
theorem mem_addC {l : List Int} {c x : Int} : x ∈ addC l c ↔ x ∈ l ∨ (x = c ∧ 0 ≤ c) := by
  unfold addC
  split
  · rename_i h
    simp only [List.mem_append, List.mem_singleton]
    exact ⟨fun h' => h'.imp id fun e => ⟨e, h.1⟩, fun h' => h'.imp id fun e => e.1⟩
  · rename_i h
    refine ⟨.inl, fun h' => h'.elim id fun e => ?_⟩
    rcases Classical.em (c ∈ l) with hm | hm
    · exact e.1 ▸ hm
    · exact absurd ⟨e.2, hm⟩ h
theorem mem_visit {R : List Pt} {l : List Int} {x : Int} : x ∈ visit R l ↔ x ∈ l ∨ (0 ≤ x ∧ ∃ p ∈ R, p.1 = x) := by
  induction R generalizing l with
  | nil => simp [visit_nil]
  | cons p R ih =>
    rw [visit_cons, ih, mem_addC]
    constructor
    · rintro ((h | ⟨rfl, h⟩) | ⟨h, q, hq, e⟩)
      · exact .inl h
      · exact .inr ⟨h, p, by simp, rfl⟩
      · exact .inr ⟨h, q, by simp [hq], e⟩
    · rintro (h | ⟨h, q, hq, e⟩)
      · exact .inl (.inl h)
      · rcases List.mem_cons.1 hq with rfl | hq
        · exact .inl (.inr ⟨e.symm, e ▸ h⟩)
        · exact .inr ⟨h, q, hq, e⟩
theorem visit_pre (R : List Pt) (l : List Int) : l <+: visit R l := visitK_pre R l _
theorem walkF_pre (row : Int → List Pt) (g i : Nat) (l : List Int) : l <+: walkF row g i l := by
  induction g generalizing i l with
  | zero => exact List.prefix_refl _
  | succ g ih =>
    rw [walkF]
    split
    · exact (visit_pre _ _).trans (ih _ _)
    · exact List.prefix_refl _
theorem drop_at {l : List Int} {i : Nat} (h : i < l.length) : l.drop i = l.getD i 0 :: l.drop (i + 1) := by
  rw [List.drop_eq_getElem_cons h, List.getD_eq_getElem?_getD, List.getElem?_eq_getElem h]; rfl
theorem pre_getD {l L : List Int} (h : l <+: L) {i : Nat} (hi : i < l.length) : L.getD i 0 = l.getD i 0 := by
  obtain ⟨t, rfl⟩ := h
  simp [List.getD_eq_getElem?_getD, List.getElem?_append_left hi]
theorem walkF_fix (row : Int → List Pt) {n : Nat} (hR : ∀ c p, p ∈ row c → p.1 < n) : ∀ (g i : Nat) (l : List Int), Fnd n l → i ≤ l.length → n + 1 ≤ g + i → visit (((walkF row g i l).drop i).flatMap row) l = walkF row g i l := by
  intro g
  induction g with
  | zero => intro i l hl hi hg; have := hl.len; omega
  | succ g ih =>
    intro i l hl hi hg
    by_cases h : i < l.length
    · rw [walkF_step h]
      have hl2 : Fnd n (visit (row (l.getD i 0)) l) := hl.visitK (hR _) _
      have hp : l <+: visit (row (l.getD i 0)) l := visit_pre _ _
      have h2 := ih (i + 1) _ hl2 (by have := hp.length_le; omega) (by omega)
      have hp2 := hp.trans (walkF_pre row g (i + 1) (visit (row (l.getD i 0)) l))
      have hd := drop_at (l := walkF row g (i + 1) (visit (row (l.getD i 0)) l)) (i := i) (by have := hp2.length_le; omega)
      rw [pre_getD hp2 h] at hd
      rw [hd, List.flatMap_cons, visit_append, h2]
    · rw [walkF_done (by omega), List.drop_eq_nil_of_le (by omega)]; rfl

/-! ### What a walk sees -/
/-! ### Two walks side by side -/
structure PtOk (p : Pt) : Prop where
  c : p.1 = -1 ∨ 0 ≤ p.1
  s : 0 ≤ p.2
  s8 : 0 ≤ p.1 → p.2 < 8
/-! ### The codes -/
/-- A list of the cells that a walk from s finds. -/
structure Walked (lab : Int → Int) (row : Int → List Pt) (L : List Int) (s : Pt) : Prop where
  nd : L.Nodup
  sub : ∀ c ∈ L, 0 ≤ c ∧ ∃ p ∈ s :: L.flatMap row, p.1 = c
  all : ∀ p ∈ s :: L.flatMap row, 0 ≤ p.1 → p.1 ∈ L
  ok : ∀ p ∈ s :: L.flatMap row, PtOk p
/-! ### Of nets -/
section
variable {pn : Int → Nat} {cs : List Int} {Lk : Pt → Pt} {p : Pt}
def wlk (pn : Int → Nat) (cs : List Int) (Lk : Pt → Pt) (p : Pt) : List Int := walkL cs.length (rowP pn cs Lk) (startP Lk p).1
theorem rowP_mem {c : Int} {q : Pt} (h : q ∈ rowP pn cs Lk c) : ∃ x, q = Lk x := by
  simp only [rowP, List.mem_map] at h
  obtain ⟨k, _, rfl⟩ := h
  exact ⟨_, rfl⟩
theorem wlk_fnd (hL : ∀ x, (Lk x).1 < cs.length) (hs : (startP Lk p).1 < cs.length) : Fnd cs.length (wlk pn cs Lk p) :=
  ((Fnd.nil _).add hs).walkF (fun c q hq => by obtain ⟨x, rfl⟩ := rowP_mem hq; exact hL x) _ _
theorem wlk_fix (hL : ∀ x, (Lk x).1 < cs.length) (hs : (startP Lk p).1 < cs.length) : visit (startP Lk p :: (wlk pn cs Lk p).flatMap (rowP pn cs Lk)) [] = wlk pn cs Lk p := by
  rw [visit_cons]
  exact walkF_fix (rowP pn cs Lk) (n := cs.length) (fun c q hq => by obtain ⟨x, rfl⟩ := rowP_mem hq; exact hL x) (cs.length + 1) 0 _ ((Fnd.nil _).add hs) (by omega) (by omega)
end
end Go.Proofs.YtkonfogebepccaaGreatDoor
