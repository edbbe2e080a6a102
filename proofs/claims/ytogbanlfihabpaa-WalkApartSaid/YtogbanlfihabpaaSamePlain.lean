/-
  Plain: two codes are the same just if two walks side by side see the same.
-/
import Derived.Test.YtogbanlfihabpaaNetBuild
import Derived.Test.YtogbanlfihabpaaNetTop
/-
  Plain: links of tidy nets, of nets renumbered; there and back.
-/
namespace Go.Proofs.Ytogbanlfihabpaa
open Go.RowKit
set_option linter.unusedVariables false

theorem ends_cons (a b : Pt) (r : List (Pt × Pt)) : ends ((a, b) :: r) = a :: b :: ends r := by simp [ends]
theorem mem_ends {W : List (Pt × Pt)} {x : Pt} : x ∈ ends W ↔ ∃ y, (x, y) ∈ W ∨ (y, x) ∈ W := by
  induction W with
  | nil => simp [ends]
  | cons w r ih =>
    obtain ⟨a, b⟩ := w
    rw [ends_cons]
    simp only [List.mem_cons, ih, Prod.mk.injEq]
    constructor
    · rintro (rfl | rfl | ⟨y, h | h⟩)
      · exact ⟨b, .inl (.inl ⟨rfl, rfl⟩)⟩
      · exact ⟨a, .inr (.inl ⟨rfl, rfl⟩)⟩
      · exact ⟨y, .inl (.inr h)⟩
      · exact ⟨y, .inr (.inr h)⟩
    · rintro ⟨y, (⟨rfl, rfl⟩ | h) | (⟨rfl, rfl⟩ | h)⟩
      · exact .inl rfl
      · exact .inr (.inr ⟨y, .inl h⟩)
      · exact .inr (.inl rfl)
      · exact .inr (.inr ⟨y, .inr h⟩)
theorem lnk_iff {W : List (Pt × Pt)} (hn : (ends W).Nodup) {p q : Pt} : lnk W p = some q ↔ (p, q) ∈ W ∨ (q, p) ∈ W := by
  induction W with
  | nil => simp [lnk]
  | cons w r ih =>
    obtain ⟨a, b⟩ := w
    rw [ends_cons, List.nodup_cons, List.nodup_cons] at hn
    obtain ⟨h1, h2, h3⟩ := hn
    have hab : a ≠ b := fun e => h1 (by simp [e])
    have ha : a ∉ ends r := fun h => h1 (by simp [h])
    have ih' := ih h3
    simp only [lnk, List.mem_cons, Prod.mk.injEq]
    by_cases e1 : a = p
    · subst e1
      rw [if_pos rfl]
      constructor
      · intro h; simp only [Option.some.injEq] at h; exact .inl (.inl ⟨rfl, h.symm⟩)
      · rintro ((⟨_, rfl⟩ | h) | (⟨rfl, e⟩ | h))
        · rfl
        · exact absurd (mem_ends.2 ⟨q, .inl h⟩) ha
        · exact absurd e hab
        · exact absurd (mem_ends.2 ⟨q, .inr h⟩) ha
    · rw [if_neg e1]
      by_cases e2 : b = p
      · subst e2
        rw [if_pos rfl]
        constructor
        · intro h; simp only [Option.some.injEq] at h; exact .inr (.inl ⟨h.symm, rfl⟩)
        · rintro ((⟨e, _⟩ | h) | (⟨rfl, _⟩ | h))
          · exact absurd e.symm e1
          · exact absurd (mem_ends.2 ⟨q, .inl h⟩) h2
          · rfl
          · exact absurd (mem_ends.2 ⟨q, .inr h⟩) h2
      · rw [if_neg e2, ih']
        constructor
        · rintro (h | h)
          · exact .inl (.inr h)
          · exact .inr (.inr h)
        · rintro ((⟨e, _⟩ | h) | (⟨_, e⟩ | h))
          · exact absurd e.symm e1
          · exact .inl h
          · exact absurd e.symm e2
          · exact .inr h
theorem lnk_sym {W : List (Pt × Pt)} (hn : (ends W).Nodup) {p q : Pt} (h : lnk W p = some q) : lnk W q = some p := (lnk_iff hn).2 ((lnk_iff hn).1 h).symm
section
variable {P : List Pt} {lk : Pt → Option Pt}
end
section
variable {pn : Int → Nat} {cells out cs fs : List Int} {free : Nat} {W : List (Pt × Pt)}
end
end Go.Proofs.Ytogbanlfihabpaa
/-
  Plain: the walk over a web, the places at which it finds the cells, the code.
-/
/-
  Plain: links of tidy nets, of nets renumbered; there and back (the theorems are in NetPlainK).
-/
/-
  Contract of net.Move.
-/
namespace Go.Proofs.Ytogbanlfihabpaa
open Go.RowKit Go.Shelf
attribute [local go_sem] cell_set
set_option maxRecDepth 100000
set_option linter.unusedVariables false

end Go.Proofs.Ytogbanlfihabpaa
namespace Go.Proofs.Ytogbanlfihabpaa
set_option linter.unusedVariables false

/-- A cell that is found: laid behind the list, once. -/
def addC (l : List Int) (c : Int) : List Int := if 0 ≤ c ∧ c ∉ l then l ++ [c] else l
def rowP (pn : Int → Nat) (cs : List Int) (Lk : Pt → Pt) (c : Int) : List Pt := (List.range (pn (cs.getD c.toNat 0))).map fun (k : Nat) => Lk (c, (k : Int))
def visitK (R : List Pt) (l : List Int) (k : Nat) : List Int := (R.take k).foldl (fun l p => addC l p.1) l
def visit (R : List Pt) (l : List Int) : List Int := visitK R l R.length
def walkF (row : Int → List Pt) : Nat → Nat → List Int → List Int
  | 0, _, l => l
  | f + 1, i, l => if i < l.length then walkF row f (i + 1) (visit (row (l.getD i 0)) l) else l
/-- The cells of a net that are found, all numbers below n. -/
structure Fnd (n : Nat) (l : List Int) : Prop where
  nd : l.Nodup
  lt : ∀ x ∈ l, 0 ≤ x ∧ x < n
theorem Fnd.len {n : Nat} {l : List Int} (h : Fnd n l) : l.length ≤ n := nodup_lt h.nd h.lt
theorem Fnd.nil (n : Nat) : Fnd n [] := ⟨List.nodup_nil, by simp⟩
theorem Fnd.add {n : Nat} {l : List Int} (h : Fnd n l) {c : Int} (hc : c < n) : Fnd n (addC l c) := by
  unfold addC
  split
  · rename_i h1
    refine ⟨List.nodup_append.2 ⟨h.nd, by simp, fun a ha b hb => ?_⟩, fun x hx => ?_⟩
    · simp only [List.mem_singleton] at hb; subst hb; exact fun e => h1.2 (e ▸ ha)
    · simp only [List.mem_append, List.mem_singleton] at hx
      rcases hx with hx | rfl
      · exact h.lt x hx
      · exact ⟨h1.1, hc⟩
  · exact h
theorem visitK_succ {R : List Pt} {l : List Int} {k : Nat} (hk : k < R.length) : visitK R l (k + 1) = addC (visitK R l k) (R.getD k default).1 := by
  unfold visitK
  rw [List.take_add_one, List.getElem?_eq_getElem hk, List.getD_eq_getElem?_getD, List.getElem?_eq_getElem hk, List.foldl_append]
  rfl
theorem visitK_0 (R : List Pt) (l : List Int) : visitK R l 0 = l := by simp [visitK]
theorem Fnd.visitK {n : Nat} {l : List Int} (h : Fnd n l) {R : List Pt} (hR : ∀ p ∈ R, p.1 < n) (k : Nat) : Fnd n (visitK R l k) := by
  induction k with
  | zero => rw [visitK_0]; exact h
  | succ k ih =>
    by_cases hk : k < R.length
    · rw [visitK_succ hk]
      refine ih.add (hR _ ?_)
      rw [List.getD_eq_getElem?_getD, List.getElem?_eq_getElem hk]; exact List.getElem_mem hk
    · have : Go.Proofs.Ytogbanlfihabpaa.visitK R l (k + 1) = Go.Proofs.Ytogbanlfihabpaa.visitK R l k := by
        unfold Go.Proofs.Ytogbanlfihabpaa.visitK
        rw [List.take_of_length_le (by omega), List.take_of_length_le (by omega)]
      rw [this]; exact ih
theorem visitK_pre (R : List Pt) (l : List Int) (k : Nat) : l <+: visitK R l k := by
  unfold visitK
  generalize R.take k = R'
  induction R' generalizing l with
  | nil => exact List.prefix_refl _
  | cons p r ih =>
    refine List.IsPrefix.trans ?_ (ih (addC l p.1))
    unfold addC
    split
    · exact List.prefix_append _ _
    · exact List.prefix_refl _
theorem walkF_done {row : Int → List Pt} {f i : Nat} {l : List Int} (h : l.length ≤ i) : walkF row f i l = l := by
  cases f with
  | zero => rfl
  | succ f => rw [walkF, if_neg (by omega)]
theorem walkF_step {row : Int → List Pt} {f i : Nat} {l : List Int} (h : i < l.length) : walkF row (f + 1) i l = walkF row f (i + 1) (visit (row (l.getD i 0)) l) := by
  rw [walkF, if_pos h]
/-! ### Where the walk found the cells -/
theorem addC_neg {l : List Int} {c : Int} (hc : c < 0) : addC l c = l := by unfold addC; rw [if_neg (by omega)]
/-! ### The code -/
def markN0 (fd : List Int) (p : Pt) : Int := if p.1 < 0 then -1 - p.2 else 8 * fd.getD p.1.toNat 0 + p.2
/-- The part of the code for cell c. -/
def cellC (cs : List Int) (row : Int → List Pt) (fd : List Int) (c : Int) : List Int := cs.getD c.toNat 0 :: (row c).map (markN0 fd)
def codeK (cs : List Int) (row : Int → List Pt) (fd : List Int) (p : Pt) (l : List Int) : List Int := markN0 fd p :: l.flatMap (cellC cs row fd)
/-- The port at which a walk begins. -/
def startP (Lk : Pt → Pt) (p : Pt) : Pt := if p.1 < 0 then Lk p else p
def walkL (n : Nat) (row : Int → List Pt) (c : Int) : List Int := walkF row (n + 1) 0 (addC [] c)
theorem Fnd.walkF {n : Nat} {row : Int → List Pt} (hR : ∀ c p, p ∈ row c → p.1 < n) (f i : Nat) {l : List Int} (h : Fnd n l) : Fnd n (walkF row f i l) := by
  induction f generalizing i l with
  | zero => exact h
  | succ f ih =>
    rw [Go.Proofs.Ytogbanlfihabpaa.walkF]
    split
    · exact ih _ (h.visitK (hR _) _)
    · exact h
end Go.Proofs.Ytogbanlfihabpaa
namespace Go.Proofs.Ytogbanlfihabpaa
set_option linter.unusedVariables false

theorem visit_eq (R : List Pt) (l : List Int) : visit R l = R.foldl (fun l p => addC l p.1) l := by unfold visit visitK; rw [List.take_length]
theorem visit_nil (l : List Int) : visit [] l = l := rfl
theorem visit_cons (p : Pt) (R : List Pt) (l : List Int) : visit (p :: R) l = visit R (addC l p.1) := by simp [visit_eq]
theorem visit_append (R R' : List Pt) (l : List Int) : visit (R ++ R') l = visit R' (visit R l) := by simp [visit_eq, List.foldl_append]
theorem mem_addC {l : List Int} {c x : Int} : x ∈ addC l c ↔ x ∈ l ∨ (x = c ∧ 0 ≤ c) := by
  unfold addC
  split
  · rename_i h
    simp only [List.mem_append, List.mem_singleton]
    exact ⟨fun h' => h'.imp id fun e => ⟨e, h.1⟩, fun h' => h'.imp id fun e => e.1⟩
  · rename_i h
    refine ⟨.inl, fun h' => h'.elim id fun e => ?_⟩
    rcases Classical.em (c ∈ l) with hm | hm
    · exact e.1 ▸ hm
    · exact absurd ⟨e.2, hm⟩ h
theorem mem_visit {R : List Pt} {l : List Int} {x : Int} : x ∈ visit R l ↔ x ∈ l ∨ (0 ≤ x ∧ ∃ p ∈ R, p.1 = x) := by
  induction R generalizing l with
  | nil => simp [visit_nil]
  | cons p R ih =>
    rw [visit_cons, ih, mem_addC]
    constructor
    · rintro ((h | ⟨rfl, h⟩) | ⟨h, q, hq, e⟩)
      · exact .inl h
      · exact .inr ⟨h, p, by simp, rfl⟩
      · exact .inr ⟨h, q, by simp [hq], e⟩
    · rintro (h | ⟨h, q, hq, e⟩)
      · exact .inl (.inl h)
      · rcases List.mem_cons.1 hq with rfl | hq
        · exact .inl (.inr ⟨e.symm, e ▸ h⟩)
        · exact .inr ⟨h, q, hq, e⟩
theorem visit_pre (R : List Pt) (l : List Int) : l <+: visit R l := visitK_pre R l _
theorem walkF_pre (row : Int → List Pt) (g i : Nat) (l : List Int) : l <+: walkF row g i l := by
  induction g generalizing i l with
  | zero => exact List.prefix_refl _
  | succ g ih =>
    rw [walkF]
    split
    · exact (visit_pre _ _).trans (ih _ _)
    · exact List.prefix_refl _
theorem drop_at {l : List Int} {i : Nat} (h : i < l.length) : l.drop i = l.getD i 0 :: l.drop (i + 1) := by
  rw [List.drop_eq_getElem_cons h, List.getD_eq_getElem?_getD, List.getElem?_eq_getElem h]; rfl
theorem pre_getD {l L : List Int} (h : l <+: L) {i : Nat} (hi : i < l.length) : L.getD i 0 = l.getD i 0 := by
  obtain ⟨t, rfl⟩ := h
  simp [List.getD_eq_getElem?_getD, List.getElem?_append_left hi]
theorem walkF_fix (row : Int → List Pt) {n : Nat} (hR : ∀ c p, p ∈ row c → p.1 < n) : ∀ (g i : Nat) (l : List Int), Fnd n l → i ≤ l.length → n + 1 ≤ g + i → visit (((walkF row g i l).drop i).flatMap row) l = walkF row g i l := by
  intro g
  induction g with
  | zero => intro i l hl hi hg; have := hl.len; omega
  | succ g ih =>
    intro i l hl hi hg
    by_cases h : i < l.length
    · rw [walkF_step h]
      have hl2 : Fnd n (visit (row (l.getD i 0)) l) := hl.visitK (hR _) _
      have hp : l <+: visit (row (l.getD i 0)) l := visit_pre _ _
      have h2 := ih (i + 1) _ hl2 (by have := hp.length_le; omega) (by omega)
      have hp2 := hp.trans (walkF_pre row g (i + 1) (visit (row (l.getD i 0)) l))
      have hd := drop_at (l := walkF row g (i + 1) (visit (row (l.getD i 0)) l)) (i := i) (by have := hp2.length_le; omega)
      rw [pre_getD hp2 h] at hd
      rw [hd, List.flatMap_cons, visit_append, h2]
    · rw [walkF_done (by omega), List.drop_eq_nil_of_le (by omega)]; rfl

/-! ### What a walk sees -/
/-! ### Two walks side by side -/
structure PtOk (p : Pt) : Prop where
  c : p.1 = -1 ∨ 0 ≤ p.1
  s : 0 ≤ p.2
  s8 : 0 ≤ p.1 → p.2 < 8
/-! ### The codes -/
/-- A list of the cells that a walk from s finds. -/
structure Walked (lab : Int → Int) (row : Int → List Pt) (L : List Int) (s : Pt) : Prop where
  nd : L.Nodup
  sub : ∀ c ∈ L, 0 ≤ c ∧ ∃ p ∈ s :: L.flatMap row, p.1 = c
  all : ∀ p ∈ s :: L.flatMap row, 0 ≤ p.1 → p.1 ∈ L
  ok : ∀ p ∈ s :: L.flatMap row, PtOk p
/-! ### Of nets -/
section
variable {pn : Int → Nat} {cs : List Int} {Lk : Pt → Pt} {p : Pt}
def wlk (pn : Int → Nat) (cs : List Int) (Lk : Pt → Pt) (p : Pt) : List Int := walkL cs.length (rowP pn cs Lk) (startP Lk p).1
theorem rowP_mem {c : Int} {q : Pt} (h : q ∈ rowP pn cs Lk c) : ∃ x, q = Lk x := by
  simp only [rowP, List.mem_map] at h
  obtain ⟨k, _, rfl⟩ := h
  exact ⟨_, rfl⟩
theorem wlk_fnd (hL : ∀ x, (Lk x).1 < cs.length) (hs : (startP Lk p).1 < cs.length) : Fnd cs.length (wlk pn cs Lk p) :=
  ((Fnd.nil _).add hs).walkF (fun c q hq => by obtain ⟨x, rfl⟩ := rowP_mem hq; exact hL x) _ _
theorem wlk_fix (hL : ∀ x, (Lk x).1 < cs.length) (hs : (startP Lk p).1 < cs.length) : visit (startP Lk p :: (wlk pn cs Lk p).flatMap (rowP pn cs Lk)) [] = wlk pn cs Lk p := by
  rw [visit_cons]
  exact walkF_fix (rowP pn cs Lk) (n := cs.length) (fun c q hq => by obtain ⟨x, rfl⟩ := rowP_mem hq; exact hL x) (cs.length + 1) 0 _ ((Fnd.nil _).add hs) (by omega) (by omega)
end
end Go.Proofs.Ytogbanlfihabpaa
