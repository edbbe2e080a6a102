/-
  Plain: two codes are the same just if two walks side by side see the same.
-/
import Derived.Test.YtcebejcdfdahjaaWebPlain
namespace Go.Proofs.Ytcebejcdfdahjaa
set_option linter.unusedVariables false

theorem visit_eq (R : List Pt) (l : List Int) : visit R l = R.foldl (fun l p => addC l p.1) l := by unfold visit visitK; rw [List.take_length]
theorem visit_nil (l : List Int) : visit [] l = l := rfl
theorem visit_cons (p : Pt) (R : List Pt) (l : List Int) : visit (p :: R) l = visit R (addC l p.1) := by simp [visit_eq]
theorem visit_append (R R' : List Pt) (l : List Int) : visit (R ++ R') l = visit R' (visit R l) := by simp [visit_eq, List.foldl_append]
theorem mem_addC {l : List Int} {c x : Int} : x ∈ addC l c ↔ x ∈ l ∨ (x = c ∧ 0 ≤ c) := by
  unfold addC
  split
  · rename_i h
    simp only [List.mem_append, List.mem_singleton]
    exact ⟨fun h' => h'.imp id fun e => ⟨e, h.1⟩, fun h' => h'.imp id fun e => e.1⟩
  · rename_i h
    refine ⟨.inl, fun h' => h'.elim id fun e => ?_⟩
    rcases Classical.em (c ∈ l) with hm | hm
    · exact e.1 ▸ hm
    · exact absurd ⟨e.2, hm⟩ h
theorem mem_visit {R : List Pt} {l : List Int} {x : Int} : x ∈ visit R l ↔ x ∈ l ∨ (0 ≤ x ∧ ∃ p ∈ R, p.1 = x) := by
  induction R generalizing l with
  | nil => simp [visit_nil]
  | cons p R ih =>
    rw [visit_cons, ih, mem_addC]
    constructor
    · rintro ((h | ⟨rfl, h⟩) | ⟨h, q, hq, e⟩)
      · exact .inl h
      · exact .inr ⟨h, p, by simp, rfl⟩
      · exact .inr ⟨h, q, by simp [hq], e⟩
    · rintro (h | ⟨h, q, hq, e⟩)
      · exact .inl (.inl h)
      · rcases List.mem_cons.1 hq with rfl | hq
        · exact .inl (.inr ⟨e.symm, e ▸ h⟩)
        · exact .inr ⟨h, q, hq, e⟩
theorem visit_pre (R : List Pt) (l : List Int) : l <+: visit R l := visitK_pre R l _
theorem walkF_pre (row : Int → List Pt) (g i : Nat) (l : List Int) : l <+: walkF row g i l := by
  induction g generalizing i l with
  | zero => exact List.prefix_refl _
  | succ g ih =>
    rw [walkF]
    split
    · exact (visit_pre _ _).trans (ih _ _)
    · exact List.prefix_refl _
theorem idx_pre {l L : List Int} (h : l <+: L) {x : Int} (hx : x ∈ l) : L.idxOf x = l.idxOf x := by
  obtain ⟨t, rfl⟩ := h
  rw [List.idxOf_append, if_pos hx]
theorem idx_new {l L : List Int} {x : Int} (h : l ++ [x] <+: L) (hx : x ∉ l) : L.idxOf x = l.length := by
  rw [idx_pre h (by simp), List.idxOf_append, if_neg hx]; simp
theorem idx_no {l : List Int} {x : Int} (hx : x ∉ l) : l.idxOf x = l.length := List.idxOf_eq_length hx
theorem drop_at {l : List Int} {i : Nat} (h : i < l.length) : l.drop i = l.getD i 0 :: l.drop (i + 1) := by
  rw [List.drop_eq_getElem_cons h, List.getD_eq_getElem?_getD, List.getElem?_eq_getElem h]; rfl
theorem pre_getD {l L : List Int} (h : l <+: L) {i : Nat} (hi : i < l.length) : L.getD i 0 = l.getD i 0 := by
  obtain ⟨t, rfl⟩ := h
  simp [List.getD_eq_getElem?_getD, List.getElem?_append_left hi]
theorem walkF_fix (row : Int → List Pt) {n : Nat} (hR : ∀ c p, p ∈ row c → p.1 < n) : ∀ (g i : Nat) (l : List Int), Fnd n l → i ≤ l.length → n + 1 ≤ g + i → visit (((walkF row g i l).drop i).flatMap row) l = walkF row g i l := by
  intro g
  induction g with
  | zero => intro i l hl hi hg; have := hl.len; omega
  | succ g ih =>
    intro i l hl hi hg
    by_cases h : i < l.length
    · rw [walkF_step h]
      have hl2 : Fnd n (visit (row (l.getD i 0)) l) := hl.visitK (hR _) _
      have hp : l <+: visit (row (l.getD i 0)) l := visit_pre _ _
      have h2 := ih (i + 1) _ hl2 (by have := hp.length_le; omega) (by omega)
      have hp2 := hp.trans (walkF_pre row g (i + 1) (visit (row (l.getD i 0)) l))
      have hd := drop_at (l := walkF row g (i + 1) (visit (row (l.getD i 0)) l)) (i := i) (by have := hp2.length_le; omega)
      rw [pre_getD hp2 h] at hd
      rw [hd, List.flatMap_cons, visit_append, h2]
    · rw [walkF_done (by omega), List.drop_eq_nil_of_le (by omega)]; rfl

/-! ### What a walk sees -/
def mkP (lab : Int → Int) (L : List Int) (p : Pt) : Int × Int := if p.1 < 0 then (-1 - p.2, 0) else (8 * (L.idxOf p.1 : Int) + p.2, lab p.1)
def trc (lab : Int → Int) (row : Int → List Pt) : Nat → List Pt → List Int → List (Int × Int)
  | f + 1, p :: Q, d => mkP lab d p :: (if p.1 < 0 ∨ p.1 ∈ d then trc lab row f Q d else trc lab row f (Q ++ row p.1) (d ++ [p.1]))
  | _, _, _ => []
theorem trc_nil (lab : Int → Int) (row : Int → List Pt) (f : Nat) (d : List Int) : trc lab row f [] d = [] := by cases f <;> rfl
theorem mkP_pre {lab : Int → Int} {l L : List Int} (h : l <+: L) {p : Pt} (hp : p.1 < 0 ∨ p.1 ∈ l) : mkP lab L p = mkP lab l p := by
  unfold mkP
  split
  · rfl
  · rw [idx_pre h (hp.resolve_left (by omega))]
theorem mkP_new {lab : Int → Int} {l L : List Int} {p : Pt} (h : l ++ [p.1] <+: L) (hp : p.1 ∉ l) : mkP lab L p = mkP lab l p := by
  unfold mkP
  rw [idx_new h hp, idx_no hp]
theorem trc_walk (lab : Int → Int) (row : Int → List Pt) {n : Nat} (hR : ∀ c p, p ∈ row c → p.1 < n) : ∀ (g i : Nat) (R : List Pt) (l : List Int) (f : Nat) (L : List Int), Fnd n l → i ≤ l.length → (∀ p ∈ R, p.1 < n) → n + 1 ≤ g + i →
    walkF row g i (visit R l) = L → (R ++ (L.drop i).flatMap row).length ≤ f → trc lab row f (R ++ (l.drop i).flatMap row) l = (R ++ (L.drop i).flatMap row).map (mkP lab L) := by
  intro g
  induction g with
  | zero => intro i R l f L hl hi _ hg; have := hl.len; omega
  | succ g ih =>
    intro i R
    induction R with
    | nil =>
      intro l f L hl hi _ hg hL hf
      rw [visit_nil] at hL
      by_cases h : i < l.length
      · rw [walkF_step h] at hL
        have hp2 : l <+: L := hL ▸ (visit_pre (row (l.getD i 0)) l).trans (walkF_pre row g (i + 1) _)
        have hd := drop_at (l := L) (i := i) (by have := hp2.length_le; omega)
        rw [pre_getD hp2 h] at hd
        have h2 := ih (i + 1) (row (l.getD i 0)) l f L hl (by omega) (hR _) (by omega) hL
        rw [hd] at hf ⊢
        rw [drop_at h]
        simp only [List.flatMap_cons, List.nil_append] at hf ⊢
        exact h2 hf
      · rw [walkF_done (by omega)] at hL
        subst hL
        rw [List.drop_eq_nil_of_le (by omega)]
        exact trc_nil _ _ _ _
    | cons p R ihR =>
      intro l f L hl hi hRn hg hL hf
      rw [visit_cons] at hL
      obtain ⟨f, rfl⟩ : ∃ k, f = k + 1 := ⟨f - 1, by simp at hf; omega⟩
      have hf2 : (R ++ (L.drop i).flatMap row).length ≤ f := by simp only [List.cons_append, List.length_cons] at hf; omega
      have hpre : addC l p.1 <+: L := hL ▸ (visit_pre R _).trans (walkF_pre row _ _ _)
      rw [List.cons_append, List.cons_append, List.map_cons, trc]
      by_cases h : p.1 < 0 ∨ p.1 ∈ l
      · have e : addC l p.1 = l := by
          unfold addC; rw [if_neg]; rintro ⟨h1, h2⟩; exact h.elim (fun h3 => by omega) h2
        rw [e] at hL hpre
        rw [if_pos h, mkP_pre hpre h, ihR l f L hl hi (fun q hq => hRn q (by simp [hq])) hg hL hf2]
      · have h1 : ¬ p.1 < 0 := fun h' => h (.inl h')
        have h2 : p.1 ∉ l := fun h' => h (.inr h')
        have e : addC l p.1 = l ++ [p.1] := by
          unfold addC; rw [if_pos ⟨by omega, h2⟩]
        have hl2 : Fnd n (l ++ [p.1]) := e ▸ hl.add (hRn p (by simp))
        rw [e] at hL hpre
        rw [if_neg h, mkP_new hpre h2]
        have := ihR (l ++ [p.1]) f L hl2 (by simp; omega) (fun q hq => hRn q (by simp [hq])) hg hL hf2
        rw [List.drop_append_of_le_length hi, List.flatMap_append] at this
        simp only [List.flatMap_cons, List.flatMap_nil, List.append_nil] at this
        rw [List.append_assoc, this]

/-! ### Two walks side by side -/
structure PtOk (p : Pt) : Prop where
  c : p.1 = -1 ∨ 0 ≤ p.1
  s : 0 ≤ p.2
  s8 : 0 ≤ p.1 → p.2 < 8
def alk (labA labB : Int → Int) (rowA rowB : Int → List Pt) : Nat → List (Pt × Pt) → List Int → List Int → Bool
  | f + 1, (p, q) :: Q, dA, dB =>
    if p.1 < 0 ∨ q.1 < 0 then (if p = q then alk labA labB rowA rowB f Q dA dB else false)
    else if p.2 ≠ q.2 ∨ labA p.1 ≠ labB q.1 ∨ dA.idxOf p.1 ≠ dB.idxOf q.1 then false
    else if p.1 ∈ dA then alk labA labB rowA rowB f Q dA dB
    else alk labA labB rowA rowB f (Q ++ (rowA p.1).zip (rowB q.1)) (dA ++ [p.1]) (dB ++ [q.1])
  | _, _, _, _ => true
theorem mem_idx {l : List Int} {x : Int} : x ∈ l ↔ l.idxOf x < l.length := List.idxOf_lt_length_iff.symm
theorem alk_iff {labA labB : Int → Int} {rowA rowB : Int → List Pt} (hlen : ∀ c d, labA c = labB d → (rowA c).length = (rowB d).length) (hA : ∀ c p, p ∈ rowA c → PtOk p) (hB : ∀ c p, p ∈ rowB c → PtOk p) :
    ∀ (f : Nat) (QA QB : List Pt) (dA dB : List Int), QA.length = QB.length → dA.length = dB.length → (∀ p ∈ QA, PtOk p) → (∀ p ∈ QB, PtOk p) → (alk labA labB rowA rowB f (QA.zip QB) dA dB = true ↔ trc labA rowA f QA dA = trc labB rowB f QB dB) := by
  intro f
  induction f with
  | zero => intro QA QB dA dB _ _ _ _; simp [alk, trc]
  | succ f ih =>
    intro QA QB dA dB hl hd h1 h2
    cases QA with
    | nil =>
      cases QB with
      | nil => simp [alk, trc]
      | cons => simp at hl
    | cons p QA =>
      cases QB with
      | nil => simp at hl
      | cons q QB =>
        have hl2 : QA.length = QB.length := by simpa using hl
        have hp := h1 p (by simp)
        have hq := h2 q (by simp)
        have h1' : ∀ p ∈ QA, PtOk p := fun x hx => h1 x (by simp [hx])
        have h2' : ∀ p ∈ QB, PtOk p := fun x hx => h2 x (by simp [hx])
        have i0 := ih QA QB dA dB hl2 hd h1' h2'
        rw [List.zip_cons_cons, alk, trc, trc, List.cons.injEq]
        by_cases hn : p.1 < 0 ∨ q.1 < 0
        · rw [if_pos hn]
          by_cases e : p = q
          · subst e
            have hpn : p.1 < 0 := hn.elim id id
            rw [if_pos rfl, if_pos (.inl hpn), if_pos (.inl hpn), i0]
            simp [mkP, hpn]
          · rw [if_neg e]
            have : mkP labA dA p ≠ mkP labB dB q := fun h => by
              unfold mkP at h
              have pc := hp.c; have ps := hp.s; have qc := hq.c; have qs := hq.s
              split at h <;> split at h <;> simp only [Prod.mk.injEq] at h
              · exact e (Prod.ext (by omega) (by omega))
              · omega
              · omega
              · rename_i ha hb; exact hn.elim ha hb
            simp [this]
        · have hp0 : ¬ p.1 < 0 := fun h => hn (.inl h)
          have hq0 : ¬ q.1 < 0 := fun h => hn (.inr h)
          rw [if_neg hn]
          have p8 := hp.s8 (by omega); have ps := hp.s; have q8 := hq.s8 (by omega); have qs := hq.s
          have hm : mkP labA dA p = mkP labB dB q ↔ ¬ (p.2 ≠ q.2 ∨ labA p.1 ≠ labB q.1 ∨ dA.idxOf p.1 ≠ dB.idxOf q.1) := by
            unfold mkP
            rw [if_neg hp0, if_neg hq0, Prod.mk.injEq]
            constructor
            · rintro ⟨a, b⟩ h; rcases h with h | h | h
              · omega
              · exact h b
              · omega
            · intro h
              have a1 : p.2 = q.2 := Classical.byContradiction fun h' => h (.inl h')
              have a2 : labA p.1 = labB q.1 := Classical.byContradiction fun h' => h (.inr (.inl h'))
              have a3 : dA.idxOf p.1 = dB.idxOf q.1 := Classical.byContradiction fun h' => h (.inr (.inr h'))
              exact ⟨by rw [a1, a3], a2⟩
          by_cases hc : p.2 ≠ q.2 ∨ labA p.1 ≠ labB q.1 ∨ dA.idxOf p.1 ≠ dB.idxOf q.1
          · rw [if_pos hc]
            have : mkP labA dA p ≠ mkP labB dB q := fun h => hm.1 h hc
            simp [this]
          · rw [if_neg hc]
            have hme := hm.2 hc
            have a2 : labA p.1 = labB q.1 := Classical.byContradiction fun h' => hc (.inr (.inl h'))
            have a3 : dA.idxOf p.1 = dB.idxOf q.1 := Classical.byContradiction fun h' => hc (.inr (.inr h'))
            have hmem : p.1 ∈ dA ↔ q.1 ∈ dB := by rw [mem_idx, mem_idx, a3, hd]
            simp only [hme, true_and, hp0, hq0, false_or]
            by_cases hi : p.1 ∈ dA
            · rw [if_pos hi, if_pos hi, if_pos (hmem.1 hi), i0]
            · rw [if_neg hi, if_neg hi, if_neg (fun h => hi (hmem.2 h)), ← List.zip_append hl2]
              refine ih _ _ _ _ (by simp [hl2, hlen _ _ a2]) (by simp [hd]) (fun x hx => ?_) (fun x hx => ?_)
              · exact (List.mem_append.1 hx).elim (h1' x) (hA _ x)
              · exact (List.mem_append.1 hx).elim (h2' x) (hB _ x)

/-! ### The codes -/
def codeE (lab : Int → Int) (row : Int → List Pt) (L : List Int) (s : Pt) : List Int := (mkP lab L s).1 :: L.flatMap fun c => lab c :: (row c).map fun p => (mkP lab L p).1
/-- A list of the cells that a walk from s finds. -/
structure Walked (lab : Int → Int) (row : Int → List Pt) (L : List Int) (s : Pt) : Prop where
  nd : L.Nodup
  sub : ∀ c ∈ L, 0 ≤ c ∧ ∃ p ∈ s :: L.flatMap row, p.1 = c
  all : ∀ p ∈ s :: L.flatMap row, 0 ≤ p.1 → p.1 ∈ L
  ok : ∀ p ∈ s :: L.flatMap row, PtOk p
theorem flat_iff {labA labB : Int → Int} {rowA rowB : Int → List Pt} (hlen : ∀ c d, labA c = labB d → (rowA c).length = (rowB d).length) (f g : Pt → Int) : ∀ (LA LB : List Int),
    ((LA.flatMap fun c => labA c :: (rowA c).map f) = (LB.flatMap fun c => labB c :: (rowB c).map g) ↔ LA.map labA = LB.map labB ∧ (LA.flatMap rowA).map f = (LB.flatMap rowB).map g) := by
  intro LA
  induction LA with
  | nil => intro LB; cases LB <;> simp
  | cons a LA ih =>
    intro LB
    cases LB with
    | nil => simp
    | cons b LB =>
      simp only [List.flatMap_cons, List.cons_append, List.cons.injEq, List.map_cons, List.map_append]
      constructor
      · rintro ⟨h1, h2⟩
        obtain ⟨h3, h4⟩ := List.append_inj h2 (by simp [hlen _ _ h1])
        obtain ⟨h5, h6⟩ := (ih LB).1 h4
        exact ⟨⟨h1, h5⟩, by rw [h3, h6]⟩
      · rintro ⟨⟨h1, h5⟩, h2⟩
        obtain ⟨h3, h4⟩ := List.append_inj h2 (by simp [hlen _ _ h1])
        exact ⟨h1, by rw [h3, (ih LB).2 ⟨h5, h4⟩]⟩
theorem walked_lab {labA labB : Int → Int} {rowA rowB : Int → List Pt} {LA LB : List Int} {sA sB : Pt} (hA : Walked labA rowA LA sA) (hB : Walked labB rowB LB sB) (h : (sA :: LA.flatMap rowA).map (mkP labA LA) = (sB :: LB.flatMap rowB).map (mkP labB LB)) :
    ∀ i, i < LA.length → i < LB.length ∧ ∀ (h1 : i < LA.length) (h2 : i < LB.length), labA LA[i] = labB LB[i] := by
  intro i hi
  obtain ⟨h0, p, hp, e⟩ := hA.sub LA[i] (List.getElem_mem hi)
  have hm : mkP labA LA p ∈ (sB :: LB.flatMap rowB).map (mkP labB LB) := h ▸ List.mem_map_of_mem hp
  obtain ⟨q, hq, hmq⟩ := List.mem_map.1 hm
  have hp8 := (hA.ok p hp).s8 (by omega)
  have hps := (hA.ok p hp).s
  have hqs := (hB.ok q hq).s
  have hidx : LA.idxOf p.1 = i := by rw [e, hA.nd.idxOf_getElem]
  unfold mkP at hmq
  rw [if_neg (show ¬ p.1 < 0 by omega), hidx] at hmq
  split at hmq
  · simp only [Prod.mk.injEq] at hmq; omega
  · rename_i hq0
    have hq8 := (hB.ok q hq).s8 (by omega)
    simp only [Prod.mk.injEq] at hmq
    have hqi : LB.idxOf q.1 = i := by omega
    have hql := hB.all q hq (by omega)
    have hlt := List.idxOf_lt_length_iff.2 hql
    rw [hqi] at hlt
    refine ⟨hlt, fun h1 h2 => ?_⟩
    have : LB[i] = q.1 := by
      have := List.getElem_idxOf (List.idxOf_lt_length_iff.2 hql)
      simp only [hqi] at this
      exact this
    rw [this, ← e]
    exact hmq.2.symm
theorem same_iff {labA labB : Int → Int} {rowA rowB : Int → List Pt} (hlen : ∀ c d, labA c = labB d → (rowA c).length = (rowB d).length) {LA LB : List Int} {sA sB : Pt} (hA : Walked labA rowA LA sA) (hB : Walked labB rowB LB sB) :
    (sA :: LA.flatMap rowA).map (mkP labA LA) = (sB :: LB.flatMap rowB).map (mkP labB LB) ↔ codeE labA rowA LA sA = codeE labB rowB LB sB := by
  unfold codeE
  rw [List.cons.injEq, flat_iff hlen]
  constructor
  · intro h
    have h1 := walked_lab hA hB h
    have h2 := walked_lab hB hA h.symm
    have hl : LA.length = LB.length := by
      rcases Nat.lt_trichotomy LA.length LB.length with hl | hl | hl
      · have := (h2 LA.length hl).1; omega
      · exact hl
      · have := (h1 LB.length hl).1; omega
    have hm := congrArg (List.map Prod.fst) h
    simp only [List.map_cons, List.cons.injEq, List.map_map] at hm
    refine ⟨hm.1, List.ext_getElem (by simp [hl]) fun i a b => ?_, hm.2⟩
    simp only [List.length_map] at a b
    simp only [List.getElem_map]
    exact (h1 i a).2 a b
  · rintro ⟨h1, h2, h3⟩
    have hm : (sA :: LA.flatMap rowA).map (fun p => (mkP labA LA p).1) = (sB :: LB.flatMap rowB).map (fun p => (mkP labB LB p).1) := by
      rw [List.map_cons, List.map_cons, h1, h3]
    have hll : (sA :: LA.flatMap rowA).length = (sB :: LB.flatMap rowB).length := by simpa using congrArg List.length hm
    refine List.ext_getElem (by simpa using hll) fun i a b => ?_
    simp only [List.length_map] at a b
    rw [List.getElem_map, List.getElem_map]
    have he : ((sA :: LA.flatMap rowA).map (fun p => (mkP labA LA p).1))[i]'(by simpa using a) = ((sB :: LB.flatMap rowB).map (fun p => (mkP labB LB p).1))[i]'(by simpa using b) := by simp only [hm]
    rw [List.getElem_map, List.getElem_map] at he
    have hp := List.getElem_mem a
    have hq := List.getElem_mem b
    generalize (sA :: LA.flatMap rowA)[i] = p at he hp
    generalize (sB :: LB.flatMap rowB)[i] = q at he hq
    have ps := (hA.ok p hp).s; have qs := (hB.ok q hq).s
    have p8 := (hA.ok p hp).s8; have q8 := (hB.ok q hq).s8
    refine Prod.ext he ?_
    unfold mkP at he ⊢
    split at he <;> split at he
    · rename_i a b; rw [if_pos a, if_pos b]
    · rename_i a b; have := q8 (by omega); simp only at he; omega
    · rename_i a b; have := p8 (by omega); simp only at he; omega
    · rename_i a b
      rw [if_neg a, if_neg b]
      have := p8 (by omega); have := q8 (by omega)
      simp only at he ⊢
      have hi : LA.idxOf p.1 = LB.idxOf q.1 := by omega
      have hpl := List.idxOf_lt_length_iff.2 (hA.all p hp (by omega))
      have hql := List.idxOf_lt_length_iff.2 (hB.all q hq (by omega))
      have e1 := List.getElem_idxOf hpl
      have e2 := List.getElem_idxOf hql
      have e3 : (LA.map labA)[LA.idxOf p.1]'(by simpa using hpl) = (LB.map labB)[LB.idxOf q.1]'(by simpa using hql) := by simp only [h2, hi]
      rw [List.getElem_map, List.getElem_map, e1, e2] at e3
      exact e3
/-! ### Of nets -/
section
variable {pn : Int → Nat} {cs : List Int} {Lk : Pt → Pt} {p : Pt}
/-- The cell's agent. -/
def labC (cs : List Int) (c : Int) : Int := cs.getD c.toNat 0
def wlk (pn : Int → Nat) (cs : List Int) (Lk : Pt → Pt) (p : Pt) : List Int := walkL cs.length (rowP pn cs Lk) (startP Lk p).1
theorem rowP_mem {c : Int} {q : Pt} (h : q ∈ rowP pn cs Lk c) : ∃ x, q = Lk x := by
  simp only [rowP, List.mem_map] at h
  obtain ⟨k, _, rfl⟩ := h
  exact ⟨_, rfl⟩
theorem wlk_fnd (hL : ∀ x, (Lk x).1 < cs.length) (hs : (startP Lk p).1 < cs.length) : Fnd cs.length (wlk pn cs Lk p) :=
  ((Fnd.nil _).add hs).walkF (fun c q hq => by obtain ⟨x, rfl⟩ := rowP_mem hq; exact hL x) _ _
theorem wlk_fix (hL : ∀ x, (Lk x).1 < cs.length) (hs : (startP Lk p).1 < cs.length) : visit (startP Lk p :: (wlk pn cs Lk p).flatMap (rowP pn cs Lk)) [] = wlk pn cs Lk p := by
  rw [visit_cons]
  exact walkF_fix (rowP pn cs Lk) (n := cs.length) (fun c q hq => by obtain ⟨x, rfl⟩ := rowP_mem hq; exact hL x) (cs.length + 1) 0 _ ((Fnd.nil _).add hs) (by omega) (by omega)
theorem wlk_walked (hL : ∀ x, (Lk x).1 < cs.length) (hs : (startP Lk p).1 < cs.length) (hk : ∀ x, PtOk (Lk x)) (hp : PtOk (startP Lk p)) : Walked (labC cs) (rowP pn cs Lk) (wlk pn cs Lk p) (startP Lk p) := by
  have hf := wlk_fnd (pn := pn) hL hs
  have hx := wlk_fix (pn := pn) hL hs
  have hm : ∀ c, c ∈ wlk pn cs Lk p ↔ (0 ≤ c ∧ ∃ q ∈ startP Lk p :: (wlk pn cs Lk p).flatMap (rowP pn cs Lk), q.1 = c) := fun c => by
    have := mem_visit (R := startP Lk p :: (wlk pn cs Lk p).flatMap (rowP pn cs Lk)) (l := []) (x := c)
    rw [hx] at this
    simpa using this
  refine ⟨hf.nd, fun c hc => (hm c).1 hc, fun q hq h0 => (hm q.1).2 ⟨h0, q, hq, rfl⟩, fun q hq => ?_⟩
  rcases List.mem_cons.1 hq with rfl | hq
  · exact hp
  · obtain ⟨c, _, h⟩ := List.mem_flatMap.1 hq
    obtain ⟨x, rfl⟩ := rowP_mem h
    exact hk x
theorem markN0_mk {L : List Int} (hL : Fnd cs.length L) {q : Pt} (hq : q.1 < 0 ∨ q.1 ∈ L) : markN0 (fdOf cs.length L) q = (mkP (labC cs) L q).1 := by
  unfold markN0 mkP
  by_cases h : q.1 < 0
  · rw [if_pos h, if_pos h]
  · rw [if_neg h, if_neg h]
    have hm := hq.resolve_left h
    have h2 := hL.lt _ hm
    have e : ((q.1.toNat : Nat) : Int) = q.1 := Int.toNat_of_nonneg (by omega)
    rw [fdOf_at (by omega), e, if_pos hm]
theorem codeN_E (hL : ∀ x, (Lk x).1 < cs.length) (hs : (startP Lk p).1 < cs.length) : codeN pn cs Lk p = codeE (labC cs) (rowP pn cs Lk) (wlk pn cs Lk p) (startP Lk p) := by
  have hf := wlk_fnd (pn := pn) hL hs
  have hx := wlk_fix (pn := pn) hL hs
  have hm : ∀ q ∈ startP Lk p :: (wlk pn cs Lk p).flatMap (rowP pn cs Lk), q.1 < 0 ∨ q.1 ∈ wlk pn cs Lk p := fun q hq => by
    rcases Int.lt_or_le q.1 0 with h | h
    · exact .inl h
    · right
      have := mem_visit (R := startP Lk p :: (wlk pn cs Lk p).flatMap (rowP pn cs Lk)) (l := []) (x := q.1)
      rw [hx] at this
      exact this.2 (.inr ⟨h, q, hq, rfl⟩)
  show markN0 (fdOf cs.length (wlk pn cs Lk p)) (startP Lk p) :: (wlk pn cs Lk p).flatMap (cellC cs (rowP pn cs Lk) (fdOf cs.length (wlk pn cs Lk p))) = _
  unfold codeE
  rw [markN0_mk hf (hm _ (by simp))]
  congr 1
  rw [List.flatMap_def, List.flatMap_def]
  congr 1
  refine List.map_congr_left fun c hc => ?_
  unfold cellC
  congr 1
  refine List.map_congr_left fun q hq => markN0_mk hf (hm q ?_)
  exact List.mem_cons_of_mem _ (List.mem_flatMap.2 ⟨c, hc, hq⟩)
theorem trc_N (hL : ∀ x, (Lk x).1 < cs.length) (hs : (startP Lk p).1 < cs.length) {f : Nat} (hf : (startP Lk p :: (wlk pn cs Lk p).flatMap (rowP pn cs Lk)).length ≤ f) :
    trc (labC cs) (rowP pn cs Lk) f [startP Lk p] [] = (startP Lk p :: (wlk pn cs Lk p).flatMap (rowP pn cs Lk)).map (mkP (labC cs) (wlk pn cs Lk p)) := by
  have := trc_walk (labC cs) (rowP pn cs Lk) (n := cs.length) (fun c q hq => by obtain ⟨x, rfl⟩ := rowP_mem hq; exact hL x) (cs.length + 1) 0 [startP Lk p] [] f (wlk pn cs Lk p) (Fnd.nil _) (by simp) (fun q hq => by rw [List.mem_singleton] at hq; subst hq; exact hs) (by omega) rfl (by simpa using hf)
  simpa using this
end
theorem alike_codes {pn : Int → Nat} {csA csB : List Int} {LA LB : Pt → Pt} {a b : Pt} (hA : ∀ x, (LA x).1 < csA.length ∧ PtOk (LA x)) (hB : ∀ x, (LB x).1 < csB.length ∧ PtOk (LB x)) (hsA : (startP LA a).1 < csA.length ∧ PtOk (startP LA a)) (hsB : (startP LB b).1 < csB.length ∧ PtOk (startP LB b)) {f : Nat}
    (hfA : (startP LA a :: (wlk pn csA LA a).flatMap (rowP pn csA LA)).length ≤ f) (hfB : (startP LB b :: (wlk pn csB LB b).flatMap (rowP pn csB LB)).length ≤ f) :
    alk (labC csA) (labC csB) (rowP pn csA LA) (rowP pn csB LB) f [(startP LA a, startP LB b)] [] [] = true ↔ codeN pn csA LA a = codeN pn csB LB b := by
  have hlen : ∀ c d, labC csA c = labC csB d → (rowP pn csA LA c).length = (rowP pn csB LB d).length := fun c d h => by
    unfold labC at h
    simp only [rowP, List.length_map, List.length_range, h]
  have h1 := alk_iff hlen (fun c q hq => by obtain ⟨x, rfl⟩ := rowP_mem hq; exact (hA x).2) (fun c q hq => by obtain ⟨x, rfl⟩ := rowP_mem hq; exact (hB x).2) f [startP LA a] [startP LB b] [] [] rfl rfl
    (fun q hq => by rw [List.mem_singleton] at hq; subst hq; exact hsA.2) (fun q hq => by rw [List.mem_singleton] at hq; subst hq; exact hsB.2)
  rw [show [startP LA a].zip [startP LB b] = [(startP LA a, startP LB b)] from rfl] at h1
  rw [h1, trc_N (fun x => (hA x).1) hsA.1 hfA, trc_N (fun x => (hB x).1) hsB.1 hfB, codeN_E (fun x => (hA x).1) hsA.1, codeN_E (fun x => (hB x).1) hsB.1]
  exact same_iff hlen (wlk_walked (fun x => (hA x).1) hsA.1 (fun x => (hA x).2) hsA.2) (wlk_walked (fun x => (hB x).1) hsB.1 (fun x => (hB x).2) hsB.2)
end Go.Proofs.Ytcebejcdfdahjaa
