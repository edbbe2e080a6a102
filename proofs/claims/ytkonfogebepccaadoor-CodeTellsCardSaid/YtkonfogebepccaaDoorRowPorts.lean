/-
  Rows of ports and of ints that 'make' makes; a list of ints, filled so far.
-/
import Derived.Test.YtkonfogebepccaaDoorNetBuild
import Derived.Test.YtkonfogebepccaaDoorRef03K
/-
  Plain: links of tidy nets, of nets renumbered; there and back.
-/
namespace Go.Proofs.YtkonfogebepccaaDoor
open Go.RowKit
set_option linter.unusedVariables false

theorem ends_cons (a b : Pt) (r : List (Pt × Pt)) : ends ((a, b) :: r) = a :: b :: ends r := by simp [ends]
theorem mem_ends {W : List (Pt × Pt)} {x : Pt} : x ∈ ends W ↔ ∃ y, (x, y) ∈ W ∨ (y, x) ∈ W := by
  induction W with
  | nil => simp [ends]
  | cons w r ih =>
    obtain ⟨a, b⟩ := w
    rw [ends_cons]
    simp only [List.mem_cons, ih, Prod.mk.injEq]
    constructor
    · rintro (rfl | rfl | ⟨y, h | h⟩)
      · exact ⟨b, .inl (.inl ⟨rfl, rfl⟩)⟩
      · exact ⟨a, .inr (.inl ⟨rfl, rfl⟩)⟩
      · exact ⟨y, .inl (.inr h)⟩
      · exact ⟨y, .inr (.inr h)⟩
    · rintro ⟨y, (⟨rfl, rfl⟩ | h) | (⟨rfl, rfl⟩ | h)⟩
      · exact .inl rfl
      · exact .inr (.inr ⟨y, .inl h⟩)
      · exact .inr (.inl rfl)
      · exact .inr (.inr ⟨y, .inr h⟩)
theorem lnk_iff {W : List (Pt × Pt)} (hn : (ends W).Nodup) {p q : Pt} : lnk W p = some q ↔ (p, q) ∈ W ∨ (q, p) ∈ W := by
  induction W with
  | nil => simp [lnk]
  | cons w r ih =>
    obtain ⟨a, b⟩ := w
    rw [ends_cons, List.nodup_cons, List.nodup_cons] at hn
    obtain ⟨h1, h2, h3⟩ := hn
    have hab : a ≠ b := fun e => h1 (by simp [e])
    have ha : a ∉ ends r := fun h => h1 (by simp [h])
    have ih' := ih h3
    simp only [lnk, List.mem_cons, Prod.mk.injEq]
    by_cases e1 : a = p
    · subst e1
      rw [if_pos rfl]
      constructor
      · intro h; simp only [Option.some.injEq] at h; exact .inl (.inl ⟨rfl, h.symm⟩)
      · rintro ((⟨_, rfl⟩ | h) | (⟨rfl, e⟩ | h))
        · rfl
        · exact absurd (mem_ends.2 ⟨q, .inl h⟩) ha
        · exact absurd e hab
        · exact absurd (mem_ends.2 ⟨q, .inr h⟩) ha
    · rw [if_neg e1]
      by_cases e2 : b = p
      · subst e2
        rw [if_pos rfl]
        constructor
        · intro h; simp only [Option.some.injEq] at h; exact .inr (.inl ⟨h.symm, rfl⟩)
        · rintro ((⟨e, _⟩ | h) | (⟨rfl, _⟩ | h))
          · exact absurd e.symm e1
          · exact absurd (mem_ends.2 ⟨q, .inl h⟩) h2
          · rfl
          · exact absurd (mem_ends.2 ⟨q, .inr h⟩) h2
      · rw [if_neg e2, ih']
        constructor
        · rintro (h | h)
          · exact .inl (.inr h)
          · exact .inr (.inr h)
        · rintro ((⟨e, _⟩ | h) | (⟨_, e⟩ | h))
          · exact absurd e.symm e1
          · exact .inl h
          · exact absurd e.symm e2
          · exact .inr h
theorem lnk_sym {W : List (Pt × Pt)} (hn : (ends W).Nodup) {p q : Pt} (h : lnk W p = some q) : lnk W q = some p := (lnk_iff hn).2 ((lnk_iff hn).1 h).symm
section
variable {P : List Pt} {lk : Pt → Option Pt}
end
section
variable {pn : Int → Nat} {cells out cs fs : List Int} {free : Nat} {W : List (Pt × Pt)}
end
end Go.Proofs.YtkonfogebepccaaDoor
namespace Go.Proofs.YtkonfogebepccaaDoor
open Go.RowKit
attribute [local go_sem] cell_set
set_option maxRecDepth 100000
set_option linter.unusedVariables false

theorem pvals_set (l : List Pt) (s : Nat) (p : Pt) : ((pvals l).set (s * 2) (.int .i64 p.1)).set (s * 2 + 1) (.int .i64 p.2) = pvals (l.set s p) := by
  induction l generalizing s with
  | nil => simp [pvals]
  | cons x r ih =>
    have hc : pvals (x :: r) = .int .i64 x.1 :: .int .i64 x.2 :: pvals r := rfl
    cases s with
    | zero => rw [hc]; rfl
    | succ s =>
      rw [hc, show (s + 1) * 2 = s * 2 + 1 + 1 by omega]
      simp only [List.set_cons_succ]
      rw [ih s]
      rfl
theorem pvals_rep (M : Nat) : pvals (List.replicate M (0, 0)) = List.replicate (M * 2) (.int .i64 0) := by
  induction M with
  | zero => rfl
  | succ M ih =>
    rw [List.replicate_succ, show (M + 1) * 2 = M * 2 + 1 + 1 by omega, List.replicate_succ, List.replicate_succ, ← ih]
    rfl
theorem made2 (z : Value) (n : Nat) : (madeCells #[z, z] n).toList = List.replicate n z := by
  refine List.ext_getElem (by simp [size_madeCells]) fun i h1 h2 => ?_
  simp only [List.getElem_replicate]
  have hi : i < n := by simpa [size_madeCells] using h1
  simp only [madeCells, Array.toList_map, List.getElem_map, Array.toList_range, List.getElem_range]
  rcases (by omega : i % 2 = 0 ∨ i % 2 = 1) with h | h
  · simp [h]
  · simp [h]
theorem row_ports {X : World} {F M : Nat} (h : X.heap[F]? = some (.cells (madeCells #[.int .i64 0, .int .i64 0] (M * 2)) 83 (0, 0))) (hM : M ≤ maxLen) : Row X 83 2 (.slice (some ⟨F, 0, none⟩) M M) M (pvals (List.replicate M (0, 0))) :=
  ⟨by rw [pvals_rep]; simp, .inr ⟨F, M, _, rfl, h, Nat.le_refl _, hM, by simp [size_madeCells], by rw [made2, pvals_rep]; simp⟩⟩
theorem make_ports (n : Nat) (hn : n ≤ 1000000) (w : World) : (Instr.makeSlice 70 (.int .i64 (n : Int)) (.int .i64 (n : Int))).run Tryd.prog w = .ok (.slice (some ⟨w.heap.size, 0, none⟩) n n) (w.alloc (.cells (madeCells #[.int .i64 0, .int .i64 0] (n * 2)) 83)) := by
  obtain ⟨i, hi, hz, hs, hb⟩ := info_parts port_info
  have hb' : (i.bytes : Int) * (n : Int) ≤ 281474976710656 := by rw [hb]; omega
  have hr := run_make (P := Tryd.prog) w 70 83 i _ Tryd.underlying70 hi hz .i64 .i64 n n (by omega) (Int.le_refl _) hb' (by omega)
  simp only [Int.toNat_natCast, hs] at hr
  exact hr
/-- A list that is written from its head on. -/
def partL (l : List Int) (k : Nat) : List Int := l.take k ++ List.replicate (l.length - k) 0
theorem partL_0 (l : List Int) : partL l 0 = List.replicate l.length 0 := by simp [partL]
theorem partL_all (l : List Int) : partL l l.length = l := by simp [partL]
theorem partL_succ {l : List Int} {k : Nat} (h : k < l.length) : partL l (k + 1) = (partL l k).set k (l.getD k 0) := by
  have e : l.length - k = (l.length - (k + 1)) + 1 := by omega
  unfold partL
  rw [e, List.replicate_succ, List.set_append_right _ _ (by simp; omega)]
  simp only [List.length_take]
  rw [show k - min k l.length = 0 by omega, List.set_cons_zero, List.take_add_one, List.getElem?_eq_getElem h]
  simp only [List.getD_eq_getElem?_getD, List.getElem?_eq_getElem h, Option.toList_some, Option.getD_some, List.append_assoc, List.singleton_append]
theorem partL_alln {l : List Int} {n : Nat} (h : l.length = n) : partL l n = l := h ▸ partL_all l
end Go.Proofs.YtkonfogebepccaaDoor
