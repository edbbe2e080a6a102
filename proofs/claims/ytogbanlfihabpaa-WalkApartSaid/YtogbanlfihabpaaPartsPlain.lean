/-
  Plain: the parts of a net, one by one.
-/
import Derived.Test.YtogbanlfihabpaaSamePlain
namespace Go.Proofs.Ytogbanlfihabpaa
set_option linter.unusedVariables false

/-- The numbers below n that are of a list, rising. -/
def srtC (n : Nat) (l : List Int) : List Int := (List.range n).filterMap fun (c : Nat) => if (c : Int) ∈ l then some (c : Int) else none
theorem srtC_in {n : Nat} {l : List Int} (h : (n : Int) ∈ l) : srtC (n + 1) l = srtC n l ++ [(n : Int)] := by
  unfold srtC
  rw [List.range_succ, List.filterMap_append]
  simp [h]
theorem srtC_out {n : Nat} {l : List Int} (h : (n : Int) ∉ l) : srtC (n + 1) l = srtC n l := by
  unfold srtC
  rw [List.range_succ, List.filterMap_append]
  simp [h]
theorem srtC_mem {n : Nat} {l : List Int} {x : Int} : x ∈ srtC n l ↔ x ∈ l ∧ 0 ≤ x ∧ x < n := by
  unfold srtC
  simp only [List.mem_filterMap, List.mem_range]
  constructor
  · rintro ⟨c, hc, h⟩
    split at h
    · simp only [Option.some.injEq] at h
      subst h
      exact ⟨by assumption, by omega, by omega⟩
    · cases h
  · rintro ⟨h1, h2, h3⟩
    obtain ⟨c, rfl⟩ := Int.eq_ofNat_of_zero_le h2
    exact ⟨c, by omega, by rw [if_pos h1]⟩
theorem srtC_lt (n : Nat) (l : List Int) : (srtC n l).Pairwise (· < ·) := by
  induction n with
  | zero => exact List.Pairwise.nil
  | succ n ih =>
    by_cases h : (n : Int) ∈ l
    · rw [srtC_in h]
      refine List.pairwise_append.2 ⟨ih, by simp, fun a ha b hb => ?_⟩
      simp at hb; subst hb
      have := (srtC_mem.1 ha).2.2; omega
    · rw [srtC_out h]; exact ih
theorem srtC_len (n : Nat) (l : List Int) : (srtC n l).length ≤ n := by
  unfold srtC
  exact Nat.le_trans (List.length_filterMap_le _ _) (by simp)
theorem sorted_same : ∀ (a b : List Int), a.Pairwise (· < ·) → b.Pairwise (· < ·) → (∀ x, x ∈ a ↔ x ∈ b) → a = b
  | [], [], _, _, _ => rfl
  | [], y :: r, _, _, h => absurd ((h y).2 (by simp)) (by simp)
  | x :: r, [], _, _, h => absurd ((h x).1 (by simp)) (by simp)
  | x :: r, y :: s, ha, hb, h => by
    obtain ⟨ha1, ha2⟩ := List.pairwise_cons.1 ha
    obtain ⟨hb1, hb2⟩ := List.pairwise_cons.1 hb
    have hxy : x = y := by
      rcases List.mem_cons.1 ((h x).1 (by simp)) with h1 | h1
      · exact h1
      · rcases List.mem_cons.1 ((h y).2 (by simp)) with h2 | h2
        · exact h2.symm
        · have := hb1 x h1; have := ha1 y h2; omega
    subst hxy
    rw [sorted_same r s ha2 hb2 fun z => ?_]
    constructor
    · intro hz
      rcases List.mem_cons.1 ((h z).1 (by simp [hz])) with h1 | h1
      · have := ha1 z hz; omega
      · exact h1
    · intro hz
      rcases List.mem_cons.1 ((h z).2 (by simp [hz])) with h1 | h1
      · have := hb1 z hz; omega
      · exact h1
theorem mergeSort_srt {n : Nat} {l : List Int} (h : Fnd n l) : (l.mergeSort fun x y => decide (x ≤ y)) = srtC n l := by
  have hp := List.mergeSort_perm l (fun x y => decide (x ≤ y))
  have hs := List.pairwise_mergeSort (le := fun x y : Int => decide (x ≤ y)) (fun a b c h1 h2 => by simp at *; omega) (fun a b => by simp; omega) l
  have hnd : (l.mergeSort fun x y => decide (x ≤ y)).Nodup := hp.nodup_iff.2 h.nd
  refine sorted_same _ _ ?_ (srtC_lt n l) fun x => ?_
  · refine (hs.and hnd).imp fun {a b} hab => ?_
    have h1 : a ≤ b := by simpa using hab.1
    have h2 : a ≠ b := hab.2
    omega
  · rw [hp.mem_iff, srtC_mem]
    exact ⟨fun hx => ⟨hx, h.lt x hx⟩, fun hx => hx.1⟩
/-- Is free port i of the part whose walk, from p, found l? -/
def frC (Lk : Pt → Pt) (p : Pt) (l : List Int) (i : Nat) : Bool := decide ((0 ≤ (Lk (-1, (i : Int))).1 ∧ (Lk (-1, (i : Int))).1 ∈ l) ∨ (l = [] ∧ (((-1 : Int), (i : Int)) = p ∨ Lk (-1, (i : Int)) = p)))
def frL (f : Nat) (Lk : Pt → Pt) (p : Pt) (l : List Int) : List Int := (List.range f).filterMap fun (i : Nat) => if frC Lk p l i = true then some (i : Int) else none
theorem frL_in {f : Nat} {Lk : Pt → Pt} {p : Pt} {l : List Int} (h : frC Lk p l f = true) : frL (f + 1) Lk p l = frL f Lk p l ++ [(f : Int)] := by
  unfold frL
  rw [List.range_succ, List.filterMap_append]
  simp [h]
theorem frL_out {f : Nat} {Lk : Pt → Pt} {p : Pt} {l : List Int} (h : frC Lk p l f = false) : frL (f + 1) Lk p l = frL f Lk p l := by
  unfold frL
  rw [List.range_succ, List.filterMap_append]
  simp [h]
theorem frL_mem {f : Nat} {Lk : Pt → Pt} {p : Pt} {l : List Int} {i : Nat} (hi : i < f) : (i : Int) ∈ frL f Lk p l ↔ frC Lk p l i = true := by
  unfold frL
  simp only [List.mem_filterMap, List.mem_range]
  constructor
  · rintro ⟨c, hc, h⟩
    split at h
    · simp only [Option.some.injEq] at h
      have : c = i := by omega
      subst this; assumption
    · cases h
  · intro h
    exact ⟨i, hi, by rw [if_pos h]⟩
theorem frL_lt {f : Nat} {Lk : Pt → Pt} {p : Pt} {l : List Int} {x : Int} (h : x ∈ frL f Lk p l) : 0 ≤ x ∧ x < f := by
  unfold frL at h
  simp only [List.mem_filterMap, List.mem_range] at h
  obtain ⟨c, hc, h⟩ := h
  split at h
  · simp only [Option.some.injEq] at h; omega
  · cases h
theorem frL_len (f : Nat) (Lk : Pt → Pt) (p : Pt) (l : List Int) : (frL f Lk p l).length ≤ f := by
  unfold frL
  exact Nat.le_trans (List.length_filterMap_le _ _) (by simp)
/-- A part: its cells and its free ports, rising. -/
abbrev Pa := List Int × List Int
def partOf (pn : Int → Nat) (cs : List Int) (f : Nat) (Lk : Pt → Pt) (p : Pt) : Pa := (srtC cs.length (wlk pn cs Lk p), frL f Lk p (wlk pn cs Lk p))
/-- Is a port in one of the parts? -/
def inPa (l : List Pa) (p : Pt) : Prop := if p.1 < 0 then ∃ q ∈ l, p.2 ∈ q.2 else ∃ q ∈ l, p.1 ∈ q.1
open Classical in
noncomputable def stepP (pn : Int → Nat) (cs : List Int) (f : Nat) (Lk : Pt → Pt) (l : List Pa) (p : Pt) : List Pa := if inPa l p then l else l ++ [partOf pn cs f Lk p]
noncomputable def partsK (pn : Int → Nat) (cs : List Int) (f : Nat) (Lk : Pt → Pt) (l : List Pa) (ps : List Pt) : List Pa := ps.foldl (stepP pn cs f Lk) l
section
variable {pn : Int → Nat} {cs : List Int} {f : Nat} {Lk : Pt → Pt} {l : List Pa} {p : Pt}
theorem stepP_in (h : inPa l p) : stepP pn cs f Lk l p = l := if_pos h
theorem stepP_new (h : ¬ inPa l p) : stepP pn cs f Lk l p = l ++ [partOf pn cs f Lk p] := if_neg h
theorem partsK_snoc (ps : List Pt) : partsK pn cs f Lk l (ps ++ [p]) = stepP pn cs f Lk (partsK pn cs f Lk l ps) p := by simp [partsK, List.foldl_append]
theorem inPa_mono {l' : List Pa} (h : inPa l p) (hl : l <+: l') : inPa l' p := by
  obtain ⟨r, rfl⟩ := hl
  unfold inPa at *
  split at h
  · rename_i h0; rw [if_pos h0]; obtain ⟨q, h1, h2⟩ := h; exact ⟨q, by simp [h1], h2⟩
  · rename_i h0; rw [if_neg h0]; obtain ⟨q, h1, h2⟩ := h; exact ⟨q, by simp [h1], h2⟩
theorem inPa_same {c s s' : Int} (hc : 0 ≤ c) (h : inPa l (c, s)) : inPa l (c, s') := by
  unfold inPa at *
  rw [if_neg (by show ¬ c < 0; omega)] at *
  exact h
end
end Go.Proofs.Ytogbanlfihabpaa
