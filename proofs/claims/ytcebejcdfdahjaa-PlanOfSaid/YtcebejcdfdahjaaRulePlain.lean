/-
  Plain: nets that may be, by what they are; rules turned round, and back; left sides.
-/
import Derived.Test.YtcebejcdfdahjaaNetPlain
import Derived.Test.YtcebejcdfdahjaaRef03C
namespace Go.Proofs.Ytcebejcdfdahjaa
open Go.RowKit
set_option linter.unusedVariables false

theorem netChk_of {pn : Int → Nat} {most : Nat} {cS : Int × Int} {cells : List Int} {free : Nat} {W : List (Pt × Pt)} (h : cS.1 = 0) (h1 : cells.length ≤ 4096) (h2 : free ≤ 64) (hc : ∀ j, j < cells.length → 0 ≤ cells.getD j 0 ∧ cells.getD j 0 < most)
    (hok : NetOk pn cells free W) : netChk pn most cS cells free W = (0, 0) := by
  refine nc_ok h h1 (by omega) (by omega) hc (fun j hj => ?_) (fun j hj => ?_)
  · rw [wBad_at hj]
    have hm := ends_at hj
    have hn := fun p hp => ends_new hok.nodup hj (p := p) hp
    have hne : (W.getD j default).1 ≠ (W.getD j default).2 := by
      have : W.getD j default = W[j] := by simp [List.getD_eq_getElem?_getD, hj]
      rw [this]
      exact pair_ne hok.nodup (List.getElem_mem hj)
    unfold wErr
    rw [show ((free : Int)).toNat = free from rfl, if_neg (by rw [hok.is _ hm.1, hok.is _ hm.2]; simp), if_neg]
    rintro (h | h | h)
    · exact (hn _ h).1 rfl
    · exact (hn _ h).2 rfl
    · exact hne h
  · refine hok.all _ ?_
    rw [show ((free : Int)).toNat = free from rfl] at hj ⊢
    have : (allPs pn cells free).getD j (0, 0) = (allPs pn cells free)[j] := by simp [List.getD_eq_getElem?_getD, hj]
    rw [this]
    exact List.getElem_mem hj
def idsN (n : Nat) : List Int := (List.range n).map fun (i : Nat) => (i : Int)
def flipN (a b : Nat) (k : Nat) : List Int := (List.range k).map fun (i : Nat) => if i < a then ((b + i : Nat) : Int) else ((i - a : Nat) : Int)
theorem idsN_len (n : Nat) : (idsN n).length = n := by simp [idsN]
theorem flipN_len (a b k : Nat) : (flipN a b k).length = k := by simp [flipN]
theorem idsN_succ (n : Nat) : idsN (n + 1) = idsN n ++ [(n : Int)] := by simp [idsN, List.range_succ]
theorem flipN_succ (a b n : Nat) : flipN a b (n + 1) = flipN a b n ++ [if n < a then ((b + n : Nat) : Int) else ((n - a : Nat) : Int)] := by simp [flipN, List.range_succ]
theorem idsN_at {n i : Nat} (h : i < n) : (idsN n).getD i 0 = i := by simp [idsN, List.getD_eq_getElem?_getD, h]
theorem flipN_at {a b k i : Nat} (h : i < k) : (flipN a b k).getD i 0 = if i < a then ((b + i : Nat) : Int) else ((i - a : Nat) : Int) := by simp [flipN, List.getD_eq_getElem?_getD, h]
theorem idsN_each (n : Nat) : eachN (idsN n) n := by
  refine ⟨idsN_len n, List.pairwise_map.2 (List.nodup_range.imp fun h e => h (by omega)), fun x hx => ?_⟩
  simp only [idsN, List.mem_map, List.mem_range] at hx
  obtain ⟨i, hi, rfl⟩ := hx
  omega
theorem flipN_each (a b : Nat) : eachN (flipN a b (a + b)) (a + b) := by
  refine ⟨flipN_len a b _, List.pairwise_map.2 ?_, fun x hx => ?_⟩
  · refine (List.nodup_range (n := a + b)).imp_of_mem fun hx hy h e => h ?_
    have hx := List.mem_range.1 hx
    have hy := List.mem_range.1 hy
    split at e <;> split at e <;> omega
  · simp only [flipN, List.mem_map, List.mem_range] at hx
    obtain ⟨i, hi, rfl⟩ := hx
    split <;> omega
theorem outK_ids (cells : List Int) : outK cells (idsN cells.length) cells.length = cells := by
  have hl := outK_len cells (idsN cells.length) cells.length
  refine List.ext_getElem hl fun i h1 h2 => ?_
  have h := outK_at (idsN_each cells.length) (Nat.le_refl _) i h2
  rw [idsN_at h2] at h
  rw [show ((i : Int)).toNat = i from rfl] at h
  simpa [List.getD_eq_getElem?_getD, h1, h2] using h
theorem moves_flip (cells : List Int) (a b : Nat) : Moves cells cells (idsN cells.length) (flipN a b (a + b)) (a + b) := by
  have := moves_of (cells := cells) (idsN_each cells.length) (flipN_each a b)
  rwa [outK_ids] at this
theorem flip_ok {pn : Int → Nat} {cells : List Int} {W : List (Pt × Pt)} {a b : Nat} (h : NetOk pn cells (a + b) W) : NetOk pn cells (a + b) (tidyW (allPs pn cells (a + b)) (moveW (idsN cells.length) (flipN a b (a + b)) W)) :=
  (h.move (moves_flip cells a b)).tidy
theorem flip_back {pn : Int → Nat} {cells : List Int} {W : List (Pt × Pt)} {a b : Nat} (h : NetOk pn cells (a + b) W) :
    tidyW (allPs pn cells (a + b)) (moveW (idsN cells.length) (flipN b a (a + b)) (tidyW (allPs pn cells (a + b)) (moveW (idsN cells.length) (flipN a b (a + b)) W))) = tidyW (allPs pn cells (a + b)) W := by
  have hm' := moves_flip cells b a
  rw [Nat.add_comm b a] at hm'
  refine h.there_back (moves_flip cells a b) hm' fun p hp => ?_
  obtain ⟨c, s⟩ := p
  unfold isPt at hp
  unfold toPt
  by_cases hc : c = -1
  · subst hc
    simp only [if_true, decide_eq_true_eq] at hp
    obtain ⟨k, rfl⟩ := Int.eq_ofNat_of_zero_le hp.1
    have hk : k < a + b := by omega
    simp only [show ((-1 : Int) < 0) = True by simp, if_true]
    rw [show ((k : Int)).toNat = k from rfl, flipN_at hk]
    by_cases hka : k < a
    · rw [if_pos hka, show (((b + k : Nat) : Int)).toNat = b + k from rfl, flipN_at (by omega), if_neg (by omega)]
      simp only [Prod.mk.injEq, true_and]; omega
    · rw [if_neg hka, show (((k - a : Nat) : Int)).toNat = k - a from rfl, flipN_at (by omega), if_pos (by omega)]
      simp only [Prod.mk.injEq, true_and]; omega
  · simp only [hc, if_false, decide_eq_true_eq] at hp
    obtain ⟨k, rfl⟩ := Int.eq_ofNat_of_zero_le hp.1
    have hk : k < cells.length := by omega
    have hn : ¬ ((k : Int) < 0) := by omega
    simp only [hn, if_false]
    rw [show ((k : Int)).toNat = k from rfl, idsN_at hk]
    simp only [hn, if_false]
    rw [show ((k : Int)).toNat = k from rfl, idsN_at hk]
/-! ### Left sides -/
def leftP (a k : Nat) : Pt := if k < a then (0, ((k + 1 : Nat) : Int)) else (1, ((k + 1 - a : Nat) : Int))
def leftK (a k : Nat) : List (Pt × Pt) := ((0, 0), (1, 0)) :: (List.range k).map fun (i : Nat) => (((-1 : Int), (i : Int)), leftP a i)
theorem leftK_succ (a k : Nat) : leftK a (k + 1) = leftK a k ++ [((-1, (k : Int)), leftP a k)] := by simp [leftK, List.range_succ]
theorem leftK_len (a k : Nat) : (leftK a k).length = k + 1 := by simp [leftK]
def okB (pn : Int → Nat) (cells : List Int) (f : Nat) (W : List (Pt × Pt)) : Bool := (ends W).all (isPt pn cells f) && decide (ends W).Nodup && (allPs pn cells f).all fun p => decide (p ∈ ends W)
theorem okB_ok {pn : Int → Nat} {cells : List Int} {f : Nat} {W : List (Pt × Pt)} (h : okB pn cells f W = true) : NetOk pn cells f W := by
  unfold okB at h
  simp only [Bool.and_eq_true, List.all_eq_true, decide_eq_true_eq] at h
  exact ⟨h.1.1, h.1.2, h.2⟩
theorem left_all : ((List.range 7).all fun a => (List.range 7).all fun b => okB (fun x => if x = 0 then a + 1 else b + 1) [0, 1] (a + b) (leftK a (a + b))) = true := by decide +kernel
theorem left_ok {pn : Int → Nat} {x y : Int} {a b : Nat} (hx : pn x = a + 1) (hy : pn y = b + 1) (ha : a ≤ 6) (hb : b ≤ 6) : NetOk pn [x, y] (a + b) (leftK a (a + b)) := by
  have h0 := left_all
  rw [List.all_eq_true] at h0
  have h1 := h0 a (List.mem_range.2 (by omega))
  rw [List.all_eq_true] at h1
  have h := okB_ok (h1 b (List.mem_range.2 (by omega)))
  have e1 : ∀ p, isPt pn [x, y] (a + b) p = isPt (fun x => if x = 0 then a + 1 else b + 1) [0, 1] (a + b) p := fun p => by
    obtain ⟨c, s⟩ := p
    unfold isPt
    by_cases hc : c = -1
    · simp [hc]
    · simp only [hc, if_false]
      by_cases hc2 : 0 ≤ c ∧ c < 2
      · rcases (by omega : c = 0 ∨ c = 1) with rfl | rfl
        · simp [hx]
        · simp [hy]
      · have hc3 : ¬ (0 ≤ c ∧ c < ((2 : Nat) : Int)) := hc2
        exact decide_eq_decide.2 ⟨fun h => absurd ⟨h.1, h.2.1⟩ hc3, fun h => absurd ⟨h.1, h.2.1⟩ hc3⟩
  have e2 : allPs pn [x, y] (a + b) = allPs (fun x => if x = 0 then a + 1 else b + 1) [0, 1] (a + b) := by simp [allPs, cellPs, hx, hy]
  exact ⟨fun p hp => (e1 p).trans (h.is p hp), h.nodup, fun p hp => h.all p (e2 ▸ hp)⟩
end Go.Proofs.Ytcebejcdfdahjaa
