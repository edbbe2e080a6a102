/-
  Plain: what NetLaws asks of a net that may be: tidy again, the ports' order, there and back.
-/
import Derived.Test.YtcebejcdfdahjaaNetPlain
import Derived.Test.YtcebejcdfdahjaaRef03C
import Derived.Test.YtcebejcdfdahjaaNetMovesW
/-
  Plain: nets that may be, by what they are; rules turned round, and back; left sides.
-/
namespace Go.Proofs.Ytcebejcdfdahjaa
open Go.RowKit
set_option linter.unusedVariables false

theorem netChk_of {pn : Int → Nat} {most : Nat} {cS : Int × Int} {cells : List Int} {free : Nat} {W : List (Pt × Pt)} (h : cS.1 = 0) (h1 : cells.length ≤ 4096) (h2 : free ≤ 64) (hc : ∀ j, j < cells.length → 0 ≤ cells.getD j 0 ∧ cells.getD j 0 < most)
    (hok : NetOk pn cells free W) : netChk pn most cS cells free W = (0, 0) := by
  refine nc_ok h h1 (by omega) (by omega) hc (fun j hj => ?_) (fun j hj => ?_)
  · rw [wBad_at hj]
    have hm := ends_at hj
    have hn := fun p hp => ends_new hok.nodup hj (p := p) hp
    have hne : (W.getD j default).1 ≠ (W.getD j default).2 := by
      have : W.getD j default = W[j] := by simp [List.getD_eq_getElem?_getD, hj]
      rw [this]
      exact pair_ne hok.nodup (List.getElem_mem hj)
    unfold wErr
    rw [show ((free : Int)).toNat = free from rfl, if_neg (by rw [hok.is _ hm.1, hok.is _ hm.2]; simp), if_neg]
    rintro (h | h | h)
    · exact (hn _ h).1 rfl
    · exact (hn _ h).2 rfl
    · exact hne h
  · refine hok.all _ ?_
    rw [show ((free : Int)).toNat = free from rfl] at hj ⊢
    have : (allPs pn cells free).getD j (0, 0) = (allPs pn cells free)[j] := by simp [List.getD_eq_getElem?_getD, hj]
    rw [this]
    exact List.getElem_mem hj
def idsN (n : Nat) : List Int := (List.range n).map fun (i : Nat) => (i : Int)
def flipN (a b : Nat) (k : Nat) : List Int := (List.range k).map fun (i : Nat) => if i < a then ((b + i : Nat) : Int) else ((i - a : Nat) : Int)
theorem idsN_len (n : Nat) : (idsN n).length = n := by simp [idsN]
theorem flipN_len (a b k : Nat) : (flipN a b k).length = k := by simp [flipN]
theorem idsN_succ (n : Nat) : idsN (n + 1) = idsN n ++ [(n : Int)] := by simp [idsN, List.range_succ]
theorem flipN_succ (a b n : Nat) : flipN a b (n + 1) = flipN a b n ++ [if n < a then ((b + n : Nat) : Int) else ((n - a : Nat) : Int)] := by simp [flipN, List.range_succ]
theorem idsN_at {n i : Nat} (h : i < n) : (idsN n).getD i 0 = i := by simp [idsN, List.getD_eq_getElem?_getD, h]
theorem flipN_at {a b k i : Nat} (h : i < k) : (flipN a b k).getD i 0 = if i < a then ((b + i : Nat) : Int) else ((i - a : Nat) : Int) := by simp [flipN, List.getD_eq_getElem?_getD, h]
theorem idsN_each (n : Nat) : eachN (idsN n) n := by
  refine ⟨idsN_len n, List.pairwise_map.2 (List.nodup_range.imp fun h e => h (by omega)), fun x hx => ?_⟩
  simp only [idsN, List.mem_map, List.mem_range] at hx
  obtain ⟨i, hi, rfl⟩ := hx
  omega
theorem flipN_each (a b : Nat) : eachN (flipN a b (a + b)) (a + b) := by
  refine ⟨flipN_len a b _, List.pairwise_map.2 ?_, fun x hx => ?_⟩
  · refine (List.nodup_range (n := a + b)).imp_of_mem fun hx hy h e => h ?_
    have hx := List.mem_range.1 hx
    have hy := List.mem_range.1 hy
    split at e <;> split at e <;> omega
  · simp only [flipN, List.mem_map, List.mem_range] at hx
    obtain ⟨i, hi, rfl⟩ := hx
    split <;> omega
theorem outK_ids (cells : List Int) : outK cells (idsN cells.length) cells.length = cells := by
  have hl := outK_len cells (idsN cells.length) cells.length
  refine List.ext_getElem hl fun i h1 h2 => ?_
  have h := outK_at (idsN_each cells.length) (Nat.le_refl _) i h2
  rw [idsN_at h2] at h
  rw [show ((i : Int)).toNat = i from rfl] at h
  simpa [List.getD_eq_getElem?_getD, h1, h2] using h
theorem moves_flip (cells : List Int) (a b : Nat) : Moves cells cells (idsN cells.length) (flipN a b (a + b)) (a + b) := by
  have := moves_of (cells := cells) (idsN_each cells.length) (flipN_each a b)
  rwa [outK_ids] at this
theorem flip_ok {pn : Int → Nat} {cells : List Int} {W : List (Pt × Pt)} {a b : Nat} (h : NetOk pn cells (a + b) W) : NetOk pn cells (a + b) (tidyW (allPs pn cells (a + b)) (moveW (idsN cells.length) (flipN a b (a + b)) W)) :=
  (h.move (moves_flip cells a b)).tidy
theorem flip_back {pn : Int → Nat} {cells : List Int} {W : List (Pt × Pt)} {a b : Nat} (h : NetOk pn cells (a + b) W) :
    tidyW (allPs pn cells (a + b)) (moveW (idsN cells.length) (flipN b a (a + b)) (tidyW (allPs pn cells (a + b)) (moveW (idsN cells.length) (flipN a b (a + b)) W))) = tidyW (allPs pn cells (a + b)) W := by
  have hm' := moves_flip cells b a
  rw [Nat.add_comm b a] at hm'
  refine h.there_back (moves_flip cells a b) hm' fun p hp => ?_
  obtain ⟨c, s⟩ := p
  unfold isPt at hp
  unfold toPt
  by_cases hc : c = -1
  · subst hc
    simp only [if_true, decide_eq_true_eq] at hp
    obtain ⟨k, rfl⟩ := Int.eq_ofNat_of_zero_le hp.1
    have hk : k < a + b := by omega
    simp only [show ((-1 : Int) < 0) = True by simp, if_true]
    rw [show ((k : Int)).toNat = k from rfl, flipN_at hk]
    by_cases hka : k < a
    · rw [if_pos hka, show (((b + k : Nat) : Int)).toNat = b + k from rfl, flipN_at (by omega), if_neg (by omega)]
      simp only [Prod.mk.injEq, true_and]; omega
    · rw [if_neg hka, show (((k - a : Nat) : Int)).toNat = k - a from rfl, flipN_at (by omega), if_pos (by omega)]
      simp only [Prod.mk.injEq, true_and]; omega
  · simp only [hc, if_false, decide_eq_true_eq] at hp
    obtain ⟨k, rfl⟩ := Int.eq_ofNat_of_zero_le hp.1
    have hk : k < cells.length := by omega
    have hn : ¬ ((k : Int) < 0) := by omega
    simp only [hn, if_false]
    rw [show ((k : Int)).toNat = k from rfl, idsN_at hk]
    simp only [hn, if_false]
    rw [show ((k : Int)).toNat = k from rfl, idsN_at hk]
/-! ### Left sides -/
def leftP (a k : Nat) : Pt := if k < a then (0, ((k + 1 : Nat) : Int)) else (1, ((k + 1 - a : Nat) : Int))
def leftK (a k : Nat) : List (Pt × Pt) := ((0, 0), (1, 0)) :: (List.range k).map fun (i : Nat) => (((-1 : Int), (i : Int)), leftP a i)
theorem leftK_succ (a k : Nat) : leftK a (k + 1) = leftK a k ++ [((-1, (k : Int)), leftP a k)] := by simp [leftK, List.range_succ]
theorem leftK_len (a k : Nat) : (leftK a k).length = k + 1 := by simp [leftK]
def okB (pn : Int → Nat) (cells : List Int) (f : Nat) (W : List (Pt × Pt)) : Bool := (ends W).all (isPt pn cells f) && decide (ends W).Nodup && (allPs pn cells f).all fun p => decide (p ∈ ends W)
theorem okB_ok {pn : Int → Nat} {cells : List Int} {f : Nat} {W : List (Pt × Pt)} (h : okB pn cells f W = true) : NetOk pn cells f W := by
  unfold okB at h
  simp only [Bool.and_eq_true, List.all_eq_true, decide_eq_true_eq] at h
  exact ⟨h.1.1, h.1.2, h.2⟩
theorem left_all : ((List.range 7).all fun a => (List.range 7).all fun b => okB (fun x => if x = 0 then a + 1 else b + 1) [0, 1] (a + b) (leftK a (a + b))) = true := by decide +kernel
theorem left_ok {pn : Int → Nat} {x y : Int} {a b : Nat} (hx : pn x = a + 1) (hy : pn y = b + 1) (ha : a ≤ 6) (hb : b ≤ 6) : NetOk pn [x, y] (a + b) (leftK a (a + b)) := by
  have h0 := left_all
  rw [List.all_eq_true] at h0
  have h1 := h0 a (List.mem_range.2 (by omega))
  rw [List.all_eq_true] at h1
  have h := okB_ok (h1 b (List.mem_range.2 (by omega)))
  have e1 : ∀ p, isPt pn [x, y] (a + b) p = isPt (fun x => if x = 0 then a + 1 else b + 1) [0, 1] (a + b) p := fun p => by
    obtain ⟨c, s⟩ := p
    unfold isPt
    by_cases hc : c = -1
    · simp [hc]
    · simp only [hc, if_false]
      by_cases hc2 : 0 ≤ c ∧ c < 2
      · rcases (by omega : c = 0 ∨ c = 1) with rfl | rfl
        · simp [hx]
        · simp [hy]
      · have hc3 : ¬ (0 ≤ c ∧ c < ((2 : Nat) : Int)) := hc2
        exact decide_eq_decide.2 ⟨fun h => absurd ⟨h.1, h.2.1⟩ hc3, fun h => absurd ⟨h.1, h.2.1⟩ hc3⟩
  have e2 : allPs pn [x, y] (a + b) = allPs (fun x => if x = 0 then a + 1 else b + 1) [0, 1] (a + b) := by simp [allPs, cellPs, hx, hy]
  exact ⟨fun p hp => (e1 p).trans (h.is p hp), h.nodup, fun p hp => h.all p (e2 ▸ hp)⟩
end Go.Proofs.Ytcebejcdfdahjaa
namespace Go.Proofs.Ytcebejcdfdahjaa
open Go.RowKit
set_option linter.unusedVariables false

/-- The numbers back, when n were written. -/
def bkN (xs : List Int) (n : Nat) : List Int := outK (idsN n) xs n
theorem bkN_len (xs : List Int) (n : Nat) : (bkN xs n).length = n := by rw [bkN, outK_len, idsN_len]
theorem bkN_at {xs : List Int} {n : Nat} (h : eachN xs n) {i : Nat} (hi : i < n) : (bkN xs n).getD (xs.getD i 0).toNat 0 = i := by
  have h' : eachN xs (idsN n).length := by rw [idsN_len]; exact h
  have := outK_at h' (k := n) (by rw [idsN_len]; exact Nat.le_refl n) i hi
  rw [idsN_at hi] at this
  exact this
theorem bkN_inv {xs : List Int} {n : Nat} (h : eachN xs n) {j : Nat} (hj : j < n) : ∃ i, i < n ∧ (bkN xs n).getD j 0 = i ∧ xs.getD i 0 = j := by
  obtain ⟨i, hi, e⟩ := each_all h (x := (j : Int)) (by omega) (by omega)
  have hi' : i < n := by have := h.1; omega
  have := bkN_at h hi'
  rw [e] at this
  exact ⟨i, hi', this, e⟩
theorem bkN_each {xs : List Int} {n : Nat} (h : eachN xs n) : eachN (bkN xs n) n := by
  have hl := bkN_len xs n
  refine ⟨hl, ?_, fun x hx => ?_⟩
  · refine List.pairwise_iff_getElem.2 fun i j hi hj hij e => ?_
    rw [hl] at hi hj
    obtain ⟨a, _, ea, xa⟩ := bkN_inv h hi
    obtain ⟨b, _, eb, xb⟩ := bkN_inv h hj
    have e1 : (bkN xs n).getD i 0 = (bkN xs n).getD j 0 := by
      simp only [List.getD_eq_getElem?_getD, List.getElem?_eq_getElem (hl.symm ▸ hi : i < (bkN xs n).length), List.getElem?_eq_getElem (hl.symm ▸ hj : j < (bkN xs n).length), Option.getD_some, e]
    have hab : a = b := by omega
    subst hab
    omega
  · obtain ⟨j, hj, rfl⟩ := List.mem_iff_getElem.1 hx
    obtain ⟨a, ha, ea, _⟩ := bkN_inv h (hl ▸ hj : j < n)
    have e1 : (bkN xs n).getD j 0 = (bkN xs n)[j] := by simp [List.getD_eq_getElem?_getD, hj]
    omega
theorem list_getD {l k : List Int} (hl : l.length = k.length) (h : ∀ i, i < k.length → l.getD i 0 = k.getD i 0) : l = k := by
  refine List.ext_getElem hl fun i h1 h2 => ?_
  have := h i h2
  simpa [List.getD_eq_getElem?_getD, h1, h2] using this
theorem outK_back {cells xs : List Int} {n : Nat} (hn : n = cells.length) (h : eachN xs n) : outK (outK cells xs n) (bkN xs n) n = cells := by
  subst hn
  have hl := outK_len cells xs cells.length
  refine list_getD (by rw [outK_len, hl]) fun i hi => ?_
  have h' : eachN (bkN xs cells.length) (outK cells xs cells.length).length := by rw [hl]; exact bkN_each h
  have ha := each_at h hi
  have := outK_at h' (k := cells.length) (by rw [hl]; exact Nat.le_refl _) (xs.getD i 0).toNat (by omega)
  rw [bkN_at h hi] at this
  rw [show ((i : Int)).toNat = i from rfl] at this
  rw [this]
  exact outK_at h (Nat.le_refl _) i hi
theorem outK_len' (cells xs : List Int) (n : Nat) : (outK cells xs n).length = cells.length := outK_len _ _ _
theorem ends_len2 (W : List (Pt × Pt)) : (ends W).length = 2 * W.length := by
  unfold ends
  induction W with
  | nil => rfl
  | cons x r ih => simp only [List.flatMap_cons, List.length_append, ih, List.length_cons, List.length_nil]; omega
theorem nodup_sub2 {α : Type} [DecidableEq α] {l k : List α} (hl : l.Nodup) (hs : ∀ x ∈ l, x ∈ k) : l.length ≤ k.length := by
  induction l generalizing k with
  | nil => simp
  | cons a r ih =>
    have ha := hs a (by simp)
    obtain ⟨h1, h2⟩ := List.nodup_cons.1 hl
    have h3 := ih (k := k.erase a) h2 fun x hx => (List.mem_erase_of_ne (fun e => h1 (by rw [← e]; exact hx))).2 (hs x (by simp [hx]))
    have h4 := List.length_erase_of_mem ha
    have h5 : 0 < k.length := List.length_pos_of_mem ha
    simp only [List.length_cons]
    omega
theorem NetOk.twice {pn : Int → Nat} {cells : List Int} {free : Nat} {W : List (Pt × Pt)} (h : NetOk pn cells free W) : 2 * W.length = (allPs pn cells free).length := by
  have h1 := nodup_sub2 h.nodup (fun p hp => allPs_mem.2 (h.is p hp))
  have h2 := nodup_sub2 (allPs_nodup pn cells free) h.all
  rw [ends_len2] at h1 h2
  omega
theorem allPs_bef (pn : Int → Nat) (cells : List Int) (free : Nat) : (allPs pn cells free).Pairwise fun p q => bef p q = true := by
  refine List.pairwise_iff_getElem.2 fun i j hi hj hij => ?_
  have h1 := allPs_is pn (List.getElem_mem hi)
  have h2 := allPs_is pn (List.getElem_mem hj)
  rw [bef_plc pn h1 h2, plc_at pn (List.getElem?_eq_getElem hi), plc_at pn (List.getElem?_eq_getElem hj)]
  simpa using hij
theorem tidy_pair (pn : Int → Nat) (cells : List Int) (free : Nat) (W : List (Pt × Pt)) : (tidyW (allPs pn cells free) W).Pairwise fun a b => bef a.1 b.1 = true := by
  unfold tidyW
  refine List.pairwise_filterMap.2 ((allPs_bef pn cells free).imp fun {p q} h a ha b hb => ?_)
  have ea : a.1 = p := by
    cases hl : lnk W p with
    | none => rw [hl] at ha; simp at ha
    | some y =>
      rw [hl] at ha
      simp only at ha
      by_cases hb' : bef p y = true
      · rw [if_pos hb'] at ha; simp only [Option.some.injEq] at ha; rw [← ha]
      · rw [if_neg hb'] at ha; simp at ha
  have eb : b.1 = q := by
    cases hl : lnk W q with
    | none => rw [hl] at hb; simp at hb
    | some y =>
      rw [hl] at hb
      simp only at hb
      by_cases hb' : bef q y = true
      · rw [if_pos hb'] at hb; simp only [Option.some.injEq] at hb; rw [← hb]
      · rw [if_neg hb'] at hb; simp at hb
  rw [ea, eb]
  exact h
theorem tidy_bef {pn : Int → Nat} {cells : List Int} {free : Nat} {W : List (Pt × Pt)} {i : Nat} (hi : i < (tidyW (allPs pn cells free) W).length) : bef ((tidyW (allPs pn cells free) W).getD i default).1 ((tidyW (allPs pn cells free) W).getD i default).2 = true := by
  have e : (tidyW (allPs pn cells free) W).getD i default = (tidyW (allPs pn cells free) W)[i] := by simp [List.getD_eq_getElem?_getD, hi]
  rw [e]
  exact (tidyF_mem (P := allPs pn cells free) (lk := lnk W).1 (List.getElem_mem hi)).2.2
theorem tidy_step {pn : Int → Nat} {cells : List Int} {free : Nat} {W : List (Pt × Pt)} {i : Nat} (hi : i + 1 < (tidyW (allPs pn cells free) W).length) : bef ((tidyW (allPs pn cells free) W).getD i default).1 ((tidyW (allPs pn cells free) W).getD (i + 1) default).1 = true := by
  have e : (tidyW (allPs pn cells free) W).getD i default = (tidyW (allPs pn cells free) W)[i] := by simp [List.getD_eq_getElem?_getD, (by omega : i < (tidyW (allPs pn cells free) W).length)]
  have e2 : (tidyW (allPs pn cells free) W).getD (i + 1) default = (tidyW (allPs pn cells free) W)[i + 1] := by simp [List.getD_eq_getElem?_getD, hi]
  rw [e, e2]
  exact List.pairwise_iff_getElem.1 (tidy_pair pn cells free W) i (i + 1) (by omega) hi (by omega)
theorem toPt_back {pn : Int → Nat} {cells xs ys : List Int} {f : Nat} (hx : eachN xs cells.length) (hy : eachN ys f) {p : Pt} (hp : isPt pn cells f p = true) : toPt (bkN xs cells.length) (bkN ys f) (toPt xs ys p) = p := by
  obtain ⟨c, s⟩ := p
  unfold isPt at hp
  unfold toPt
  by_cases hc : c = -1
  · subst hc
    simp only [if_true, decide_eq_true_eq] at hp
    obtain ⟨k, rfl⟩ := Int.eq_ofNat_of_zero_le hp.1
    have hk : k < f := by omega
    simp only [show ((-1 : Int) < 0) = True by simp, if_true]
    rw [show ((k : Int)).toNat = k from rfl, bkN_at hy hk]
  · simp only [hc, if_false, decide_eq_true_eq] at hp
    obtain ⟨k, rfl⟩ := Int.eq_ofNat_of_zero_le hp.1
    have hk : k < cells.length := by omega
    have hn : ¬ ((k : Int) < 0) := by omega
    simp only [hn, if_false]
    rw [show ((k : Int)).toNat = k from rfl]
    have hx0 := (each_at hx hk).1
    have hn2 : ¬ (xs.getD k 0 < 0) := by omega
    simp only [hn2, if_false]
    rw [bkN_at hx hk]
section
variable {L : List (ByteArray × Int)} {cells : List Int} {fr : Int} {W : List (Pt × Pt)} {xs ys : List Int}
theorem chkN_of {cells2 : List Int} {W2 : List (Pt × Pt)} (hk : chkN L cells fr W = 0) (hl : cells2.length = cells.length) (hc : ∀ j, j < cells2.length → 0 ≤ cells2.getD j 0 ∧ cells2.getD j 0 < L.length) (hok : NetOk (pnL L) cells2 fr.toNat W2) : chkN L cells2 fr W2 = 0 := by
  obtain ⟨h0, h1, h2, h3, h4, h5⟩ := netChk_ok hk
  obtain ⟨f, rfl⟩ := Int.eq_ofNat_of_zero_le h2
  have hok' : NetOk (pnL L) cells2 f W2 := hok
  unfold chkN
  rw [netChk_of h0 (by omega) (by omega) hc hok']
theorem chkN_ok (hk : chkN L cells fr W = 0) : NetOk (pnL L) cells fr.toNat W := (netChk_ok hk).2.2.2.2.2
theorem chkN_tidy (hk : chkN L cells fr W = 0) : chkN L cells fr (tidyW (allPs (pnL L) cells fr.toNat) W) = 0 :=
  chkN_of hk rfl (netChk_ok hk).2.2.2.2.1 (chkN_ok hk).tidy
theorem mv_each {T : List (Pt × Pt)} (h : mvE L cells fr T xs ys = 0) : eachN xs cells.length ∧ eachN ys fr.toNat := by
  unfold mvE at h
  by_cases hk : chkN L cells fr T ≠ 0
  · rw [if_pos hk] at h; exact absurd h hk
  · rw [if_neg hk] at h
    by_cases he : eachN xs cells.length ∧ eachN ys fr.toNat
    · exact he
    · rw [if_neg he] at h; simp at h
theorem mv_is {T : List (Pt × Pt)} (hk : chkN L cells fr T = 0) (hx : eachN xs cells.length) (hy : eachN ys fr.toNat) : mvE L cells fr T xs ys = 0 ∧ mvC L cells fr T xs ys = outK cells xs cells.length ∧ mvF L cells fr T xs ys = fr ∧ mvW L cells fr T xs ys = tidyW (allPs (pnL L) (outK cells xs cells.length) fr.toNat) (moveW xs ys T) := by
  have h : mvE L cells fr T xs ys = 0 := by unfold mvE; rw [if_neg (by simpa using hk), if_pos ⟨hx, hy⟩]
  unfold mvC mvF mvW
  rw [if_pos h, if_pos h, if_pos h]
  exact ⟨h, rfl, rfl, rfl⟩
theorem moved_chk {T : List (Pt × Pt)} (hk : chkN L cells fr T = 0) (hx : eachN xs cells.length) (hy : eachN ys fr.toNat) : chkN L (outK cells xs cells.length) fr (tidyW (allPs (pnL L) (outK cells xs cells.length) fr.toNat) (moveW xs ys T)) = 0 := by
  have hm := moves_of (cells := cells) hx hy
  refine chkN_of hk (outK_len _ _ _) (fun j hj => ?_) ((chkN_ok hk).move hm).tidy
  rw [outK_len] at hj
  obtain ⟨i, hi, e⟩ := each_all hx (x := (j : Int)) (by omega) (by omega)
  have hi' : i < cells.length := by have := hx.1; omega
  have e2 := hm.at_ i hi'
  rw [e, show ((j : Int)).toNat = j from rfl] at e2
  rw [e2]
  exact (netChk_ok hk).2.2.2.2.1 i hi'
/-- There and back. -/
theorem home_is (hk : chkN L cells fr W = 0) (hx : eachN xs cells.length) (hy : eachN ys fr.toNat) :
    mvE L (outK cells xs cells.length) fr (tidyW (allPs (pnL L) (outK cells xs cells.length) fr.toNat) (moveW xs ys (tidyW (allPs (pnL L) cells fr.toNat) W))) (bkN xs cells.length) (bkN ys fr.toNat) = 0 ∧
    mvC L (outK cells xs cells.length) fr (tidyW (allPs (pnL L) (outK cells xs cells.length) fr.toNat) (moveW xs ys (tidyW (allPs (pnL L) cells fr.toNat) W))) (bkN xs cells.length) (bkN ys fr.toNat) = cells ∧
    mvF L (outK cells xs cells.length) fr (tidyW (allPs (pnL L) (outK cells xs cells.length) fr.toNat) (moveW xs ys (tidyW (allPs (pnL L) cells fr.toNat) W))) (bkN xs cells.length) (bkN ys fr.toNat) = fr ∧
    mvW L (outK cells xs cells.length) fr (tidyW (allPs (pnL L) (outK cells xs cells.length) fr.toNat) (moveW xs ys (tidyW (allPs (pnL L) cells fr.toNat) W))) (bkN xs cells.length) (bkN ys fr.toNat) = tidyW (allPs (pnL L) cells fr.toNat) W := by
  have hkT := chkN_tidy hk
  have hm := moves_of (cells := cells) hx hy
  have hkM := moved_chk hkT hx hy
  have hbx : eachN (bkN xs cells.length) (outK cells xs cells.length).length := by rw [outK_len]; exact bkN_each hx
  have hby := bkN_each hy
  have hob := outK_back (cells := cells) rfl hx
  obtain ⟨h1, h2, h3, h4⟩ := mv_is hkM hbx hby
  rw [outK_len] at h2 h4
  rw [hob] at h2 h4
  refine ⟨h1, h2, h3, h4.trans ?_⟩
  have hm' := moves_of (cells := outK cells xs cells.length) hbx hby
  rw [outK_len, hob] at hm'
  rw [(chkN_ok hkT).there_back hm hm' fun p hp => toPt_back hx hy hp]
  exact (chkN_ok hk).tidy_tidy
end
end Go.Proofs.Ytcebejcdfdahjaa
