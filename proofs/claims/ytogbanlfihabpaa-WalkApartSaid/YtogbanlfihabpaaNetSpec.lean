/-
  What a net is, without memory: its ports in order, the checks, what each port is linked to. (Plain Lean, no program.)
-/
namespace Go.Proofs.Ytogbanlfihabpaa

abbrev Pt := Int × Int
/-- How many ports an agent has, by a table of so many. -/
structure NetD where
  cells : List Int
  free : Int
  wires : List (Pt × Pt)

section
variable (pn : Int → Nat)
def cellPs : Nat → List Int → List Pt
  | _, [] => []
  | c, a :: r => (List.range (pn a)).map (fun (k : Nat) => ((c : Int), (k : Int))) ++ cellPs (c + 1) r
def freePs (f : Nat) : List Pt := (List.range f).map fun (k : Nat) => ((-1 : Int), (k : Int))
/-- The ports, in order. -/
def allPs (cells : List Int) (free : Nat) : List Pt := freePs free ++ cellPs pn 0 cells
/-- Where a cell's ports begin. -/
def firstN (cells : List Int) (free : Nat) (c : Nat) : Nat := free + ((cells.take c).map pn).sum
def isPt (cells : List Int) (free : Nat) (p : Pt) : Bool := if p.1 = -1 then decide (0 ≤ p.2 ∧ p.2 < free) else decide (0 ≤ p.1 ∧ p.1 < cells.length ∧ 0 ≤ p.2 ∧ p.2 < pn (cells.getD p.1.toNat 0))
/-- The place of a port that is one. -/
def plc (cells : List Int) (free : Nat) (p : Pt) : Nat := if p.1 = -1 then p.2.toNat else firstN pn cells free p.1.toNat + p.2.toNat
theorem cellPs_len (c : Nat) (cells : List Int) : (cellPs pn c cells).length = (cells.map pn).sum := by
  induction cells generalizing c with
  | nil => rfl
  | cons a r ih => simp [cellPs, ih]
theorem allPs_len (cells : List Int) (free : Nat) : (allPs pn cells free).length = firstN pn cells free cells.length := by
  simp [allPs, freePs, firstN, cellPs_len]
theorem cellPs_at (c0 : Nat) (cells : List Int) {c k : Nat} (hc : c < cells.length) (hk : k < pn (cells.getD c 0)) : (cellPs pn c0 cells)[((cells.take c).map pn).sum + k]? = some (((c0 + c : Nat) : Int), (k : Int)) := by
  induction cells generalizing c0 c with
  | nil => simp at hc
  | cons a r ih =>
    cases c with
    | zero =>
      simp at hk
      simp [cellPs, List.getElem?_append, hk]
    | succ c =>
      have := ih (c0 + 1) (c := c) (by simpa using hc) (by simpa using hk)
      simp only [cellPs, List.take_succ_cons, List.map_cons, List.sum_cons]
      rw [List.getElem?_append_right (by simp; omega)]
      simp only [List.length_map, List.length_range]
      rw [show pn a + ((r.take c).map pn).sum + k - pn a = ((r.take c).map pn).sum + k by omega, this]
      congr 2
      simp; omega
theorem allPs_plc {cells : List Int} {free : Nat} {p : Pt} (h : isPt pn cells free p = true) : (allPs pn cells free)[plc pn cells free p]? = some p := by
  obtain ⟨c, s⟩ := p
  unfold isPt at h
  unfold plc allPs
  by_cases hc : c = -1
  · subst hc
    simp only [if_true, decide_eq_true_eq] at h ⊢
    rw [List.getElem?_append_left (by simp [freePs]; omega)]
    simp [freePs, show s.toNat < free by omega]; omega
  · simp only [hc, if_false, decide_eq_true_eq] at h ⊢
    obtain ⟨h1, h2, h3, h4⟩ := h
    rw [List.getElem?_append_right (by simp [freePs, firstN]; omega)]
    have := cellPs_at pn 0 cells (c := c.toNat) (k := s.toNat) (by omega) (by omega)
    rw [show firstN pn cells free c.toNat + s.toNat - (freePs free).length = ((cells.take c.toNat).map pn).sum + s.toNat by simp [freePs, firstN]; omega, this]
    simp; omega
theorem plc_lt {cells : List Int} {free : Nat} {p : Pt} (h : isPt pn cells free p = true) : plc pn cells free p < firstN pn cells free cells.length := by
  have := allPs_plc pn h
  rw [← allPs_len]
  rcases Nat.lt_or_ge (plc pn cells free p) (allPs pn cells free).length with hl | hl
  · exact hl
  · rw [List.getElem?_eq_none hl] at this; cases this
theorem plc_inj {cells : List Int} {free : Nat} {p q : Pt} (h : isPt pn cells free p = true) (h' : isPt pn cells free q = true) (e : plc pn cells free p = plc pn cells free q) : p = q := by
  have a := allPs_plc pn h
  have b := allPs_plc pn h'
  rw [e, b] at a
  exact (Option.some.inj a).symm
theorem cellPs_mem {c0 : Nat} {cells : List Int} {p : Pt} (h : p ∈ cellPs pn c0 cells) : ∃ c k : Nat, c < cells.length ∧ k < pn (cells.getD c 0) ∧ p = (((c0 + c : Nat) : Int), (k : Int)) := by
  induction cells generalizing c0 with
  | nil => simp [cellPs] at h
  | cons a r ih =>
    simp only [cellPs, List.mem_append, List.mem_map, List.mem_range] at h
    rcases h with ⟨k, hk, rfl⟩ | h
    · exact ⟨0, k, by simp, by simpa using hk, by simp⟩
    · obtain ⟨c, k, h1, h2, rfl⟩ := ih h
      exact ⟨c + 1, k, by simpa using h1, by simpa using h2, by simp; omega⟩
theorem allPs_is {cells : List Int} {free : Nat} {p : Pt} (h : p ∈ allPs pn cells free) : isPt pn cells free p = true := by
  unfold allPs at h
  rcases List.mem_append.1 h with h | h
  · simp only [freePs, List.mem_map, List.mem_range] at h
    obtain ⟨k, hk, rfl⟩ := h
    simp [isPt]; omega
  · obtain ⟨c, k, h1, h2, rfl⟩ := cellPs_mem pn h
    have : ((0 + c : Nat) : Int) ≠ -1 := by omega
    simp only [isPt, this, if_false, decide_eq_true_eq]
    exact ⟨by omega, by omega, by omega, by simpa using h2⟩
theorem allPs_nodup (cells : List Int) (free : Nat) : (allPs pn cells free).Nodup := by
  unfold allPs
  rw [List.nodup_append]
  refine ⟨?_, ?_, fun a ha b hb => ?_⟩
  · unfold freePs
    exact List.pairwise_map.2 (List.nodup_range.imp fun h e => h (by simp at e; omega))
  · generalize 0 = c0
    induction cells generalizing c0 with
    | nil => simp [cellPs]
    | cons a r ih =>
      rw [cellPs, List.nodup_append]
      refine ⟨List.pairwise_map.2 (List.nodup_range.imp fun h e => h (by simp at e; omega)), ih _, fun x hx y hy => ?_⟩
      obtain ⟨c, k, h1, h2, rfl⟩ := cellPs_mem pn hy
      simp only [List.mem_map, List.mem_range] at hx
      obtain ⟨k', _, rfl⟩ := hx
      intro e
      simp only [Prod.mk.injEq] at e
      omega
  · simp only [freePs, List.mem_map, List.mem_range] at ha
    obtain ⟨k, _, rfl⟩ := ha
    obtain ⟨c, k', h1, h2, rfl⟩ := cellPs_mem pn hb
    intro e
    simp only [Prod.mk.injEq] at e
    omega
theorem plc_at {cells : List Int} {free : Nat} {i : Nat} {p : Pt} (h : (allPs pn cells free)[i]? = some p) : plc pn cells free p = i := by
  have hp := allPs_is pn (List.mem_of_getElem? h)
  have h' := allPs_plc pn hp
  have hi : i < (allPs pn cells free).length := by
    rcases Nat.lt_or_ge i (allPs pn cells free).length with hl | hl
    · exact hl
    · rw [List.getElem?_eq_none hl] at h; cases h
  exact ((List.getElem?_inj hi (allPs_nodup pn cells free)).1 (h.trans h'.symm)).symm

theorem firstN_mono (cells : List Int) (free : Nat) {c d : Nat} (h : c < d) (hd : d ≤ cells.length) : firstN pn cells free c + pn (cells.getD c 0) ≤ firstN pn cells free d := by
  unfold firstN
  induction d with
  | zero => omega
  | succ d ih =>
    have hdl : d < cells.length := by omega
    have e : (cells.take (d + 1)).map pn = (cells.take d).map pn ++ [pn (cells.getD d 0)] := by
      rw [List.take_add_one, List.getElem?_eq_getElem hdl, List.map_append]
      simp only [Option.toList_some, List.map_cons, List.map_nil, List.getD_eq_getElem?_getD, List.getElem?_eq_getElem hdl, Option.getD_some]
    rw [e, List.sum_append, List.sum_cons, List.sum_nil]
    by_cases hcd : c = d
    · subst hcd; omega
    · have := ih (by omega) (by omega); omega
end

/-! ### What each port is linked to -/
def lnk : List (Pt × Pt) → Pt → Option Pt
  | [], _ => none
  | (a, b) :: r, p => if a = p then some b else if b = p then some a else lnk r p
def ends (W : List (Pt × Pt)) : List Pt := W.flatMap fun w => [w.1, w.2]
theorem ends_snoc (W : List (Pt × Pt)) (w : Pt × Pt) : ends (W ++ [w]) = ends W ++ [w.1, w.2] := by simp [ends]
theorem lnk_none {W : List (Pt × Pt)} {p : Pt} (h : p ∉ ends W) : lnk W p = none := by
  induction W with
  | nil => rfl
  | cons w r ih =>
    obtain ⟨a, b⟩ := w
    simp only [ends, List.flatMap_cons, List.cons_append, List.nil_append, List.mem_cons, not_or] at h
    unfold lnk
    rw [if_neg (fun e => h.1 e.symm), if_neg (fun e => h.2.1 e.symm)]
    exact ih h.2.2
theorem lnk_some {W : List (Pt × Pt)} {p : Pt} (h : p ∈ ends W) : ∃ q, lnk W p = some q ∧ q ∈ ends W := by
  induction W with
  | nil => simp [ends] at h
  | cons w r ih =>
    obtain ⟨a, b⟩ := w
    simp only [ends, List.flatMap_cons, List.cons_append, List.nil_append, List.mem_cons] at h ⊢
    unfold lnk
    by_cases ha : a = p
    · rw [if_pos ha]; exact ⟨b, rfl, .inr (.inl rfl)⟩
    · rw [if_neg ha]
      by_cases hb : b = p
      · rw [if_pos hb]; exact ⟨a, rfl, .inl rfl⟩
      · rw [if_neg hb]
        obtain ⟨q, h1, h2⟩ := ih (by
          rcases h with h | h | h
          · exact absurd h.symm ha
          · exact absurd h.symm hb
          · exact h)
        exact ⟨q, h1, .inr (.inr h2)⟩
theorem lnk_snoc (W : List (Pt × Pt)) (a b p : Pt) : lnk (W ++ [(a, b)]) p = (lnk W p).or (if a = p then some b else if b = p then some a else none) := by
  induction W with
  | nil => simp [lnk]
  | cons w r ih =>
    obtain ⟨x, y⟩ := w
    simp only [List.cons_append, lnk]
    by_cases h1 : x = p
    · simp [h1]
    · rw [if_neg h1, if_neg h1]
      by_cases h2 : y = p
      · simp [h2]
      · rw [if_neg h2, if_neg h2, ih]
/-! ### Which nets may be -/
def first (n : Nat) (f : Nat → Bool) : Option Nat := (List.range n).find? f
theorem first_some {n k : Nat} {f : Nat → Bool} (hk : k < n) (h : f k = true) (hn : ∀ j, j < k → f j = false) : first n f = some k := by
  unfold first
  induction n with
  | zero => omega
  | succ n ih =>
    rw [List.range_succ, List.find?_append]
    by_cases e : k = n
    · subst e
      rw [List.find?_eq_none.2 (fun x hx => by rw [hn x (List.mem_range.1 hx)]; simp)]
      simp [h]
    · rw [ih (by omega)]; rfl
theorem first_none {n : Nat} {f : Nat → Bool} (hn : ∀ j, j < n → f j = false) : first n f = none :=
  List.find?_eq_none.2 (fun x hx => by rw [hn x (List.mem_range.1 hx)]; simp)
theorem first_is {n k : Nat} {f : Nat → Bool} (h : first n f = some k) : k < n ∧ f k = true := by
  unfold first at h
  exact ⟨List.mem_range.1 (List.mem_of_find?_eq_some h), List.find?_some h⟩
theorem first_no {n : Nat} {f : Nat → Bool} (h : first n f = none) {j : Nat} (hj : j < n) : f j = false := by
  have := List.find?_eq_none.1 h j (List.mem_range.2 hj)
  simpa using this
def wErr (is : Pt → Bool) (pre : List (Pt × Pt)) (w : Pt × Pt) : Int := if is w.1 = false ∨ is w.2 = false then 30 else if w.1 ∈ ends pre ∨ w.2 ∈ ends pre ∨ w.1 = w.2 then 31 else 0
def wBad (is : Pt → Bool) (W : List (Pt × Pt)) (i : Nat) : Int := match W[i]? with
  | some w => wErr is (W.take i) w
  | none => 0
def netChk (pn : Int → Nat) (most : Nat) (cS : Int × Int) (cells : List Int) (free : Int) (W : List (Pt × Pt)) : Int × Int :=
  if cS.1 ≠ 0 then cS else
  if 4096 < cells.length ∨ 64 < free then (15, 0) else
  if free < 0 then (1, 0) else
  match first cells.length (fun i => decide (cells.getD i 0 < 0 ∨ (most : Int) ≤ cells.getD i 0)) with
  | some i => (20, i)
  | none => match first W.length (fun i => decide (wBad (isPt pn cells free.toNat) W i ≠ 0)) with
    | some i => (wBad (isPt pn cells free.toNat) W i, i)
    | none => match first (allPs pn cells free.toNat).length (fun i => decide ((allPs pn cells free.toNat).getD i (0, 0) ∉ ends W)) with
      | some i => (32, i)
      | none => (0, 0)
/-- A net that may be. -/
structure NetOk (pn : Int → Nat) (cells : List Int) (free : Nat) (W : List (Pt × Pt)) : Prop where
  is : ∀ p ∈ ends W, isPt pn cells free p = true
  nodup : (ends W).Nodup
  all : ∀ p ∈ allPs pn cells free, p ∈ ends W
theorem wBad_ok {is : Pt → Bool} {W : List (Pt × Pt)} (h : ∀ j, j < W.length → wBad is W j = 0) : (∀ p ∈ ends W, is p = true) ∧ (ends W).Nodup := by
  suffices hs : ∀ k, k ≤ W.length → (∀ p ∈ ends (W.take k), is p = true) ∧ (ends (W.take k)).Nodup by
    have := hs W.length (Nat.le_refl _)
    rwa [List.take_length] at this
  intro k
  induction k with
  | zero => intro _; simp [ends]
  | succ k ih =>
    intro hk
    obtain ⟨i1, i2⟩ := ih (by omega)
    have hkl : k < W.length := by omega
    have hw := h k hkl
    unfold wBad at hw
    rw [List.getElem?_eq_getElem hkl] at hw
    simp only at hw
    have e : W.take (k + 1) = W.take k ++ [W[k]] := by rw [List.take_add_one, List.getElem?_eq_getElem hkl]; rfl
    rw [e, ends_snoc]
    unfold wErr at hw
    by_cases c1 : is W[k].1 = false ∨ is W[k].2 = false
    · rw [if_pos c1] at hw; omega
    · rw [if_neg c1] at hw
      by_cases c2 : W[k].1 ∈ ends (W.take k) ∨ W[k].2 ∈ ends (W.take k) ∨ W[k].1 = W[k].2
      · rw [if_pos c2] at hw; omega
      · simp only [not_or, Bool.not_eq_false] at c1 c2
        refine ⟨fun p hp => ?_, ?_⟩
        · simp only [List.mem_append, List.mem_cons, List.not_mem_nil, or_false] at hp
          rcases hp with hp | rfl | rfl
          · exact i1 p hp
          · exact c1.1
          · exact c1.2
        · rw [List.nodup_append]
          refine ⟨i2, by simp [c2.2.2], fun a ha b hb => ?_⟩
          simp only [List.mem_cons, List.not_mem_nil, or_false] at hb
          rcases hb with rfl | rfl
          · exact fun e => c2.1 (e ▸ ha)
          · exact fun e => c2.2.1 (e ▸ ha)
theorem netChk_ok {pn : Int → Nat} {most : Nat} {cS : Int × Int} {cells : List Int} {free : Int} {W : List (Pt × Pt)} (h : (netChk pn most cS cells free W).1 = 0) :
    cS.1 = 0 ∧ cells.length ≤ 4096 ∧ 0 ≤ free ∧ free ≤ 64 ∧ (∀ i, i < cells.length → 0 ≤ cells.getD i 0 ∧ cells.getD i 0 < most) ∧ NetOk pn cells free.toNat W := by
  unfold netChk at h
  by_cases c0 : cS.1 ≠ 0
  · rw [if_pos c0] at h; exact absurd h c0
  rw [if_neg c0] at h
  by_cases c1 : 4096 < cells.length ∨ 64 < free
  · rw [if_pos c1] at h; simp at h
  rw [if_neg c1] at h
  by_cases c2 : free < 0
  · rw [if_pos c2] at h; simp at h
  rw [if_neg c2] at h
  cases h3 : first cells.length (fun i => decide (cells.getD i 0 < 0 ∨ (most : Int) ≤ cells.getD i 0)) with
  | some i => rw [h3] at h; simp at h
  | none =>
    rw [h3] at h
    simp only at h
    cases h4 : first W.length (fun i => decide (wBad (isPt pn cells free.toNat) W i ≠ 0)) with
    | some i =>
      rw [h4] at h
      simp only at h
      have := (first_is h4).2
      simp only [ne_eq, decide_eq_true_eq] at this
      exact absurd h this
    | none =>
      rw [h4] at h
      simp only at h
      cases h5 : first (allPs pn cells free.toNat).length (fun i => decide ((allPs pn cells free.toNat).getD i (0, 0) ∉ ends W)) with
      | some i => rw [h5] at h; simp at h
      | none =>
        obtain ⟨w1, w2⟩ := wBad_ok (is := isPt pn cells free.toNat) (W := W) (fun j hj => by have := first_no h4 hj; simpa using this)
        refine ⟨by omega, by omega, by omega, by omega, fun i hi => ?_, w1, w2, fun p hp => ?_⟩
        · have := first_no h3 hi
          simp only [decide_eq_false_iff_not, not_or, Int.not_lt, Int.not_le] at this
          exact this
        · obtain ⟨i, hi, rfl⟩ := List.mem_iff_getElem.1 hp
          have := first_no h5 hi
          simpa [List.getD_eq_getElem?_getD, List.getElem?_eq_getElem hi] using this

/-! ### Renumbered -/
def toPt (cs fs : List Int) (p : Pt) : Pt := if p.1 < 0 then (-1, fs.getD p.2.toNat 0) else (cs.getD p.1.toNat 0, p.2)
/-- Each number below so many, once. -/
def eachN (l : List Int) (most : Nat) : Prop := l.length = most ∧ l.Nodup ∧ ∀ x ∈ l, 0 ≤ x ∧ x < most
theorem nodup_lt {l : List Int} {n : Nat} (h : l.Nodup) (hl : ∀ x ∈ l, 0 ≤ x ∧ x < n) : l.length ≤ n := by
  induction n generalizing l with
  | zero => cases l with
    | nil => simp
    | cons x r => have := hl x (by simp); omega
  | succ n ih =>
    by_cases hn : (n : Int) ∈ l
    · have h1 := ih (l := l.erase n) (h.sublist (List.erase_sublist)) (fun x hx => by
        have hxl := List.mem_of_mem_erase hx
        have : x ≠ n := by
          rintro rfl
          exact (List.Nodup.not_mem_erase h) hx
        have := hl x hxl
        omega)
      rw [List.length_erase_of_mem hn] at h1
      omega
    · have := ih (l := l) h (fun x hx => by
        have h1 := hl x hx
        have : x ≠ n := fun e => hn (e ▸ hx)
        omega)
      omega
theorem each_at {l : List Int} {n : Nat} (h : eachN l n) {i : Nat} (hi : i < n) : 0 ≤ l.getD i 0 ∧ l.getD i 0 < n := by
  have hil : i < l.length := by have := h.1; omega
  rw [List.getD_eq_getElem?_getD, List.getElem?_eq_getElem hil]
  exact h.2.2 _ (List.getElem_mem hil)
theorem each_inj {l : List Int} {n : Nat} (h : eachN l n) {i j : Nat} (hi : i < n) (hj : j < n) (e : l.getD i 0 = l.getD j 0) : i = j := by
  have hl := h.1
  rw [List.getD_eq_getElem?_getD, List.getD_eq_getElem?_getD, List.getElem?_eq_getElem (by omega), List.getElem?_eq_getElem (by omega)] at e
  exact (List.getElem_inj h.2.1).1 e
section
variable {pn : Int → Nat} {cells out cs fs : List Int} {free : Nat}
structure Moves (cells out cs fs : List Int) (free : Nat) : Prop where
  c : eachN cs cells.length
  f : eachN fs free
  len : out.length = cells.length
  at_ : ∀ i, i < cells.length → out.getD (cs.getD i 0).toNat 0 = cells.getD i 0
theorem Moves.is (h : Moves cells out cs fs free) {p : Pt} (hp : isPt pn cells free p = true) : isPt pn out free (toPt cs fs p) = true := by
  unfold isPt at hp
  unfold toPt
  by_cases hc : p.1 = -1
  · rw [if_pos hc, decide_eq_true_eq] at hp
    rw [if_pos (by omega), isPt, if_pos rfl, decide_eq_true_eq]
    exact each_at h.f (by omega)
  · rw [if_neg hc, decide_eq_true_eq] at hp
    have := each_at h.c (i := p.1.toNat) (by omega)
    have e := h.at_ p.1.toNat (by omega)
    rw [if_neg (by omega), isPt, if_neg (by show ¬ cs.getD p.1.toNat 0 = -1; omega), decide_eq_true_eq]
    dsimp only
    rw [e, h.len]
    omega
theorem Moves.inj (h : Moves cells out cs fs free) {p q : Pt} (hp : isPt pn cells free p = true) (hq : isPt pn cells free q = true) (e : toPt cs fs p = toPt cs fs q) : p = q := by
  obtain ⟨c, s⟩ := p
  obtain ⟨d, t⟩ := q
  unfold isPt at hp hq
  unfold toPt at e
  by_cases hc : c = -1
  · rw [if_pos hc, decide_eq_true_eq] at hp
    rw [if_pos (by show c < 0; omega)] at e
    by_cases hd : d = -1
    · rw [if_pos hd, decide_eq_true_eq] at hq
      rw [if_pos (by show d < 0; omega)] at e
      simp only [Prod.mk.injEq, true_and] at e
      dsimp only at hp hq
      have := each_inj h.f (by omega) (by omega) e
      ext <;> dsimp only <;> omega
    · rw [if_neg hd, decide_eq_true_eq] at hq
      dsimp only at hp hq
      rw [if_neg (by show ¬ d < 0; omega)] at e
      simp only [Prod.mk.injEq] at e
      have := each_at h.c (i := d.toNat) (by omega)
      omega
  · rw [if_neg hc, decide_eq_true_eq] at hp
    dsimp only at hp
    rw [if_neg (by show ¬ c < 0; omega)] at e
    by_cases hd : d = -1
    · rw [if_pos hd, decide_eq_true_eq] at hq
      rw [if_pos (by show d < 0; omega)] at e
      simp only [Prod.mk.injEq] at e
      have := each_at h.c (i := c.toNat) (by omega)
      omega
    · rw [if_neg hd, decide_eq_true_eq] at hq
      dsimp only at hq
      rw [if_neg (by show ¬ d < 0; omega)] at e
      simp only [Prod.mk.injEq] at e
      have := each_inj h.c (by omega) (by omega) e.1
      ext <;> dsimp only <;> omega
end
/-- The partner of a port of a net that may be. -/
theorem NetOk.lnk {pn : Int → Nat} {cells : List Int} {free : Nat} {W : List (Pt × Pt)} (h : NetOk pn cells free W) {p : Pt} (hp : isPt pn cells free p = true) : ∃ q, Go.Proofs.Ytogbanlfihabpaa.lnk W p = some q ∧ isPt pn cells free q = true := by
  obtain ⟨q, h1, h2⟩ := lnk_some (h.all p (List.mem_of_getElem? (allPs_plc pn hp)))
  exact ⟨q, h1, h.is q h2⟩
end Go.Proofs.Ytogbanlfihabpaa
