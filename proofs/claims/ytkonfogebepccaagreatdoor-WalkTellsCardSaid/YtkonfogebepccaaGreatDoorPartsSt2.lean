/-
  walk.Parts: what 'take' does to what is kept: its cells found, sorted; a free port taken.
-/
import Derived.Test.YtkonfogebepccaaGreatDoorSamePlain
import Derived.Test.YtkonfogebepccaaGreatDoorWalkFrom
/-
  Plain: the parts of a net, one by one.
-/
namespace Go.Proofs.YtkonfogebepccaaGreatDoor
set_option linter.unusedVariables false

/-- The numbers below n that are of a list, rising. -/
def srtC (n : Nat) (l : List Int) : List Int := (List.range n).filterMap fun (c : Nat) => if (c : Int) ∈ l then some (c : Int) else none
theorem srtC_in {n : Nat} {l : List Int} (h : (n : Int) ∈ l) : srtC (n + 1) l = srtC n l ++ [(n : Int)] := by
  unfold srtC
  rw [List.range_succ, List.filterMap_append]
  simp [h]
theorem srtC_out {n : Nat} {l : List Int} (h : (n : Int) ∉ l) : srtC (n + 1) l = srtC n l := by
  unfold srtC
  rw [List.range_succ, List.filterMap_append]
  simp [h]
theorem srtC_mem {n : Nat} {l : List Int} {x : Int} : x ∈ srtC n l ↔ x ∈ l ∧ 0 ≤ x ∧ x < n := by
  unfold srtC
  simp only [List.mem_filterMap, List.mem_range]
  constructor
  · rintro ⟨c, hc, h⟩
    split at h
    · simp only [Option.some.injEq] at h
      subst h
      exact ⟨by assumption, by omega, by omega⟩
    · cases h
  · rintro ⟨h1, h2, h3⟩
    obtain ⟨c, rfl⟩ := Int.eq_ofNat_of_zero_le h2
    exact ⟨c, by omega, by rw [if_pos h1]⟩
theorem srtC_lt (n : Nat) (l : List Int) : (srtC n l).Pairwise (· < ·) := by
  induction n with
  | zero => exact List.Pairwise.nil
  | succ n ih =>
    by_cases h : (n : Int) ∈ l
    · rw [srtC_in h]
      refine List.pairwise_append.2 ⟨ih, by simp, fun a ha b hb => ?_⟩
      simp at hb; subst hb
      have := (srtC_mem.1 ha).2.2; omega
    · rw [srtC_out h]; exact ih
theorem srtC_len (n : Nat) (l : List Int) : (srtC n l).length ≤ n := by
  unfold srtC
  exact Nat.le_trans (List.length_filterMap_le _ _) (by simp)
theorem sorted_same : ∀ (a b : List Int), a.Pairwise (· < ·) → b.Pairwise (· < ·) → (∀ x, x ∈ a ↔ x ∈ b) → a = b
  | [], [], _, _, _ => rfl
  | [], y :: r, _, _, h => absurd ((h y).2 (by simp)) (by simp)
  | x :: r, [], _, _, h => absurd ((h x).1 (by simp)) (by simp)
  | x :: r, y :: s, ha, hb, h => by
    obtain ⟨ha1, ha2⟩ := List.pairwise_cons.1 ha
    obtain ⟨hb1, hb2⟩ := List.pairwise_cons.1 hb
    have hxy : x = y := by
      rcases List.mem_cons.1 ((h x).1 (by simp)) with h1 | h1
      · exact h1
      · rcases List.mem_cons.1 ((h y).2 (by simp)) with h2 | h2
        · exact h2.symm
        · have := hb1 x h1; have := ha1 y h2; omega
    subst hxy
    rw [sorted_same r s ha2 hb2 fun z => ?_]
    constructor
    · intro hz
      rcases List.mem_cons.1 ((h z).1 (by simp [hz])) with h1 | h1
      · have := ha1 z hz; omega
      · exact h1
    · intro hz
      rcases List.mem_cons.1 ((h z).2 (by simp [hz])) with h1 | h1
      · have := hb1 z hz; omega
      · exact h1
theorem mergeSort_srt {n : Nat} {l : List Int} (h : Fnd n l) : (l.mergeSort fun x y => decide (x ≤ y)) = srtC n l := by
  have hp := List.mergeSort_perm l (fun x y => decide (x ≤ y))
  have hs := List.pairwise_mergeSort (le := fun x y : Int => decide (x ≤ y)) (fun a b c h1 h2 => by simp at *; omega) (fun a b => by simp; omega) l
  have hnd : (l.mergeSort fun x y => decide (x ≤ y)).Nodup := hp.nodup_iff.2 h.nd
  refine sorted_same _ _ ?_ (srtC_lt n l) fun x => ?_
  · refine (hs.and hnd).imp fun {a b} hab => ?_
    have h1 : a ≤ b := by simpa using hab.1
    have h2 : a ≠ b := hab.2
    omega
  · rw [hp.mem_iff, srtC_mem]
    exact ⟨fun hx => ⟨hx, h.lt x hx⟩, fun hx => hx.1⟩
/-- Is free port i of the part whose walk, from p, found l? -/
def frC (Lk : Pt → Pt) (p : Pt) (l : List Int) (i : Nat) : Bool := decide ((0 ≤ (Lk (-1, (i : Int))).1 ∧ (Lk (-1, (i : Int))).1 ∈ l) ∨ (l = [] ∧ (((-1 : Int), (i : Int)) = p ∨ Lk (-1, (i : Int)) = p)))
def frL (f : Nat) (Lk : Pt → Pt) (p : Pt) (l : List Int) : List Int := (List.range f).filterMap fun (i : Nat) => if frC Lk p l i = true then some (i : Int) else none
theorem frL_in {f : Nat} {Lk : Pt → Pt} {p : Pt} {l : List Int} (h : frC Lk p l f = true) : frL (f + 1) Lk p l = frL f Lk p l ++ [(f : Int)] := by
  unfold frL
  rw [List.range_succ, List.filterMap_append]
  simp [h]
theorem frL_out {f : Nat} {Lk : Pt → Pt} {p : Pt} {l : List Int} (h : frC Lk p l f = false) : frL (f + 1) Lk p l = frL f Lk p l := by
  unfold frL
  rw [List.range_succ, List.filterMap_append]
  simp [h]
theorem frL_mem {f : Nat} {Lk : Pt → Pt} {p : Pt} {l : List Int} {i : Nat} (hi : i < f) : (i : Int) ∈ frL f Lk p l ↔ frC Lk p l i = true := by
  unfold frL
  simp only [List.mem_filterMap, List.mem_range]
  constructor
  · rintro ⟨c, hc, h⟩
    split at h
    · simp only [Option.some.injEq] at h
      have : c = i := by omega
      subst this; assumption
    · cases h
  · intro h
    exact ⟨i, hi, by rw [if_pos h]⟩
theorem frL_lt {f : Nat} {Lk : Pt → Pt} {p : Pt} {l : List Int} {x : Int} (h : x ∈ frL f Lk p l) : 0 ≤ x ∧ x < f := by
  unfold frL at h
  simp only [List.mem_filterMap, List.mem_range] at h
  obtain ⟨c, hc, h⟩ := h
  split at h
  · simp only [Option.some.injEq] at h; omega
  · cases h
theorem frL_len (f : Nat) (Lk : Pt → Pt) (p : Pt) (l : List Int) : (frL f Lk p l).length ≤ f := by
  unfold frL
  exact Nat.le_trans (List.length_filterMap_le _ _) (by simp)
/-- A part: its cells and its free ports, rising. -/
abbrev Pa := List Int × List Int
def partOf (pn : Int → Nat) (cs : List Int) (f : Nat) (Lk : Pt → Pt) (p : Pt) : Pa := (srtC cs.length (wlk pn cs Lk p), frL f Lk p (wlk pn cs Lk p))
/-- Is a port in one of the parts? -/
def inPa (l : List Pa) (p : Pt) : Prop := if p.1 < 0 then ∃ q ∈ l, p.2 ∈ q.2 else ∃ q ∈ l, p.1 ∈ q.1
open Classical in
noncomputable def stepP (pn : Int → Nat) (cs : List Int) (f : Nat) (Lk : Pt → Pt) (l : List Pa) (p : Pt) : List Pa := if inPa l p then l else l ++ [partOf pn cs f Lk p]
noncomputable def partsK (pn : Int → Nat) (cs : List Int) (f : Nat) (Lk : Pt → Pt) (l : List Pa) (ps : List Pt) : List Pa := ps.foldl (stepP pn cs f Lk) l
section
variable {pn : Int → Nat} {cs : List Int} {f : Nat} {Lk : Pt → Pt} {l : List Pa} {p : Pt}
theorem stepP_in (h : inPa l p) : stepP pn cs f Lk l p = l := if_pos h
theorem stepP_new (h : ¬ inPa l p) : stepP pn cs f Lk l p = l ++ [partOf pn cs f Lk p] := if_neg h
theorem partsK_snoc (ps : List Pt) : partsK pn cs f Lk l (ps ++ [p]) = stepP pn cs f Lk (partsK pn cs f Lk l ps) p := by simp [partsK, List.foldl_append]
theorem inPa_mono {l' : List Pa} (h : inPa l p) (hl : l <+: l') : inPa l' p := by
  obtain ⟨r, rfl⟩ := hl
  unfold inPa at *
  split at h
  · rename_i h0; rw [if_pos h0]; obtain ⟨q, h1, h2⟩ := h; exact ⟨q, by simp [h1], h2⟩
  · rename_i h0; rw [if_neg h0]; obtain ⟨q, h1, h2⟩ := h; exact ⟨q, by simp [h1], h2⟩
theorem inPa_same {c s s' : Int} (hc : 0 ≤ c) (h : inPa l (c, s)) : inPa l (c, s') := by
  unfold inPa at *
  rw [if_neg (by show ¬ c < 0; omega)] at *
  exact h
end
end Go.Proofs.YtkonfogebepccaaGreatDoor
/-
  What walk.Parts keeps between two calls of 'take'.
-/
/-
  The parts of a net in memory, as walk.Parts makes them.
-/
namespace Go.Proofs.YtkonfogebepccaaGreatDoor
open Go.RowKit
set_option maxRecDepth 100000
set_option linter.unusedVariables false

/-- A part's two slices and what they hold. -/
structure PV where
  a : Value
  b : Value
  xs : List Int
  ys : List Int
def pvCells (qs : List PV) : List Value := qs.flatMap fun q => [q.a, q.b]
theorem pvCells_len (qs : List PV) : (pvCells qs).length = qs.length * 2 := by
  induction qs with
  | nil => rfl
  | cons p r ih => simp only [pvCells, List.flatMap_cons] at *; simp at *; omega
theorem pvCells_snoc (qs : List PV) (q : PV) : pvCells (qs ++ [q]) = pvCells qs ++ [q.a, q.b] := by simp [pvCells]
theorem pvCells_at {qs : List PV} {i : Nat} (h : i < qs.length) : (pvCells qs)[i * 2]? = some qs[i].a ∧ (pvCells qs)[i * 2 + 1]? = some qs[i].b := by
  induction qs generalizing i with
  | nil => simp at h
  | cons p r ih =>
    cases i with
    | zero => simp [pvCells]
    | succ i =>
      have := ih (i := i) (by simpa using h)
      simpa [pvCells, Nat.add_mul] using this
theorem pvCells_seta (qs : List PV) (q : PV) (u : Value) : (pvCells (qs ++ [q])).set (qs.length * 2) u = pvCells (qs ++ [{ q with a := u }]) := by
  rw [pvCells_snoc, pvCells_snoc, ← pvCells_len, List.set_append_right _ _ (Nat.le_refl _), Nat.sub_self]; rfl
theorem pvCells_setb (qs : List PV) (q : PV) (u : Value) : (pvCells (qs ++ [q])).set (qs.length * 2 + 1) u = pvCells (qs ++ [{ q with b := u }]) := by
  rw [pvCells_snoc, pvCells_snoc, ← pvCells_len, List.set_append_right _ _ (by omega), show (pvCells qs).length + 1 - (pvCells qs).length = 1 by omega]; rfl
def setAll (o : List Int) (N : Int) (l : List Int) : List Int := l.foldl (fun o c => o.set c.toNat N) o
theorem setAll_len (o : List Int) (N : Int) (l : List Int) : (setAll o N l).length = o.length := by
  unfold setAll
  induction l generalizing o with
  | nil => rfl
  | cons c r ih => simp only [List.foldl_cons]; rw [ih]; simp
theorem setAll_snoc (o : List Int) (N : Int) (l : List Int) (c : Int) : setAll o N (l ++ [c]) = (setAll o N l).set c.toNat N := by simp [setAll, List.foldl_append]
theorem setAll_at {o : List Int} {N : Int} {l : List Int} (hl : ∀ x ∈ l, 0 ≤ x) {c : Nat} (hc : c < o.length) : (setAll o N l).getD c 0 = if (c : Int) ∈ l then N else o.getD c 0 := by
  unfold setAll
  induction l generalizing o with
  | nil => simp
  | cons x r ih =>
    simp only [List.foldl_cons]
    rw [ih (fun y hy => hl y (by simp [hy])) (by simpa using hc)]
    have hx := hl x (by simp)
    by_cases h1 : (c : Int) ∈ r
    · rw [if_pos h1, if_pos (by simp [h1])]
    · rw [if_neg h1]
      by_cases h2 : (c : Int) = x
      · subst h2
        rw [if_pos (by simp), Int.toNat_natCast]
        simp [List.getD_eq_getElem?_getD, hc]
      · rw [if_neg (by simp [h1, h2])]
        have h3 : x.toNat ≠ c := by omega
        simp [List.getD_eq_getElem?_getD, h3]

/-- What the body of the first loop of 'take' lives in: the list's box and row, the numbers' box and row, the counter; a: the cells so far. -/
def TkI (bl bo bn go gl n cl : Nat) (qs : List PV) (ofs : List Int) (pre : List Int) (D : List Nat) (Y : World) : Prop := ∃ a, D = [bl, bo, bn, go, gl] ++ ownB a ∧
  Y.heap[bl]? = some (.cells #[.slice (some ⟨gl, 0, none⟩) (qs.length + 1) cl] 36 (0, 0)) ∧ Y.heap[bo]? = some (.cells #[.slice (some ⟨go, 0, none⟩) n n] 23 (0, 0)) ∧ Y.heap[bn]? = some (.cells #[.int .i64 ((qs.length + 1 : Nat) : Int)] 3 (0, 0)) ∧
  Row Y 65 2 (.slice (some ⟨gl, 0, none⟩) (qs.length + 1) cl) (qs.length + 1) (pvCells (qs ++ [⟨a, .slice none 0 0, pre, []⟩])) ∧
  Row Y 3 1 (.slice (some ⟨go, 0, none⟩) n n) n (ivals (setAll ofs ((qs.length + 1 : Nat) : Int) pre)) ∧ Row Y 3 1 a pre.length (ivals pre) ∧ go ∉ ownB a ∧ bn ∉ ownB a ∧ bn ≠ go
section
variable {bl bo bn go gl n cl : Nat} {qs : List PV} {ofs pre : List Int} {D : List Nat} {X Y : World}
theorem TkI.stab (bl bo bn go gl n cl : Nat) (qs : List PV) (ofs : List Int) : Stab (TkI bl bo bn go gl n cl qs ofs) := by
  refine ⟨?_, ?_⟩
  · rintro s D X Y ⟨a, rfl, h1, h2, h3, h4, h5, h6, h7⟩ hk hz
    exact ⟨a, rfl, (hk _ (by simp)).trans h1, (hk _ (by simp)).trans h2, (hk _ (by simp)).trans h3, h4.keep (fun b hb => hk b (by simp [ownB] at hb; simp [hb])), h5.keep (fun b hb => hk b (by simp [ownB] at hb; simp [hb])), h6.keep (fun b hb => hk b (by simp [hb])), h7⟩
  · rintro s D X ⟨a, rfl, h1, h2, h3, h4, h5, h6, h7⟩ b hb
    simp only [List.mem_append, List.mem_cons, List.not_mem_nil, or_false] at hb
    rcases hb with (rfl | rfl | rfl | rfl | rfl) | hb
    · exact heap_lt h1
    · exact heap_lt h2
    · exact heap_lt h3
    · exact h5.lt _ (by simp [ownB])
    · exact h4.lt _ (by simp [ownB])
    · exact h6.lt b hb
theorem TkI.app {a a' : Value} {c : Nat} {o : Obj} {w7 : World} (hc : c < n) (hD : D = [bl, bo, bn, go, gl] ++ ownB a)
    (h1 : Y.heap[bl]? = some (.cells #[.slice (some ⟨gl, 0, none⟩) (qs.length + 1) cl] 36 (0, 0))) (h2 : Y.heap[bo]? = some (.cells #[.slice (some ⟨go, 0, none⟩) n n] 23 (0, 0))) (h3 : Y.heap[bn]? = some (.cells #[.int .i64 ((qs.length + 1 : Nat) : Int)] 3 (0, 0)))
    (h4 : Row Y 65 2 (.slice (some ⟨gl, 0, none⟩) (qs.length + 1) cl) (qs.length + 1) (pvCells (qs ++ [⟨a, .slice none 0 0, pre, []⟩])))
    (h5 : Row Y 3 1 (.slice (some ⟨go, 0, none⟩) n n) n (ivals (setAll ofs ((qs.length + 1 : Nat) : Int) pre))) (h6 : Row Y 3 1 a pre.length (ivals pre)) (h7 : go ∉ ownB a ∧ bn ∉ ownB a ∧ bn ≠ go)
    (r : Row w7 3 1 a' (pre.length + 1) (ivals pre ++ [.int .i64 (c : Int)])) (k : Kp (ownB a) ((Y.setCell ⟨go, c, none⟩ (.int .i64 ((qs.length + 1 : Nat) : Int))).drew.alloc o) w7) (ho : ownB a' = ownB a ∨ ∀ b ∈ ownB a', Y.heap.size ≤ b) :
    (w7.cell? ⟨bl, 0, none⟩ = some (.slice (some ⟨gl, 0, none⟩) (qs.length + 1) cl) ∧ w7.cell? ⟨bn, 0, none⟩ = some (.int .i64 ((qs.length + 1 : Nat) : Int)) ∧ w7.cell? ⟨gl, qs.length * 2, none⟩ = some a ∧ w7.frozen? ⟨gl, qs.length * 2, none⟩ = false) ∧
    ∃ D', TkI bl bo bn go gl n cl qs ofs (pre ++ [(c : Int)]) D' (w7.setCell ⟨gl, qs.length * 2, none⟩ a') ∧ Gr D Y D' ∧ Kp D Y (w7.setCell ⟨gl, qs.length * 2, none⟩ a') := by
  subst hD
  obtain ⟨cgo, ego⟩ := row_block h5 go (by simp [ownB])
  obtain ⟨cgl, egl⟩ := row_block h4 gl (by simp [ownB])
  have lgo := heap_lt ego
  have lgl := heap_lt egl
  have hgg : go ≠ gl := fun e => by rw [e] at ego; exact ty_no2 ego egl (by decide)
  have nb : ∀ b ca t, Y.heap[b]? = some (.cells ca t (0, 0)) → t ≠ 3 → b ∉ ownB a ∧ b ≠ go := fun b ca t hb ht => ⟨fun hm => by
    obtain ⟨cu, h9⟩ := row_block h6 b hm
    exact ty_no2 hb h9 ht, fun e => by rw [e] at hb; exact ty_no2 hb ego ht⟩
  have key : ∀ b, b < Y.heap.size → b ∉ ownB a → b ≠ go → w7.heap[b]? = Y.heap[b]? := fun b hb h8 h9 => (k.block b (by simp [World.drew]; omega) h8).trans ((Below.heap_alloc _ _ _ (by simpa [World.drew] using hb)).trans (Below.heap_setCell _ _ _ b h9))
  have e1 := (key bl (heap_lt h1) (nb bl _ _ h1 (by decide)).1 (nb bl _ _ h1 (by decide)).2).trans h1
  have e2 := (key bo (heap_lt h2) (nb bo _ _ h2 (by decide)).1 (nb bo _ _ h2 (by decide)).2).trans h2
  have e3 := (key bn (heap_lt h3) h7.2.1 h7.2.2).trans h3
  have r4 : Row w7 65 2 (.slice (some ⟨gl, 0, none⟩) (qs.length + 1) cl) (qs.length + 1) (pvCells (qs ++ [⟨a, .slice none 0 0, pre, []⟩])) := h4.keep (fun b hb => by
    simp [ownB] at hb; subst hb
    exact key b lgl (nb b _ _ egl (by decide)).1 (nb b _ _ egl (by decide)).2)
  have r5 : Row w7 3 1 (.slice (some ⟨go, 0, none⟩) n n) n (ivals (setAll ofs ((qs.length + 1 : Nat) : Int) (pre ++ [(c : Int)]))) := by
    rw [setAll_snoc, Int.toNat_natCast, ← ivals_set]
    have := (h5.set c (.int .i64 ((qs.length + 1 : Nat) : Int))).drew.alloc o
    exact this.kp k (fun b hb => by simp [ownB] at hb; subst hb; exact h7.1)
  obtain ⟨c4, e4⟩ := row_block r4 gl (by simp [ownB])
  have hga' : gl ∉ ownB a' := fun hm => by
    obtain ⟨cu, h9⟩ := row_block r gl hm
    exact ty_no2 e4 h9 (by decide)
  have ne : ∀ b ca t, w7.heap[b]? = some (.cells ca t (0, 0)) → t ≠ 65 → b ≠ gl := fun b ca t hb ht e => by rw [e] at hb; exact ty_no2 hb e4 ht
  obtain ⟨c5, e5⟩ := row_block r5 go (by simp [ownB])
  have hlast : (pvCells (qs ++ [⟨a, .slice none 0 0, pre, []⟩]))[qs.length * 2]? = some a := by
    have := (pvCells_at (qs := qs ++ [⟨a, .slice none 0 0, pre, []⟩]) (i := qs.length) (by simp)).1
    simpa using this
  refine ⟨⟨by simp [World.cell?, e1], by simp [World.cell?, e3], (r4.cellAt _ (by omega)).trans hlast, r4.frozenAt _⟩, [bl, bo, bn, go, gl] ++ ownB a', ⟨a', rfl, ?_, ?_, ?_, ?_, ?_, ?_, ?_, ?_, h7.2.2⟩, ?_, ?_⟩
  · exact (Below.heap_setCell _ _ _ bl (ne bl _ _ e1 (by decide))).trans e1
  · exact (Below.heap_setCell _ _ _ bo (ne bo _ _ e2 (by decide))).trans e2
  · exact (Below.heap_setCell _ _ _ bn (ne bn _ _ e3 (by decide))).trans e3
  · have := r4.set (qs.length * 2) a'
    rw [pvCells_seta] at this
    have e : pvCells (qs ++ [⟨a', .slice none 0 0, pre ++ [(c : Int)], []⟩]) = pvCells (qs ++ [⟨a', .slice none 0 0, pre, []⟩]) := by rw [pvCells_snoc, pvCells_snoc]
    rw [e]; exact this
  · exact r5.keep (fun b hb => Below.heap_setCell _ _ _ b (by simp [ownB] at hb; subst hb; exact hgg))
  · rw [List.length_append, ivals_snoc]
    exact r.keep (fun b hb => Below.heap_setCell _ _ _ b (fun (e : b = gl) => hga' (e ▸ hb)))
  · intro hm
    rcases ho with e | e
    · rw [e] at hm; exact h7.1 hm
    · have := e _ hm; omega
  · intro hm
    rcases ho with e | e
    · rw [e] at hm; exact h7.2.1 hm
    · have := e _ hm; have := heap_lt h3; omega
  · intro b hb
    simp only [List.mem_append] at hb ⊢
    rcases hb with hb | hb
    · exact .inl (.inl hb)
    · rcases ho with e | e
      · rw [e] at hb; exact .inl (.inr hb)
      · exact .inr (e b hb)
  · refine (((((Kp.refl ([bl, bo, bn, go, gl] ++ ownB a) Y).setCell (p := ⟨go, c, none⟩) (.inl (by simp)) _).drew).alloc o).trans k (fun b hb => .inl (by simp [hb]))).setCell (.inl (by simp)) _
end
end Go.Proofs.YtkonfogebepccaaGreatDoor
namespace Go.Proofs.YtkonfogebepccaaGreatDoor
open Go.RowKit
set_option maxRecDepth 100000
set_option linter.unusedVariables false

/-- w1: the world behind 'look'; ofs, frs: the parts' numbers of cells and free ports; qs: the parts. -/
structure PtS (w1 X : World) (bl bw bo bf P go gf n f : Nat) (ofs frs : List Int) (v : Value) (qs : List PV) : Prop where
  bel : Below w1.heap.size w1 X
  xl : X.heap[bl]? = some (.cells #[v] 36 (0, 0))
  xw : X.heap[bw]? = some (.cells #[.pointer (some ⟨P, 0, none⟩)] 76 (0, 0))
  xo : X.heap[bo]? = some (.cells #[.slice (some ⟨go, 0, none⟩) n n] 23 (0, 0))
  xf : X.heap[bf]? = some (.cells #[.slice (some ⟨gf, 0, none⟩) f f] 23 (0, 0))
  lr : Row X 65 2 v qs.length (pvCells qs)
  og : Row X 3 1 (.slice (some ⟨go, 0, none⟩) n n) n (ivals ofs)
  fg : Row X 3 1 (.slice (some ⟨gf, 0, none⟩) f f) f (ivals frs)
  q1 : ∀ q ∈ qs, Row X 3 1 q.a q.xs.length (ivals q.xs) ∧ Row X 3 1 q.b q.ys.length (ivals q.ys)
  dj : (pvCells qs).Pairwise fun u u' => ∀ b ∈ ownB u, b ∉ ownB u'
  ng : ∀ u ∈ pvCells qs, go ∉ ownB u ∧ gf ∉ ownB u
  lo : (∀ b ∈ [bl, bw, bo, bf, go, gf] ++ ownB v, w1.heap.size ≤ b) ∧ ∀ u ∈ pvCells qs, ∀ b ∈ ownB u, w1.heap.size ≤ b
  ne : bo ≠ bf ∧ go ≠ gf
theorem pv_mem {qs : List PV} {u : Value} (h : u ∈ pvCells qs) : ∃ q ∈ qs, u = q.a ∨ u = q.b := by
  simp only [pvCells, List.mem_flatMap] at h
  obtain ⟨q, hq, hu⟩ := h
  simp at hu
  exact ⟨q, hq, hu⟩
theorem pv_a {qs : List PV} {q : PV} (h : q ∈ qs) : q.a ∈ pvCells qs ∧ q.b ∈ pvCells qs := by
  simp only [pvCells, List.mem_flatMap]
  exact ⟨⟨q, h, by simp⟩, ⟨q, h, by simp⟩⟩
section
variable {w1 X Y : World} {bl bw bo bf P go gf n f : Nat} {ofs frs : List Int} {v : Value} {qs : List PV}
theorem PtS.urow (h : PtS w1 X bl bw bo bf P go gf n f ofs frs v qs) {u : Value} (hu : u ∈ pvCells qs) : ∃ xs, Row X 3 1 u xs.length (ivals xs) := by
  obtain ⟨q, hq, rfl | rfl⟩ := pv_mem hu
  · exact ⟨_, (h.q1 q hq).1⟩
  · exact ⟨_, (h.q1 q hq).2⟩
theorem PtS.keep (h : PtS w1 X bl bw bo bf P go gf n f ofs frs v qs) (hk : ∀ b, w1.heap.size ≤ b → b < X.heap.size → Y.heap[b]? = X.heap[b]?) (hb : Below w1.heap.size w1 Y) : PtS w1 Y bl bw bo bf P go gf n f ofs frs v qs := by
  have hl := h.lo.1
  have k : ∀ b ∈ [bl, bw, bo, bf, go, gf] ++ ownB v, b < X.heap.size → Y.heap[b]? = X.heap[b]? := fun b hm hx => hk b (hl b hm) hx
  refine ⟨hb, (k bl (by simp) (heap_lt h.xl)).trans h.xl, (k bw (by simp) (heap_lt h.xw)).trans h.xw, (k bo (by simp) (heap_lt h.xo)).trans h.xo, (k bf (by simp) (heap_lt h.xf)).trans h.xf,
    h.lr.keep (fun b hm => k b (by simp [hm]) (h.lr.lt b hm)), h.og.keep (fun b hm => by simp [ownB] at hm; subst hm; exact k b (by simp) (h.og.lt b (by simp [ownB]))), h.fg.keep (fun b hm => by simp [ownB] at hm; subst hm; exact k b (by simp) (h.fg.lt b (by simp [ownB]))), fun q hq => ?_, h.dj, h.ng, h.lo, h.ne⟩
  obtain ⟨r1, r2⟩ := h.q1 q hq
  obtain ⟨m1, m2⟩ := pv_a hq
  exact ⟨r1.keep (fun b hm => hk b (h.lo.2 _ m1 b hm) (r1.lt b hm)), r2.keep (fun b hm => hk b (h.lo.2 _ m2 b hm) (r2.lt b hm))⟩
theorem PtS.below (h : PtS w1 X bl bw bo bf P go gf n f ofs frs v qs) (hb : Below X.heap.size X Y) : PtS w1 Y bl bw bo bf P go gf n f ofs frs v qs :=
  h.keep (fun b _ hx => hb.block b hx) (h.bel.trans (hb.mono h.bel.size))
theorem PtS.blc (h : PtS w1 X bl bw bo bf P go gf n f ofs frs v qs) : X.cell? ⟨bl, 0, none⟩ = some v ∧ X.frozen? ⟨bl, 0, none⟩ = false ∧ bl < X.heap.size := ⟨by simp [World.cell?, h.xl], by simp [World.frozen?, h.xl], heap_lt h.xl⟩
theorem PtS.bwc (h : PtS w1 X bl bw bo bf P go gf n f ofs frs v qs) : X.cell? ⟨bw, 0, none⟩ = some (.pointer (some ⟨P, 0, none⟩)) ∧ bw < X.heap.size := ⟨by simp [World.cell?, h.xw], heap_lt h.xw⟩
theorem PtS.boc (h : PtS w1 X bl bw bo bf P go gf n f ofs frs v qs) : X.cell? ⟨bo, 0, none⟩ = some (.slice (some ⟨go, 0, none⟩) n n) ∧ bo < X.heap.size := ⟨by simp [World.cell?, h.xo], heap_lt h.xo⟩
theorem PtS.bfc (h : PtS w1 X bl bw bo bf P go gf n f ofs frs v qs) : X.cell? ⟨bf, 0, none⟩ = some (.slice (some ⟨gf, 0, none⟩) f f) ∧ bf < X.heap.size := ⟨by simp [World.cell?, h.xf], heap_lt h.xf⟩
/-- A part more, with nothing in it. -/
theorem PtS.more (h : PtS w1 X bl bw bo bf P go gf n f ofs frs v qs) {o : Obj} {w5 : World} {v5 : Value} (r : Row w5 65 2 v5 (qs.length + 1) (pvCells qs ++ [.slice none 0 0, .slice none 0 0])) (k : Kp (ownB v) (X.alloc o) w5) (ho : ownB v5 = ownB v ∨ ∀ b ∈ ownB v5, X.heap.size ≤ b) :
    (w5.cell? ⟨bl, 0, none⟩ = some v ∧ w5.frozen? ⟨bl, 0, none⟩ = false) ∧ PtS w1 (w5.setCell ⟨bl, 0, none⟩ v5) bl bw bo bf P go gf n f ofs frs v5 (qs ++ [⟨.slice none 0 0, .slice none 0 0, [], []⟩]) := by
  have hlx := heap_lt h.xl
  have nv : ∀ (b : Nat) (ca : Array Value) (t : TypeId), X.heap[b]? = some (.cells ca t (0, 0)) → t ≠ 65 → b ∉ ownB v := fun b ca t hb ht hm => by
    obtain ⟨cu, h9⟩ := row_block h.lr b hm
    exact ty_no2 hb h9 ht
  have key : ∀ (b : Nat) (ca : Array Value) (t : TypeId), X.heap[b]? = some (.cells ca t (0, 0)) → t ≠ 65 → w5.heap[b]? = X.heap[b]? := fun b ca t hb ht => (k.block b (by simp; have := heap_lt hb; omega) (nv b ca t hb ht)).trans (Below.heap_alloc _ _ _ (heap_lt hb))
  have e1 := (key bl _ _ h.xl (by decide)).trans h.xl
  have n1 : ∀ (b : Nat) (ca : Array Value) (t : TypeId), X.heap[b]? = some (.cells ca t (0, 0)) → t ≠ 65 → t ≠ 36 → (w5.setCell ⟨bl, 0, none⟩ v5).heap[b]? = X.heap[b]? := fun b ca t hb ht ht2 => (Below.heap_setCell _ _ _ b (fun (e : b = bl) => by rw [e] at hb; exact ty_no2 hb h.xl ht2)).trans (key b ca t hb ht)
  have nr : ∀ {u : Value} {k : Nat} {xs : List Value}, Row X 3 1 u k xs → Row (w5.setCell ⟨bl, 0, none⟩ v5) 3 1 u k xs := fun {u k xs} hr => hr.keep (fun b hm => by
    obtain ⟨cu, h9⟩ := row_block hr b hm
    exact n1 b _ _ h9 (by decide) (by decide))
  have hkk : Kp (bl :: ownB v) X (w5.setCell ⟨bl, 0, none⟩ v5) := ((((Kp.refl (bl :: ownB v) X).alloc o)).trans k (fun b hb => .inl (by simp [hb]))).setCell (.inl (by simp)) _
  have hz := h.bel.size
  refine ⟨⟨by simp [World.cell?, e1], by simp [World.frozen?, e1]⟩, ⟨h.bel.trans (hkk.below hz (fun b hb => h.lo.1 b (by rcases List.mem_cons.1 hb with rfl | hb <;> simp [*]))), by simp [World.setCell, Array.getElem?_modify, e1], (n1 bw _ _ h.xw (by decide) (by decide)).trans h.xw, (n1 bo _ _ h.xo (by decide) (by decide)).trans h.xo, (n1 bf _ _ h.xf (by decide) (by decide)).trans h.xf, ?_, nr h.og, nr h.fg, fun q hq => ?_, ?_, fun u hu => ?_, ⟨fun b hb => ?_, fun u hu => ?_⟩, h.ne⟩⟩
  · rw [List.length_append, pvCells_snoc]
    refine r.keep (fun b hb => Below.heap_setCell _ _ _ b (fun (e : b = bl) => ?_))
    obtain ⟨cu, h9⟩ := row_block r b hb
    rw [e, e1] at h9; injection h9 with h9; injection h9 with _ ht; exact absurd ht (by decide)
  · rcases List.mem_append.1 hq with hq | hq
    · exact ⟨nr (h.q1 q hq).1, nr (h.q1 q hq).2⟩
    · simp at hq; subst hq
      exact ⟨Row.nil _ _ _, Row.nil _ _ _⟩
  · rw [pvCells_snoc]
    refine List.pairwise_append.2 ⟨h.dj, by simp [ownB], fun u _ u' hu' b hb hb' => ?_⟩
    simp at hu'; subst hu'; simp [ownB] at hb'
  · rw [pvCells_snoc] at hu
    rcases List.mem_append.1 hu with hu | hu
    · exact h.ng u hu
    · simp at hu; subst hu; simp [ownB]
  · rcases List.mem_append.1 hb with hb | hb
    · exact h.lo.1 b (by simp only [List.mem_append]; exact .inl hb)
    · rcases ho with e | e
      · rw [e] at hb; exact h.lo.1 b (by simp [hb])
      · have := e b hb; omega
  · rw [pvCells_snoc] at hu
    rcases List.mem_append.1 hu with hu | hu
    · exact h.lo.2 u hu
    · simp at hu; subst hu; simp [ownB]
end
end Go.Proofs.YtkonfogebepccaaGreatDoor
namespace Go.Proofs.YtkonfogebepccaaGreatDoor
open Go.RowKit
set_option maxRecDepth 100000
set_option linter.unusedVariables false

section
variable {w1 X Y : World} {bl bw bo bf P go gf n f : Nat} {ofs frs : List Int} {v : Value} {qs : List PV}
theorem PtS.walked {gl cl b3 bn : Nat} {wl : List Int} {D : List Nat} (h : PtS w1 X bl bw bo bf P go gf n f ofs frs (.slice (some ⟨gl, 0, none⟩) (qs.length + 1) cl) (qs ++ [⟨.slice none 0 0, .slice none 0 0, [], []⟩]))
    (t : TkI bl bo bn go gl n cl qs ofs wl D Y) (k : Kp ([b3] ++ [bl, bo, bn, go, gl]) X Y) (hG : Gr [bl, bo, bn, go, gl] X D) (h3 : w1.heap.size ≤ b3 ∧ w1.heap.size ≤ bn)
    (hf : ∀ b ∈ [b3, bn], b ∉ [bw, bf, gf] ∧ ∀ u ∈ pvCells qs, b ∉ ownB u) :
    ∃ a, PtS w1 Y bl bw bo bf P go gf n f (setAll ofs ((qs.length + 1 : Nat) : Int) wl) frs (.slice (some ⟨gl, 0, none⟩) (qs.length + 1) cl) (qs ++ [⟨a, .slice none 0 0, wl, []⟩]) ∧ Y.heap[bn]? = some (.cells #[.int .i64 ((qs.length + 1 : Nat) : Int)] 3 (0, 0)) ∧ (∀ b ∈ ownB a, X.heap.size ≤ b) := by
  obtain ⟨a, hD, t1, t2, t3, t4, t5, t6, t7, t8, t9⟩ := t
  obtain ⟨cgo, ego⟩ := row_block t5 go (by simp [ownB])
  obtain ⟨cgl, egl⟩ := row_block t4 gl (by simp [ownB])
  obtain ⟨xgo, fgo⟩ := row_block h.og go (by simp [ownB])
  obtain ⟨xgl, fgl⟩ := row_block h.lr gl (by simp [ownB])
  have hz := h.bel.size
  have ha : ∀ b ∈ ownB a, X.heap.size ≤ b := fun b hb => by
    rcases hG b (by rw [hD]; simp [hb]) with h1 | h1
    · obtain ⟨cu, hu⟩ := row_block t6 b hb
      simp only [List.mem_cons, List.not_mem_nil, or_false] at h1
      rcases h1 with rfl | rfl | rfl | rfl | rfl
      · exact (ty_no2 t1 hu (by decide)).elim
      · exact (ty_no2 t2 hu (by decide)).elim
      · exact absurd hb t8
      · exact absurd hb t7
      · exact (ty_no2 egl hu (by decide)).elim
    · exact h1
  have k1 : ∀ (b : Nat) (ca : Array Value) (ty : TypeId), X.heap[b]? = some (.cells ca ty (0, 0)) → b ≠ b3 → b ≠ bl → b ≠ bo → b ≠ bn → b ≠ go → b ≠ gl → Y.heap[b]? = X.heap[b]? := fun b ca ty hb a1 a2 a3 a4 a5 a6 => k.block b (heap_lt hb) (by simp; omega)
  have tn : ∀ (b b' : Nat) (ca ca' : Array Value) (ty ty' : TypeId), X.heap[b]? = some (.cells ca ty (0, 0)) → X.heap[b']? = some (.cells ca' ty' (0, 0)) → ty ≠ ty' → b ≠ b' := fun b b' ca ca' ty ty' hb hb' hne e => by subst e; exact ty_no2 hb hb' hne
  obtain ⟨m3, mu3⟩ := hf b3 (by simp)
  obtain ⟨mn, mun⟩ := hf bn (by simp)
  simp only [List.mem_cons, List.not_mem_nil, or_false, not_or] at m3 mn
  have ku : ∀ {u : Value} {m : Nat} {xs : List Value}, u ∈ pvCells qs → Row X 3 1 u m xs → Row Y 3 1 u m xs := fun {u m xs} hu hr => hr.keep (fun b hb => by
    obtain ⟨cu, hcu⟩ := row_block hr b hb
    have hng := (h.ng u (by rw [pvCells_snoc]; simp [hu])).1
    refine k1 b _ _ hcu (fun e => mu3 u hu (e ▸ hb)) (tn _ _ _ _ _ _ hcu h.xl (by decide)) (tn _ _ _ _ _ _ hcu h.xo (by decide)) (fun e => mun u hu (e ▸ hb)) (fun e => hng (e ▸ hb)) (tn _ _ _ _ _ _ hcu fgl (by decide)))
  obtain ⟨xgf, fgf⟩ := row_block h.fg gf (by simp [ownB])
  refine ⟨a, ⟨h.bel.trans (k.below hz (fun b hb => ?_)), t1, ?_, t2, ?_, ?_, t5, ?_, fun q hq => ?_, ?_, fun u hu => ?_, ⟨h.lo.1, fun u hu b hb => ?_⟩, h.ne⟩, t3, ha⟩
  · simp only [List.cons_append, List.nil_append, List.mem_cons, List.not_mem_nil, or_false] at hb
    rcases hb with rfl | rfl | rfl | rfl | rfl | rfl
    · exact h3.1
    · exact h.lo.1 _ (by simp)
    · exact h.lo.1 _ (by simp)
    · exact h3.2
    · exact h.lo.1 _ (by simp)
    · exact h.lo.1 _ (by simp [ownB])
  · exact (k1 bw _ _ h.xw (fun e => m3.1 e.symm) (tn _ _ _ _ _ _ h.xw h.xl (by decide)) (tn _ _ _ _ _ _ h.xw h.xo (by decide)) (fun e => mn.1 e.symm) (tn _ _ _ _ _ _ h.xw fgo (by decide)) (tn _ _ _ _ _ _ h.xw fgl (by decide))).trans h.xw
  · exact (k1 bf _ _ h.xf (fun e => m3.2.1 e.symm) (tn _ _ _ _ _ _ h.xf h.xl (by decide)) (Ne.symm h.ne.1) (fun e => mn.2.1 e.symm) (tn _ _ _ _ _ _ h.xf fgo (by decide)) (tn _ _ _ _ _ _ h.xf fgl (by decide))).trans h.xf
  · have e : (qs ++ [(⟨a, .slice none 0 0, wl, []⟩ : PV)]).length = qs.length + 1 := by simp
    rw [e]; exact t4
  · exact h.fg.keep (fun b hb => by
      simp [ownB] at hb; subst hb
      exact k1 b _ _ fgf (fun e => m3.2.2 e.symm) (tn _ _ _ _ _ _ fgf h.xl (by decide)) (tn _ _ _ _ _ _ fgf h.xo (by decide)) (fun e => mn.2.2 e.symm) (Ne.symm h.ne.2) (tn _ _ _ _ _ _ fgf fgl (by decide)))
  · rcases List.mem_append.1 hq with hq | hq
    · obtain ⟨r1, r2⟩ := h.q1 q (by simp [hq])
      exact ⟨ku (pv_a hq).1 r1, ku (pv_a hq).2 r2⟩
    · simp at hq; subst hq
      exact ⟨t6, Row.nil _ _ _⟩
  · have hdj := h.dj
    rw [pvCells_snoc] at hdj ⊢
    obtain ⟨d1, _, _⟩ := List.pairwise_append.1 hdj
    refine List.pairwise_append.2 ⟨d1, by simp [ownB], fun u hu u' hu' b hb hb' => ?_⟩
    simp at hu'
    rcases hu' with rfl | rfl
    · obtain ⟨xs, hr⟩ := h.urow (u := u) (by rw [pvCells_snoc]; simp [hu])
      have := hr.lt b hb; have := ha b hb'; omega
    · simp [ownB] at hb'
  · rw [pvCells_snoc] at hu
    rcases List.mem_append.1 hu with hu | hu
    · exact h.ng u (by rw [pvCells_snoc]; simp [hu])
    · simp at hu
      rcases hu with rfl | rfl
      · exact ⟨t7, fun hm => by have := ha _ hm; have := heap_lt fgf; omega⟩
      · simp [ownB]
  · rw [pvCells_snoc] at hu
    rcases List.mem_append.1 hu with hu | hu
    · exact h.lo.2 u (by rw [pvCells_snoc]; simp [hu]) b hb
    · simp at hu
      rcases hu with rfl | rfl
      · have := ha b hb; omega
      · simp [ownB] at hb
/-- The last part's cells in another order. -/
theorem PtS.sorted {a : Value} {xs xs' : List Int} (h : PtS w1 X bl bw bo bf P go gf n f ofs frs v (qs ++ [⟨a, .slice none 0 0, xs, []⟩])) (k : Kp (ownB a) X Y) (r : Row Y 3 1 a xs'.length (ivals xs')) :
    PtS w1 Y bl bw bo bf P go gf n f ofs frs v (qs ++ [⟨a, .slice none 0 0, xs', []⟩]) := by
  have hla : a ∈ pvCells (qs ++ [(⟨a, .slice none 0 0, xs, []⟩ : PV)]) := by rw [pvCells_snoc]; simp
  have ra := (h.q1 ⟨a, .slice none 0 0, xs, []⟩ (by simp)).1
  have tn : ∀ (b : Nat) (ca : Array Value) (ty : TypeId), X.heap[b]? = some (.cells ca ty (0, 0)) → ty ≠ 3 → Y.heap[b]? = X.heap[b]? := fun b ca ty hb hne => k.block b (heap_lt hb) (fun hm => by
    obtain ⟨cu, hu⟩ := row_block ra b hm
    exact ty_no2 hb hu hne)
  have e : pvCells (qs ++ [(⟨a, .slice none 0 0, xs', []⟩ : PV)]) = pvCells (qs ++ [⟨a, .slice none 0 0, xs, []⟩]) := by rw [pvCells_snoc, pvCells_snoc]
  have hng := h.ng a hla
  have hdj := h.dj
  rw [pvCells_snoc] at hdj
  obtain ⟨_, _, d3⟩ := List.pairwise_append.1 hdj
  refine ⟨h.bel.trans (k.below h.bel.size (fun b hb => h.lo.2 a hla b hb)), (tn bl _ _ h.xl (by decide)).trans h.xl, (tn bw _ _ h.xw (by decide)).trans h.xw, (tn bo _ _ h.xo (by decide)).trans h.xo, (tn bf _ _ h.xf (by decide)).trans h.xf, ?_, ?_, ?_, fun q hq => ?_, by rw [e]; exact h.dj, by rw [e]; exact h.ng, by rw [e]; exact h.lo, h.ne⟩
  · rw [e]
    have h1 := h.lr.keep (w' := Y) (fun b hb => by
      obtain ⟨cu, hu⟩ := row_block h.lr b hb
      exact tn b _ _ hu (by decide))
    simpa using h1
  · exact h.og.keep (fun b hb => by simp [ownB] at hb; subst hb; exact k.block b (h.og.lt b (by simp [ownB])) hng.1)
  · exact h.fg.keep (fun b hb => by simp [ownB] at hb; subst hb; exact k.block b (h.fg.lt b (by simp [ownB])) hng.2)
  · rcases List.mem_append.1 hq with hq | hq
    · obtain ⟨r1, r2⟩ := h.q1 q (by simp [hq])
      exact ⟨r1.keep (fun b hb => k.block b (r1.lt b hb) (fun hm => d3 q.a (pv_a hq).1 a (by simp) b hb hm)), r2.keep (fun b hb => k.block b (r2.lt b hb) (fun hm => d3 q.b (pv_a hq).2 a (by simp) b hb hm))⟩
    · simp at hq; subst hq
      exact ⟨r, Row.nil _ _ _⟩
/-- A free port more in the last part. -/
theorem PtS.freed {a b b' : Value} {gl cl i : Nat} {N x : Int} {xs ys : List Int} {o : Obj} {w7 : World} (h : PtS w1 X bl bw bo bf P go gf n f ofs frs (.slice (some ⟨gl, 0, none⟩) (qs.length + 1) cl) (qs ++ [⟨a, b, xs, ys⟩]))
    (r : Row w7 3 1 b' (ys.length + 1) (ivals ys ++ [.int .i64 x])) (k : Kp (ownB b) ((X.setCell ⟨gf, i, none⟩ (.int .i64 N)).drew.alloc o) w7) (ho : ownB b' = ownB b ∨ ∀ y ∈ ownB b', X.heap.size ≤ y) :
    (w7.cell? ⟨bl, 0, none⟩ = some (.slice (some ⟨gl, 0, none⟩) (qs.length + 1) cl) ∧ w7.cell? ⟨gl, qs.length * 2 + 1, none⟩ = some b ∧ w7.frozen? ⟨gl, qs.length * 2 + 1, none⟩ = false ∧ Kp (gf :: ownB b) X w7) ∧
    PtS w1 (w7.setCell ⟨gl, qs.length * 2 + 1, none⟩ b') bl bw bo bf P go gf n f ofs (frs.set i N) (.slice (some ⟨gl, 0, none⟩) (qs.length + 1) cl) (qs ++ [⟨a, b', xs, ys ++ [x]⟩]) ∧ Kp (gl :: gf :: ownB b) X (w7.setCell ⟨gl, qs.length * 2 + 1, none⟩ b') := by
  have hmem : ∀ u, u ∈ pvCells (qs ++ [(⟨a, b, xs, ys⟩ : PV)]) ↔ u ∈ pvCells qs ∨ u = a ∨ u = b := fun u => by rw [pvCells_snoc]; simp
  have hmem' : ∀ u, u ∈ pvCells (qs ++ [(⟨a, b', xs, ys ++ [x]⟩ : PV)]) ↔ u ∈ pvCells qs ∨ u = a ∨ u = b' := fun u => by rw [pvCells_snoc]; simp
  obtain ⟨ra, rb⟩ := h.q1 ⟨a, b, xs, ys⟩ (by simp)
  dsimp only at ra rb
  obtain ⟨xgf, fgf⟩ := row_block h.fg gf (by simp [ownB])
  obtain ⟨xgl, fgl⟩ := row_block h.lr gl (by simp [ownB])
  have lgf := heap_lt fgf
  have lgl := heap_lt fgl
  have hk0 : Kp (gf :: ownB b) X w7 := (((Kp.refl (gf :: ownB b) X).setCell (p := ⟨gf, i, none⟩) (.inl (by simp)) _).drew.alloc o).trans k (fun y hy => .inl (by simp [hy]))
  have tn : ∀ (y : Nat) (ca : Array Value) (ty : TypeId), X.heap[y]? = some (.cells ca ty (0, 0)) → ty ≠ 3 → w7.heap[y]? = X.heap[y]? := fun y ca ty hy hne => hk0.block y (heap_lt hy) (fun hm => by
    rcases List.mem_cons.1 hm with rfl | hm
    · exact ty_no2 hy fgf hne
    · obtain ⟨cu, hu⟩ := row_block rb y hm
      exact ty_no2 hy hu hne)
  have e4 := (tn gl _ _ fgl (by decide)).trans fgl
  have hlast : (pvCells (qs ++ [(⟨a, b, xs, ys⟩ : PV)]))[qs.length * 2 + 1]? = some b := by
    have := (pvCells_at (qs := qs ++ [⟨a, b, xs, ys⟩]) (i := qs.length) (by simp)).2
    simpa using this
  have r4 : Row w7 65 2 (.slice (some ⟨gl, 0, none⟩) (qs.length + 1) cl) (qs.length + 1) (pvCells (qs ++ [⟨a, b, xs, ys⟩])) := by
    have h1 := h.lr.keep (w' := w7) (fun y hy => by simp [ownB] at hy; subst hy; exact tn _ _ _ fgl (by decide))
    simpa using h1
  have hkA : Kp (gl :: gf :: ownB b) X (w7.setCell ⟨gl, qs.length * 2 + 1, none⟩ b') := (hk0.mono (by intro y hy; simp at hy ⊢; right; exact hy)).setCell (.inl (by simp)) _
  have hng := h.ng
  have hgl' : ∀ y ∈ ownB b', y ≠ gl := fun y hy e => by
    obtain ⟨cu, hu⟩ := row_block r y hy
    rw [e] at hu; exact ty_no2 e4 hu (by decide)
  have fin : ∀ y, y < X.heap.size → y ∉ gl :: gf :: ownB b → (w7.setCell ⟨gl, qs.length * 2 + 1, none⟩ b').heap[y]? = X.heap[y]? := fun y hy hn => hkA.block y hy hn
  have tf : ∀ (y : Nat) (ca : Array Value) (ty : TypeId), X.heap[y]? = some (.cells ca ty (0, 0)) → ty ≠ 3 → ty ≠ 65 → (w7.setCell ⟨gl, qs.length * 2 + 1, none⟩ b').heap[y]? = X.heap[y]? := fun y ca ty hy h1 h2 => (Below.heap_setCell _ _ _ y (fun (e : y = gl) => by rw [e] at hy; exact ty_no2 hy fgl h2)).trans (tn y ca ty hy h1)
  have hdj := h.dj
  rw [pvCells_snoc] at hdj
  obtain ⟨d1, d2, d3⟩ := List.pairwise_append.1 hdj
  simp only [List.pairwise_cons, List.mem_singleton, forall_eq, List.not_mem_nil, false_implies, implies_true, List.Pairwise.nil, and_true] at d2
  have ku : ∀ {u : Value} {m : Nat} {zs : List Value}, (u ∈ pvCells qs ∨ u = a) → Row X 3 1 u m zs → Row (w7.setCell ⟨gl, qs.length * 2 + 1, none⟩ b') 3 1 u m zs := fun {u m zs} hu hr => hr.keep (fun y hy => by
    obtain ⟨cu, hcu⟩ := row_block hr y hy
    refine fin y (heap_lt hcu) (fun hm => ?_)
    simp only [List.mem_cons] at hm
    rcases hm with rfl | rfl | hm
    · exact ty_no2 hcu fgl (by decide)
    · exact (hng u ((hmem u).2 (by rcases hu with h | h; exact .inl h; exact .inr (.inl h)))).2 hy
    · rcases hu with hu | rfl
      · exact d3 u hu b (by simp) y hy hm
      · exact d2 y hy hm)
  have hb' : ∀ y ∈ ownB b', y ∈ ownB b ∨ X.heap.size ≤ y := fun y hy => by
    rcases ho with e | e
    · rw [e] at hy; exact .inl hy
    · exact .inr (e y hy)
  have hz := h.bel.size
  have e1 := (tn bl _ _ h.xl (by decide)).trans h.xl
  refine ⟨⟨by simp [World.cell?, e1], (r4.cellAt _ (by omega)).trans hlast, r4.frozenAt _, hk0⟩, ⟨h.bel.trans (hkA.below hz (fun y hy => ?_)), (tf bl _ _ h.xl (by decide) (by decide)).trans h.xl, (tf bw _ _ h.xw (by decide) (by decide)).trans h.xw, (tf bo _ _ h.xo (by decide) (by decide)).trans h.xo, (tf bf _ _ h.xf (by decide) (by decide)).trans h.xf, ?_, ?_, ?_, fun q hq => ?_, ?_, fun u hu => ?_, ⟨h.lo.1, fun u hu y hy => ?_⟩, h.ne⟩, hkA⟩
  · simp only [List.mem_cons] at hy
    rcases hy with rfl | rfl | hy
    · exact h.lo.1 _ (by simp [ownB])
    · exact h.lo.1 _ (by simp)
    · exact h.lo.2 b ((hmem b).2 (by simp)) y hy
  · have h1 := r4.set (qs.length * 2 + 1) b'
    rw [pvCells_setb] at h1
    have e : (qs ++ [(⟨a, b', xs, ys ++ [x]⟩ : PV)]).length = qs.length + 1 := by simp
    have e2 : pvCells (qs ++ [(⟨a, b', xs, ys ++ [x]⟩ : PV)]) = pvCells (qs ++ [⟨a, b', xs, ys⟩]) := by rw [pvCells_snoc, pvCells_snoc]
    rw [e, e2]; exact h1
  · exact h.og.keep (fun y hy => by
      simp [ownB] at hy; subst hy
      obtain ⟨xgo, fgo⟩ := row_block h.og y (by simp [ownB])
      refine fin y (heap_lt fgo) (fun hm => ?_)
      simp only [List.mem_cons] at hm
      rcases hm with h1 | h1 | h1
      · rw [h1] at fgo; exact ty_no2 fgo fgl (by decide)
      · exact h.ne.2 h1
      · exact (hng b ((hmem b).2 (by simp))).1 h1)
  · rw [← ivals_set]
    have h1 := (h.fg.set i (.int .i64 N)).drew.alloc o
    have h2 := h1.kp k (fun y hy => by simp [ownB] at hy; subst hy; exact (hng b ((hmem b).2 (by simp))).2)
    exact h2.keep (fun y hy => Below.heap_setCell _ _ _ y (fun (e : y = gl) => by simp [ownB] at hy; rw [hy] at e; rw [e] at fgf; exact ty_no2 fgf fgl (by decide)))
  · rcases List.mem_append.1 hq with hq | hq
    · obtain ⟨r1, r2⟩ := h.q1 q (by simp [hq])
      exact ⟨ku (.inl (pv_a hq).1) r1, ku (.inl (pv_a hq).2) r2⟩
    · simp at hq; subst hq
      refine ⟨ku (.inr rfl) ra, ?_⟩
      dsimp only
      rw [List.length_append, ivals_snoc]
      exact r.keep (fun y hy => Below.heap_setCell _ _ _ y (hgl' y hy))
  · rw [pvCells_snoc]
    refine List.pairwise_append.2 ⟨d1, ?_, fun u hu u' hu' y hy hy' => ?_⟩
    · simp only [List.pairwise_cons, List.mem_singleton, forall_eq, List.not_mem_nil, false_implies, implies_true, List.Pairwise.nil, and_true]
      intro y hy hy'
      rcases hb' y hy' with h1 | h1
      · exact d2 y hy h1
      · have := ra.lt y hy; omega
    · simp at hu'
      rcases hu' with rfl | rfl
      · exact d3 u hu u' (by simp) y hy hy'
      · rcases hb' y hy' with h1 | h1
        · exact d3 u hu b (by simp) y hy h1
        · obtain ⟨zs, hr⟩ := h.urow (u := u) ((hmem u).2 (.inl hu))
          have := hr.lt y hy; omega
  · rcases (hmem' u).1 hu with h1 | rfl | rfl
    · exact hng u ((hmem u).2 (.inl h1))
    · exact hng u ((hmem u).2 (by simp))
    · refine ⟨fun hm => ?_, fun hm => ?_⟩
      · rcases hb' _ hm with h1 | h1
        · exact (hng b ((hmem b).2 (by simp))).1 h1
        · have := h.og.lt go (by simp [ownB]); omega
      · rcases hb' _ hm with h1 | h1
        · exact (hng b ((hmem b).2 (by simp))).2 h1
        · omega
  · rcases (hmem' u).1 hu with h1 | rfl | rfl
    · exact h.lo.2 u ((hmem u).2 (.inl h1)) y hy
    · exact h.lo.2 u ((hmem u).2 (by simp)) y hy
    · rcases hb' y hy with h1 | h1
      · exact h.lo.2 b ((hmem b).2 (by simp)) y h1
      · omega
end
end Go.Proofs.YtkonfogebepccaaGreatDoor
