/-
  What walk.Parts keeps between two calls of 'take'.
-/
import Derived.Test.YtogbanlfihabpaaPartsPlain
import Derived.Test.YtogbanlfihabpaaWalkFrom
/-
  The parts of a net in memory, as walk.Parts makes them.
-/
namespace Go.Proofs.Ytogbanlfihabpaa
open Go.RowKit
set_option maxRecDepth 100000
set_option linter.unusedVariables false

/-- A part's two slices and what they hold. -/
structure PV where
  a : Value
  b : Value
  xs : List Int
  ys : List Int
def pvCells (qs : List PV) : List Value := qs.flatMap fun q => [q.a, q.b]
theorem pvCells_len (qs : List PV) : (pvCells qs).length = qs.length * 2 := by
  induction qs with
  | nil => rfl
  | cons p r ih => simp only [pvCells, List.flatMap_cons] at *; simp at *; omega
theorem pvCells_snoc (qs : List PV) (q : PV) : pvCells (qs ++ [q]) = pvCells qs ++ [q.a, q.b] := by simp [pvCells]
theorem pvCells_at {qs : List PV} {i : Nat} (h : i < qs.length) : (pvCells qs)[i * 2]? = some qs[i].a ∧ (pvCells qs)[i * 2 + 1]? = some qs[i].b := by
  induction qs generalizing i with
  | nil => simp at h
  | cons p r ih =>
    cases i with
    | zero => simp [pvCells]
    | succ i =>
      have := ih (i := i) (by simpa using h)
      simpa [pvCells, Nat.add_mul] using this
theorem pvCells_seta (qs : List PV) (q : PV) (u : Value) : (pvCells (qs ++ [q])).set (qs.length * 2) u = pvCells (qs ++ [{ q with a := u }]) := by
  rw [pvCells_snoc, pvCells_snoc, ← pvCells_len, List.set_append_right _ _ (Nat.le_refl _), Nat.sub_self]; rfl
theorem pvCells_setb (qs : List PV) (q : PV) (u : Value) : (pvCells (qs ++ [q])).set (qs.length * 2 + 1) u = pvCells (qs ++ [{ q with b := u }]) := by
  rw [pvCells_snoc, pvCells_snoc, ← pvCells_len, List.set_append_right _ _ (by omega), show (pvCells qs).length + 1 - (pvCells qs).length = 1 by omega]; rfl
def setAll (o : List Int) (N : Int) (l : List Int) : List Int := l.foldl (fun o c => o.set c.toNat N) o
theorem setAll_len (o : List Int) (N : Int) (l : List Int) : (setAll o N l).length = o.length := by
  unfold setAll
  induction l generalizing o with
  | nil => rfl
  | cons c r ih => simp only [List.foldl_cons]; rw [ih]; simp
theorem setAll_snoc (o : List Int) (N : Int) (l : List Int) (c : Int) : setAll o N (l ++ [c]) = (setAll o N l).set c.toNat N := by simp [setAll, List.foldl_append]
theorem setAll_at {o : List Int} {N : Int} {l : List Int} (hl : ∀ x ∈ l, 0 ≤ x) {c : Nat} (hc : c < o.length) : (setAll o N l).getD c 0 = if (c : Int) ∈ l then N else o.getD c 0 := by
  unfold setAll
  induction l generalizing o with
  | nil => simp
  | cons x r ih =>
    simp only [List.foldl_cons]
    rw [ih (fun y hy => hl y (by simp [hy])) (by simpa using hc)]
    have hx := hl x (by simp)
    by_cases h1 : (c : Int) ∈ r
    · rw [if_pos h1, if_pos (by simp [h1])]
    · rw [if_neg h1]
      by_cases h2 : (c : Int) = x
      · subst h2
        rw [if_pos (by simp), Int.toNat_natCast]
        simp [List.getD_eq_getElem?_getD, hc]
      · rw [if_neg (by simp [h1, h2])]
        have h3 : x.toNat ≠ c := by omega
        simp [List.getD_eq_getElem?_getD, h3]

/-- What the body of the first loop of 'take' lives in: the list's box and row, the numbers' box and row, the counter; a: the cells so far. -/
def TkI (bl bo bn go gl n cl : Nat) (qs : List PV) (ofs : List Int) (pre : List Int) (D : List Nat) (Y : World) : Prop := ∃ a, D = [bl, bo, bn, go, gl] ++ ownB a ∧
  Y.heap[bl]? = some (.cells #[.slice (some ⟨gl, 0, none⟩) (qs.length + 1) cl] 32 (0, 0)) ∧ Y.heap[bo]? = some (.cells #[.slice (some ⟨go, 0, none⟩) n n] 23 (0, 0)) ∧ Y.heap[bn]? = some (.cells #[.int .i64 ((qs.length + 1 : Nat) : Int)] 3 (0, 0)) ∧
  Row Y 38 2 (.slice (some ⟨gl, 0, none⟩) (qs.length + 1) cl) (qs.length + 1) (pvCells (qs ++ [⟨a, .slice none 0 0, pre, []⟩])) ∧
  Row Y 3 1 (.slice (some ⟨go, 0, none⟩) n n) n (ivals (setAll ofs ((qs.length + 1 : Nat) : Int) pre)) ∧ Row Y 3 1 a pre.length (ivals pre) ∧ go ∉ ownB a ∧ bn ∉ ownB a ∧ bn ≠ go
section
variable {bl bo bn go gl n cl : Nat} {qs : List PV} {ofs pre : List Int} {D : List Nat} {X Y : World}
theorem TkI.stab (bl bo bn go gl n cl : Nat) (qs : List PV) (ofs : List Int) : Stab (TkI bl bo bn go gl n cl qs ofs) := by
  refine ⟨?_, ?_⟩
  · rintro s D X Y ⟨a, rfl, h1, h2, h3, h4, h5, h6, h7⟩ hk hz
    exact ⟨a, rfl, (hk _ (by simp)).trans h1, (hk _ (by simp)).trans h2, (hk _ (by simp)).trans h3, h4.keep (fun b hb => hk b (by simp [ownB] at hb; simp [hb])), h5.keep (fun b hb => hk b (by simp [ownB] at hb; simp [hb])), h6.keep (fun b hb => hk b (by simp [hb])), h7⟩
  · rintro s D X ⟨a, rfl, h1, h2, h3, h4, h5, h6, h7⟩ b hb
    simp only [List.mem_append, List.mem_cons, List.not_mem_nil, or_false] at hb
    rcases hb with (rfl | rfl | rfl | rfl | rfl) | hb
    · exact heap_lt h1
    · exact heap_lt h2
    · exact heap_lt h3
    · exact h5.lt _ (by simp [ownB])
    · exact h4.lt _ (by simp [ownB])
    · exact h6.lt b hb
theorem TkI.app {a a' : Value} {c : Nat} {o : Obj} {w7 : World} (hc : c < n) (hD : D = [bl, bo, bn, go, gl] ++ ownB a)
    (h1 : Y.heap[bl]? = some (.cells #[.slice (some ⟨gl, 0, none⟩) (qs.length + 1) cl] 32 (0, 0))) (h2 : Y.heap[bo]? = some (.cells #[.slice (some ⟨go, 0, none⟩) n n] 23 (0, 0))) (h3 : Y.heap[bn]? = some (.cells #[.int .i64 ((qs.length + 1 : Nat) : Int)] 3 (0, 0)))
    (h4 : Row Y 38 2 (.slice (some ⟨gl, 0, none⟩) (qs.length + 1) cl) (qs.length + 1) (pvCells (qs ++ [⟨a, .slice none 0 0, pre, []⟩])))
    (h5 : Row Y 3 1 (.slice (some ⟨go, 0, none⟩) n n) n (ivals (setAll ofs ((qs.length + 1 : Nat) : Int) pre))) (h6 : Row Y 3 1 a pre.length (ivals pre)) (h7 : go ∉ ownB a ∧ bn ∉ ownB a ∧ bn ≠ go)
    (r : Row w7 3 1 a' (pre.length + 1) (ivals pre ++ [.int .i64 (c : Int)])) (k : Kp (ownB a) ((Y.setCell ⟨go, c, none⟩ (.int .i64 ((qs.length + 1 : Nat) : Int))).drew.alloc o) w7) (ho : ownB a' = ownB a ∨ ∀ b ∈ ownB a', Y.heap.size ≤ b) :
    (w7.cell? ⟨bl, 0, none⟩ = some (.slice (some ⟨gl, 0, none⟩) (qs.length + 1) cl) ∧ w7.cell? ⟨bn, 0, none⟩ = some (.int .i64 ((qs.length + 1 : Nat) : Int)) ∧ w7.cell? ⟨gl, qs.length * 2, none⟩ = some a ∧ w7.frozen? ⟨gl, qs.length * 2, none⟩ = false) ∧
    ∃ D', TkI bl bo bn go gl n cl qs ofs (pre ++ [(c : Int)]) D' (w7.setCell ⟨gl, qs.length * 2, none⟩ a') ∧ Gr D Y D' ∧ Kp D Y (w7.setCell ⟨gl, qs.length * 2, none⟩ a') := by
  subst hD
  obtain ⟨cgo, ego⟩ := row_block h5 go (by simp [ownB])
  obtain ⟨cgl, egl⟩ := row_block h4 gl (by simp [ownB])
  have lgo := heap_lt ego
  have lgl := heap_lt egl
  have hgg : go ≠ gl := fun e => by rw [e] at ego; exact ty_no2 ego egl (by decide)
  have nb : ∀ b ca t, Y.heap[b]? = some (.cells ca t (0, 0)) → t ≠ 3 → b ∉ ownB a ∧ b ≠ go := fun b ca t hb ht => ⟨fun hm => by
    obtain ⟨cu, h9⟩ := row_block h6 b hm
    exact ty_no2 hb h9 ht, fun e => by rw [e] at hb; exact ty_no2 hb ego ht⟩
  have key : ∀ b, b < Y.heap.size → b ∉ ownB a → b ≠ go → w7.heap[b]? = Y.heap[b]? := fun b hb h8 h9 => (k.block b (by simp [World.drew]; omega) h8).trans ((Below.heap_alloc _ _ _ (by simpa [World.drew] using hb)).trans (Below.heap_setCell _ _ _ b h9))
  have e1 := (key bl (heap_lt h1) (nb bl _ _ h1 (by decide)).1 (nb bl _ _ h1 (by decide)).2).trans h1
  have e2 := (key bo (heap_lt h2) (nb bo _ _ h2 (by decide)).1 (nb bo _ _ h2 (by decide)).2).trans h2
  have e3 := (key bn (heap_lt h3) h7.2.1 h7.2.2).trans h3
  have r4 : Row w7 38 2 (.slice (some ⟨gl, 0, none⟩) (qs.length + 1) cl) (qs.length + 1) (pvCells (qs ++ [⟨a, .slice none 0 0, pre, []⟩])) := h4.keep (fun b hb => by
    simp [ownB] at hb; subst hb
    exact key b lgl (nb b _ _ egl (by decide)).1 (nb b _ _ egl (by decide)).2)
  have r5 : Row w7 3 1 (.slice (some ⟨go, 0, none⟩) n n) n (ivals (setAll ofs ((qs.length + 1 : Nat) : Int) (pre ++ [(c : Int)]))) := by
    rw [setAll_snoc, Int.toNat_natCast, ← ivals_set]
    have := (h5.set c (.int .i64 ((qs.length + 1 : Nat) : Int))).drew.alloc o
    exact this.kp k (fun b hb => by simp [ownB] at hb; subst hb; exact h7.1)
  obtain ⟨c4, e4⟩ := row_block r4 gl (by simp [ownB])
  have hga' : gl ∉ ownB a' := fun hm => by
    obtain ⟨cu, h9⟩ := row_block r gl hm
    exact ty_no2 e4 h9 (by decide)
  have ne : ∀ b ca t, w7.heap[b]? = some (.cells ca t (0, 0)) → t ≠ 38 → b ≠ gl := fun b ca t hb ht e => by rw [e] at hb; exact ty_no2 hb e4 ht
  obtain ⟨c5, e5⟩ := row_block r5 go (by simp [ownB])
  have hlast : (pvCells (qs ++ [⟨a, .slice none 0 0, pre, []⟩]))[qs.length * 2]? = some a := by
    have := (pvCells_at (qs := qs ++ [⟨a, .slice none 0 0, pre, []⟩]) (i := qs.length) (by simp)).1
    simpa using this
  refine ⟨⟨by simp [World.cell?, e1], by simp [World.cell?, e3], (r4.cellAt _ (by omega)).trans hlast, r4.frozenAt _⟩, [bl, bo, bn, go, gl] ++ ownB a', ⟨a', rfl, ?_, ?_, ?_, ?_, ?_, ?_, ?_, ?_, h7.2.2⟩, ?_, ?_⟩
  · exact (Below.heap_setCell _ _ _ bl (ne bl _ _ e1 (by decide))).trans e1
  · exact (Below.heap_setCell _ _ _ bo (ne bo _ _ e2 (by decide))).trans e2
  · exact (Below.heap_setCell _ _ _ bn (ne bn _ _ e3 (by decide))).trans e3
  · have := r4.set (qs.length * 2) a'
    rw [pvCells_seta] at this
    have e : pvCells (qs ++ [⟨a', .slice none 0 0, pre ++ [(c : Int)], []⟩]) = pvCells (qs ++ [⟨a', .slice none 0 0, pre, []⟩]) := by rw [pvCells_snoc, pvCells_snoc]
    rw [e]; exact this
  · exact r5.keep (fun b hb => Below.heap_setCell _ _ _ b (by simp [ownB] at hb; subst hb; exact hgg))
  · rw [List.length_append, ivals_snoc]
    exact r.keep (fun b hb => Below.heap_setCell _ _ _ b (fun (e : b = gl) => hga' (e ▸ hb)))
  · intro hm
    rcases ho with e | e
    · rw [e] at hm; exact h7.1 hm
    · have := e _ hm; omega
  · intro hm
    rcases ho with e | e
    · rw [e] at hm; exact h7.2.1 hm
    · have := e _ hm; have := heap_lt h3; omega
  · intro b hb
    simp only [List.mem_append] at hb ⊢
    rcases hb with hb | hb
    · exact .inl (.inl hb)
    · rcases ho with e | e
      · rw [e] at hb; exact .inl (.inr hb)
      · exact .inr (e b hb)
  · refine (((((Kp.refl ([bl, bo, bn, go, gl] ++ ownB a) Y).setCell (p := ⟨go, c, none⟩) (.inl (by simp)) _).drew).alloc o).trans k (fun b hb => .inl (by simp [hb]))).setCell (.inl (by simp)) _
end
end Go.Proofs.Ytogbanlfihabpaa
namespace Go.Proofs.Ytogbanlfihabpaa
open Go.RowKit
set_option maxRecDepth 100000
set_option linter.unusedVariables false

/-- w1: the world behind 'look'; ofs, frs: the parts' numbers of cells and free ports; qs: the parts. -/
structure PtS (w1 X : World) (bl bw bo bf P go gf n f : Nat) (ofs frs : List Int) (v : Value) (qs : List PV) : Prop where
  bel : Below w1.heap.size w1 X
  xl : X.heap[bl]? = some (.cells #[v] 32 (0, 0))
  xw : X.heap[bw]? = some (.cells #[.pointer (some ⟨P, 0, none⟩)] 58 (0, 0))
  xo : X.heap[bo]? = some (.cells #[.slice (some ⟨go, 0, none⟩) n n] 23 (0, 0))
  xf : X.heap[bf]? = some (.cells #[.slice (some ⟨gf, 0, none⟩) f f] 23 (0, 0))
  lr : Row X 38 2 v qs.length (pvCells qs)
  og : Row X 3 1 (.slice (some ⟨go, 0, none⟩) n n) n (ivals ofs)
  fg : Row X 3 1 (.slice (some ⟨gf, 0, none⟩) f f) f (ivals frs)
  q1 : ∀ q ∈ qs, Row X 3 1 q.a q.xs.length (ivals q.xs) ∧ Row X 3 1 q.b q.ys.length (ivals q.ys)
  dj : (pvCells qs).Pairwise fun u u' => ∀ b ∈ ownB u, b ∉ ownB u'
  ng : ∀ u ∈ pvCells qs, go ∉ ownB u ∧ gf ∉ ownB u
  lo : (∀ b ∈ [bl, bw, bo, bf, go, gf] ++ ownB v, w1.heap.size ≤ b) ∧ ∀ u ∈ pvCells qs, ∀ b ∈ ownB u, w1.heap.size ≤ b
  ne : bo ≠ bf ∧ go ≠ gf
theorem pv_mem {qs : List PV} {u : Value} (h : u ∈ pvCells qs) : ∃ q ∈ qs, u = q.a ∨ u = q.b := by
  simp only [pvCells, List.mem_flatMap] at h
  obtain ⟨q, hq, hu⟩ := h
  simp at hu
  exact ⟨q, hq, hu⟩
theorem pv_a {qs : List PV} {q : PV} (h : q ∈ qs) : q.a ∈ pvCells qs ∧ q.b ∈ pvCells qs := by
  simp only [pvCells, List.mem_flatMap]
  exact ⟨⟨q, h, by simp⟩, ⟨q, h, by simp⟩⟩
section
variable {w1 X Y : World} {bl bw bo bf P go gf n f : Nat} {ofs frs : List Int} {v : Value} {qs : List PV}
theorem PtS.urow (h : PtS w1 X bl bw bo bf P go gf n f ofs frs v qs) {u : Value} (hu : u ∈ pvCells qs) : ∃ xs, Row X 3 1 u xs.length (ivals xs) := by
  obtain ⟨q, hq, rfl | rfl⟩ := pv_mem hu
  · exact ⟨_, (h.q1 q hq).1⟩
  · exact ⟨_, (h.q1 q hq).2⟩
theorem PtS.keep (h : PtS w1 X bl bw bo bf P go gf n f ofs frs v qs) (hk : ∀ b, w1.heap.size ≤ b → b < X.heap.size → Y.heap[b]? = X.heap[b]?) (hb : Below w1.heap.size w1 Y) : PtS w1 Y bl bw bo bf P go gf n f ofs frs v qs := by
  have hl := h.lo.1
  have k : ∀ b ∈ [bl, bw, bo, bf, go, gf] ++ ownB v, b < X.heap.size → Y.heap[b]? = X.heap[b]? := fun b hm hx => hk b (hl b hm) hx
  refine ⟨hb, (k bl (by simp) (heap_lt h.xl)).trans h.xl, (k bw (by simp) (heap_lt h.xw)).trans h.xw, (k bo (by simp) (heap_lt h.xo)).trans h.xo, (k bf (by simp) (heap_lt h.xf)).trans h.xf,
    h.lr.keep (fun b hm => k b (by simp [hm]) (h.lr.lt b hm)), h.og.keep (fun b hm => by simp [ownB] at hm; subst hm; exact k b (by simp) (h.og.lt b (by simp [ownB]))), h.fg.keep (fun b hm => by simp [ownB] at hm; subst hm; exact k b (by simp) (h.fg.lt b (by simp [ownB]))), fun q hq => ?_, h.dj, h.ng, h.lo, h.ne⟩
  obtain ⟨r1, r2⟩ := h.q1 q hq
  obtain ⟨m1, m2⟩ := pv_a hq
  exact ⟨r1.keep (fun b hm => hk b (h.lo.2 _ m1 b hm) (r1.lt b hm)), r2.keep (fun b hm => hk b (h.lo.2 _ m2 b hm) (r2.lt b hm))⟩
theorem PtS.below (h : PtS w1 X bl bw bo bf P go gf n f ofs frs v qs) (hb : Below X.heap.size X Y) : PtS w1 Y bl bw bo bf P go gf n f ofs frs v qs :=
  h.keep (fun b _ hx => hb.block b hx) (h.bel.trans (hb.mono h.bel.size))
theorem PtS.blc (h : PtS w1 X bl bw bo bf P go gf n f ofs frs v qs) : X.cell? ⟨bl, 0, none⟩ = some v ∧ X.frozen? ⟨bl, 0, none⟩ = false ∧ bl < X.heap.size := ⟨by simp [World.cell?, h.xl], by simp [World.frozen?, h.xl], heap_lt h.xl⟩
theorem PtS.bwc (h : PtS w1 X bl bw bo bf P go gf n f ofs frs v qs) : X.cell? ⟨bw, 0, none⟩ = some (.pointer (some ⟨P, 0, none⟩)) ∧ bw < X.heap.size := ⟨by simp [World.cell?, h.xw], heap_lt h.xw⟩
theorem PtS.boc (h : PtS w1 X bl bw bo bf P go gf n f ofs frs v qs) : X.cell? ⟨bo, 0, none⟩ = some (.slice (some ⟨go, 0, none⟩) n n) ∧ bo < X.heap.size := ⟨by simp [World.cell?, h.xo], heap_lt h.xo⟩
theorem PtS.bfc (h : PtS w1 X bl bw bo bf P go gf n f ofs frs v qs) : X.cell? ⟨bf, 0, none⟩ = some (.slice (some ⟨gf, 0, none⟩) f f) ∧ bf < X.heap.size := ⟨by simp [World.cell?, h.xf], heap_lt h.xf⟩
/-- A part more, with nothing in it. -/
theorem PtS.more (h : PtS w1 X bl bw bo bf P go gf n f ofs frs v qs) {o : Obj} {w5 : World} {v5 : Value} (r : Row w5 38 2 v5 (qs.length + 1) (pvCells qs ++ [.slice none 0 0, .slice none 0 0])) (k : Kp (ownB v) (X.alloc o) w5) (ho : ownB v5 = ownB v ∨ ∀ b ∈ ownB v5, X.heap.size ≤ b) :
    (w5.cell? ⟨bl, 0, none⟩ = some v ∧ w5.frozen? ⟨bl, 0, none⟩ = false) ∧ PtS w1 (w5.setCell ⟨bl, 0, none⟩ v5) bl bw bo bf P go gf n f ofs frs v5 (qs ++ [⟨.slice none 0 0, .slice none 0 0, [], []⟩]) := by
  have hlx := heap_lt h.xl
  have nv : ∀ (b : Nat) (ca : Array Value) (t : TypeId), X.heap[b]? = some (.cells ca t (0, 0)) → t ≠ 38 → b ∉ ownB v := fun b ca t hb ht hm => by
    obtain ⟨cu, h9⟩ := row_block h.lr b hm
    exact ty_no2 hb h9 ht
  have key : ∀ (b : Nat) (ca : Array Value) (t : TypeId), X.heap[b]? = some (.cells ca t (0, 0)) → t ≠ 38 → w5.heap[b]? = X.heap[b]? := fun b ca t hb ht => (k.block b (by simp; have := heap_lt hb; omega) (nv b ca t hb ht)).trans (Below.heap_alloc _ _ _ (heap_lt hb))
  have e1 := (key bl _ _ h.xl (by decide)).trans h.xl
  have n1 : ∀ (b : Nat) (ca : Array Value) (t : TypeId), X.heap[b]? = some (.cells ca t (0, 0)) → t ≠ 38 → t ≠ 32 → (w5.setCell ⟨bl, 0, none⟩ v5).heap[b]? = X.heap[b]? := fun b ca t hb ht ht2 => (Below.heap_setCell _ _ _ b (fun (e : b = bl) => by rw [e] at hb; exact ty_no2 hb h.xl ht2)).trans (key b ca t hb ht)
  have nr : ∀ {u : Value} {k : Nat} {xs : List Value}, Row X 3 1 u k xs → Row (w5.setCell ⟨bl, 0, none⟩ v5) 3 1 u k xs := fun {u k xs} hr => hr.keep (fun b hm => by
    obtain ⟨cu, h9⟩ := row_block hr b hm
    exact n1 b _ _ h9 (by decide) (by decide))
  have hkk : Kp (bl :: ownB v) X (w5.setCell ⟨bl, 0, none⟩ v5) := ((((Kp.refl (bl :: ownB v) X).alloc o)).trans k (fun b hb => .inl (by simp [hb]))).setCell (.inl (by simp)) _
  have hz := h.bel.size
  refine ⟨⟨by simp [World.cell?, e1], by simp [World.frozen?, e1]⟩, ⟨h.bel.trans (hkk.below hz (fun b hb => h.lo.1 b (by rcases List.mem_cons.1 hb with rfl | hb <;> simp [*]))), by simp [World.setCell, Array.getElem?_modify, e1], (n1 bw _ _ h.xw (by decide) (by decide)).trans h.xw, (n1 bo _ _ h.xo (by decide) (by decide)).trans h.xo, (n1 bf _ _ h.xf (by decide) (by decide)).trans h.xf, ?_, nr h.og, nr h.fg, fun q hq => ?_, ?_, fun u hu => ?_, ⟨fun b hb => ?_, fun u hu => ?_⟩, h.ne⟩⟩
  · rw [List.length_append, pvCells_snoc]
    refine r.keep (fun b hb => Below.heap_setCell _ _ _ b (fun (e : b = bl) => ?_))
    obtain ⟨cu, h9⟩ := row_block r b hb
    rw [e, e1] at h9; injection h9 with h9; injection h9 with _ ht; exact absurd ht (by decide)
  · rcases List.mem_append.1 hq with hq | hq
    · exact ⟨nr (h.q1 q hq).1, nr (h.q1 q hq).2⟩
    · simp at hq; subst hq
      exact ⟨Row.nil _ _ _, Row.nil _ _ _⟩
  · rw [pvCells_snoc]
    refine List.pairwise_append.2 ⟨h.dj, by simp [ownB], fun u _ u' hu' b hb hb' => ?_⟩
    simp at hu'; subst hu'; simp [ownB] at hb'
  · rw [pvCells_snoc] at hu
    rcases List.mem_append.1 hu with hu | hu
    · exact h.ng u hu
    · simp at hu; subst hu; simp [ownB]
  · rcases List.mem_append.1 hb with hb | hb
    · exact h.lo.1 b (by simp only [List.mem_append]; exact .inl hb)
    · rcases ho with e | e
      · rw [e] at hb; exact h.lo.1 b (by simp [hb])
      · have := e b hb; omega
  · rw [pvCells_snoc] at hu
    rcases List.mem_append.1 hu with hu | hu
    · exact h.lo.2 u hu
    · simp at hu; subst hu; simp [ownB]
end
end Go.Proofs.Ytogbanlfihabpaa
