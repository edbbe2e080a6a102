/-
  walk.Parts: what 'take' does to what is kept: its cells found, sorted; a free port taken.
-/
import Derived.Test.YtogbanlfihabpaaPartsSt
namespace Go.Proofs.Ytogbanlfihabpaa
open Go.RowKit
set_option maxRecDepth 100000
set_option linter.unusedVariables false

section
variable {w1 X Y : World} {bl bw bo bf P go gf n f : Nat} {ofs frs : List Int} {v : Value} {qs : List PV}
theorem PtS.walked {gl cl b3 bn : Nat} {wl : List Int} {D : List Nat} (h : PtS w1 X bl bw bo bf P go gf n f ofs frs (.slice (some ⟨gl, 0, none⟩) (qs.length + 1) cl) (qs ++ [⟨.slice none 0 0, .slice none 0 0, [], []⟩]))
    (t : TkI bl bo bn go gl n cl qs ofs wl D Y) (k : Kp ([b3] ++ [bl, bo, bn, go, gl]) X Y) (hG : Gr [bl, bo, bn, go, gl] X D) (h3 : w1.heap.size ≤ b3 ∧ w1.heap.size ≤ bn)
    (hf : ∀ b ∈ [b3, bn], b ∉ [bw, bf, gf] ∧ ∀ u ∈ pvCells qs, b ∉ ownB u) :
    ∃ a, PtS w1 Y bl bw bo bf P go gf n f (setAll ofs ((qs.length + 1 : Nat) : Int) wl) frs (.slice (some ⟨gl, 0, none⟩) (qs.length + 1) cl) (qs ++ [⟨a, .slice none 0 0, wl, []⟩]) ∧ Y.heap[bn]? = some (.cells #[.int .i64 ((qs.length + 1 : Nat) : Int)] 3 (0, 0)) ∧ (∀ b ∈ ownB a, X.heap.size ≤ b) := by
  obtain ⟨a, hD, t1, t2, t3, t4, t5, t6, t7, t8, t9⟩ := t
  obtain ⟨cgo, ego⟩ := row_block t5 go (by simp [ownB])
  obtain ⟨cgl, egl⟩ := row_block t4 gl (by simp [ownB])
  obtain ⟨xgo, fgo⟩ := row_block h.og go (by simp [ownB])
  obtain ⟨xgl, fgl⟩ := row_block h.lr gl (by simp [ownB])
  have hz := h.bel.size
  have ha : ∀ b ∈ ownB a, X.heap.size ≤ b := fun b hb => by
    rcases hG b (by rw [hD]; simp [hb]) with h1 | h1
    · obtain ⟨cu, hu⟩ := row_block t6 b hb
      simp only [List.mem_cons, List.not_mem_nil, or_false] at h1
      rcases h1 with rfl | rfl | rfl | rfl | rfl
      · exact (ty_no2 t1 hu (by decide)).elim
      · exact (ty_no2 t2 hu (by decide)).elim
      · exact absurd hb t8
      · exact absurd hb t7
      · exact (ty_no2 egl hu (by decide)).elim
    · exact h1
  have k1 : ∀ (b : Nat) (ca : Array Value) (ty : TypeId), X.heap[b]? = some (.cells ca ty (0, 0)) → b ≠ b3 → b ≠ bl → b ≠ bo → b ≠ bn → b ≠ go → b ≠ gl → Y.heap[b]? = X.heap[b]? := fun b ca ty hb a1 a2 a3 a4 a5 a6 => k.block b (heap_lt hb) (by simp; omega)
  have tn : ∀ (b b' : Nat) (ca ca' : Array Value) (ty ty' : TypeId), X.heap[b]? = some (.cells ca ty (0, 0)) → X.heap[b']? = some (.cells ca' ty' (0, 0)) → ty ≠ ty' → b ≠ b' := fun b b' ca ca' ty ty' hb hb' hne e => by subst e; exact ty_no2 hb hb' hne
  obtain ⟨m3, mu3⟩ := hf b3 (by simp)
  obtain ⟨mn, mun⟩ := hf bn (by simp)
  simp only [List.mem_cons, List.not_mem_nil, or_false, not_or] at m3 mn
  have ku : ∀ {u : Value} {m : Nat} {xs : List Value}, u ∈ pvCells qs → Row X 3 1 u m xs → Row Y 3 1 u m xs := fun {u m xs} hu hr => hr.keep (fun b hb => by
    obtain ⟨cu, hcu⟩ := row_block hr b hb
    have hng := (h.ng u (by rw [pvCells_snoc]; simp [hu])).1
    refine k1 b _ _ hcu (fun e => mu3 u hu (e ▸ hb)) (tn _ _ _ _ _ _ hcu h.xl (by decide)) (tn _ _ _ _ _ _ hcu h.xo (by decide)) (fun e => mun u hu (e ▸ hb)) (fun e => hng (e ▸ hb)) (tn _ _ _ _ _ _ hcu fgl (by decide)))
  obtain ⟨xgf, fgf⟩ := row_block h.fg gf (by simp [ownB])
  refine ⟨a, ⟨h.bel.trans (k.below hz (fun b hb => ?_)), t1, ?_, t2, ?_, ?_, t5, ?_, fun q hq => ?_, ?_, fun u hu => ?_, ⟨h.lo.1, fun u hu b hb => ?_⟩, h.ne⟩, t3, ha⟩
  · simp only [List.cons_append, List.nil_append, List.mem_cons, List.not_mem_nil, or_false] at hb
    rcases hb with rfl | rfl | rfl | rfl | rfl | rfl
    · exact h3.1
    · exact h.lo.1 _ (by simp)
    · exact h.lo.1 _ (by simp)
    · exact h3.2
    · exact h.lo.1 _ (by simp)
    · exact h.lo.1 _ (by simp [ownB])
  · exact (k1 bw _ _ h.xw (fun e => m3.1 e.symm) (tn _ _ _ _ _ _ h.xw h.xl (by decide)) (tn _ _ _ _ _ _ h.xw h.xo (by decide)) (fun e => mn.1 e.symm) (tn _ _ _ _ _ _ h.xw fgo (by decide)) (tn _ _ _ _ _ _ h.xw fgl (by decide))).trans h.xw
  · exact (k1 bf _ _ h.xf (fun e => m3.2.1 e.symm) (tn _ _ _ _ _ _ h.xf h.xl (by decide)) (Ne.symm h.ne.1) (fun e => mn.2.1 e.symm) (tn _ _ _ _ _ _ h.xf fgo (by decide)) (tn _ _ _ _ _ _ h.xf fgl (by decide))).trans h.xf
  · have e : (qs ++ [(⟨a, .slice none 0 0, wl, []⟩ : PV)]).length = qs.length + 1 := by simp
    rw [e]; exact t4
  · exact h.fg.keep (fun b hb => by
      simp [ownB] at hb; subst hb
      exact k1 b _ _ fgf (fun e => m3.2.2 e.symm) (tn _ _ _ _ _ _ fgf h.xl (by decide)) (tn _ _ _ _ _ _ fgf h.xo (by decide)) (fun e => mn.2.2 e.symm) (Ne.symm h.ne.2) (tn _ _ _ _ _ _ fgf fgl (by decide)))
  · rcases List.mem_append.1 hq with hq | hq
    · obtain ⟨r1, r2⟩ := h.q1 q (by simp [hq])
      exact ⟨ku (pv_a hq).1 r1, ku (pv_a hq).2 r2⟩
    · simp at hq; subst hq
      exact ⟨t6, Row.nil _ _ _⟩
  · have hdj := h.dj
    rw [pvCells_snoc] at hdj ⊢
    obtain ⟨d1, _, _⟩ := List.pairwise_append.1 hdj
    refine List.pairwise_append.2 ⟨d1, by simp [ownB], fun u hu u' hu' b hb hb' => ?_⟩
    simp at hu'
    rcases hu' with rfl | rfl
    · obtain ⟨xs, hr⟩ := h.urow (u := u) (by rw [pvCells_snoc]; simp [hu])
      have := hr.lt b hb; have := ha b hb'; omega
    · simp [ownB] at hb'
  · rw [pvCells_snoc] at hu
    rcases List.mem_append.1 hu with hu | hu
    · exact h.ng u (by rw [pvCells_snoc]; simp [hu])
    · simp at hu
      rcases hu with rfl | rfl
      · exact ⟨t7, fun hm => by have := ha _ hm; have := heap_lt fgf; omega⟩
      · simp [ownB]
  · rw [pvCells_snoc] at hu
    rcases List.mem_append.1 hu with hu | hu
    · exact h.lo.2 u (by rw [pvCells_snoc]; simp [hu]) b hb
    · simp at hu
      rcases hu with rfl | rfl
      · have := ha b hb; omega
      · simp [ownB] at hb
/-- The last part's cells in another order. -/
theorem PtS.sorted {a : Value} {xs xs' : List Int} (h : PtS w1 X bl bw bo bf P go gf n f ofs frs v (qs ++ [⟨a, .slice none 0 0, xs, []⟩])) (k : Kp (ownB a) X Y) (r : Row Y 3 1 a xs'.length (ivals xs')) :
    PtS w1 Y bl bw bo bf P go gf n f ofs frs v (qs ++ [⟨a, .slice none 0 0, xs', []⟩]) := by
  have hla : a ∈ pvCells (qs ++ [(⟨a, .slice none 0 0, xs, []⟩ : PV)]) := by rw [pvCells_snoc]; simp
  have ra := (h.q1 ⟨a, .slice none 0 0, xs, []⟩ (by simp)).1
  have tn : ∀ (b : Nat) (ca : Array Value) (ty : TypeId), X.heap[b]? = some (.cells ca ty (0, 0)) → ty ≠ 3 → Y.heap[b]? = X.heap[b]? := fun b ca ty hb hne => k.block b (heap_lt hb) (fun hm => by
    obtain ⟨cu, hu⟩ := row_block ra b hm
    exact ty_no2 hb hu hne)
  have e : pvCells (qs ++ [(⟨a, .slice none 0 0, xs', []⟩ : PV)]) = pvCells (qs ++ [⟨a, .slice none 0 0, xs, []⟩]) := by rw [pvCells_snoc, pvCells_snoc]
  have hng := h.ng a hla
  have hdj := h.dj
  rw [pvCells_snoc] at hdj
  obtain ⟨_, _, d3⟩ := List.pairwise_append.1 hdj
  refine ⟨h.bel.trans (k.below h.bel.size (fun b hb => h.lo.2 a hla b hb)), (tn bl _ _ h.xl (by decide)).trans h.xl, (tn bw _ _ h.xw (by decide)).trans h.xw, (tn bo _ _ h.xo (by decide)).trans h.xo, (tn bf _ _ h.xf (by decide)).trans h.xf, ?_, ?_, ?_, fun q hq => ?_, by rw [e]; exact h.dj, by rw [e]; exact h.ng, by rw [e]; exact h.lo, h.ne⟩
  · rw [e]
    have h1 := h.lr.keep (w' := Y) (fun b hb => by
      obtain ⟨cu, hu⟩ := row_block h.lr b hb
      exact tn b _ _ hu (by decide))
    simpa using h1
  · exact h.og.keep (fun b hb => by simp [ownB] at hb; subst hb; exact k.block b (h.og.lt b (by simp [ownB])) hng.1)
  · exact h.fg.keep (fun b hb => by simp [ownB] at hb; subst hb; exact k.block b (h.fg.lt b (by simp [ownB])) hng.2)
  · rcases List.mem_append.1 hq with hq | hq
    · obtain ⟨r1, r2⟩ := h.q1 q (by simp [hq])
      exact ⟨r1.keep (fun b hb => k.block b (r1.lt b hb) (fun hm => d3 q.a (pv_a hq).1 a (by simp) b hb hm)), r2.keep (fun b hb => k.block b (r2.lt b hb) (fun hm => d3 q.b (pv_a hq).2 a (by simp) b hb hm))⟩
    · simp at hq; subst hq
      exact ⟨r, Row.nil _ _ _⟩
/-- A free port more in the last part. -/
theorem PtS.freed {a b b' : Value} {gl cl i : Nat} {N x : Int} {xs ys : List Int} {o : Obj} {w7 : World} (h : PtS w1 X bl bw bo bf P go gf n f ofs frs (.slice (some ⟨gl, 0, none⟩) (qs.length + 1) cl) (qs ++ [⟨a, b, xs, ys⟩]))
    (r : Row w7 3 1 b' (ys.length + 1) (ivals ys ++ [.int .i64 x])) (k : Kp (ownB b) ((X.setCell ⟨gf, i, none⟩ (.int .i64 N)).drew.alloc o) w7) (ho : ownB b' = ownB b ∨ ∀ y ∈ ownB b', X.heap.size ≤ y) :
    (w7.cell? ⟨bl, 0, none⟩ = some (.slice (some ⟨gl, 0, none⟩) (qs.length + 1) cl) ∧ w7.cell? ⟨gl, qs.length * 2 + 1, none⟩ = some b ∧ w7.frozen? ⟨gl, qs.length * 2 + 1, none⟩ = false ∧ Kp (gf :: ownB b) X w7) ∧
    PtS w1 (w7.setCell ⟨gl, qs.length * 2 + 1, none⟩ b') bl bw bo bf P go gf n f ofs (frs.set i N) (.slice (some ⟨gl, 0, none⟩) (qs.length + 1) cl) (qs ++ [⟨a, b', xs, ys ++ [x]⟩]) ∧ Kp (gl :: gf :: ownB b) X (w7.setCell ⟨gl, qs.length * 2 + 1, none⟩ b') := by
  have hmem : ∀ u, u ∈ pvCells (qs ++ [(⟨a, b, xs, ys⟩ : PV)]) ↔ u ∈ pvCells qs ∨ u = a ∨ u = b := fun u => by rw [pvCells_snoc]; simp
  have hmem' : ∀ u, u ∈ pvCells (qs ++ [(⟨a, b', xs, ys ++ [x]⟩ : PV)]) ↔ u ∈ pvCells qs ∨ u = a ∨ u = b' := fun u => by rw [pvCells_snoc]; simp
  obtain ⟨ra, rb⟩ := h.q1 ⟨a, b, xs, ys⟩ (by simp)
  dsimp only at ra rb
  obtain ⟨xgf, fgf⟩ := row_block h.fg gf (by simp [ownB])
  obtain ⟨xgl, fgl⟩ := row_block h.lr gl (by simp [ownB])
  have lgf := heap_lt fgf
  have lgl := heap_lt fgl
  have hk0 : Kp (gf :: ownB b) X w7 := (((Kp.refl (gf :: ownB b) X).setCell (p := ⟨gf, i, none⟩) (.inl (by simp)) _).drew.alloc o).trans k (fun y hy => .inl (by simp [hy]))
  have tn : ∀ (y : Nat) (ca : Array Value) (ty : TypeId), X.heap[y]? = some (.cells ca ty (0, 0)) → ty ≠ 3 → w7.heap[y]? = X.heap[y]? := fun y ca ty hy hne => hk0.block y (heap_lt hy) (fun hm => by
    rcases List.mem_cons.1 hm with rfl | hm
    · exact ty_no2 hy fgf hne
    · obtain ⟨cu, hu⟩ := row_block rb y hm
      exact ty_no2 hy hu hne)
  have e4 := (tn gl _ _ fgl (by decide)).trans fgl
  have hlast : (pvCells (qs ++ [(⟨a, b, xs, ys⟩ : PV)]))[qs.length * 2 + 1]? = some b := by
    have := (pvCells_at (qs := qs ++ [⟨a, b, xs, ys⟩]) (i := qs.length) (by simp)).2
    simpa using this
  have r4 : Row w7 38 2 (.slice (some ⟨gl, 0, none⟩) (qs.length + 1) cl) (qs.length + 1) (pvCells (qs ++ [⟨a, b, xs, ys⟩])) := by
    have h1 := h.lr.keep (w' := w7) (fun y hy => by simp [ownB] at hy; subst hy; exact tn _ _ _ fgl (by decide))
    simpa using h1
  have hkA : Kp (gl :: gf :: ownB b) X (w7.setCell ⟨gl, qs.length * 2 + 1, none⟩ b') := (hk0.mono (by intro y hy; simp at hy ⊢; right; exact hy)).setCell (.inl (by simp)) _
  have hng := h.ng
  have hgl' : ∀ y ∈ ownB b', y ≠ gl := fun y hy e => by
    obtain ⟨cu, hu⟩ := row_block r y hy
    rw [e] at hu; exact ty_no2 e4 hu (by decide)
  have fin : ∀ y, y < X.heap.size → y ∉ gl :: gf :: ownB b → (w7.setCell ⟨gl, qs.length * 2 + 1, none⟩ b').heap[y]? = X.heap[y]? := fun y hy hn => hkA.block y hy hn
  have tf : ∀ (y : Nat) (ca : Array Value) (ty : TypeId), X.heap[y]? = some (.cells ca ty (0, 0)) → ty ≠ 3 → ty ≠ 38 → (w7.setCell ⟨gl, qs.length * 2 + 1, none⟩ b').heap[y]? = X.heap[y]? := fun y ca ty hy h1 h2 => (Below.heap_setCell _ _ _ y (fun (e : y = gl) => by rw [e] at hy; exact ty_no2 hy fgl h2)).trans (tn y ca ty hy h1)
  have hdj := h.dj
  rw [pvCells_snoc] at hdj
  obtain ⟨d1, d2, d3⟩ := List.pairwise_append.1 hdj
  simp only [List.pairwise_cons, List.mem_singleton, forall_eq, List.not_mem_nil, false_implies, implies_true, List.Pairwise.nil, and_true] at d2
  have ku : ∀ {u : Value} {m : Nat} {zs : List Value}, (u ∈ pvCells qs ∨ u = a) → Row X 3 1 u m zs → Row (w7.setCell ⟨gl, qs.length * 2 + 1, none⟩ b') 3 1 u m zs := fun {u m zs} hu hr => hr.keep (fun y hy => by
    obtain ⟨cu, hcu⟩ := row_block hr y hy
    refine fin y (heap_lt hcu) (fun hm => ?_)
    simp only [List.mem_cons] at hm
    rcases hm with rfl | rfl | hm
    · exact ty_no2 hcu fgl (by decide)
    · exact (hng u ((hmem u).2 (by rcases hu with h | h; exact .inl h; exact .inr (.inl h)))).2 hy
    · rcases hu with hu | rfl
      · exact d3 u hu b (by simp) y hy hm
      · exact d2 y hy hm)
  have hb' : ∀ y ∈ ownB b', y ∈ ownB b ∨ X.heap.size ≤ y := fun y hy => by
    rcases ho with e | e
    · rw [e] at hy; exact .inl hy
    · exact .inr (e y hy)
  have hz := h.bel.size
  have e1 := (tn bl _ _ h.xl (by decide)).trans h.xl
  refine ⟨⟨by simp [World.cell?, e1], (r4.cellAt _ (by omega)).trans hlast, r4.frozenAt _, hk0⟩, ⟨h.bel.trans (hkA.below hz (fun y hy => ?_)), (tf bl _ _ h.xl (by decide) (by decide)).trans h.xl, (tf bw _ _ h.xw (by decide) (by decide)).trans h.xw, (tf bo _ _ h.xo (by decide) (by decide)).trans h.xo, (tf bf _ _ h.xf (by decide) (by decide)).trans h.xf, ?_, ?_, ?_, fun q hq => ?_, ?_, fun u hu => ?_, ⟨h.lo.1, fun u hu y hy => ?_⟩, h.ne⟩, hkA⟩
  · simp only [List.mem_cons] at hy
    rcases hy with rfl | rfl | hy
    · exact h.lo.1 _ (by simp [ownB])
    · exact h.lo.1 _ (by simp)
    · exact h.lo.2 b ((hmem b).2 (by simp)) y hy
  · have h1 := r4.set (qs.length * 2 + 1) b'
    rw [pvCells_setb] at h1
    have e : (qs ++ [(⟨a, b', xs, ys ++ [x]⟩ : PV)]).length = qs.length + 1 := by simp
    have e2 : pvCells (qs ++ [(⟨a, b', xs, ys ++ [x]⟩ : PV)]) = pvCells (qs ++ [⟨a, b', xs, ys⟩]) := by rw [pvCells_snoc, pvCells_snoc]
    rw [e, e2]; exact h1
  · exact h.og.keep (fun y hy => by
      simp [ownB] at hy; subst hy
      obtain ⟨xgo, fgo⟩ := row_block h.og y (by simp [ownB])
      refine fin y (heap_lt fgo) (fun hm => ?_)
      simp only [List.mem_cons] at hm
      rcases hm with h1 | h1 | h1
      · rw [h1] at fgo; exact ty_no2 fgo fgl (by decide)
      · exact h.ne.2 h1
      · exact (hng b ((hmem b).2 (by simp))).1 h1)
  · rw [← ivals_set]
    have h1 := (h.fg.set i (.int .i64 N)).drew.alloc o
    have h2 := h1.kp k (fun y hy => by simp [ownB] at hy; subst hy; exact (hng b ((hmem b).2 (by simp))).2)
    exact h2.keep (fun y hy => Below.heap_setCell _ _ _ y (fun (e : y = gl) => by simp [ownB] at hy; rw [hy] at e; rw [e] at fgf; exact ty_no2 fgf fgl (by decide)))
  · rcases List.mem_append.1 hq with hq | hq
    · obtain ⟨r1, r2⟩ := h.q1 q (by simp [hq])
      exact ⟨ku (.inl (pv_a hq).1) r1, ku (.inl (pv_a hq).2) r2⟩
    · simp at hq; subst hq
      refine ⟨ku (.inr rfl) ra, ?_⟩
      dsimp only
      rw [List.length_append, ivals_snoc]
      exact r.keep (fun y hy => Below.heap_setCell _ _ _ y (hgl' y hy))
  · rw [pvCells_snoc]
    refine List.pairwise_append.2 ⟨d1, ?_, fun u hu u' hu' y hy hy' => ?_⟩
    · simp only [List.pairwise_cons, List.mem_singleton, forall_eq, List.not_mem_nil, false_implies, implies_true, List.Pairwise.nil, and_true]
      intro y hy hy'
      rcases hb' y hy' with h1 | h1
      · exact d2 y hy h1
      · have := ra.lt y hy; omega
    · simp at hu'
      rcases hu' with rfl | rfl
      · exact d3 u hu u' (by simp) y hy hy'
      · rcases hb' y hy' with h1 | h1
        · exact d3 u hu b (by simp) y hy h1
        · obtain ⟨zs, hr⟩ := h.urow (u := u) ((hmem u).2 (.inl hu))
          have := hr.lt y hy; omega
  · rcases (hmem' u).1 hu with h1 | rfl | rfl
    · exact hng u ((hmem u).2 (.inl h1))
    · exact hng u ((hmem u).2 (by simp))
    · refine ⟨fun hm => ?_, fun hm => ?_⟩
      · rcases hb' _ hm with h1 | h1
        · exact (hng b ((hmem b).2 (by simp))).1 h1
        · have := h.og.lt go (by simp [ownB]); omega
      · rcases hb' _ hm with h1 | h1
        · exact (hng b ((hmem b).2 (by simp))).2 h1
        · omega
  · rcases (hmem' u).1 hu with h1 | rfl | rfl
    · exact h.lo.2 u ((hmem u).2 (.inl h1)) y hy
    · exact h.lo.2 u ((hmem u).2 (by simp)) y hy
    · rcases hb' y hy with h1 | h1
      · exact h.lo.2 b ((hmem b).2 (by simp)) y h1
      · omega
end
end Go.Proofs.Ytogbanlfihabpaa
