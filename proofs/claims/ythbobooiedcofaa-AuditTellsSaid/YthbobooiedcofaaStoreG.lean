/-
  load.Store: its frames; what it builds.
-/
import Derived.Test.YthbobooiedcofaaNetBuild
import Derived.Test.YthbobooiedcofaaArenaGive
import Derived.Test.YthbobooiedcofaaLoadPlain
import Derived.Test.YthbobooiedcofaaOwn
import Derived.Test.YthbobooiedcofaaBase
import Derived.Test.YthbobooiedcofaaWirWorks
/-
  Plain: links of tidy nets, of nets renumbered; there and back.
-/
namespace Go.Proofs.Ythbobooiedcofaa
open Go.RowKit
set_option linter.unusedVariables false

theorem ends_cons (a b : Pt) (r : List (Pt × Pt)) : ends ((a, b) :: r) = a :: b :: ends r := by simp [ends]
theorem mem_ends {W : List (Pt × Pt)} {x : Pt} : x ∈ ends W ↔ ∃ y, (x, y) ∈ W ∨ (y, x) ∈ W := by
  induction W with
  | nil => simp [ends]
  | cons w r ih =>
    obtain ⟨a, b⟩ := w
    rw [ends_cons]
    simp only [List.mem_cons, ih, Prod.mk.injEq]
    constructor
    · rintro (rfl | rfl | ⟨y, h | h⟩)
      · exact ⟨b, .inl (.inl ⟨rfl, rfl⟩)⟩
      · exact ⟨a, .inr (.inl ⟨rfl, rfl⟩)⟩
      · exact ⟨y, .inl (.inr h)⟩
      · exact ⟨y, .inr (.inr h)⟩
    · rintro ⟨y, (⟨rfl, rfl⟩ | h) | (⟨rfl, rfl⟩ | h)⟩
      · exact .inl rfl
      · exact .inr (.inr ⟨y, .inl h⟩)
      · exact .inr (.inl rfl)
      · exact .inr (.inr ⟨y, .inr h⟩)
theorem lnk_iff {W : List (Pt × Pt)} (hn : (ends W).Nodup) {p q : Pt} : lnk W p = some q ↔ (p, q) ∈ W ∨ (q, p) ∈ W := by
  induction W with
  | nil => simp [lnk]
  | cons w r ih =>
    obtain ⟨a, b⟩ := w
    rw [ends_cons, List.nodup_cons, List.nodup_cons] at hn
    obtain ⟨h1, h2, h3⟩ := hn
    have hab : a ≠ b := fun e => h1 (by simp [e])
    have ha : a ∉ ends r := fun h => h1 (by simp [h])
    have ih' := ih h3
    simp only [lnk, List.mem_cons, Prod.mk.injEq]
    by_cases e1 : a = p
    · subst e1
      rw [if_pos rfl]
      constructor
      · intro h; simp only [Option.some.injEq] at h; exact .inl (.inl ⟨rfl, h.symm⟩)
      · rintro ((⟨_, rfl⟩ | h) | (⟨rfl, e⟩ | h))
        · rfl
        · exact absurd (mem_ends.2 ⟨q, .inl h⟩) ha
        · exact absurd e hab
        · exact absurd (mem_ends.2 ⟨q, .inr h⟩) ha
    · rw [if_neg e1]
      by_cases e2 : b = p
      · subst e2
        rw [if_pos rfl]
        constructor
        · intro h; simp only [Option.some.injEq] at h; exact .inr (.inl ⟨h.symm, rfl⟩)
        · rintro ((⟨e, _⟩ | h) | (⟨rfl, _⟩ | h))
          · exact absurd e.symm e1
          · exact absurd (mem_ends.2 ⟨q, .inl h⟩) h2
          · rfl
          · exact absurd (mem_ends.2 ⟨q, .inr h⟩) h2
      · rw [if_neg e2, ih']
        constructor
        · rintro (h | h)
          · exact .inl (.inr h)
          · exact .inr (.inr h)
        · rintro ((⟨e, _⟩ | h) | (⟨_, e⟩ | h))
          · exact absurd e.symm e1
          · exact .inl h
          · exact absurd e.symm e2
          · exact .inr h
theorem lnk_sym {W : List (Pt × Pt)} (hn : (ends W).Nodup) {p q : Pt} (h : lnk W p = some q) : lnk W q = some p := (lnk_iff hn).2 ((lnk_iff hn).1 h).symm
theorem pair_ne {W : List (Pt × Pt)} (hn : (ends W).Nodup) {p q : Pt} (h : (p, q) ∈ W) : p ≠ q := by
  induction W with
  | nil => simp at h
  | cons w r ih =>
    obtain ⟨a, b⟩ := w
    rw [ends_cons, List.nodup_cons, List.nodup_cons] at hn
    simp only [List.mem_cons, Prod.mk.injEq] at h
    rcases h with ⟨rfl, rfl⟩ | h
    · exact fun e => hn.1 (by simp [e])
    · exact ih hn.2.2 h
theorem lnk_irr {W : List (Pt × Pt)} (hn : (ends W).Nodup) (p : Pt) : lnk W p ≠ some p := fun h => by
  rcases (lnk_iff hn).1 h with h | h <;> exact pair_ne hn h rfl
theorem bef_asymm {p q : Pt} (h : bef p q = true) : bef q p = false := by
  unfold bef at *; simp only [decide_eq_true_eq, decide_eq_false_iff_not] at *; omega
theorem bef_total {p q : Pt} (h : p ≠ q) : bef p q = true ∨ bef q p = true := by
  unfold bef; simp only [decide_eq_true_eq]
  have : p.1 ≠ q.1 ∨ p.2 ≠ q.2 := by
    by_cases h1 : p.1 = q.1
    · exact .inr fun h2 => h (Prod.ext h1 h2)
    · exact .inl h1
  omega
section
variable {P : List Pt} {lk : Pt → Option Pt}
theorem tidyF_mem {p q : Pt} : (p, q) ∈ tidyF P lk ↔ p ∈ P ∧ lk p = some q ∧ bef p q = true := by
  unfold tidyF
  rw [List.mem_filterMap]
  constructor
  · rintro ⟨x, hx, h⟩
    cases hl : lk x with
    | none => rw [hl] at h; simp at h
    | some y =>
      rw [hl] at h
      simp only at h
      by_cases hb : bef x y = true
      · rw [if_pos hb] at h
        simp only [Option.some.injEq, Prod.mk.injEq] at h
        obtain ⟨rfl, rfl⟩ := h
        exact ⟨hx, hl, hb⟩
      · rw [if_neg hb] at h; cases h
  · rintro ⟨hp, hl, hb⟩
    exact ⟨p, hp, by rw [hl]; simp [hb]⟩
theorem tidyF_nodup (hP : P.Nodup) (hs : ∀ p q, lk p = some q → lk q = some p) : (ends (tidyF P lk)).Nodup := by
  induction P with
  | nil => simp [tidyF, ends]
  | cons p r ih =>
    rw [List.nodup_cons] at hP
    have hir := ih hP.2
    cases hl : lk p with
    | none =>
      have : tidyF (p :: r) lk = tidyF r lk := by unfold tidyF; rw [List.filterMap_cons, hl]
      rw [this]; exact hir
    | some q =>
      by_cases hb : bef p q = true
      · have : tidyF (p :: r) lk = (p, q) :: tidyF r lk := by unfold tidyF; rw [List.filterMap_cons, hl]; simp [hb]
        rw [this, ends_cons, List.nodup_cons, List.nodup_cons]
        have hpq : p ≠ q := fun e => by subst e; have := bef_asymm hb; rw [hb] at this; cases this
        have key : ∀ x, x ∈ ends (tidyF r lk) → (x ∈ r ∧ ∃ y, lk x = some y ∧ bef x y = true) ∨ ∃ y, y ∈ r ∧ lk y = some x ∧ bef y x = true := fun x hx => by
          obtain ⟨y, h | h⟩ := mem_ends.1 hx
          · obtain ⟨a, b, c⟩ := tidyF_mem.1 h; exact .inl ⟨a, y, b, c⟩
          · obtain ⟨a, b, c⟩ := tidyF_mem.1 h; exact .inr ⟨y, a, b, c⟩
        refine ⟨fun hx => ?_, fun hx => ?_, hir⟩
        · simp only [List.mem_cons] at hx
          rcases hx with e | hx
          · exact hpq e
          · rcases key p hx with ⟨h, _⟩ | ⟨y, hy, hl2, hb2⟩
            · exact hP.1 h
            · have e := hs y p hl2
              rw [hl] at e
              simp only [Option.some.injEq] at e
              subst e
              rw [bef_asymm hb] at hb2; cases hb2
        · rcases key q hx with ⟨_, y, hl2, hb2⟩ | ⟨y, hy, hl2, hb2⟩
          · have e := hs p q hl
            rw [hl2] at e
            simp only [Option.some.injEq] at e
            subst e
            rw [bef_asymm hb] at hb2; cases hb2
          · have e1 := hs p q hl
            have e2 := hs y q hl2
            rw [e1] at e2
            simp only [Option.some.injEq] at e2
            subst e2
            exact hP.1 hy
      · have : tidyF (p :: r) lk = tidyF r lk := by unfold tidyF; rw [List.filterMap_cons, hl]; simp [hb]
        rw [this]; exact hir
theorem tidyF_lnk (hP : P.Nodup) (hs : ∀ p q, lk p = some q → lk q = some p) (hin : ∀ p q, p ∈ P → lk p = some q → q ∈ P) (hirr : ∀ p, lk p ≠ some p) {p : Pt} (hp : p ∈ P) : lnk (tidyF P lk) p = lk p := by
  have hn := tidyF_nodup hP hs
  cases hl : lk p with
  | some q =>
    rw [lnk_iff hn, tidyF_mem, tidyF_mem]
    have hpq : p ≠ q := fun e => hirr p (by rw [hl, e])
    rcases bef_total hpq with h | h
    · exact .inl ⟨hp, hl, h⟩
    · exact .inr ⟨hin p q hp hl, hs p q hl, h⟩
  | none =>
    refine lnk_none fun hx => ?_
    obtain ⟨y, h | h⟩ := mem_ends.1 hx
    · rw [(tidyF_mem.1 h).2.1] at hl; cases hl
    · rw [hs y p (tidyF_mem.1 h).2.1] at hl; cases hl
end
section
variable {pn : Int → Nat} {cells out cs fs : List Int} {free : Nat} {W : List (Pt × Pt)}
theorem allPs_mem {p : Pt} : p ∈ allPs pn cells free ↔ isPt pn cells free p = true := ⟨fun h => allPs_is pn h, fun h => List.mem_of_getElem? (allPs_plc pn h)⟩
theorem NetOk.lnkin (h : NetOk pn cells free W) {p q : Pt} (hl : Go.Proofs.Ythbobooiedcofaa.lnk W p = some q) : p ∈ allPs pn cells free ∧ q ∈ allPs pn cells free := by
  have e1 := lnk_mem hl
  have e2 := lnk_mem (lnk_sym h.nodup hl)
  exact ⟨allPs_mem.2 (h.is _ e1), allPs_mem.2 (h.is _ e2)⟩
theorem NetOk.tidy_lnk (h : NetOk pn cells free W) {p : Pt} (hp : p ∈ allPs pn cells free) : Go.Proofs.Ythbobooiedcofaa.lnk (tidyW (allPs pn cells free) W) p = Go.Proofs.Ythbobooiedcofaa.lnk W p :=
  tidyF_lnk (allPs_nodup pn cells free) (fun _ _ h' => lnk_sym h.nodup h') (fun _ _ _ h' => (h.lnkin h').2) (fun p => lnk_irr h.nodup p) hp
theorem NetOk.tidy (h : NetOk pn cells free W) : NetOk pn cells free (tidyW (allPs pn cells free) W) := by
  refine ⟨fun p hp => ?_, tidyF_nodup (allPs_nodup pn cells free) (fun _ _ h' => lnk_sym h.nodup h'), fun p hp => ?_⟩
  · obtain ⟨y, hy | hy⟩ := mem_ends.1 hp
    · exact allPs_mem.1 (tidyF_mem.1 hy).1
    · exact allPs_mem.1 (h.lnkin (tidyF_mem.1 hy).2.1).2
  · obtain ⟨q, hq, _⟩ := h.lnk (allPs_mem.1 hp)
    refine lnk_mem (q := q) ?_
    rw [h.tidy_lnk hp, hq]
end
end Go.Proofs.Ythbobooiedcofaa
/-
  Memory in pieces: each with its list of blocks; a step turns one piece.
-/
namespace Go.Proofs.Ythbobooiedcofaa
open Go.RowKit
set_option maxRecDepth 100000
set_option linter.unusedVariables false

/-- Disjoint. -/
def Dj (F G : List Nat) : Prop := ∀ b ∈ F, b ∉ G
theorem Dj.symm {F G : List Nat} (h : Dj F G) : Dj G F := fun b hb hf => h b hf hb
/-- What a step does to a piece: its blocks may turn, and be new. -/
structure Stp (F : List Nat) (w : World) (F' : List Nat) (w' : World) : Prop where
  kp : Kp F w w'
  new : ∀ b ∈ F', b ∈ F ∨ w.heap.size ≤ b
theorem KeepsFrom.kpC {B : Nat} {F : List Nat} {W W' : World} (h : Kp F W W') (hF : ∀ b ∈ F, b < B ∨ ∃ c t, W.heap[b]? = some (.cells c t (0, 0))) : KeepsFrom B W W' :=
  ⟨h.size, fun k o hB hk ho => (h.block k (heap_lt hk) (fun hm => by
    rcases hF k hm with h1 | ⟨c, t, h1⟩
    · omega
    · rw [h1] at hk; injection hk with hk; subst hk; cases ho)).trans hk⟩
/-- A box that holds a slice in memory of its own. -/
structure BoxS (w : World) (b : Nat) (te e : TypeId) (size n : Nat) (xs : List Value) (F : List Nat) : Prop where
  ex : ∃ V c, w.heap[b]? = some (.cells #[.slice V n c] te (0, 0)) ∧ Row w e size (.slice V n c) n xs ∧ F = b :: ownB (.slice V n c)
  ne : te ≠ e
section
variable {w w' : World} {b : Nat} {te e : TypeId} {size n : Nat} {xs : List Value} {F : List Nat}
theorem BoxS.keep (h : BoxS w b te e size n xs F) (hk : ∀ y ∈ F, w'.heap[y]? = w.heap[y]?) : BoxS w' b te e size n xs F := by
  obtain ⟨⟨V, c, h1, h2, rfl⟩, ne⟩ := h
  exact ⟨⟨V, c, (hk b (by simp)).trans h1, h2.keep fun y hy => hk y (by simp [hy]), rfl⟩, ne⟩
theorem BoxS.cl (h : BoxS w b te e size n xs F) : ∀ y ∈ F, ∃ c t, w.heap[y]? = some (.cells c t (0, 0)) := by
  obtain ⟨⟨V, c, h1, h2, rfl⟩, ne⟩ := h
  intro y hy
  rcases List.mem_cons.1 hy with rfl | hy
  · exact ⟨_, _, h1⟩
  · obtain ⟨cur, hh⟩ := h2.ty hy; exact ⟨_, _, hh⟩
theorem BoxS.lt (h : BoxS w b te e size n xs F) : ∀ y ∈ F, y < w.heap.size := fun y hy => by obtain ⟨c, t, hh⟩ := h.cl y hy; exact heap_lt hh
theorem BoxS.head (h : BoxS w b te e size n xs F) : b ∈ F := by obtain ⟨⟨V, c, h1, h2, rfl⟩, ne⟩ := h; simp
theorem BoxS.kp {G : List Nat} (h : BoxS w b te e size n xs F) (hk : Kp G w w') (hd : Dj F G) : BoxS w' b te e size n xs F := h.keep fun y hy => hk.block y (h.lt y hy) (hd y hy)
/-- One more: what stands behind the append, and behind the store. -/
theorem BoxS.app {V : Option Addr} {c : Nat} (h1 : w.heap[b]? = some (.cells #[.slice V n c] te (0, 0))) (h2 : Row w e size (.slice V n c) n xs) (ne : te ≠ e) {o : Obj} {w5 : World} {V5 : Option Addr} {c5 m : Nat} {news : List Value}
    (k5 : Kp (ownB (.slice V n c)) (w.alloc o) w5) (o5 : ownB (.slice V5 (n + m) c5) = ownB (.slice V n c) ∨ ownB (.slice V5 (n + m) c5) = [(w.alloc o).heap.size]) (r5 : Row w5 e size (.slice V5 (n + m) c5) (n + m) (xs ++ news)) :
    (w5.cell? ⟨b, 0, none⟩ = some (.slice V n c) ∧ w5.frozen? ⟨b, 0, none⟩ = false ∧ b < w5.heap.size) ∧
    ∃ F', BoxS (w5.setCell ⟨b, 0, none⟩ (.slice V5 (n + m) c5)) b te e size (n + m) (xs ++ news) F' ∧ Stp (b :: ownB (.slice V n c)) w F' (w5.setCell ⟨b, 0, none⟩ (.slice V5 (n + m) c5)) := by
  have hn : b ∉ ownB (.slice V n c) := fun hm => by obtain ⟨cur, hh⟩ := h2.ty hm; rw [hh] at h1; injection h1 with h1; injection h1 with _ h1; exact ne h1.symm
  have hbl := heap_lt h1
  have e5 : w5.heap[b]? = some (.cells #[.slice V n c] te (0, 0)) := (k5.block b (by simp; omega) hn).trans ((Below.heap_alloc _ _ _ hbl).trans h1)
  have hn5 : b ∉ ownB (.slice V5 (n + m) c5) := fun hm => by
    rcases o5 with e | e
    · exact hn (e ▸ hm)
    · rw [e] at hm; simp at hm; omega
  have hk : Kp (ownB (.slice V n c)) w w5 := ((Kp.refl _ w).alloc o).trans k5 (fun b hb => .inl hb)
  refine ⟨⟨by simp [World.cell?, e5], by simp [World.frozen?, e5], heap_lt e5⟩, _, ⟨⟨V5, c5, ?_, r5.keep fun y hy => Below.heap_setCell w5 _ _ y (fun e => hn5 (by have e' : y = b := e; exact e' ▸ hy)), rfl⟩, ne⟩, ⟨?_, fun y hy => ?_⟩⟩
  · simp [World.setCell, Array.getElem?_modify, e5]
  · exact (hk.mono (fun y hy => List.mem_cons_of_mem _ hy)).setCell (p := ⟨b, 0, none⟩) (.inl (by simp)) _
  · rcases List.mem_cons.1 hy with rfl | hy
    · exact .inl (by simp)
    · rcases o5 with e | e
      · exact .inl (by rw [e] at hy; simp [hy])
      · rw [e] at hy; simp at hy; right; omega
end
/-- A net in a box, its lists in memory of their own. -/
structure BoxN (w : World) (b : Nat) (C : List Int) (f : Int) (T : List (Pt × Pt)) (F : List Nat) : Prop where
  ex : ∃ V1 c1 V2 c2, w.heap[b]? = some (.cells #[.slice V1 C.length c1, .int .i64 f, .slice V2 T.length c2] 67 (0, 0)) ∧ Row w 3 1 (.slice V1 C.length c1) C.length (ivals C) ∧ Row w 55 4 (.slice V2 T.length c2) T.length (wrvals T) ∧ F = b :: (ownB (.slice V1 C.length c1) ++ ownB (.slice V2 T.length c2))
section
variable {w w' : World} {b : Nat} {C : List Int} {f : Int} {T : List (Pt × Pt)} {F : List Nat}
theorem BoxN.keep (h : BoxN w b C f T F) (hk : ∀ y ∈ F, w'.heap[y]? = w.heap[y]?) : BoxN w' b C f T F := by
  obtain ⟨V1, c1, V2, c2, h1, h2, h3, rfl⟩ := h.ex
  exact ⟨V1, c1, V2, c2, (hk b (by simp)).trans h1, h2.keep fun y hy => hk y (by simp [hy]), h3.keep fun y hy => hk y (by simp [hy]), rfl⟩
theorem BoxN.cl (h : BoxN w b C f T F) : ∀ y ∈ F, ∃ c t, w.heap[y]? = some (.cells c t (0, 0)) := by
  obtain ⟨V1, c1, V2, c2, h1, h2, h3, rfl⟩ := h.ex
  intro y hy
  simp only [List.mem_cons, List.mem_append] at hy
  rcases hy with rfl | hy | hy
  · exact ⟨_, _, h1⟩
  · obtain ⟨cur, hh⟩ := h2.ty hy; exact ⟨_, _, hh⟩
  · obtain ⟨cur, hh⟩ := h3.ty hy; exact ⟨_, _, hh⟩
theorem BoxN.lt (h : BoxN w b C f T F) : ∀ y ∈ F, y < w.heap.size := fun y hy => by obtain ⟨c, t, hh⟩ := h.cl y hy; exact heap_lt hh
theorem BoxN.head (h : BoxN w b C f T F) : b ∈ F := by obtain ⟨V1, c1, V2, c2, h1, h2, h3, rfl⟩ := h.ex; simp
theorem BoxN.kp {G : List Nat} (h : BoxN w b C f T F) (hk : Kp G w w') (hd : Dj F G) : BoxN w' b C f T F := h.keep fun y hy => hk.block y (h.lt y hy) (hd y hy)
end
end Go.Proofs.Ythbobooiedcofaa
/-
  Plain: a wiring that is a net: its cells, its free ports; what Store gives of it. (Plain Lean, no program.)
-/
set_option linter.unusedVariables false
namespace Go.Proofs.Ythbobooiedcofaa

/-- A wiring whose cells and free ports are a net's. -/
structure LN (pn : Int → Nat) (cells : List Int) (f : Nat) (S : Wir) : Prop where
  p : S.P.length = f
  n : S.A.cells.length = cells.length
  b : S.A.back = []
  c : ∀ i, i < cells.length → ∃ ws, S.A.cells[i]? = some (some (cells.getD i 0, ws)) ∧ ws.length = pn (cells.getD i 0)
section
variable {pn : Int → Nat} {cells : List Int} {f : Nat} {S : Wir}
theorem LN.cell (h : LN pn cells f S) {i : Nat} (hi : i < cells.length) : ∃ ws, S.A.cell (i : Int) = some (cells.getD i 0, ws) ∧ ws.length = pn (cells.getD i 0) := by
  obtain ⟨ws, h1, h2⟩ := h.c i hi
  exact ⟨ws, Ars.cell_at (by omega) h1, h2⟩
theorem LN.agA (h : LN pn cells f S) {i : Nat} (hi : i < cells.length) : S.A.agA (i : Int) + 1 = (pn (cells.getD i 0) : Int) ∧ S.A.agC (i : Int) = cells.getD i 0 := by
  obtain ⟨ws, h1, h2⟩ := h.cell hi
  have e1 : S.A.agA (i : Int) = (ws.length : Int) - 1 := by unfold Ars.agA; rw [h1]
  have e2 : S.A.agC (i : Int) = cells.getD i 0 := by unfold Ars.agC; rw [h1]
  exact ⟨by omega, e2⟩
theorem LN.new {most : Nat} {ar : Int → Int} (hpn : ∀ a ∈ cells, (ar a).toNat + 1 = pn a) : LN pn cells f (Wir.new (tookA most ar cells) f) :=
  ⟨by simp [Wir.new], by simp [Wir.new, tookA], rfl, fun i hi => by
    have hm : cells.getD i 0 ∈ cells := by rw [List.getD_eq_getElem?_getD, List.getElem?_eq_getElem hi]; exact List.getElem_mem hi
    refine ⟨List.replicate ((ar (cells.getD i 0)).toNat + 1) 4294967295, ?_, by rw [List.length_replicate]; exact hpn _ hm⟩
    simp [Wir.new, tookA, Ars.fresh, hi, List.getD_eq_getElem?_getD]⟩
theorem LN.put (h : LN pn cells f S) (p : Pt) (v : Int) : LN pn cells f (S.put p v) := by
  unfold Wir.put
  by_cases e : p.1 = -1
  · rw [if_pos e]
    exact ⟨by simpa using h.p, h.n, h.b, h.c⟩
  · rw [if_neg e]
    unfold Ars.put
    cases hc : S.A.cell p.1 with
    | none => exact h
    | some x =>
      simp only
      split
      · exact h
      · obtain ⟨h0, hx⟩ := Ars.cell_some hc
        refine ⟨h.p, by simpa using h.n, h.b, fun i hi => ?_⟩
        obtain ⟨ws, h1, h2⟩ := h.c i hi
        by_cases e2 : p.1.toNat = i
        · subst e2
          rw [h1] at hx
          simp only [Option.some.injEq] at hx
          subst hx
          refine ⟨ws.set p.2.toNat v, ?_, by simpa using h2⟩
          have : p.1.toNat < S.A.cells.length := by rw [h.n]; exact hi
          simp [this]
        · refine ⟨ws, ?_, h2⟩
          simp only [List.getElem?_set]
          rw [if_neg e2]; exact h1
theorem LN.link (h : LN pn cells f S) (p q : Pt) : LN pn cells f (S.link p q) := by
  unfold Wir.link
  split
  · exact (h.put _ _).put _ _
  · exact h
theorem LN.linkAll {W : List (Pt × Pt)} : ∀ {S : Wir}, LN pn cells f S → LN pn cells f (S.linkAll W) := by
  induction W with
  | nil => intro S h; exact h
  | cons w r ih => intro S h; exact ih (h.link w.1 w.2)
/-- Its live cells. -/
theorem LN.upto (h : LN pn cells f S) : ∀ k, k ≤ cells.length → S.A.upto k = (List.range k).map fun i => (i, cells.getD i 0) := by
  intro k
  induction k with
  | zero => intro _; rfl
  | succ k ih =>
    intro hk
    obtain ⟨ws, h1, h2⟩ := h.c k (by omega)
    rw [List.range_succ, List.map_append, ← ih (by omega), Ars.upto, h1]
    simp
theorem LN.cellPts (h : LN pn cells f S) (k : Nat) (hk : k ≤ cells.length) : Wir.cellPts 0 (S.A.cells.take k) = cellPs pn 0 (cells.take k) := by
  induction k with
  | zero => simp [Wir.cellPts, cellPs]
  | succ k ih =>
    obtain ⟨ws, h1, h2⟩ := h.c k (by omega)
    have hkl : k < cells.length := by omega
    have e1 : S.A.cells.take (k + 1) = S.A.cells.take k ++ [some (cells.getD k 0, ws)] := by rw [List.take_add_one, h1]; rfl
    have e2 : cells.take (k + 1) = cells.take k ++ [cells.getD k 0] := by rw [List.take_add_one, List.getElem?_eq_getElem hkl, List.getD_eq_getElem?_getD, List.getElem?_eq_getElem hkl]; rfl
    rw [e1, e2, Wir.cellPts_append, cellPs_app, ih (by omega)]
    have l1 : (S.A.cells.take k).length = k := by rw [List.length_take, h.n]; omega
    have l2 : (cells.take k).length = k := by rw [List.length_take]; omega
    rw [l1, l2]
    simp [Wir.cellPts, cellPs, h2]
theorem LN.pts (h : LN pn cells f S) : S.pts = allPs pn cells f := by
  unfold Wir.pts allPs freePs
  rw [h.p]
  congr 1
  have := h.cellPts cells.length (Nat.le_refl _)
  rwa [← h.n, List.take_length, h.n, List.take_length] at this
end
end Go.Proofs.Ythbobooiedcofaa
/-
  What is left of a code from a region on; frames by look-ups.
-/
namespace Go.Proofs.Ythbobooiedcofaa
open Go.RowKit
set_option maxRecDepth 100000

/-- What slots of a frame hold. -/
def Sl (a : Act) : List (Nat × Value) → Prop
  | [] => True
  | (i, v) :: r => a.tmps[i]? = some v ∧ Sl a r
structure FrN (n : Nat) (ds : List Deferred) (L : List (Nat × Value)) (a : Act) : Prop where
  sz : a.tmps.size = n
  df : a.defers = ds
  sl : Sl a L
end Go.Proofs.Ythbobooiedcofaa
namespace Go.Proofs.Ythbobooiedcofaa
open Go.RowKit
attribute [local go_sem] cell_set
set_option maxRecDepth 100000
set_option linter.unusedVariables false

/-- What does not turn: the boxes of the arguments and of the results. -/
structure SF (w : World) (As : Option Addr) (n cap A : Nat) (X : World) : Prop where
  s : X.heap[w.heap.size]? = some (.cells #[.slice As n cap] 63 (0, 0))
  r : X.heap[w.heap.size + 1]? = some (.cells #[.slice none 0 0, .int .i64 0, .slice none 0 0] 67 (0, 0))
  i : X.heap[w.heap.size + 2]? = some (.cells #[.slice none 0 0] 64 (0, 0))
  e : X.heap[w.heap.size + 3]? = some (.cells #[.int .i64 0] 24 (0, 0))
  a : X.heap[w.heap.size + 4]? = some (.cells #[.pointer (some ⟨A, 0, none⟩)] 23 (0, 0))
  bel : Below w.heap.size w X
theorem SF.kp {w X X' : World} {As : Option Addr} {n cap A : Nat} {G : List Nat} (h : SF w As n cap A X) (hk : Kp G X X') (hG : ∀ b ∈ G, w.heap.size + 5 ≤ b) : SF w As n cap A X' := by
  have hl := heap_lt h.a
  have k : ∀ b, b < w.heap.size + 5 → X'.heap[b]? = X.heap[b]? := fun b hb => hk.block b (by omega) (fun hm => by have := hG b hm; omega)
  exact ⟨(k _ (by omega)).trans h.s, (k _ (by omega)).trans h.r, (k _ (by omega)).trans h.i, (k _ (by omega)).trans h.e, (k _ (by omega)).trans h.a, h.bel.trans (hk.below h.bel.size (fun b hb => by have := hG b hb; omega))⟩
theorem SF.below {w X X' : World} {As : Option Addr} {n cap A : Nat} (h : SF w As n cap A X) (hb : Below X.heap.size X X') : SF w As n cap A X' := h.kp (Kp.of_below (F := []) hb) (by simp)
/-- What is being built. -/
structure St (w0 : World) (b10 b11 b13 m : Nat) (f : Int) (C K : List Int) (P : List Pt) (T : List (Pt × Pt)) (g : Int → Option Value) (X : World) : Prop where
  ex : ∃ F1 F2 F3, BoxN X b10 C f T F1 ∧ BoxS X b11 64 3 1 K.length (ivals K) F2 ∧ BoxS X b13 84 39 2 P.length (pvals P) F3 ∧ Dj F1 F2 ∧ Dj F1 F3 ∧ Dj F2 F3 ∧ (m ∉ F1 ∧ m ∉ F2 ∧ m ∉ F3) ∧ ((∀ y ∈ F1, y = b10 ∨ w0.heap.size ≤ y) ∧ (∀ y ∈ F2, y = b11 ∨ w0.heap.size ≤ y) ∧ (∀ y ∈ F3, y = b13 ∨ w0.heap.size ≤ y))
  mp : MP (fun n : Int => Value.int .i64 n) X m g
  kp : Kp [b10, b11, b13, m] w0 X
  lt : b10 < w0.heap.size ∧ b11 < w0.heap.size ∧ b13 < w0.heap.size ∧ m < w0.heap.size
/-- A step that turns the net's memory alone. -/
def KC (X X' : World) : Prop := ∃ G, Kp G X X' ∧ ∀ y ∈ G, ∃ c t, X.heap[y]? = some (.cells c t (0, 0)) ∧ t ≠ 176 ∧ t ≠ 174
theorem BoxS.tys {w : World} {b : Nat} {te e : TypeId} {size n : Nat} {xs : List Value} {F : List Nat} (h : BoxS w b te e size n xs F) : ∀ y ∈ F, ∃ c t, w.heap[y]? = some (.cells c t (0, 0)) ∧ (t = te ∨ t = e) := by
  obtain ⟨⟨V, c, h1, h2, rfl⟩, ne⟩ := h
  intro y hy
  rcases List.mem_cons.1 hy with rfl | hy
  · exact ⟨_, _, h1, .inl rfl⟩
  · obtain ⟨cur, hh⟩ := h2.ty hy; exact ⟨_, _, hh, .inr rfl⟩
theorem BoxN.tys {w : World} {b : Nat} {C : List Int} {f : Int} {T : List (Pt × Pt)} {F : List Nat} (h : BoxN w b C f T F) : ∀ y ∈ F, ∃ c t, w.heap[y]? = some (.cells c t (0, 0)) ∧ (t = 67 ∨ t = 3 ∨ t = 55) := by
  obtain ⟨V1, c1, V2, c2, h1, h2, h3, rfl⟩ := h.ex
  intro y hy
  simp only [List.mem_cons, List.mem_append] at hy
  rcases hy with rfl | hy | hy
  · exact ⟨_, _, h1, .inl rfl⟩
  · obtain ⟨cur, hh⟩ := h2.ty hy; exact ⟨_, _, hh, .inr (.inl rfl)⟩
  · obtain ⟨cur, hh⟩ := h3.ty hy; exact ⟨_, _, hh, .inr (.inr rfl)⟩
theorem KC.box {w w' : World} {b : Nat} {te e : TypeId} {size n : Nat} {xs : List Value} {F F' : List Nat} (h : BoxS w b te e size n xs F) (hs : Stp F w F' w') (n1 : te ≠ 176 ∧ te ≠ 174) (n2 : e ≠ 176 ∧ e ≠ 174) : KC w w' := ⟨F, hs.kp, fun y hy => by
  obtain ⟨c, t, h1, rfl | rfl⟩ := h.tys y hy
  · exact ⟨_, _, h1, n1⟩
  · exact ⟨_, _, h1, n2⟩⟩
section
variable {w0 X X' : World} {b10 b11 b13 m : Nat} {f : Int} {C K : List Int} {P : List Pt} {T : List (Pt × Pt)} {g : Int → Option Value}
/-- Elsewhere. -/
theorem St.kpE (h : St w0 b10 b11 b13 m f C K P T g X) {G : List Nat} (hk : Kp G X X') (hG : ∀ b ∈ G, X.heap.size ≤ b) : St w0 b10 b11 b13 m f C K P T g X' := by
  obtain ⟨⟨F1, F2, F3, h1, h2, h3, d⟩, h4, h5, h6⟩ := h
  have k : ∀ b, b < X.heap.size → X'.heap[b]? = X.heap[b]? := fun b hb => hk.block b hb (fun hm => by have := hG b hm; omega)
  exact ⟨⟨F1, F2, F3, h1.keep fun y hy => k y (h1.lt y hy), h2.keep fun y hy => k y (h2.lt y hy), h3.keep fun y hy => k y (h3.lt y hy), d⟩, h4.keep (k m h4.lt), h5.trans hk (fun b hb => .inr (by have := hG b hb; have := h5.size; omega)), h6⟩
theorem St.below (h : St w0 b10 b11 b13 m f C K P T g X) (hb : Below X.heap.size X X') : St w0 b10 b11 b13 m f C K P T g X' := h.kpE (Kp.of_below (F := []) hb) (by simp)
theorem St.grown (h : St w0 b10 b11 b13 m f C K P T g X) {row : Option Nat} (hg : X.grownBy X' row) {N : Nat} (hN : w0.heap.size ≤ N) (hr : ∀ r, row = some r → N ≤ r ∧ ∃ o : Obj, X.heap[r]? = some o ∧ o.isCells = false) : St w0 b10 b11 b13 m f C K P T g X' := by
  obtain ⟨⟨F1, F2, F3, h1, h2, h3, d⟩, h4, h5, h6⟩ := h
  have hr2 : ∀ r, row = some r → ∃ o : Obj, X.heap[r]? = some o ∧ o.isCells = false := fun r e => (hr r e).2
  refine ⟨⟨F1, F2, F3, h1.keep fun y hy => ?_, h2.keep fun y hy => ?_, h3.keep fun y hy => ?_, d⟩, h4.keep (hg.block m h4.lt (fun e => by have := (hr m e.symm).1; omega)), ?_, h6⟩
  · obtain ⟨c, t, hh⟩ := h1.cl y hy; exact grownBy_keeps_cells hg hr2 hh rfl
  · obtain ⟨c, t, hh⟩ := h2.cl y hy; exact grownBy_keeps_cells hg hr2 hh rfl
  · obtain ⟨c, t, hh⟩ := h3.cl y hy; exact grownBy_keeps_cells hg hr2 hh rfl
  · cases row with
    | none => exact h5.trans (G := []) ⟨hg.os, hg.tape, hg.output, hg.size, fun b hb _ => hg.block b hb (by simp)⟩ (by simp)
    | some r => exact h5.trans (G := [r]) ⟨hg.os, hg.tape, hg.output, hg.size, fun b hb hn => hg.block b hb (by simpa using hn)⟩ (fun b hb => by simp at hb; subst hb; have := (hr b rfl).1; right; omega)
/-- The map is written. -/
theorem St.upd (h : St w0 b10 b11 b13 m f C K P T g X) {k : Int} {v : Value} (hm : MP (fun n : Int => Value.int .i64 n) X' m (upd g k v)) (hk : Kp [m] X X') : St w0 b10 b11 b13 m f C K P T (upd g k v) X' := by
  obtain ⟨⟨F1, F2, F3, h1, h2, h3, d12, d13, d23, ⟨m1, m2, m3⟩, n⟩, h4, h5, h6⟩ := h
  exact ⟨⟨F1, F2, F3, h1.kp hk (fun y hy => by simp; rintro rfl; exact m1 hy), h2.kp hk (fun y hy => by simp; rintro rfl; exact m2 hy), h3.kp hk (fun y hy => by simp; rintro rfl; exact m3 hy), d12, d13, d23, ⟨m1, m2, m3⟩, n⟩, hm, h5.trans hk (fun b hb => .inl (by simp at hb; simp [hb])), h6⟩
end
end Go.Proofs.Ythbobooiedcofaa
