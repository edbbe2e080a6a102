/-
  A web in memory.
-/
import Derived.Test.YtcebejcdfdahjaaWebPlain
import Derived.Test.YtcebejcdfdahjaaRowPorts
namespace Go.Proofs.Ytcebejcdfdahjaa
open Go.RowKit
set_option linter.unusedVariables false

def rowV (G : Nat → Nat) (pn : Int → Nat) (cs : List Int) (j : Nat) : Value := .slice (some ⟨G j, 0, none⟩) (pn (cs.getD j 0)) (pn (cs.getD j 0))
structure Web (X : World) (P f : Nat) (G : Nat → Nat) (A : Option Addr) (n ca : Nat) (pn : Int → Nat) (cs : List Int) (fr : Nat) (vC vD : Value) (m : Nat) (Lk : Pt → Pt) : Prop where
  blk : X.heap[P]? = some (.cells #[.slice A n ca, vC, .slice (some ⟨f, 0, none⟩) fr fr, vD] 141 (0, 0))
  rc : Row X 47 1 vC m ((List.range m).map (rowV G pn cs))
  rows : ∀ j, j < m → Row X 78 2 (rowV G pn cs j) (pn (cs.getD j 0)) (pvals (rowP pn cs Lk (j : Int)))
  rf : Row X 78 2 (.slice (some ⟨f, 0, none⟩) fr fr) fr (pvals (freeP fr Lk))
  fG : ∀ j, j < m → G j ≠ f
  GG : ∀ i j, i < m → j < m → G i = G j → i = j
theorem Row.type {w : World} {e : TypeId} {size n : Nat} {v : Value} {xs : List Value} (h : Row w e size v n xs) : ∀ b ∈ ownB v, ∃ cur, w.heap[b]? = some (.cells cur e (0, 0)) := by
  rcases h.2 with ⟨rfl, _⟩ | ⟨g, cap, cur, rfl, hh, _⟩
  · simp [ownB]
  · intro b hb; simp [ownB] at hb; subst hb; exact ⟨cur, hh⟩
theorem type_ne {w : World} {b c : Nat} {x y : Array Value} {e f : TypeId} (h : w.heap[b]? = some (.cells x e (0, 0))) (h' : w.heap[c]? = some (.cells y f (0, 0))) (hne : e ≠ f) : b ≠ c := by
  rintro rfl
  rw [h] at h'
  simp only [Option.some.injEq, Obj.cells.injEq] at h'
  exact hne h'.2.1
section
variable {X X' : World} {P f : Nat} {G : Nat → Nat} {A : Option Addr} {n ca : Nat} {pn : Int → Nat} {cs : List Int} {fr : Nat} {vC vD : Value} {m : Nat} {Lk : Pt → Pt}
theorem Web.gtype (h : Web X P f G A n ca pn cs fr vC vD m Lk) {j : Nat} (hj : j < m) : ∃ cur, X.heap[G j]? = some (.cells cur 78 (0, 0)) := (h.rows j hj).type (G j) (by simp [ownB, rowV])
theorem Web.ftype (h : Web X P f G A n ca pn cs fr vC vD m Lk) : ∃ cur, X.heap[f]? = some (.cells cur 78 (0, 0)) := h.rf.type f (by simp [ownB])
theorem Web.pg (h : Web X P f G A n ca pn cs fr vC vD m Lk) {j : Nat} (hj : j < m) : P ≠ G j := by
  obtain ⟨cur, hc⟩ := h.gtype hj
  exact type_ne h.blk hc (by decide)
theorem Web.pf (h : Web X P f G A n ca pn cs fr vC vD m Lk) : P ≠ f := by
  obtain ⟨cur, hc⟩ := h.ftype
  exact type_ne h.blk hc (by decide)
theorem Web.cg (h : Web X P f G A n ca pn cs fr vC vD m Lk) {j b : Nat} (hj : j < m) (hb : b ∈ ownB vC) : b ≠ G j := by
  obtain ⟨cur, hc⟩ := h.gtype hj
  obtain ⟨cur2, hc2⟩ := h.rc.type b hb
  exact type_ne hc2 hc (by decide)
theorem Web.cf (h : Web X P f G A n ca pn cs fr vC vD m Lk) {b : Nat} (hb : b ∈ ownB vC) : b ≠ f := by
  obtain ⟨cur, hc⟩ := h.ftype
  obtain ⟨cur2, hc2⟩ := h.rc.type b hb
  exact type_ne hc2 hc (by decide)
theorem Web.pc (h : Web X P f G A n ca pn cs fr vC vD m Lk) {b : Nat} (hb : b ∈ ownB vC) : P ≠ b := by
  obtain ⟨cur2, hc2⟩ := h.rc.type b hb
  exact type_ne h.blk hc2 (by decide)
/-- The web's blocks (but that of the marks). -/
def webB (P f : Nat) (G : Nat → Nat) (vC : Value) (m : Nat) (b : Nat) : Prop := b = P ∨ b = f ∨ b ∈ ownB vC ∨ ∃ j, j < m ∧ b = G j
theorem Web.keep (h : Web X P f G A n ca pn cs fr vC vD m Lk) (hk : ∀ b, webB P f G vC m b → X'.heap[b]? = X.heap[b]?) : Web X' P f G A n ca pn cs fr vC vD m Lk :=
  ⟨(hk P (.inl rfl)).trans h.blk, h.rc.keep fun b hb => hk b (.inr (.inr (.inl hb))), fun j hj => (h.rows j hj).keep fun b hb => hk b (by simp [ownB, rowV] at hb; exact .inr (.inr (.inr ⟨j, hj, hb⟩))),
    h.rf.keep fun b hb => hk b (by simp [ownB] at hb; exact .inr (.inl hb)), h.fG, h.GG⟩
theorem Web.lt (h : Web X P f G A n ca pn cs fr vC vD m Lk) : ∀ b, webB P f G vC m b → b < X.heap.size := by
  rintro b (rfl | rfl | hb | ⟨j, hj, rfl⟩)
  · exact heap_lt h.blk
  · exact h.rf.lt _ (by simp [ownB])
  · exact h.rc.lt b hb
  · exact (h.rows j hj).lt _ (by simp [ownB, rowV])
/-- No block of the web is of ints. -/
theorem Web.noInt (h : Web X P f G A n ca pn cs fr vC vD m Lk) {b : Nat} (hb : webB P f G vC m b) {cur : Array Value} {e : TypeId} (hi : X.heap[b]? = some (.cells cur e (0, 0))) (he : e ≠ 141 ∧ e ≠ 47 ∧ e ≠ 78) : False := by
  rcases hb with rfl | rfl | hb | ⟨j, hj, rfl⟩
  · exact type_ne h.blk hi he.1.symm rfl
  · obtain ⟨c2, h2⟩ := h.ftype; exact type_ne h2 hi he.2.2.symm rfl
  · obtain ⟨c2, h2⟩ := h.rc.type b hb; exact type_ne h2 hi he.2.1.symm rfl
  · obtain ⟨c2, h2⟩ := h.gtype hj; exact type_ne h2 hi he.2.2.symm rfl
theorem Web.below (h : Web X P f G A n ca pn cs fr vC vD m Lk) (hb : Below X.heap.size X X') : Web X' P f G A n ca pn cs fr vC vD m Lk := h.keep fun b hw => hb.block b (h.lt b hw)
theorem Web.cells (h : Web X P f G A n ca pn cs fr vC vD m Lk) : X.cell? ⟨P, 0, none⟩ = some (.slice A n ca) ∧ X.cell? ⟨P, 1, none⟩ = some vC ∧ X.cell? ⟨P, 2, none⟩ = some (.slice (some ⟨f, 0, none⟩) fr fr) ∧ X.cell? ⟨P, 3, none⟩ = some vD ∧ P < X.heap.size := by
  have hh := h.blk
  refine ⟨?_, ?_, ?_, ?_, heap_lt hh⟩ <;> simp [World.cell?, hh]
theorem rowP_len (pn : Int → Nat) (cs : List Int) (Lk : Pt → Pt) (j : Int) : (rowP pn cs Lk j).length = pn (cs.getD j.toNat 0) := by simp [rowP]
theorem freeP_len (fr : Nat) (Lk : Pt → Pt) : (freeP fr Lk).length = fr := by simp [freeP]
theorem freeP_at {fr s : Nat} (Lk : Pt → Pt) (hs : s < fr) : (freeP fr Lk).getD s default = Lk (-1, (s : Int)) := by simp [freeP, List.getD_eq_getElem?_getD, hs]
theorem rowP_at {pn : Int → Nat} {cs : List Int} {c s : Nat} (Lk : Pt → Pt) (hs : s < pn (cs.getD c 0)) : (rowP pn cs Lk (c : Int)).getD s default = Lk ((c : Int), (s : Int)) := by
  have hs' : s < pn ((cs[c]?).getD 0) := by rwa [List.getD_eq_getElem?_getD] at hs
  simp [rowP, List.getD_eq_getElem?_getD, hs']
/-- The slice of slices, at the head of its block; and the cells of row c. -/
theorem Web.rowAt (h : Web X P f G A n ca pn cs fr vC vD m Lk) {c : Nat} (hc : c < m) : ∃ g cc, vC = .slice (some ⟨g, 0, none⟩) m cc ∧ g < X.heap.size ∧ X.cell? ⟨g, c, none⟩ = some (rowV G pn cs c) := by
  obtain ⟨g, cap, cur, rfl, hg, hle, _⟩ := h.rc.some_ (by omega)
  refine ⟨g, cap, rfl, heap_lt hg, ?_⟩
  rw [h.rc.cellAt c (by omega)]
  simp [hc]
theorem Web.portAt (h : Web X P f G A n ca pn cs fr vC vD m Lk) {c s : Nat} (hc : c < m) (hs : s < pn (cs.getD c 0)) : G c < X.heap.size ∧ X.cell? ⟨G c, s * 2, none⟩ = some (.int .i64 (Lk ((c : Int), (s : Int))).1) ∧ X.cell? ⟨G c, s * 2 + 1, none⟩ = some (.int .i64 (Lk ((c : Int), (s : Int))).2) ∧
    X.frozen? ⟨G c, s * 2, none⟩ = false ∧ X.frozen? ⟨G c, s * 2 + 1, none⟩ = false := by
  have hr := h.rows c hc
  have hlt := hr.lt (G c) (by simp [ownB, rowV])
  unfold rowV at hr
  obtain ⟨a0, a1⟩ := pvals_at (rowP pn cs Lk (c : Int)) (i := s) (by rw [rowP_len, Int.toNat_natCast]; exact hs)
  rw [rowP_at Lk hs] at a0 a1
  exact ⟨hlt, (hr.cellAt _ (by omega)).trans a0, (hr.cellAt _ (by omega)).trans a1, hr.frozenAt _, hr.frozenAt _⟩
theorem Web.freeAt (h : Web X P f G A n ca pn cs fr vC vD m Lk) {s : Nat} (hs : s < fr) : f < X.heap.size ∧ X.cell? ⟨f, s * 2, none⟩ = some (.int .i64 (Lk (-1, (s : Int))).1) ∧ X.cell? ⟨f, s * 2 + 1, none⟩ = some (.int .i64 (Lk (-1, (s : Int))).2) ∧
    X.frozen? ⟨f, s * 2, none⟩ = false ∧ X.frozen? ⟨f, s * 2 + 1, none⟩ = false := by
  have hr := h.rf
  have hlt := hr.lt f (by simp [ownB])
  obtain ⟨a0, a1⟩ := pvals_at (freeP fr Lk) (i := s) (by rw [freeP_len]; exact hs)
  rw [freeP_at Lk hs] at a0 a1
  exact ⟨hlt, (hr.cellAt _ (by omega)).trans a0, (hr.cellAt _ (by omega)).trans a1, hr.frozenAt _, hr.frozenAt _⟩
/-- What p is linked to, set. -/
def updL (Lk : Pt → Pt) (p q : Pt) : Pt → Pt := fun x => if x = p then q else Lk x
theorem rowP_upd {pn : Int → Nat} {cs : List Int} (Lk : Pt → Pt) {c s : Nat} (q : Pt) (hs : s < pn (cs.getD c 0)) : rowP pn cs (updL Lk ((c : Int), (s : Int)) q) (c : Int) = (rowP pn cs Lk (c : Int)).set s q := by
  refine List.ext_getElem (by simp [rowP]) fun i h1 h2 => ?_
  simp only [rowP, List.getElem_map, List.getElem_range, List.getElem_set, updL, Prod.mk.injEq, true_and]
  by_cases h : s = i
  · subst h; simp
  · rw [if_neg (by omega), if_neg h]
theorem rowP_other {pn : Int → Nat} {cs : List Int} (Lk : Pt → Pt) {c : Int} {p : Pt} (q : Pt) (h : p.1 ≠ c) : rowP pn cs (updL Lk p q) c = rowP pn cs Lk c := by
  unfold rowP updL
  refine List.map_congr_left fun k _ => ?_
  rw [if_neg (fun e => h (by rw [← e]))]
theorem freeP_upd {fr s : Nat} (Lk : Pt → Pt) (q : Pt) (hs : s < fr) : freeP fr (updL Lk (-1, (s : Int)) q) = (freeP fr Lk).set s q := by
  refine List.ext_getElem (by simp [freeP]) fun i h1 h2 => ?_
  simp only [freeP, List.getElem_map, List.getElem_range, List.getElem_set, updL, Prod.mk.injEq, true_and]
  by_cases h : s = i
  · subst h; simp
  · rw [if_neg (by omega), if_neg h]
theorem freeP_other {fr : Nat} (Lk : Pt → Pt) {p : Pt} (q : Pt) (h : p.1 ≠ -1) : freeP fr (updL Lk p q) = freeP fr Lk := by
  unfold freeP updL
  refine List.map_congr_left fun k _ => ?_
  rw [if_neg (fun e => h (by rw [← e]))]
theorem Row.setP {w : World} {g k s : Nat} {R : List Pt} (h : Row w 78 2 (.slice (some ⟨g, 0, none⟩) k k) k (pvals R)) (q : Pt) :
    Row ((w.setCell ⟨g, s * 2, none⟩ (.int .i64 q.1)).setCell ⟨g, s * 2 + 1, none⟩ (.int .i64 q.2)) 78 2 (.slice (some ⟨g, 0, none⟩) k k) k (pvals (R.set s q)) := by
  have := (h.set (s * 2) (.int .i64 q.1)).set (s * 2 + 1) (.int .i64 q.2)
  rw [pvals_set] at this
  exact this
theorem set2_other (w : World) {g b i j : Nat} (u v : Value) (h : b ≠ g) : ((w.setCell ⟨g, i, none⟩ u).setCell ⟨g, j, none⟩ v).heap[b]? = w.heap[b]? := (Below.heap_setCell _ _ _ b h).trans (Below.heap_setCell _ _ _ b h)
theorem Web.putCell (h : Web X P f G A n ca pn cs fr vC vD m Lk) {c s : Nat} (hc : c < m) (hs : s < pn (cs.getD c 0)) (q : Pt) :
    Web ((X.setCell ⟨G c, s * 2, none⟩ (.int .i64 q.1)).setCell ⟨G c, s * 2 + 1, none⟩ (.int .i64 q.2)) P f G A n ca pn cs fr vC vD m (updL Lk ((c : Int), (s : Int)) q) := by
  refine ⟨(set2_other X _ _ (h.pg hc)).trans h.blk, h.rc.keep fun b hb => set2_other X _ _ (h.cg hc hb), fun j hj => ?_, ?_, h.fG, h.GG⟩
  · by_cases e : j = c
    · subst e
      rw [rowP_upd Lk q hs]
      exact (h.rows j hj).setP q
    · rw [rowP_other Lk q (by show (c : Int) ≠ j; omega)]
      exact (h.rows j hj).keep fun b hb => set2_other X _ _ (by simp [ownB, rowV] at hb; subst hb; exact fun e2 => e (h.GG _ _ hj hc e2))
  · rw [freeP_other Lk q (by show (c : Int) ≠ -1; omega)]
    exact h.rf.keep fun b hb => set2_other X _ _ (by simp [ownB] at hb; subst hb; exact (h.fG c hc).symm)
theorem Web.putFree (h : Web X P f G A n ca pn cs fr vC vD m Lk) {s : Nat} (hs : s < fr) (q : Pt) :
    Web ((X.setCell ⟨f, s * 2, none⟩ (.int .i64 q.1)).setCell ⟨f, s * 2 + 1, none⟩ (.int .i64 q.2)) P f G A n ca pn cs fr vC vD m (updL Lk (-1, (s : Int)) q) := by
  refine ⟨(set2_other X _ _ h.pf).trans h.blk, h.rc.keep fun b hb => set2_other X _ _ (h.cf hb), fun j hj => ?_, ?_, h.fG, h.GG⟩
  · rw [rowP_other Lk q (by show (-1 : Int) ≠ j; omega)]
    exact (h.rows j hj).keep fun b hb => set2_other X _ _ (by simp [ownB, rowV] at hb; subst hb; exact h.fG j hj)
  · rw [freeP_upd Lk q hs]
    exact h.rf.setP q
end
end Go.Proofs.Ytcebejcdfdahjaa
