/-
  A web in memory.
-/
import Derived.Test.YtkonfogebepccaaDoorRowPorts
import Derived.Test.YtkonfogebepccaaDoorNetMove
import Derived.Test.YtkonfogebepccaaDoorRowPorts
/-
  Plain: the walk over a web, the places at which it finds the cells, the code.
-/
/-
  Plain: links of tidy nets, of nets renumbered; there and back (the theorems are in NetPlainK).
-/

namespace Go.Proofs.YtkonfogebepccaaDoor
set_option linter.unusedVariables false

/-- A cell that is found: laid behind the list, once. -/
def addC (l : List Int) (c : Int) : List Int := if 0 ≤ c ∧ c ∉ l then l ++ [c] else l
def rowP (pn : Int → Nat) (cs : List Int) (Lk : Pt → Pt) (c : Int) : List Pt := (List.range (pn (cs.getD c.toNat 0))).map fun (k : Nat) => Lk (c, (k : Int))
def freeP (fr : Nat) (Lk : Pt → Pt) : List Pt := (List.range fr).map fun (k : Nat) => Lk (-1, (k : Int))
def visitK (R : List Pt) (l : List Int) (k : Nat) : List Int := (R.take k).foldl (fun l p => addC l p.1) l
def visit (R : List Pt) (l : List Int) : List Int := visitK R l R.length
def walkF (row : Int → List Pt) : Nat → Nat → List Int → List Int
  | 0, _, l => l
  | f + 1, i, l => if i < l.length then walkF row f (i + 1) (visit (row (l.getD i 0)) l) else l
/-- The cells of a net that are found, all numbers below n. -/
structure Fnd (n : Nat) (l : List Int) : Prop where
  nd : l.Nodup
  lt : ∀ x ∈ l, 0 ≤ x ∧ x < n
theorem Fnd.len {n : Nat} {l : List Int} (h : Fnd n l) : l.length ≤ n := nodup_lt h.nd h.lt
theorem Fnd.nil (n : Nat) : Fnd n [] := ⟨List.nodup_nil, by simp⟩
theorem Fnd.add {n : Nat} {l : List Int} (h : Fnd n l) {c : Int} (hc : c < n) : Fnd n (addC l c) := by
  unfold addC
  split
  · rename_i h1
    refine ⟨List.nodup_append.2 ⟨h.nd, by simp, fun a ha b hb => ?_⟩, fun x hx => ?_⟩
    · simp only [List.mem_singleton] at hb; subst hb; exact fun e => h1.2 (e ▸ ha)
    · simp only [List.mem_append, List.mem_singleton] at hx
      rcases hx with hx | rfl
      · exact h.lt x hx
      · exact ⟨h1.1, hc⟩
  · exact h
theorem addC_len (l : List Int) (c : Int) : l.length ≤ (addC l c).length := by
  unfold addC; split <;> simp
theorem visitK_succ {R : List Pt} {l : List Int} {k : Nat} (hk : k < R.length) : visitK R l (k + 1) = addC (visitK R l k) (R.getD k default).1 := by
  unfold visitK
  rw [List.take_add_one, List.getElem?_eq_getElem hk, List.getD_eq_getElem?_getD, List.getElem?_eq_getElem hk, List.foldl_append]
  rfl
theorem visitK_0 (R : List Pt) (l : List Int) : visitK R l 0 = l := by simp [visitK]
theorem Fnd.visitK {n : Nat} {l : List Int} (h : Fnd n l) {R : List Pt} (hR : ∀ p ∈ R, p.1 < n) (k : Nat) : Fnd n (visitK R l k) := by
  induction k with
  | zero => rw [visitK_0]; exact h
  | succ k ih =>
    by_cases hk : k < R.length
    · rw [visitK_succ hk]
      refine ih.add (hR _ ?_)
      rw [List.getD_eq_getElem?_getD, List.getElem?_eq_getElem hk]; exact List.getElem_mem hk
    · have : Go.Proofs.YtkonfogebepccaaDoor.visitK R l (k + 1) = Go.Proofs.YtkonfogebepccaaDoor.visitK R l k := by
        unfold Go.Proofs.YtkonfogebepccaaDoor.visitK
        rw [List.take_of_length_le (by omega), List.take_of_length_le (by omega)]
      rw [this]; exact ih
theorem visitK_len (R : List Pt) (l : List Int) (k : Nat) : l.length ≤ (visitK R l k).length := by
  unfold visitK
  generalize R.take k = R'
  induction R' generalizing l with
  | nil => exact Nat.le_refl _
  | cons p r ih => exact Nat.le_trans (addC_len l p.1) (ih _)
theorem visitK_pre (R : List Pt) (l : List Int) (k : Nat) : l <+: visitK R l k := by
  unfold visitK
  generalize R.take k = R'
  induction R' generalizing l with
  | nil => exact List.prefix_refl _
  | cons p r ih =>
    refine List.IsPrefix.trans ?_ (ih (addC l p.1))
    unfold addC
    split
    · exact List.prefix_append _ _
    · exact List.prefix_refl _
theorem walkF_done {row : Int → List Pt} {f i : Nat} {l : List Int} (h : l.length ≤ i) : walkF row f i l = l := by
  cases f with
  | zero => rfl
  | succ f => rw [walkF, if_neg (by omega)]
theorem walkF_step {row : Int → List Pt} {f i : Nat} {l : List Int} (h : i < l.length) : walkF row (f + 1) i l = walkF row f (i + 1) (visit (row (l.getD i 0)) l) := by
  rw [walkF, if_pos h]
/-! ### Where the walk found the cells -/
def fdOf (n : Nat) (l : List Int) : List Int := (List.range n).map fun (c : Nat) => if (c : Int) ∈ l then (l.idxOf (c : Int) : Int) else -1
theorem fdOf_len (n : Nat) (l : List Int) : (fdOf n l).length = n := by simp [fdOf]
theorem fdOf_nil (n : Nat) : fdOf n [] = List.replicate n (-1) := by
  refine List.ext_getElem (by simp [fdOf]) fun i h1 h2 => ?_
  simp [fdOf]
theorem fdOf_at {n : Nat} {l : List Int} {c : Nat} (hc : c < n) : (fdOf n l).getD c 0 = if (c : Int) ∈ l then (l.idxOf (c : Int) : Int) else -1 := by
  simp [fdOf, hc]
theorem fdOf_neg {n : Nat} {l : List Int} {c : Nat} (hc : c < n) : (fdOf n l).getD c 0 < 0 ↔ (c : Int) ∉ l := by
  rw [fdOf_at hc]
  by_cases h : (c : Int) ∈ l
  · rw [if_pos h]; constructor
    · intro h2; omega
    · intro h2; exact absurd h h2
  · rw [if_neg h]; simp [h]
theorem fdOf_snoc {n : Nat} {l : List Int} {c : Nat} (hc : c < n) (h : (c : Int) ∉ l) : fdOf n (l ++ [(c : Int)]) = (fdOf n l).set c (l.length : Int) := by
  refine List.ext_getElem (by simp [fdOf]) fun i h1 h2 => ?_
  simp only [fdOf, List.getElem_map, List.getElem_range, List.getElem_set]
  by_cases e : c = i
  · subst e
    rw [if_pos rfl, if_pos (by simp), List.idxOf_append, if_neg h]
    simp
  · rw [if_neg e]
    have hne : (i : Int) ≠ (c : Int) := by omega
    by_cases hi : (i : Int) ∈ l
    · rw [if_pos (by simp [hi]), if_pos hi, List.idxOf_append, if_pos hi]
    · rw [if_neg (by simp [hi, hne]), if_neg hi]
theorem addC_fd {n : Nat} {l : List Int} {c : Nat} (hc : c < n) : (fdOf n l).getD c 0 < 0 → addC l (c : Int) = l ++ [(c : Int)] ∧ fdOf n (addC l (c : Int)) = (fdOf n l).set c (l.length : Int) := fun h => by
  have hn := (fdOf_neg hc).1 h
  have e : addC l (c : Int) = l ++ [(c : Int)] := by unfold addC; rw [if_pos ⟨by omega, hn⟩]
  exact ⟨e, by rw [e, fdOf_snoc hc hn]⟩
theorem addC_no {n : Nat} {l : List Int} {c : Nat} (hc : c < n) (h : ¬ (fdOf n l).getD c 0 < 0) : addC l (c : Int) = l := by
  have hn : (c : Int) ∈ l := by
    rcases Classical.em ((c : Int) ∈ l) with h' | h'
    · exact h'
    · exact absurd ((fdOf_neg hc).2 h') h
  unfold addC
  rw [if_neg (fun h' => h'.2 hn)]
theorem addC_neg {l : List Int} {c : Int} (hc : c < 0) : addC l c = l := by unfold addC; rw [if_neg (by omega)]
/-- The marks taken away again, one by one. -/
def fdK (n : Nat) (l : List Int) (j : Nat) : List Int := (List.range n).map fun (c : Nat) => if (c : Int) ∈ l ∧ (c : Int) ∉ l.take j then (l.idxOf (c : Int) : Int) else -1
theorem fdK_0 (n : Nat) (l : List Int) : fdK n l 0 = fdOf n l := by simp [fdK, fdOf]
theorem fdK_all (n : Nat) (l : List Int) : fdK n l l.length = fdOf n [] := by
  refine List.ext_getElem (by simp [fdK, fdOf]) fun i h1 h2 => ?_
  simp only [fdK, fdOf, List.getElem_map, List.getElem_range, List.take_length]
  rw [if_neg (fun h => h.2 h.1)]; simp
theorem fdK_succ {n : Nat} {l : List Int} {j c : Nat} (hj : j < l.length) (e : l.getD j 0 = (c : Int)) : fdK n l (j + 1) = (fdK n l j).set c (-1) := by
  refine List.ext_getElem (by simp [fdK]) fun i h1 h2 => ?_
  have hm : ∀ x : Int, x ∈ l.take (j + 1) ↔ x ∈ l.take j ∨ x = l.getD j 0 := fun x => by
    rw [List.take_add_one, List.getElem?_eq_getElem hj, List.getD_eq_getElem?_getD, List.getElem?_eq_getElem hj, List.mem_append]; simp only [Option.toList_some, List.mem_singleton, Option.getD_some]
  simp only [fdK, List.getElem_map, List.getElem_range, List.getElem_set]
  by_cases h : c = i
  · subst h
    rw [if_pos rfl, if_neg]
    rintro ⟨_, h'⟩
    exact h' ((hm _).2 (.inr e.symm))
  · rw [if_neg h]
    have : ((i : Int) ∈ l.take (j + 1)) ↔ (i : Int) ∈ l.take j := by
      rw [hm, e]; simp only [or_iff_left_iff_imp]; intro h'; omega
    simp only [this]
/-! ### The code -/
def markN0 (fd : List Int) (p : Pt) : Int := if p.1 < 0 then -1 - p.2 else 8 * fd.getD p.1.toNat 0 + p.2
/-- The part of the code for cell c. -/
def cellC (cs : List Int) (row : Int → List Pt) (fd : List Int) (c : Int) : List Int := cs.getD c.toNat 0 :: (row c).map (markN0 fd)
def codeK (cs : List Int) (row : Int → List Pt) (fd : List Int) (p : Pt) (l : List Int) : List Int := markN0 fd p :: l.flatMap (cellC cs row fd)
theorem codeK_len {cs : List Int} {row : Int → List Pt} {fd : List Int} {p : Pt} {l : List Int} (h : ∀ c ∈ l, (row c).length ≤ 7) : (codeK cs row fd p l).length ≤ 1 + 8 * l.length := by
  have : (l.flatMap (cellC cs row fd)).length ≤ 8 * l.length := by
    induction l with
    | nil => simp
    | cons c r ih =>
      have h1 := h c (by simp)
      have h2 := ih fun x hx => h x (by simp [hx])
      simp only [List.flatMap_cons, List.length_append, cellC, List.length_cons, List.length_map]
      omega
  simp only [codeK, List.length_cons]; omega
/-- The port at which a walk begins. -/
def startP (Lk : Pt → Pt) (p : Pt) : Pt := if p.1 < 0 then Lk p else p
def walkL (n : Nat) (row : Int → List Pt) (c : Int) : List Int := walkF row (n + 1) 0 (addC [] c)
def codeN (pn : Int → Nat) (cs : List Int) (Lk : Pt → Pt) (p : Pt) : List Int :=
  codeK cs (rowP pn cs Lk) (fdOf cs.length (walkL cs.length (rowP pn cs Lk) (startP Lk p).1)) (startP Lk p) (walkL cs.length (rowP pn cs Lk) (startP Lk p).1)
theorem Fnd.walkF {n : Nat} {row : Int → List Pt} (hR : ∀ c p, p ∈ row c → p.1 < n) (f i : Nat) {l : List Int} (h : Fnd n l) : Fnd n (walkF row f i l) := by
  induction f generalizing i l with
  | zero => exact h
  | succ f ih =>
    rw [Go.Proofs.YtkonfogebepccaaDoor.walkF]
    split
    · exact ih _ (h.visitK (hR _) _)
    · exact h
end Go.Proofs.YtkonfogebepccaaDoor
namespace Go.Proofs.YtkonfogebepccaaDoor
open Go.RowKit
set_option linter.unusedVariables false

def rowV (G : Nat → Nat) (pn : Int → Nat) (cs : List Int) (j : Nat) : Value := .slice (some ⟨G j, 0, none⟩) (pn (cs.getD j 0)) (pn (cs.getD j 0))
structure Web (X : World) (P f : Nat) (G : Nat → Nat) (A : Option Addr) (n ca : Nat) (pn : Int → Nat) (cs : List Int) (fr : Nat) (vC vD : Value) (m : Nat) (Lk : Pt → Pt) : Prop where
  blk : X.heap[P]? = some (.cells #[.slice A n ca, vC, .slice (some ⟨f, 0, none⟩) fr fr, vD] 136 (0, 0))
  rc : Row X 70 1 vC m ((List.range m).map (rowV G pn cs))
  rows : ∀ j, j < m → Row X 83 2 (rowV G pn cs j) (pn (cs.getD j 0)) (pvals (rowP pn cs Lk (j : Int)))
  rf : Row X 83 2 (.slice (some ⟨f, 0, none⟩) fr fr) fr (pvals (freeP fr Lk))
  fG : ∀ j, j < m → G j ≠ f
  GG : ∀ i j, i < m → j < m → G i = G j → i = j
theorem Row.type {w : World} {e : TypeId} {size n : Nat} {v : Value} {xs : List Value} (h : Row w e size v n xs) : ∀ b ∈ ownB v, ∃ cur, w.heap[b]? = some (.cells cur e (0, 0)) := by
  rcases h.2 with ⟨rfl, _⟩ | ⟨g, cap, cur, rfl, hh, _⟩
  · simp [ownB]
  · intro b hb; simp [ownB] at hb; subst hb; exact ⟨cur, hh⟩
theorem type_ne {w : World} {b c : Nat} {x y : Array Value} {e f : TypeId} (h : w.heap[b]? = some (.cells x e (0, 0))) (h' : w.heap[c]? = some (.cells y f (0, 0))) (hne : e ≠ f) : b ≠ c := by
  rintro rfl
  rw [h] at h'
  simp only [Option.some.injEq, Obj.cells.injEq] at h'
  exact hne h'.2.1
section
variable {X X' : World} {P f : Nat} {G : Nat → Nat} {A : Option Addr} {n ca : Nat} {pn : Int → Nat} {cs : List Int} {fr : Nat} {vC vD : Value} {m : Nat} {Lk : Pt → Pt}
theorem Web.gtype (h : Web X P f G A n ca pn cs fr vC vD m Lk) {j : Nat} (hj : j < m) : ∃ cur, X.heap[G j]? = some (.cells cur 83 (0, 0)) := (h.rows j hj).type (G j) (by simp [ownB, rowV])
theorem Web.ftype (h : Web X P f G A n ca pn cs fr vC vD m Lk) : ∃ cur, X.heap[f]? = some (.cells cur 83 (0, 0)) := h.rf.type f (by simp [ownB])
theorem Web.pg (h : Web X P f G A n ca pn cs fr vC vD m Lk) {j : Nat} (hj : j < m) : P ≠ G j := by
  obtain ⟨cur, hc⟩ := h.gtype hj
  exact type_ne h.blk hc (by decide)
theorem Web.pf (h : Web X P f G A n ca pn cs fr vC vD m Lk) : P ≠ f := by
  obtain ⟨cur, hc⟩ := h.ftype
  exact type_ne h.blk hc (by decide)
theorem Web.cg (h : Web X P f G A n ca pn cs fr vC vD m Lk) {j b : Nat} (hj : j < m) (hb : b ∈ ownB vC) : b ≠ G j := by
  obtain ⟨cur, hc⟩ := h.gtype hj
  obtain ⟨cur2, hc2⟩ := h.rc.type b hb
  exact type_ne hc2 hc (by decide)
theorem Web.cf (h : Web X P f G A n ca pn cs fr vC vD m Lk) {b : Nat} (hb : b ∈ ownB vC) : b ≠ f := by
  obtain ⟨cur, hc⟩ := h.ftype
  obtain ⟨cur2, hc2⟩ := h.rc.type b hb
  exact type_ne hc2 hc (by decide)
theorem Web.pc (h : Web X P f G A n ca pn cs fr vC vD m Lk) {b : Nat} (hb : b ∈ ownB vC) : P ≠ b := by
  obtain ⟨cur2, hc2⟩ := h.rc.type b hb
  exact type_ne h.blk hc2 (by decide)
/-- The web's blocks (but that of the marks). -/
def webB (P f : Nat) (G : Nat → Nat) (vC : Value) (m : Nat) (b : Nat) : Prop := b = P ∨ b = f ∨ b ∈ ownB vC ∨ ∃ j, j < m ∧ b = G j
theorem Web.keep (h : Web X P f G A n ca pn cs fr vC vD m Lk) (hk : ∀ b, webB P f G vC m b → X'.heap[b]? = X.heap[b]?) : Web X' P f G A n ca pn cs fr vC vD m Lk :=
  ⟨(hk P (.inl rfl)).trans h.blk, h.rc.keep fun b hb => hk b (.inr (.inr (.inl hb))), fun j hj => (h.rows j hj).keep fun b hb => hk b (by simp [ownB, rowV] at hb; exact .inr (.inr (.inr ⟨j, hj, hb⟩))),
    h.rf.keep fun b hb => hk b (by simp [ownB] at hb; exact .inr (.inl hb)), h.fG, h.GG⟩
theorem Web.lt (h : Web X P f G A n ca pn cs fr vC vD m Lk) : ∀ b, webB P f G vC m b → b < X.heap.size := by
  rintro b (rfl | rfl | hb | ⟨j, hj, rfl⟩)
  · exact heap_lt h.blk
  · exact h.rf.lt _ (by simp [ownB])
  · exact h.rc.lt b hb
  · exact (h.rows j hj).lt _ (by simp [ownB, rowV])
/-- No block of the web is of ints. -/
theorem Web.noInt (h : Web X P f G A n ca pn cs fr vC vD m Lk) {b : Nat} (hb : webB P f G vC m b) {cur : Array Value} {e : TypeId} (hi : X.heap[b]? = some (.cells cur e (0, 0))) (he : e ≠ 136 ∧ e ≠ 70 ∧ e ≠ 83) : False := by
  rcases hb with rfl | rfl | hb | ⟨j, hj, rfl⟩
  · exact type_ne h.blk hi he.1.symm rfl
  · obtain ⟨c2, h2⟩ := h.ftype; exact type_ne h2 hi he.2.2.symm rfl
  · obtain ⟨c2, h2⟩ := h.rc.type b hb; exact type_ne h2 hi he.2.1.symm rfl
  · obtain ⟨c2, h2⟩ := h.gtype hj; exact type_ne h2 hi he.2.2.symm rfl
theorem Web.below (h : Web X P f G A n ca pn cs fr vC vD m Lk) (hb : Below X.heap.size X X') : Web X' P f G A n ca pn cs fr vC vD m Lk := h.keep fun b hw => hb.block b (h.lt b hw)
theorem Web.cells (h : Web X P f G A n ca pn cs fr vC vD m Lk) : X.cell? ⟨P, 0, none⟩ = some (.slice A n ca) ∧ X.cell? ⟨P, 1, none⟩ = some vC ∧ X.cell? ⟨P, 2, none⟩ = some (.slice (some ⟨f, 0, none⟩) fr fr) ∧ X.cell? ⟨P, 3, none⟩ = some vD ∧ P < X.heap.size := by
  have hh := h.blk
  refine ⟨?_, ?_, ?_, ?_, heap_lt hh⟩ <;> simp [World.cell?, hh]
theorem rowP_len (pn : Int → Nat) (cs : List Int) (Lk : Pt → Pt) (j : Int) : (rowP pn cs Lk j).length = pn (cs.getD j.toNat 0) := by simp [rowP]
theorem freeP_len (fr : Nat) (Lk : Pt → Pt) : (freeP fr Lk).length = fr := by simp [freeP]
theorem freeP_at {fr s : Nat} (Lk : Pt → Pt) (hs : s < fr) : (freeP fr Lk).getD s default = Lk (-1, (s : Int)) := by simp [freeP, List.getD_eq_getElem?_getD, hs]
theorem rowP_at {pn : Int → Nat} {cs : List Int} {c s : Nat} (Lk : Pt → Pt) (hs : s < pn (cs.getD c 0)) : (rowP pn cs Lk (c : Int)).getD s default = Lk ((c : Int), (s : Int)) := by
  have hs' : s < pn ((cs[c]?).getD 0) := by rwa [List.getD_eq_getElem?_getD] at hs
  simp [rowP, List.getD_eq_getElem?_getD, hs']
/-- The slice of slices, at the head of its block; and the cells of row c. -/
theorem Web.rowAt (h : Web X P f G A n ca pn cs fr vC vD m Lk) {c : Nat} (hc : c < m) : ∃ g cc, vC = .slice (some ⟨g, 0, none⟩) m cc ∧ g < X.heap.size ∧ X.cell? ⟨g, c, none⟩ = some (rowV G pn cs c) := by
  obtain ⟨g, cap, cur, rfl, hg, hle, _⟩ := h.rc.some_ (by omega)
  refine ⟨g, cap, rfl, heap_lt hg, ?_⟩
  rw [h.rc.cellAt c (by omega)]
  simp [hc]
theorem Web.portAt (h : Web X P f G A n ca pn cs fr vC vD m Lk) {c s : Nat} (hc : c < m) (hs : s < pn (cs.getD c 0)) : G c < X.heap.size ∧ X.cell? ⟨G c, s * 2, none⟩ = some (.int .i64 (Lk ((c : Int), (s : Int))).1) ∧ X.cell? ⟨G c, s * 2 + 1, none⟩ = some (.int .i64 (Lk ((c : Int), (s : Int))).2) ∧
    X.frozen? ⟨G c, s * 2, none⟩ = false ∧ X.frozen? ⟨G c, s * 2 + 1, none⟩ = false := by
  have hr := h.rows c hc
  have hlt := hr.lt (G c) (by simp [ownB, rowV])
  unfold rowV at hr
  obtain ⟨a0, a1⟩ := pvals_at (rowP pn cs Lk (c : Int)) (i := s) (by rw [rowP_len, Int.toNat_natCast]; exact hs)
  rw [rowP_at Lk hs] at a0 a1
  exact ⟨hlt, (hr.cellAt _ (by omega)).trans a0, (hr.cellAt _ (by omega)).trans a1, hr.frozenAt _, hr.frozenAt _⟩
theorem Web.freeAt (h : Web X P f G A n ca pn cs fr vC vD m Lk) {s : Nat} (hs : s < fr) : f < X.heap.size ∧ X.cell? ⟨f, s * 2, none⟩ = some (.int .i64 (Lk (-1, (s : Int))).1) ∧ X.cell? ⟨f, s * 2 + 1, none⟩ = some (.int .i64 (Lk (-1, (s : Int))).2) ∧
    X.frozen? ⟨f, s * 2, none⟩ = false ∧ X.frozen? ⟨f, s * 2 + 1, none⟩ = false := by
  have hr := h.rf
  have hlt := hr.lt f (by simp [ownB])
  obtain ⟨a0, a1⟩ := pvals_at (freeP fr Lk) (i := s) (by rw [freeP_len]; exact hs)
  rw [freeP_at Lk hs] at a0 a1
  exact ⟨hlt, (hr.cellAt _ (by omega)).trans a0, (hr.cellAt _ (by omega)).trans a1, hr.frozenAt _, hr.frozenAt _⟩
/-- What p is linked to, set. -/
def updL (Lk : Pt → Pt) (p q : Pt) : Pt → Pt := fun x => if x = p then q else Lk x
theorem rowP_upd {pn : Int → Nat} {cs : List Int} (Lk : Pt → Pt) {c s : Nat} (q : Pt) (hs : s < pn (cs.getD c 0)) : rowP pn cs (updL Lk ((c : Int), (s : Int)) q) (c : Int) = (rowP pn cs Lk (c : Int)).set s q := by
  refine List.ext_getElem (by simp [rowP]) fun i h1 h2 => ?_
  simp only [rowP, List.getElem_map, List.getElem_range, List.getElem_set, updL, Prod.mk.injEq, true_and]
  by_cases h : s = i
  · subst h; simp
  · rw [if_neg (by omega), if_neg h]
theorem rowP_other {pn : Int → Nat} {cs : List Int} (Lk : Pt → Pt) {c : Int} {p : Pt} (q : Pt) (h : p.1 ≠ c) : rowP pn cs (updL Lk p q) c = rowP pn cs Lk c := by
  unfold rowP updL
  refine List.map_congr_left fun k _ => ?_
  rw [if_neg (fun e => h (by rw [← e]))]
theorem freeP_upd {fr s : Nat} (Lk : Pt → Pt) (q : Pt) (hs : s < fr) : freeP fr (updL Lk (-1, (s : Int)) q) = (freeP fr Lk).set s q := by
  refine List.ext_getElem (by simp [freeP]) fun i h1 h2 => ?_
  simp only [freeP, List.getElem_map, List.getElem_range, List.getElem_set, updL, Prod.mk.injEq, true_and]
  by_cases h : s = i
  · subst h; simp
  · rw [if_neg (by omega), if_neg h]
theorem freeP_other {fr : Nat} (Lk : Pt → Pt) {p : Pt} (q : Pt) (h : p.1 ≠ -1) : freeP fr (updL Lk p q) = freeP fr Lk := by
  unfold freeP updL
  refine List.map_congr_left fun k _ => ?_
  rw [if_neg (fun e => h (by rw [← e]))]
theorem Row.setP {w : World} {g k s : Nat} {R : List Pt} (h : Row w 83 2 (.slice (some ⟨g, 0, none⟩) k k) k (pvals R)) (q : Pt) :
    Row ((w.setCell ⟨g, s * 2, none⟩ (.int .i64 q.1)).setCell ⟨g, s * 2 + 1, none⟩ (.int .i64 q.2)) 83 2 (.slice (some ⟨g, 0, none⟩) k k) k (pvals (R.set s q)) := by
  have := (h.set (s * 2) (.int .i64 q.1)).set (s * 2 + 1) (.int .i64 q.2)
  rw [pvals_set] at this
  exact this
theorem set2_other (w : World) {g b i j : Nat} (u v : Value) (h : b ≠ g) : ((w.setCell ⟨g, i, none⟩ u).setCell ⟨g, j, none⟩ v).heap[b]? = w.heap[b]? := (Below.heap_setCell _ _ _ b h).trans (Below.heap_setCell _ _ _ b h)
theorem Web.putCell (h : Web X P f G A n ca pn cs fr vC vD m Lk) {c s : Nat} (hc : c < m) (hs : s < pn (cs.getD c 0)) (q : Pt) :
    Web ((X.setCell ⟨G c, s * 2, none⟩ (.int .i64 q.1)).setCell ⟨G c, s * 2 + 1, none⟩ (.int .i64 q.2)) P f G A n ca pn cs fr vC vD m (updL Lk ((c : Int), (s : Int)) q) := by
  refine ⟨(set2_other X _ _ (h.pg hc)).trans h.blk, h.rc.keep fun b hb => set2_other X _ _ (h.cg hc hb), fun j hj => ?_, ?_, h.fG, h.GG⟩
  · by_cases e : j = c
    · subst e
      rw [rowP_upd Lk q hs]
      exact (h.rows j hj).setP q
    · rw [rowP_other Lk q (by show (c : Int) ≠ j; omega)]
      exact (h.rows j hj).keep fun b hb => set2_other X _ _ (by simp [ownB, rowV] at hb; subst hb; exact fun e2 => e (h.GG _ _ hj hc e2))
  · rw [freeP_other Lk q (by show (c : Int) ≠ -1; omega)]
    exact h.rf.keep fun b hb => set2_other X _ _ (by simp [ownB] at hb; subst hb; exact (h.fG c hc).symm)
theorem Web.putFree (h : Web X P f G A n ca pn cs fr vC vD m Lk) {s : Nat} (hs : s < fr) (q : Pt) :
    Web ((X.setCell ⟨f, s * 2, none⟩ (.int .i64 q.1)).setCell ⟨f, s * 2 + 1, none⟩ (.int .i64 q.2)) P f G A n ca pn cs fr vC vD m (updL Lk (-1, (s : Int)) q) := by
  refine ⟨(set2_other X _ _ h.pf).trans h.blk, h.rc.keep fun b hb => set2_other X _ _ (h.cf hb), fun j hj => ?_, ?_, h.fG, h.GG⟩
  · rw [rowP_other Lk q (by show (-1 : Int) ≠ j; omega)]
    exact (h.rows j hj).keep fun b hb => set2_other X _ _ (by simp [ownB, rowV] at hb; subst hb; exact h.fG j hj)
  · rw [freeP_upd Lk q hs]
    exact h.rf.setP q
end
end Go.Proofs.YtkonfogebepccaaDoor
