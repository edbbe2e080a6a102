/-
  The document's arena, continued: Put, Give.
-/
import Derived.Test.YthbobooiedcofaaRArena
namespace Go.Proofs.Ythbobooiedcofaa
open Go.RowKit
attribute [local go_sem] cell_set
set_option maxRecDepth 100000

theorem flatN_set {m : Nat} {rows : List (List Value)} (h : ∀ r ∈ rows, r.length = m) {i : Nat} {r : List Value} (hi : rows[i]? = some r) {j : Nat} (hj : j < m) (u : Value) :
    rows.flatten.set (i * m + j) u = (rows.set i (r.set j u)).flatten := by
  have hil : i < rows.length := by
    rcases Nat.lt_or_ge i rows.length with hl | hl
    · exact hl
    · rw [List.getElem?_eq_none hl] at hi; cases hi
  have hr : r.length = m := h r (List.mem_of_getElem? hi)
  have h' : ∀ x ∈ rows.set i (r.set j u), x.length = m := by
    intro x hx
    rcases List.mem_or_eq_of_mem_set hx with hx | rfl
    · exact h x hx
    · simpa using hr
  apply List.ext_getElem?
  intro k
  have hm0 : 0 < m := by omega
  have hk : k = (k / m) * m + k % m := by have := Nat.div_add_mod k m; rw [Nat.mul_comm] at this; omega
  have hm : k % m < m := Nat.mod_lt _ hm0
  generalize k / m = q at hk
  generalize k % m = t at hk hm
  subst hk
  rw [flatN_at h' hm, List.getElem?_set, flatN_at h hm]
  by_cases hki : i = q
  · subst hki
    rw [hi]
    simp only [List.getElem?_set, hil, if_true, Option.bind_some]
    have hlt : i * m + j < rows.flatten.length := by rw [flatN_len h]; calc i * m + j < i * m + m := by omega
      _ = (i + 1) * m := by rw [Nat.succ_mul]
      _ ≤ rows.length * m := Nat.mul_le_mul_right _ (by omega)
    by_cases hkj : j = t
    · rw [if_pos (by omega), if_pos hkj, if_pos hlt, if_pos (by omega)]
    · rw [if_neg (by omega), if_neg hkj]
  · have hne : i * m + j ≠ q * m + t := by
      intro e
      rcases Nat.lt_or_gt_of_ne hki with hlt | hlt
      · have := Nat.mul_le_mul_right m (show i + 1 ≤ q by omega); rw [Nat.succ_mul] at this; omega
      · have := Nat.mul_le_mul_right m (show q + 1 ≤ i by omega); rw [Nat.succ_mul] at this; omega
    rw [if_neg hne, List.getElem?_set, if_neg hki]
theorem cells_set3 {cs : List (Option (Int × Value))} {i : Nat} (hi : i < cs.length) {r : Option (Int × Value)} {u0 u1 u2 : Value} (hr : rcell r = [u0, u1, u2]) :
    (((cs.map rcell).flatten.set (i * 3) u0).set (i * 3 + 1) u1).set (i * 3 + 2) u2 = ((cs.set i r).map rcell).flatten := by
  have hir : (cs.map rcell)[i]? = some (rcell cs[i]) := by rw [List.getElem?_map, List.getElem?_eq_getElem hi]; rfl
  have e0 := flatN_set (rcells_len cs) hir (j := 0) (by omega) u0
  rw [Nat.add_zero] at e0
  have l1 : ∀ x ∈ (cs.map rcell).set i ((rcell cs[i]).set 0 u0), x.length = 3 := fun x hx => by
    rcases List.mem_or_eq_of_mem_set hx with hx | rfl
    · exact rcells_len cs x hx
    · simp [rcell_len]
  have e1 := flatN_set l1 (List.getElem?_set_self (by simpa using hi)) (j := 1) (by omega) u1
  rw [List.set_set] at e1
  have l2 : ∀ x ∈ (cs.map rcell).set i (((rcell cs[i]).set 0 u0).set 1 u1), x.length = 3 := fun x hx => by
    rcases List.mem_or_eq_of_mem_set hx with hx | rfl
    · exact rcells_len cs x hx
    · simp [rcell_len]
  have e2 := flatN_set l2 (List.getElem?_set_self (by simpa using hi)) (j := 2) (by omega) u2
  rw [List.set_set] at e2
  rw [e0, e1, e2, List.map_set, hr]
  congr 2
  have h3 := rcell_len cs[i]
  generalize rcell cs[i] = q at h3
  match q, h3 with
  | [_, _, _], _ => rfl
section
variable {w w' w1 : World} {R most : Nat} {live peak : Int} {cv bv : Value} {cs : List (Option (Int × Value))} {back : List Nat}
theorem RA0.a1 (h : RA0 w R most live peak cv bv cs back) : R ∉ ownB cv := fun hb => by obtain ⟨_, hh⟩ := h.cells.ty hb; exact ty_ne h.head hh (by decide) rfl
theorem RA0.a2 (h : RA0 w R most live peak cv bv cs back) : R ∉ ownB bv := fun hb => by obtain ⟨_, hh⟩ := h.back.ty hb; exact ty_ne h.head hh (by decide) rfl
theorem RA0.a3 (h : RA0 w R most live peak cv bv cs back) : ∀ b ∈ ownB cv, b ∉ ownB bv := fun b hb hb' => by
  obtain ⟨_, h1⟩ := h.cells.ty hb; obtain ⟨_, h2⟩ := h.back.ty hb'; exact ty_ne h1 h2 (by decide) rfl
theorem RA0.keep (h : RA0 w R most live peak cv bv cs back) (hk : ∀ b ∈ R :: (ownB cv ++ ownB bv), w'.heap[b]? = w.heap[b]?) : RA0 w' R most live peak cv bv cs back :=
  ⟨(hk R (by simp)).trans h.head, h.cells.keep (fun b hm => hk b (by simp [hm])), h.back.keep (fun b hm => hk b (by simp [hm]))⟩
theorem RA0.lt (h : RA0 w R most live peak cv bv cs back) : ∀ b ∈ R :: (ownB cv ++ ownB bv), b < w.heap.size := by
  intro b hm
  simp only [List.mem_cons, List.mem_append] at hm
  rcases hm with rfl | hm | hm
  · exact heap_lt h.head
  · exact h.cells.lt b hm
  · exact h.back.lt b hm
theorem RA0.alloc (h : RA0 w R most live peak cv bv cs back) (o : Obj) : RA0 (w.alloc o) R most live peak cv bv cs back := h.keep fun b hb => Below.heap_alloc w o b (h.lt b hb)
theorem RA0.drew (h : RA0 w R most live peak cv bv cs back) : RA0 w.drew R most live peak cv bv cs back := h.keep fun _ _ => rfl
/-- A block that holds something of another kind. -/
theorem RA0.other (h : RA0 w R most live peak cv bv cs back) {d : Nat} {cur : Array Value} {t : TypeId} (hd : w.heap[d]? = some (.cells cur t (0, 0))) (h1 : t ≠ 121) (h2 : t ≠ 147) (h3 : t ≠ 3) : ∀ b ∈ R :: (ownB cv ++ ownB bv), b ≠ d := by
  intro b hm
  simp only [List.mem_cons, List.mem_append] at hm
  rcases hm with rfl | hm | hm
  · exact ty_ne h.head hd (fun e => h1 e.symm)
  · obtain ⟨_, hh⟩ := h.cells.ty hm; exact ty_ne hh hd (fun e => h2 e.symm)
  · obtain ⟨_, hh⟩ := h.back.ty hm; exact ty_ne hh hd (fun e => h3 e.symm)
theorem RA0.set3 {g n cc : Nat} (h : RA0 w R most live peak (.slice (some ⟨g, 0, none⟩) n cc) bv cs back) {i : Nat} (hi : i < cs.length) {r : Option (Int × Value)} {u0 u1 u2 : Value} (hr : rcell r = [u0, u1, u2]) :
    RA0 (((w.setCell ⟨g, i * 3, none⟩ u0).setCell ⟨g, i * 3 + 1, none⟩ u1).setCell ⟨g, i * 3 + 2, none⟩ u2) R most live peak (.slice (some ⟨g, 0, none⟩) n cc) bv (cs.set i r) back := by
  have hAg : R ≠ g := fun e => h.a1 (by simp [ownB, e])
  have hBg : g ∉ ownB bv := h.a3 g (by simp [ownB])
  have hk : ∀ b, b ≠ g → (((w.setCell ⟨g, i * 3, none⟩ u0).setCell ⟨g, i * 3 + 1, none⟩ u1).setCell ⟨g, i * 3 + 2, none⟩ u2).heap[b]? = w.heap[b]? := fun b hb =>
    ((Below.heap_setCell _ _ _ b hb).trans (Below.heap_setCell _ _ _ b hb)).trans (Below.heap_setCell _ _ _ b hb)
  obtain ⟨c1, c2, c4⟩ := h
  have hn : n = cs.length := by obtain ⟨_, _, e, _⟩ := c2.len; injection e
  subst hn
  refine ⟨(hk R hAg).trans c1, ?_, c4.keep fun b hm => hk b (fun e => by subst e; exact hBg hm)⟩
  have := ((c2.set (i * 3) u0).set (i * 3 + 1) u1).set (i * 3 + 2) u2
  rw [cells_set3 hi hr] at this
  simpa using this
theorem RA0.setBack (h : RA0 w R most live peak cv bv cs back) {G : List Nat} (hk : Kp G w w1) (hG : R ∉ G ∧ ∀ b ∈ ownB cv, b ∉ G) {bv' : Value} {back' : List Nat}
    (hr : Row w1 3 1 bv' back'.length (back'.map fun (b : Nat) => Value.int .i64 (b : Int))) : RA0 (w1.setCell ⟨R, 2, none⟩ bv') R most live peak cv bv' cs back' := by
  have hA1 := (hk.block R (heap_lt h.head) hG.1).trans h.head
  refine ⟨by simp [World.setCell, Array.getElem?_modify, hA1], ?_, ?_⟩
  · exact (h.cells.kp hk hG.2).keep fun b hb => Below.heap_setCell w1 _ _ b (fun e => by have e' : b = R := e; subst e'; exact h.a1 hb)
  · refine hr.keep fun b hb => Below.heap_setCell w1 _ _ b (fun e => ?_)
    have e' : b = R := e
    subst e'
    obtain ⟨_, hh⟩ := hr.ty hb
    exact ty_ne hA1 hh (by decide) rfl
theorem RA0.setCells (h : RA0 w R most live peak cv bv cs back) {G : List Nat} (hk : Kp G w w1) (hG : R ∉ G ∧ ∀ b ∈ ownB bv, b ∉ G) {cv' : Value} {cs' : List (Option (Int × Value))}
    (hr : Row w1 147 3 cv' cs'.length (cs'.map rcell).flatten) : RA0 (w1.setCell ⟨R, 1, none⟩ cv') R most live peak cv' bv cs' back := by
  have hA1 := (hk.block R (heap_lt h.head) hG.1).trans h.head
  refine ⟨by simp [World.setCell, Array.getElem?_modify, hA1], ?_, ?_⟩
  · refine hr.keep fun b hb => Below.heap_setCell w1 _ _ b (fun e => ?_)
    have e' : b = R := e
    subst e'
    obtain ⟨_, hh⟩ := hr.ty hb
    exact ty_ne hA1 hh (by decide) rfl
  · exact (h.back.kp hk hG.2).keep fun b hb => Below.heap_setCell w1 _ _ b (fun e => by have e' : b = R := e; subst e'; exact h.a2 hb)
theorem RA0.setLive (h : RA0 w R most live peak cv bv cs back) (q : Int) : RA0 (w.setCell ⟨R, 3, none⟩ (.int .i64 q)) R most q peak cv bv cs back := by
  refine ⟨by simp [World.setCell, Array.getElem?_modify, h.head], ?_, ?_⟩
  · exact h.cells.keep fun b hb => Below.heap_setCell w _ _ b (fun e => by have e' : b = R := e; subst e'; exact h.a1 hb)
  · exact h.back.keep fun b hb => Below.heap_setCell w _ _ b (fun e => by have e' : b = R := e; subst e'; exact h.a2 hb)
theorem RA0.setPeak (h : RA0 w R most live peak cv bv cs back) (q : Int) : RA0 (w.setCell ⟨R, 4, none⟩ (.int .i64 q)) R most live q cv bv cs back := by
  refine ⟨by simp [World.setCell, Array.getElem?_modify, h.head], ?_, ?_⟩
  · exact h.cells.keep fun b hb => Below.heap_setCell w _ _ b (fun e => by have e' : b = R := e; subst e'; exact h.a1 hb)
  · exact h.back.keep fun b hb => Below.heap_setCell w _ _ b (fun e => by have e' : b = R := e; subst e'; exact h.a2 hb)
end
end Go.Proofs.Ythbobooiedcofaa
