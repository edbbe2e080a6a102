/-
  Agendas, plainly: pairs whose cells are all different; what is left when one is taken out; a row of pairs that is moved down by one.
-/
import Derived.Test.YtkonfogebepccaaDoorAgendaR
import Derived.Laws.CopyOwn
namespace Go.Proofs.YtkonfogebepccaaDoor
open Go.RowKit
set_option linter.unusedVariables false

def DjP (p q : Int × Int) : Prop := p.1 ≠ q.1 ∧ p.1 ≠ q.2 ∧ p.2 ≠ q.1 ∧ p.2 ≠ q.2
/-- No cell stands in two of the pairs. -/
def AgOk (ps : List (Int × Int)) : Prop := ps.Pairwise DjP
theorem AgOk.nil : AgOk [] := List.Pairwise.nil
theorem AgOk.snoc {ps : List (Int × Int)} {lo hi : Int} (h : AgOk ps) (ol : ¬ inAg ps lo) (oh : ¬ inAg ps hi) : AgOk (ps ++ [(lo, hi)]) := by
  refine List.pairwise_append.2 ⟨h, by simp, fun p hp q hq => ?_⟩
  simp at hq; subst hq
  exact ⟨fun e => ol ⟨p, hp, .inl e.symm⟩, fun e => oh ⟨p, hp, .inl e.symm⟩, fun e => ol ⟨p, hp, .inr e.symm⟩, fun e => oh ⟨p, hp, .inr e.symm⟩⟩
theorem AgOk.erase {ps : List (Int × Int)} (h : AgOk ps) (k : Nat) : AgOk (ps.eraseIdx k) := List.Pairwise.sublist (List.eraseIdx_sublist _ _) h
theorem AgOk.at {ps : List (Int × Int)} (h : AgOk ps) {i j : Nat} (hi : i < ps.length) (hj : j < ps.length) (hij : i ≠ j) : DjP ps[i] ps[j] := by
  rcases Nat.lt_or_gt_of_ne hij with hlt | hlt
  · exact List.pairwise_iff_getElem.1 h i j hi hj hlt
  · obtain ⟨a, b, c, d⟩ := List.pairwise_iff_getElem.1 h j i hj hi hlt
    exact ⟨Ne.symm a, Ne.symm c, Ne.symm b, Ne.symm d⟩
theorem agW_erase {ps : List (Int × Int)} (h : AgOk ps) {k : Nat} (hk : k < ps.length) : del (del (agW ps) ps[k].1) ps[k].2 = agW (ps.eraseIdx k) := by
  have hd : ∀ q ∈ ps.eraseIdx k, DjP ps[k] q := fun q hq => by
    obtain ⟨i, hi, hne, rfl⟩ := List.mem_eraseIdx_iff_getElem.1 hq
    exact h.at hk hi (Ne.symm hne)
  funext c
  unfold del agW
  by_cases h2 : c = ps[k].2
  · rw [if_pos h2, if_neg]
    rintro ⟨q, hq, hc⟩
    obtain ⟨_, _, a, b⟩ := hd q hq
    rcases hc with hc | hc
    · exact a (h2.symm.trans hc)
    · exact b (h2.symm.trans hc)
  · rw [if_neg h2]
    by_cases h1 : c = ps[k].1
    · rw [if_pos h1, if_neg]
      rintro ⟨q, hq, hc⟩
      obtain ⟨a, b, _, _⟩ := hd q hq
      rcases hc with hc | hc
      · exact a (h1.symm.trans hc)
      · exact b (h1.symm.trans hc)
    · rw [if_neg h1]
      by_cases h3 : ∃ p ∈ ps, c = p.1 ∨ c = p.2
      · rw [if_pos h3]
        obtain ⟨p, hp, hc⟩ := h3
        obtain ⟨i, hi, rfl⟩ := List.mem_iff_getElem.1 hp
        rw [if_pos ⟨ps[i], List.mem_eraseIdx_iff_getElem.2 ⟨i, hi, fun e => by subst e; rcases hc with hc | hc; exact h1 hc; exact h2 hc, rfl⟩, hc⟩]
      · rw [if_neg h3, if_neg]
        rintro ⟨q, hq, hc⟩
        exact h3 ⟨q, List.mem_of_mem_eraseIdx hq, hc⟩
theorem pcells_take (ps : List (Int × Int)) (k : Nat) : pcells (ps.take k) = (pcells ps).take (k * 2) := by
  induction ps generalizing k with
  | nil => simp [pcells]
  | cons p r ih =>
    cases k with
    | zero => simp [pcells]
    | succ k =>
      have := ih k
      rw [show (k + 1) * 2 = k * 2 + 2 by omega]
      simp only [pcells, List.take_succ_cons, List.flatMap_cons] at *
      rw [this]; simp
theorem pcells_drop (ps : List (Int × Int)) (k : Nat) : pcells (ps.drop k) = (pcells ps).drop (k * 2) := by
  induction ps generalizing k with
  | nil => simp [pcells]
  | cons p r ih =>
    cases k with
    | zero => simp [pcells]
    | succ k =>
      have := ih k
      rw [show (k + 1) * 2 = k * 2 + 2 by omega]
      simp only [pcells, List.drop_succ_cons, List.flatMap_cons] at *
      rw [this]; simp
theorem pcells_append (ps qs : List (Int × Int)) : pcells (ps ++ qs) = pcells ps ++ pcells qs := by simp [pcells]
theorem pcells_erase (ps : List (Int × Int)) (k : Nat) : pcells (ps.eraseIdx k) = (pcells ps).take (k * 2) ++ (pcells ps).drop ((k + 1) * 2) := by
  rw [List.eraseIdx_eq_take_drop_succ, pcells_append, pcells_take, pcells_drop]
theorem pcells_one (ps : List (Int × Int)) : ∀ u ∈ pcells ps, u.oneCell' = true := by
  intro u hu
  simp only [pcells, List.mem_flatMap] at hu
  obtain ⟨p, _, hu⟩ := hu
  simp at hu
  rcases hu with rfl | rfl <;> rfl

section
variable {P : Program} {w : World}
theorem setRow_oth (w : World) (g : Nat) (cs : Array Value) (b : Nat) (h : b ≠ g) : (w.setRow g cs).heap[b]? = w.heap[b]? := by
  simp [World.setRow, Array.getElem?_modify, Ne.symm h]
/-- 'copy(s[k:], s[k+1:])' within a row of the program's own. -/
theorem Row.shift (t ty : TypeId) {e : TypeId} {size : Nat} (hu : P.underlying t = some (.slice e)) (hs : (P.info? e).map (·.size) = some size) {g n cap : Nat} {xs : List Value}
    (h : Row w e size (.slice (some ⟨g, 0, none⟩) n cap) n xs) (h1 : ∀ u ∈ xs, u.oneCell' = true) {k : Nat} (hk : k < n) (sp : Option Addr) (sc dc : Nat) (hsp : k + 1 < n → sp = some ⟨g, (k + 1) * size, none⟩) :
    ∃ w', (Builtin.copy_ #[t, t] ty #[.slice (some ⟨g, k * size, none⟩) (n - k) dc, .slice sp (n - (k + 1)) sc]).run P w = .ok (.int .i64 ((n - (k + 1) : Nat) : Int)) w' ∧
      Row w' e size (.slice (some ⟨g, 0, none⟩) (n - 1) cap) (n - 1) (xs.take (k * size) ++ xs.drop ((k + 1) * size)) ∧ Kp [g] w w' ∧ w'.heap.size = w.heap.size := by
  obtain ⟨i, hi, hsz⟩ : ∃ i, P.info? e = some i ∧ i.size = size := by
    cases hq : P.info? e with
    | none => rw [hq] at hs; cases hs
    | some i => rw [hq] at hs; exact ⟨i, rfl, by simpa using hs⟩
  subst hsz
  have hxl := h.1
  obtain ⟨g', cap', cur, hv, hh, hn, hcm, hcs, ht⟩ : ∃ g' cap' cur, Value.slice (some ⟨g, 0, none⟩) n cap = .slice (some ⟨g', 0, none⟩) n cap' ∧ w.heap[g']? = some (.cells cur e (0, 0)) ∧ n ≤ cap' ∧ cap' ≤ maxLen ∧ cap' * i.size ≤ cur.size ∧ cur.toList.take (n * i.size) = xs := by
    rcases h.2 with ⟨h0, _⟩ | h
    · simp at h0
    · exact h
  simp only [Value.slice.injEq, Option.some.injEq, Addr.mk.injEq, and_true, true_and] at hv
  obtain ⟨rfl, rfl⟩ := hv
  have hns : n * i.size ≤ cur.size := Nat.le_trans (Nat.mul_le_mul_right _ hn) hcs
  have hmin : Nat.min (n - (k + 1)) (n - k) = n - (k + 1) := Nat.min_eq_left (by omega)
  have hk1 : (k + 1) * i.size ≤ n * i.size := Nat.mul_le_mul_right _ hk
  have hkk : (k + 1) * i.size = k * i.size + i.size := by rw [Nat.add_mul, Nat.one_mul]
  have hlen : (xs.drop ((k + 1) * i.size)).length = (n - (k + 1)) * i.size := by rw [List.length_drop, hxl, Nat.sub_mul]
  have hn1 : (n - 1) * i.size = n * i.size - i.size := by rw [Nat.sub_mul, Nat.one_mul]
  have hld : (Builtin.firstCells i.size (n - (k + 1)) (.slice sp (n - (k + 1)) sc)).run P w = .ok (xs.drop ((k + 1) * i.size)).toArray w := by
    by_cases hz : k + 1 < n
    · rw [hsp hz]
      show (loadCells ⟨g, (k + 1) * i.size, none⟩ ((n - (k + 1)) * i.size)).run P w = _
      rw [← hlen]
      refine run_loadCells_list (P := P) w ⟨g, (k + 1) * i.size, none⟩ _ fun j v hv => ?_
      rw [Addr.add_lit]
      rw [List.getElem?_drop] at hv
      have hj : (k + 1) * i.size + j < n * i.size := by
        rcases Nat.lt_or_ge ((k + 1) * i.size + j) xs.length with hl | hl
        · omega
        · rw [List.getElem?_eq_none hl] at hv; cases hv
      rw [h.cellAt _ hj]; exact hv
    · have h0 : n - (k + 1) = 0 := by omega
      have hnil : xs.drop ((k + 1) * i.size) = [] := List.eq_nil_of_length_eq_zero (by rw [hlen, h0, Nat.zero_mul])
      rw [h0, hnil]
      cases sp <;> simp [Builtin.firstCells, loadCells, loadCellsFrom]
  have hst := run_storeCells_at P g (k * i.size) e (xs.drop ((k + 1) * i.size)) 0 cur w hh (by rw [hlen, Nat.sub_mul]; omega) (fun v hv => h1 v (List.mem_of_mem_drop hv))
  rw [Nat.add_zero] at hst
  have hgo : goInt ((n - (k + 1) : Nat) : Int) = .int .i64 ((n - (k + 1) : Nat) : Int) := rfl
  refine ⟨w.setRow g (cur.toList.take (k * i.size) ++ xs.drop ((k + 1) * i.size) ++ cur.toList.drop (k * i.size + (xs.drop ((k + 1) * i.size)).length)).toArray, ?_, ⟨?_, .inr ⟨g, cap, _, rfl, setRow_heap w g cur _ e _ hh, by omega, hcm, ?_, ?_⟩⟩, ⟨rfl, rfl, rfl, by simp [World.setRow], fun b _ hb => setRow_oth w g _ b (by simpa using hb)⟩, by simp [World.setRow]⟩
  · simp [Builtin.copy_, run_underlying hu, Builtin.lenOf, sizeOf, typeInfo, hi, hmin, hld, hst, hgo]
  · rw [List.length_append, hlen, List.length_take, hxl, Nat.sub_mul, hn1]; omega
  · simp only [List.size_toArray, List.length_append, List.length_take, Array.length_toList, List.length_drop, hxl]
    omega
  · have e1 : cur.toList.take (k * i.size) = xs.take (k * i.size) := by rw [← ht, List.take_take, Nat.min_eq_left (by omega)]
    rw [e1]
    have hl2 : (xs.take (k * i.size) ++ xs.drop ((k + 1) * i.size)).length = (n - 1) * i.size := by
      rw [List.length_append, hlen, List.length_take, hxl, Nat.sub_mul, hn1]; omega
    show ((xs.take (k * i.size) ++ xs.drop ((k + 1) * i.size)) ++ _).take _ = _
    rw [← hl2, List.take_left]
variable {o : Oper} {a : Act} {K' : Act → World → Prop} {Q : Exit → Act → World → Prop}
theorem wpo_row_shift (s x : Operand) (t : TypeId) (ho : o.op = .call { callee := .builtin .copy, args := #[s, x], argTypes := #[t, t] })
    {e : TypeId} {size : Nat} (hu : P.underlying t = some (.slice e)) (hsz : (P.info? e).map (·.size) = some size) {g n cap : Nat} {xs : List Value}
    (h : Row w e size (.slice (some ⟨g, 0, none⟩) n cap) n xs) (h1 : ∀ u ∈ xs, u.oneCell' = true) {k : Nat} (hk : k < n) (sp : Option Addr) (sc dc d0 l0 l1 : Nat)
    (hs : a.eval s = .slice (some ⟨g, d0, none⟩) l0 dc) (hx : a.eval x = .slice sp l1 sc) (hd0 : d0 = k * size) (hl0 : l0 = n - k) (hl1 : l1 = n - (k + 1)) (hsp : k + 1 < n → sp = some ⟨g, (k + 1) * size, none⟩)
    (hK : ∀ w', Row w' e size (.slice (some ⟨g, 0, none⟩) (n - 1) cap) (n - 1) (xs.take (k * size) ++ xs.drop ((k + 1) * size)) → Kp [g] w w' → w'.heap.size = w.heap.size → K' (a.put o.dst (.int .i64 ((n - (k + 1) : Nat) : Int))) w') : o.wp P a w K' Q := by
  subst hd0 hl0 hl1
  obtain ⟨w', hr, h2, h3, h4⟩ := Row.shift (P := P) t o.type hu hsz h h1 hk sp sc dc hsp
  unfold Oper.wp execOp
  simp only [ho, resolve, invoke, builtin, Sem.run_bind, Sem.run_pure, Result.andThen_ok, List.map_toArray, List.map_cons, List.map_nil, hs, hx, hr]
  exact hK w' h2 h3 h4
end
end Go.Proofs.YtkonfogebepccaaDoor
