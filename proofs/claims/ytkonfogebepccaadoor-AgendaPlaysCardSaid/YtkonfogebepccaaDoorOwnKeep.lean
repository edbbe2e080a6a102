/-
  An append to a row leaves every row as it was that lies in the same block ahead of what is appended; how it stands in a walk.
-/
import Derived.Test.YtkonfogebepccaaDoorOwn
namespace Go.Proofs.YtkonfogebepccaaDoor
open Go.RowKit

/-- Every row that lies in the block of v ahead of its first n elements stays, and every other one. -/
def Keeps (e : TypeId) (size n : Nat) (v : Value) (w w' : World) : Prop := ∀ v0 k ys, Row w e size v0 k ys → (∀ b ∈ ownB v0, b ∈ ownB v → k ≤ n) → Row w' e size v0 k ys
theorem Row.append_keeps {w : World} {e : TypeId} {size n : Nat} {v : Value} {xs : List Value} {P : Program} (t ty : TypeId) (i : TypeInfo) (z : Value) (bytes : Nat) (ht : P.underlying t = some (.slice e)) (hi : P.info? e = some i) (hz : i.zero = some z)
    (hsize : i.size = size) (hby : i.bytes = bytes) (hzs : z.cells.size = size)
    (h : Row w e size v n xs) (A : Option Addr) (m c : Nat) (news : List Value) (hs : Src w A m size news)
    (h63 : n + m ≤ maxLen) (hbytes : (n + m) * bytes ≤ 140737488355328) :
    ∃ v' w', (Builtin.append_ #[t, t] ty #[v, .slice A m c]).run P w = .ok v' w' ∧ Row w' e size v' (n + m) (xs ++ news) ∧ Kp (ownB v) w w' ∧ (ownB v' = ownB v ∨ ownB v' = [w.heap.size]) ∧ Keeps e size n v w w' := by
  subst hsize
  subst hby
  have hsmall : n + m ≤ 9223372036854775807 := by simp only [maxLen] at h63; omega
  obtain ⟨hl, h1, hs⟩ := hs
  have hlen : (xs ++ news).length = (n + m) * i.size := by rw [List.length_append, h.1, hl, Nat.add_mul]
  have same : Keeps e i.size n v w w := fun v0 k ys h0 _ => h0
  have new : ∀ o : Obj, Keeps e i.size n v w (w.drew.alloc o) := fun o v0 k ys h0 _ => h0.drew.alloc o
  rcases hs with ⟨rfl, rfl⟩ | ⟨ad, rfl, hnews⟩
  · have hn : news = [] := List.eq_nil_of_length_eq_zero (by simpa using hl)
    subst hn
    refine ⟨v, w, ?_, by simpa using h, Kp.refl _ _, .inl rfl, same⟩
    rcases h.2 with ⟨rfl, rfl⟩ | ⟨g, cap, cur, rfl, hg, hnc, _⟩
    · simp [Builtin.append_, run_underlying ht, sizeOf, typeInfo, hi, Builtin.lenOf, Builtin.firstCells]
    · simp [Builtin.append_, run_underlying ht, sizeOf, typeInfo, hi, Builtin.lenOf, Builtin.firstCells, hnc, storeCells]
  · have grown : ∀ old, (Row (w.drew.alloc (.cells (xs.toArray ++ news.toArray ++ Builtin.zeroCells z.cells (grownCap w (n + m) old e - (n + m))) e)) e i.size
        (.slice (some ⟨w.heap.size, 0, none⟩) (n + m) (grownCap w (n + m) old e)) (n + m) (xs ++ news)) := by
      intro old
      refine ⟨hlen, .inr ⟨w.heap.size, _, _, rfl, heap_alloc_new w.drew _, grownCap_ge w (n + m) old e, grownCap_le_maxLen w (n + m) old e h63, ?_, ?_⟩⟩
      · have hge := grownCap_ge w (n + m) old e
        simp only [Array.size_append, List.size_toArray, size_zeroCells, hzs, h.1, hl, ← Nat.add_mul]
        rw [show n + m + (grownCap w (n + m) old e - (n + m)) = grownCap w (n + m) old e by omega]
        exact Nat.le_refl _
      · simp only [Array.toList_append, List.append_assoc]
        rw [← List.append_assoc, ← hlen]
        exact List.take_left
    have kpn : ∀ o : Obj, Kp (ownB v) w (w.drew.alloc o) := fun o => ((Kp.refl _ w).drew).alloc o
    rcases h.2 with ⟨rfl, rfl⟩ | ⟨g, cap, cur, rfl, hg, hnc, hcm, hcs, htake⟩
    · have hx : xs = [] := List.eq_nil_of_length_eq_zero (by simpa using h.1)
      subst hx
      by_cases hm : m = 0
      · subst hm
        have hn : news = [] := List.eq_nil_of_length_eq_zero (by simpa using hl)
        subst hn
        refine ⟨.slice none 0 0, w, ?_, by simpa using h, Kp.refl _ _, .inl rfl, same⟩
        simp [Builtin.append_, run_underlying ht, sizeOf, typeInfo, hi, Builtin.lenOf, Builtin.firstCells, loadCells, loadCellsFrom]
      · have hr := run_append_nil (P := P) w t ty e i z ht hi hz ad m c news hl hnews (by omega) (by omega) (by have hb := hbytes; simp only [Nat.zero_add] at hb; omega)
        have hgr := grown 0
        simp only [Nat.zero_add, List.nil_append, Array.empty_append] at hgr ⊢
        exact ⟨_, _, hr, hgr, kpn _, .inr rfl, new _⟩
    · by_cases hroom : n + m ≤ cap
      · have hfit : n * i.size + news.length ≤ cur.size := by rw [hl, ← Nat.add_mul]; exact Nat.le_trans (Nat.mul_le_mul_right _ hroom) hcs
        have hr := run_append_room (P := P) w t ty e i ht hi g n cap cur hg ad m c news hl hnews h1 hroom hfit
        refine ⟨_, _, hr, ⟨hlen, .inr ⟨g, cap, _, rfl, setRow_heap w g cur _ e _ hg, hroom, hcm, ?_, ?_⟩⟩, ⟨rfl, rfl, rfl, by simp, fun k _ hk => setRow_other w g k _ (fun e => hk (by simp [ownB, e]))⟩, .inl rfl, ?_⟩
        · simp only [List.size_toArray, List.length_append, List.length_take, List.length_drop, Array.length_toList]
          omega
        · rw [htake, ← hlen]
          exact List.take_left
        · intro v0 k ys h0 hk0
          refine ⟨h0.1, ?_⟩
          rcases h0.2 with hn0 | ⟨g0, cap0, cur0, rfl, hg0, hkc, hcm0, hcs0, ht0⟩
          · exact .inl hn0
          · by_cases hgg : g0 = g
            · subst hgg
              have hkn : k ≤ n := hk0 g0 (by simp [ownB]) (by simp [ownB])
              obtain rfl : cur0 = cur := by rw [hg] at hg0; injection hg0 with hg0; injection hg0 with a; exact a.symm
              refine .inr ⟨g0, cap0, _, rfl, setRow_heap w g0 cur0 _ e _ hg, hkc, hcm0, ?_, ?_⟩
              · simp only [List.size_toArray, List.length_append, List.length_take, List.length_drop, Array.length_toList]
                have : n * i.size ≤ cur0.size := by omega
                omega
              · rw [← ht0]
                simp only [List.append_assoc]
                rw [List.take_append_of_le_length, List.take_take, Nat.min_eq_left (Nat.mul_le_mul_right _ hkn)]
                rw [List.length_take, Array.length_toList]
                have := Nat.mul_le_mul_right i.size hkn
                omega
            · exact .inr ⟨g0, cap0, cur0, rfl, (setRow_other w g g0 _ hgg).trans hg0, hkc, hcm0, hcs0, ht0⟩
      · have holds := h.cells rfl rfl
        have hr := run_append_grow (P := P) w t ty e i z ht hi hz ⟨g, 0, none⟩ n cap xs h.1 holds ad m c news hl hnews (by omega) (by omega) (growslice_fits (by omega) hbytes)
        exact ⟨_, _, hr, grown cap, kpn _, .inr rfl, new _⟩
section
variable {P : Program} {w : World} {o : Oper} {a : Act} {K' : Act → World → Prop} {Q : Exit → Act → World → Prop}
theorem wpo_row_append_keeps (s x : Operand) (t : TypeId) (ho : o.op = .call { callee := .builtin .append, args := #[s, x], argTypes := #[t, t] })
    {e : TypeId} {size n : Nat} {v : Value} {xs : List Value} (i : TypeInfo) (z : Value) (bytes : Nat) (ht : P.underlying t = some (.slice e)) (hi : P.info? e = some i) (hz : i.zero = some z)
    (hsize : i.size = size) (hby : i.bytes = bytes) (hzs : z.cells.size = size)
    (hs : a.eval s = v) (h : Row w e size v n xs) (A : Option Addr) (m c : Nat) (hx : a.eval x = .slice A m c) (news : List Value) (hsrc : Src w A m size news)
    (h63 : n + m ≤ maxLen) (hbytes : (n + m) * bytes ≤ 140737488355328)
    (hk : ∀ v' w', Row w' e size v' (n + m) (xs ++ news) → Kp (ownB v) w w' → (ownB v' = ownB v ∨ ownB v' = [w.heap.size]) → Keeps e size n v w w' → K' (a.put o.dst v') w') : o.wp P a w K' Q := by
  obtain ⟨v', w', hr, h2, h3, h4, h5⟩ := Row.append_keeps (P := P) t o.type i z bytes ht hi hz hsize hby hzs h A m c news hsrc h63 hbytes
  unfold Oper.wp execOp
  simp only [ho, resolve, invoke, builtin, Sem.run_bind, Sem.run_pure, Result.andThen_ok, List.map_toArray, List.map_cons, List.map_nil, hs, hx, hr]
  exact hk v' w' h2 h3 h4 h5
end
end Go.Proofs.YtkonfogebepccaaDoor
