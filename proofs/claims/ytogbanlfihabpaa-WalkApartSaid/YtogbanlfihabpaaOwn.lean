/-
  Rows of cells that the program owns: a slice at the head of a block of its own, whatever lies behind its capacity; append, cut, store.
-/
import Derived.Test.YtogbanlfihabpaaMaps
import Derived.Laws.OwnMore
namespace Go.Proofs.Ytogbanlfihabpaa
open Go.RowKit

/-- The slice v (n elements of type e, size cells each) lies at the head of a block and holds xs; or it is nil. -/
def Row (w : World) (e : TypeId) (size : Nat) (v : Value) (n : Nat) (xs : List Value) : Prop :=
  xs.length = n * size ∧ ((v = .slice none 0 0 ∧ n = 0) ∨
    ∃ g cap cur, v = .slice (some ⟨g, 0, none⟩) n cap ∧ w.heap[g]? = some (.cells cur e (0, 0)) ∧ n ≤ cap ∧ cap ≤ maxLen ∧ cap * size ≤ cur.size ∧ cur.toList.take (n * size) = xs)
def ownB : Value → List Nat
  | .slice (some a) _ _ => [a.block]
  | _ => []
section
variable {w w' : World} {e : TypeId} {size n : Nat} {v : Value} {xs : List Value}
theorem heap_lt {w : World} {g : Nat} {o : Obj} (h : w.heap[g]? = some o) : g < w.heap.size := by
  rcases Nat.lt_or_ge g w.heap.size with hl | hl
  · exact hl
  · rw [Array.getElem?_eq_none hl] at h; cases h
theorem Row.lt (h : Row w e size v n xs) : ∀ b ∈ ownB v, b < w.heap.size := by
  rcases h.2 with ⟨rfl, _⟩ | ⟨g, cap, cur, rfl, hh, _⟩
  · simp [ownB]
  · intro b hb; simp [ownB] at hb; subst hb; exact heap_lt hh
theorem Row.keep (h : Row w e size v n xs) (hk : ∀ b ∈ ownB v, w'.heap[b]? = w.heap[b]?) : Row w' e size v n xs := by
  refine ⟨h.1, ?_⟩
  rcases h.2 with h0 | ⟨g, cap, cur, rfl, hh, r⟩
  · exact .inl h0
  · exact .inr ⟨g, cap, cur, rfl, (hk g (by simp [ownB])).trans hh, r⟩
theorem Row.kp {F : List Nat} (h : Row w e size v n xs) (hk : Kp F w w') (hF : ∀ b ∈ ownB v, b ∉ F) : Row w' e size v n xs :=
  h.keep fun b hb => hk.block b (h.lt b hb) (hF b hb)
theorem Row.nil (w : World) (e : TypeId) (size : Nat) : Row w e size (.slice none 0 0) 0 [] := ⟨by simp, .inl ⟨rfl, rfl⟩⟩
theorem Row.len (h : Row w e size v n xs) : ∃ A cap, v = .slice A n cap ∧ n ≤ cap := by
  rcases h.2 with ⟨rfl, rfl⟩ | ⟨g, cap, cur, rfl, _, hn, _⟩
  · exact ⟨none, 0, rfl, Nat.le_refl _⟩
  · exact ⟨_, cap, rfl, hn⟩
theorem Row.some_ (h : Row w e size v n xs) (hn : 0 < n) : ∃ g cap cur, v = .slice (some ⟨g, 0, none⟩) n cap ∧ w.heap[g]? = some (.cells cur e (0, 0)) ∧ n ≤ cap ∧ cap ≤ maxLen ∧ cap * size ≤ cur.size ∧ cur.toList.take (n * size) = xs := by
  rcases h.2 with ⟨_, rfl⟩ | h
  · omega
  · exact h
theorem Row.cellAt {g cap : Nat} (h : Row w e size (.slice (some ⟨g, 0, none⟩) n cap) n xs) (j : Nat) (hj : j < n * size) : w.cell? ⟨g, j, none⟩ = xs[j]? := by
  rcases h.2 with ⟨h0, _⟩ | ⟨g', cap', cur, hv, hh, _, _, _, ht⟩
  · simp at h0
  · simp only [Value.slice.injEq, Option.some.injEq, Addr.mk.injEq, and_true, true_and] at hv
    obtain ⟨rfl, rfl⟩ := hv
    rw [← ht, List.getElem?_take, if_pos hj]
    simp [World.cell?, hh]
theorem Row.cells (h : Row w e size v n xs) {A : Option Addr} {cap : Nat} (hv : v = .slice A n cap) {ad : Addr} (hA : A = some ad) : ∀ j u, xs[j]? = some u → w.cell? (ad.add j) = some u := by
  subst hv hA
  rcases h.2 with ⟨h0, _⟩ | ⟨g, cap', cur, hv, hh, r⟩
  · simp at h0
  · intro j u hu
    simp only [Value.slice.injEq, Option.some.injEq, true_and] at hv
    obtain ⟨rfl, rfl⟩ := hv
    have hj : j < n * size := by rw [← h.1]; rcases Nat.lt_or_ge j xs.length with hl | hl; exact hl; rw [List.getElem?_eq_none hl] at hu; cases hu
    rw [Addr.add_lit, Nat.zero_add]
    exact (Row.cellAt h j hj).trans hu

/-- What is appended: the cells of a slice, nil or not. -/
def Src (w : World) (A : Option Addr) (m size : Nat) (news : List Value) : Prop :=
  news.length = m * size ∧ (∀ u ∈ news, u.oneCell' = true) ∧ ((A = none ∧ m = 0) ∨ ∃ ad, A = some ad ∧ ∀ j u, news[j]? = some u → w.cell? (ad.add j) = some u)

theorem Row.append {P : Program} (t ty : TypeId) (i : TypeInfo) (z : Value) (bytes : Nat) (ht : P.underlying t = some (.slice e)) (hi : P.info? e = some i) (hz : i.zero = some z)
    (hsize : i.size = size) (hby : i.bytes = bytes) (hzs : z.cells.size = size)
    (h : Row w e size v n xs) (A : Option Addr) (m c : Nat) (news : List Value) (hs : Src w A m size news)
    (h63 : n + m ≤ maxLen) (hbytes : (n + m) * bytes ≤ 140737488355328) :
    ∃ v' w', (Builtin.append_ #[t, t] ty #[v, .slice A m c]).run P w = .ok v' w' ∧ Row w' e size v' (n + m) (xs ++ news) ∧ Kp (ownB v) w w' ∧ (ownB v' = ownB v ∨ ownB v' = [w.heap.size]) := by
  subst hsize
  subst hby
  have hsmall : n + m ≤ 9223372036854775807 := by simp only [maxLen] at h63; omega
  obtain ⟨hl, h1, hs⟩ := hs
  have hlen : (xs ++ news).length = (n + m) * i.size := by rw [List.length_append, h.1, hl, Nat.add_mul]
  rcases hs with ⟨rfl, rfl⟩ | ⟨ad, rfl, hnews⟩
  · have hn : news = [] := List.eq_nil_of_length_eq_zero (by simpa using hl)
    subst hn
    refine ⟨v, w, ?_, by simpa using h, Kp.refl _ _, .inl rfl⟩
    rcases h.2 with ⟨rfl, rfl⟩ | ⟨g, cap, cur, rfl, hg, hnc, _⟩
    · simp [Builtin.append_, run_underlying ht, sizeOf, typeInfo, hi, Builtin.lenOf, Builtin.firstCells]
    · simp [Builtin.append_, run_underlying ht, sizeOf, typeInfo, hi, Builtin.lenOf, Builtin.firstCells, hnc, storeCells]
  · have grown : ∀ old, (Row (w.drew.alloc (.cells (xs.toArray ++ news.toArray ++ Builtin.zeroCells z.cells (grownCap w (n + m) old e - (n + m))) e)) e i.size
        (.slice (some ⟨w.heap.size, 0, none⟩) (n + m) (grownCap w (n + m) old e)) (n + m) (xs ++ news)) := by
      intro old
      refine ⟨hlen, .inr ⟨w.heap.size, _, _, rfl, heap_alloc_new w.drew _, grownCap_ge w (n + m) old e, grownCap_le_maxLen w (n + m) old e h63, ?_, ?_⟩⟩
      · have hge := grownCap_ge w (n + m) old e
        simp only [Array.size_append, List.size_toArray, size_zeroCells, hzs, h.1, hl, ← Nat.add_mul]
        rw [show n + m + (grownCap w (n + m) old e - (n + m)) = grownCap w (n + m) old e by omega]
        exact Nat.le_refl _
      · simp only [Array.toList_append, List.append_assoc]
        rw [← List.append_assoc, ← hlen]
        exact List.take_left
    have kpn : ∀ o : Obj, Kp (ownB v) w (w.drew.alloc o) := fun o => ((Kp.refl _ w).drew).alloc o
    rcases h.2 with ⟨rfl, rfl⟩ | ⟨g, cap, cur, rfl, hg, hnc, hcm, hcs, htake⟩
    · have hx : xs = [] := List.eq_nil_of_length_eq_zero (by simpa using h.1)
      subst hx
      by_cases hm : m = 0
      · subst hm
        have hn : news = [] := List.eq_nil_of_length_eq_zero (by simpa using hl)
        subst hn
        refine ⟨.slice none 0 0, w, ?_, by simpa using h, Kp.refl _ _, .inl rfl⟩
        simp [Builtin.append_, run_underlying ht, sizeOf, typeInfo, hi, Builtin.lenOf, Builtin.firstCells, loadCells, loadCellsFrom]
      · have hr := run_append_nil (P := P) w t ty e i z ht hi hz ad m c news hl hnews (by omega) (by omega) (by have hb := hbytes; simp only [Nat.zero_add] at hb; omega)
        have hgr := grown 0
        simp only [Nat.zero_add, List.nil_append, Array.empty_append] at hgr ⊢
        exact ⟨_, _, hr, hgr, kpn _, .inr rfl⟩
    · by_cases hroom : n + m ≤ cap
      · have hfit : n * i.size + news.length ≤ cur.size := by rw [hl, ← Nat.add_mul]; exact Nat.le_trans (Nat.mul_le_mul_right _ hroom) hcs
        have hr := run_append_room (P := P) w t ty e i ht hi g n cap cur hg ad m c news hl hnews h1 hroom hfit
        refine ⟨_, _, hr, ⟨hlen, .inr ⟨g, cap, _, rfl, setRow_heap w g cur _ e _ hg, hroom, hcm, ?_, ?_⟩⟩, ⟨rfl, rfl, rfl, by simp, fun k _ hk => setRow_other w g k _ (fun e => hk (by simp [ownB, e]))⟩, .inl rfl⟩
        · simp only [List.size_toArray, List.length_append, List.length_take, List.length_drop, Array.length_toList]
          omega
        · rw [htake, ← hlen]
          exact List.take_left
      · have holds := h.cells rfl rfl
        have hr := run_append_grow (P := P) w t ty e i z ht hi hz ⟨g, 0, none⟩ n cap xs h.1 holds ad m c news hl hnews (by omega) (by omega) (growslice_fits (by omega) hbytes)
        exact ⟨_, _, hr, grown cap, kpn _, .inr rfl⟩

/-- A cut 's[:k:k]' or 's[:k]'. -/
theorem Row.cut {g cap : Nat} (h : Row w e size (.slice (some ⟨g, 0, none⟩) n cap) n xs) {k c : Nat} (hk : k ≤ n) (hkc : k ≤ c) (hc : c ≤ cap) : Row w e size (.slice (some ⟨g, 0, none⟩) k c) k (xs.take (k * size)) := by
  rcases h.2 with ⟨h0, _⟩ | ⟨g', cap', cur, hv, hh, hn, hcm, hcs, ht⟩
  · simp at h0
  · simp only [Value.slice.injEq, Option.some.injEq, Addr.mk.injEq, and_true, true_and] at hv
    obtain ⟨rfl, rfl⟩ := hv
    refine ⟨?_, .inr ⟨g, c, cur, rfl, hh, hkc, by omega, Nat.le_trans (Nat.mul_le_mul_right _ hc) hcs, ?_⟩⟩
    · rw [List.length_take, h.1]; exact Nat.min_eq_left (Nat.mul_le_mul_right _ hk)
    · rw [← ht, List.take_take, Nat.min_eq_left (Nat.mul_le_mul_right _ hk)]
/-- A store into the row. -/
theorem Row.set {g cap : Nat} (h : Row w e size (.slice (some ⟨g, 0, none⟩) n cap) n xs) (j : Nat) (u : Value) :
    Row (w.setCell ⟨g, j, none⟩ u) e size (.slice (some ⟨g, 0, none⟩) n cap) n (xs.set j u) := by
  rcases h.2 with ⟨h0, _⟩ | ⟨g', cap', cur, hv, hh, hn, hcm, hcs, ht⟩
  · simp at h0
  · simp only [Value.slice.injEq, Option.some.injEq, Addr.mk.injEq, and_true, true_and] at hv
    obtain ⟨rfl, rfl⟩ := hv
    refine ⟨by simpa using h.1, .inr ⟨g, cap, cur.setIfInBounds j u, rfl, ?_, hn, hcm, by simpa using hcs, ?_⟩⟩
    · simp [World.setCell, Array.getElem?_modify, hh]
    · rw [Array.toList_setIfInBounds, List.take_set, ht]
theorem Row.frozenAt {g cap : Nat} (h : Row w e size (.slice (some ⟨g, 0, none⟩) n cap) n xs) (j : Nat) : w.frozen? ⟨g, j, none⟩ = false := by
  rcases h.2 with ⟨h0, _⟩ | ⟨g', cap', cur, hv, hh, _⟩
  · simp at h0
  · simp only [Value.slice.injEq, Option.some.injEq, Addr.mk.injEq, and_true, true_and] at hv
    obtain ⟨rfl, rfl⟩ := hv
    simp [World.frozen?, hh]
end

theorem Row.alloc {w : World} {e : TypeId} {size n : Nat} {v : Value} {xs : List Value} (h : Row w e size v n xs) (o : Obj) : Row (w.alloc o) e size v n xs := h.keep fun b hb => Below.heap_alloc w o b (h.lt b hb)
theorem Src.block {w : World} {g : Nat} {cs : Array Value} {t : TypeId} {fr : Nat × Nat} (hg : w.heap[g]? = some (.cells cs t fr)) {m size : Nat} (hl : cs.size = m * size) (h1 : ∀ u ∈ cs.toList, u.oneCell' = true) : Src w (some ⟨g, 0, none⟩) m size cs.toList :=
  ⟨by simpa using hl, h1, .inr ⟨_, rfl, fun j u hu => by rw [Addr.add_lit, Nat.zero_add]; simpa [World.cell?, hg] using hu⟩⟩
theorem Src.drew {w : World} {A : Option Addr} {m size : Nat} {xs : List Value} (h : Src w A m size xs) : Src w.drew A m size xs := h

/-! ### In a walk: 'wpo_..': one operation; 'wp_..': in a plain region; 'step_..': in a region that draws its order -/
/-- The world behind a name, with what is known of it. -/
theorem absW {P : Program} {c : Code} {Q : Exit → Act → World → Prop} {a : Act} {w : World} (φ : World → Prop) (h : φ w) (k : ∀ W, φ W → c.wp P Q a W) : c.wp P Q a w := k w h
theorem MP.drew {κ : Type} [DecidableEq κ] {enc : κ → Value} {w : World} {B : Nat} {f : κ → Option Value} (h : MP enc w B f) : MP enc w.drew B f := h.keep rfl
theorem Row.drew {w : World} {e : TypeId} {size n : Nat} {v : Value} {xs : List Value} (h : Row w e size v n xs) : Row w.drew e size v n xs := h.keep (fun _ _ => rfl)
section
variable {P : Program} {w : World} {o : Oper} {a : Act} {K' : Act → World → Prop} {Q : Exit → Act → World → Prop}
theorem wpo_row_append (s x : Operand) (t : TypeId) (ho : o.op = .call { callee := .builtin .append, args := #[s, x], argTypes := #[t, t] })
    {e : TypeId} {size n : Nat} {v : Value} {xs : List Value} (i : TypeInfo) (z : Value) (bytes : Nat) (ht : P.underlying t = some (.slice e)) (hi : P.info? e = some i) (hz : i.zero = some z)
    (hsize : i.size = size) (hby : i.bytes = bytes) (hzs : z.cells.size = size)
    (hs : a.eval s = v) (h : Row w e size v n xs) (A : Option Addr) (m c : Nat) (hx : a.eval x = .slice A m c) (news : List Value) (hsrc : Src w A m size news)
    (h63 : n + m ≤ maxLen) (hbytes : (n + m) * bytes ≤ 140737488355328)
    (hk : ∀ v' w', Row w' e size v' (n + m) (xs ++ news) → Kp (ownB v) w w' → (ownB v' = ownB v ∨ ownB v' = [w.heap.size]) → K' (a.put o.dst v') w') : o.wp P a w K' Q := by
  obtain ⟨v', w', hr, h2, h3, h4⟩ := Row.append (P := P) t o.type i z bytes ht hi hz hsize hby hzs h A m c news hsrc h63 hbytes
  unfold Oper.wp execOp
  simp only [ho, resolve, invoke, builtin, Sem.run_bind, Sem.run_pure, Result.andThen_ok, List.map_toArray, List.map_cons, List.map_nil, hs, hx, hr]
  exact hk v' w' h2 h3 h4
variable {κ : Type} [DecidableEq κ] {enc : κ → Value} {B : Nat} {f : κ → Option Value}
end
/-- In a plain region. -/
theorem inPlain {P : Program} {w : World} {ops : Array Oper} {rest : List Oper} {o : Oper} {a : Act} {Q : Exit → Act → World → Prop} (hgd : o.guard = none)
    (h : o.wp P a w (wpList P ops Q rest) Q) : wpList P ops Q (o :: rest) a w := by
  unfold wpList
  rw [if_pos (by simp [Region.wanted, hgd])]
  exact .inl h
/-! 'up_..': where the walk stands at the operation's own run. -/
section
variable {P : Program} {w : World} {o : Oper} {a : Act} {K' : Act → World → Prop} {Q : Exit → Act → World → Prop}
variable {κ : Type} [DecidableEq κ] {enc : κ → Value} {B : Nat} {f : κ → Option Value} {T K E : TypeId}
theorem up_map_entry (h : MP enc w B f) (hK : KOk P K enc) (hT : P.underlying T = some (.map K E)) {z : Value} (hz : ∀ W, (zeroValue E).run P W = .ok z W) {k : κ} (hf : f k = none)
    (hk : ∀ (s : Nat) w', MPs enc w' B (upd f k z) k s → Kp [B] w w' → w'.heap.size = w.heap.size → K' (a.put o.dst (.tuple #[z, .int .i64 (s : Int)])) w') :
    Oper.upon P o a K' Q (((Instr.mapEntry T (.map (some B)) (enc k)).run P w).andThen fun a w' => .ok (Next.value a) w') := by
  obtain ⟨s, w', hr, h2, h3, h4⟩ := h.entry hK hT hz hf
  rw [hr]
  exact hk s w' h2 h3 h4
theorem up_map_store {k : κ} {s : Nat} (h : MPs enc w B f k s) {v : Value} (hk : ∀ w', MP enc w' B (upd f k v) → Kp [B] w w' → w'.heap.size = w.heap.size → K' (a.put o.dst undef) w') :
    Oper.upon P o a K' Q (((Instr.entryStore T (.map (some B)) (.int .i64 (s : Int)) v).run P w).andThen fun _ w' => .ok Next.skip w') := by
  obtain ⟨w', hr, h2, h3, h4⟩ := h.store (P := P) (T := T) v
  rw [hr]
  exact hk w' h2 h3 h4
theorem up_map_update (h : MP enc w B f) (hK : KOk P K enc) (hT : P.underlying T = some (.map K E)) {k : κ} {v : Value} (hk : ∀ w', MP enc w' B (upd f k v) → Kp [B] w w' → w'.heap.size = w.heap.size → K' (a.put o.dst undef) w') :
    Oper.upon P o a K' Q (((Instr.mapUpdate T (.map (some B)) (enc k) v).run P w).andThen fun _ w' => .ok Next.skip w') := by
  obtain ⟨w', hr, h2, h3, h4⟩ := h.update hK hT k v
  rw [hr]
  exact hk w' h2 h3 h4
end
end Go.Proofs.Ytogbanlfihabpaa
