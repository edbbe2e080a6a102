/-
  Contracts of package arena, continued: Give.
-/
import Derived.Test.YthbobooiedcofaaArena
/-
  Contracts of package arena, continued: at, Get, Put, Give, Take.
-/
namespace Go.Proofs.Ythbobooiedcofaa
open Go.RowKit
attribute [local go_sem] cell_set
set_option maxRecDepth 100000

theorem slotE_cases (S : Ars) (c s : Int) : (S.slotE c s = 41 ∧ S.cell c = none) ∨ (S.slotE c s = 30 ∧ ∃ ag ws, S.cell c = some (ag, ws) ∧ (s < 0 ∨ (ws.length : Int) ≤ s)) ∨ (S.slotE c s = 0 ∧ ∃ ag ws, S.cell c = some (ag, ws) ∧ 0 ≤ s ∧ s < ws.length) := by
  unfold Ars.slotE
  cases hc : S.cell c with
  | none => exact .inl ⟨rfl, rfl⟩
  | some x =>
    obtain ⟨ag, ws⟩ := x
    simp only
    by_cases h : s < 0 ∨ (ws.length : Int) ≤ s
    · exact .inr (.inl ⟨by rw [if_pos h], ag, ws, rfl, h⟩)
    · exact .inr (.inr ⟨by rw [if_neg h], ag, ws, rfl, by omega, by omega⟩)

theorem ar_at_no (A : Nat) (S : Ars) (F : List Nat) (c s : Int) (w : World) (h : PA w A S F) (he : S.slotE c s ≠ 0) :
    Calls Try.prog 96 #[.pointer (some ⟨A, 0, none⟩), .int .i64 c, .int .i64 s] w fun e w' => e = .returned (.tuple #[.pointer none, .int .i64 (S.slotE c s)]) ∧ w = w' := by
  obtain ⟨VC, VB, cc, cb, c0, c1, c2, c3, hAl⟩ := h.head
  have hne := ok_ne h.ok
  have H := Lib.hid h
  rcases slotE_cases S c s with ⟨h1, hc⟩ | ⟨h1, ag, ws, hc, hs⟩ | ⟨h1, _⟩
  · have HE := Lib.hid h1
    have HS : Hid ((S.cell c).isSome = false) := by show _ = _; rw [hc]; rfl
    clear h hc h1 he
    go_enter Try.func96, Try.ntmps96
    go_wp2_with (first
      | (go_at_call 91; refine (ar_none_is _ S.most _ hne (by go_simp)).mono ?_; rintro e w' ⟨rfl, rfl⟩)
      | (go_at_call 93; refine (ar_is _ S F _ _ H.out).mono ?_; rintro e w1 ⟨rfl, rfl⟩; rw [HS.out]))
    go_ret2
    exact ⟨by rw [HE.out]; rfl, rfl⟩
  · obtain ⟨h0, hl⟩ := Ars.cell_some hc
    obtain ⟨i, rfl⟩ := Int.eq_ofNat_of_zero_le h0
    simp only [Int.toNat_natCast] at hl
    obtain ⟨g, cc', r, k1, hgl, ha, hr, hf, hlt⟩ := h.at_ hl
    have r1 : w.cell? ⟨g, i * 9 + 1, none⟩ = some (.int .i64 ((ws.length : Int) - 1)) := (hr 1 (by omega)).trans ha.2.2.1
    have HE := Lib.hid h1
    have HS : Hid ((S.cell i).isSome = true) := by show _ = _; rw [hc]; rfl
    clear h hc h1 he c1 hr hf ha hl h0
    rcases hs with hs | hs
    all_goals
      go_enter Try.func96, Try.ntmps96
      go_wp2_with (first
        | (go_at_call 91; refine (ar_none_is _ S.most _ hne (by go_simp)).mono ?_; rintro e w' ⟨rfl, rfl⟩)
        | (go_at_call 93; refine (ar_is _ S F _ _ H.out).mono ?_; rintro e w1 ⟨rfl, rfl⟩; rw [HS.out]))
      go_ret2
      exact ⟨by rw [HE.out]; rfl, rfl⟩
  · exact absurd h1 he

theorem ar_at_yes (A : Nat) (S : Ars) (F : List Nat) (i s g cc : Nat) (ag : Int) (ws : List Int) (w : World) (h : PA w A S F) (hc : S.cell i = some (ag, ws)) (hs : s < ws.length) (hg : w.cell? ⟨A, 1, none⟩ = some (.slice (some ⟨g, 0, none⟩) S.cells.length cc)) :
    Calls Try.prog 96 #[.pointer (some ⟨A, 0, none⟩), .int .i64 i, .int .i64 s] w fun e w' => e = .returned (.tuple #[.pointer (some ⟨g, i * 9 + 2 + s, none⟩), .int .i64 0]) ∧ w = w' := by
  obtain ⟨VC, VB, _, cb, c0, c1, c2, c3, hAl⟩ := h.head
  have hne := ok_ne h.ok
  have H := Lib.hid h
  obtain ⟨_, hl⟩ := Ars.cell_some hc
  simp only [Int.toNat_natCast] at hl
  obtain ⟨g', cc', r, k1, hgl, ha, hr, hf, hlt⟩ := h.at_ hl
  rw [hg] at k1
  simp only [Option.some.injEq, Value.slice.injEq, Addr.mk.injEq, and_true, true_and] at k1
  obtain ⟨rfl, rfl⟩ := k1
  have h7 := (h.ok.cell _ _ _ hl).2.2.2.1
  have r1 : w.cell? ⟨g, i * 9 + 1, none⟩ = some (.int .i64 ((ws.length : Int) - 1)) := (hr 1 (by omega)).trans ha.2.2.1
  have HS : Hid ((S.cell i).isSome = true) := by show _ = _; rw [hc]; rfl
  have hs7 : (s : Int) < 7 := by omega
  clear h hc c1 hr hf ha hl
  go_enter Try.func96, Try.ntmps96
  go_wp2_with (first
    | (go_at_call 91; refine (ar_none_is _ S.most _ hne (by go_simp)).mono ?_; rintro e w' ⟨rfl, rfl⟩)
    | (go_at_call 93; refine (ar_is _ S F _ _ H.out).mono ?_; rintro e w1 ⟨rfl, rfl⟩; rw [HS.out]))
  go_ret2
  exact ⟨rfl, rfl⟩

theorem ar_get (A : Nat) (S : Ars) (F : List Nat) (c s : Int) (w : World) (h : PA w A S F) :
    Calls Try.prog 72 #[.pointer (some ⟨A, 0, none⟩), .int .i64 c, .int .i64 s] w fun e w' => e = .returned (.tuple #[.int .u32 (S.getV c s), .int .i64 (S.slotE c s)]) ∧ w = w' := by
  by_cases he : S.slotE c s = 0
  · rcases slotE_cases S c s with ⟨h1, _⟩ | ⟨h1, _⟩ | ⟨h1, ag, ws, hc, hs0, hs⟩
    · omega
    · omega
    · obtain ⟨h0, hl⟩ := Ars.cell_some hc
      obtain ⟨i, rfl⟩ := Int.eq_ofNat_of_zero_le h0
      obtain ⟨k, rfl⟩ := Int.eq_ofNat_of_zero_le hs0
      have hk : k < ws.length := by omega
      simp only [Int.toNat_natCast] at hl
      have h7 := (h.ok.cell _ _ _ hl).2.2.2.1
      obtain ⟨g, cc', r, k1, hgl, ha, hr, hf, hlt⟩ := h.at_ hl
      have r1 : w.cell? ⟨g, i * 9 + 2 + k, none⟩ = some (.int .u32 (ws.getD k 0)) := by
        rw [show i * 9 + 2 + k = i * 9 + (2 + k) by omega, hr (2 + k) (by omega)]; exact ha.2.2.2.1 k hk
      have HV : Hid (S.getV i k = ws.getD k 0) := by
        show _ = _; unfold Ars.getV; rw [hc]; simp only; rw [if_neg (by omega)]; simp
      have HE := Lib.hid h1
      have HAT := Lib.hid (ar_at_yes A S F i k g cc' ag ws w h hc hk k1)
      clear h hc h1 he hr hf ha hl h0 k1
      go_enter Try.func72, Try.ntmps72
      go_wp2_with (go_at_call 96; refine HAT.out.mono ?_; rintro e w' ⟨rfl, rfl⟩)
      go_ret2
      exact ⟨retI2 (by rw [HV.out]; simp [hk]) (by rw [HE.out]), rfl⟩
  · have HV : Hid (S.getV c s = 0) := by
      show _ = _
      rcases slotE_cases S c s with ⟨h1, hc⟩ | ⟨h1, ag, ws, hc, hs⟩ | ⟨h1, _⟩
      · unfold Ars.getV; rw [hc]
      · unfold Ars.getV; rw [hc]; simp only; rw [if_pos hs]
      · exact absurd h1 he
    have hne : (S.slotE c s != 0) = true := by simpa using he
    have HAT := Lib.hid (ar_at_no A S F c s w h he)
    clear h he
    go_enter Try.func72, Try.ntmps72
    go_wp2_with (go_at_call 96; refine HAT.out.mono ?_; rintro e w' ⟨rfl, rfl⟩)
    go_ret2
    exact ⟨by rw [HV.out]; rfl, rfl⟩

theorem ar_put (A : Nat) (S : Ars) (F : List Nat) (c s v : Int) (hv : 0 ≤ v ∧ v < 4294967296) (w : World) (h : PA w A S F) :
    Calls Try.prog 47 #[.pointer (some ⟨A, 0, none⟩), .int .i64 c, .int .i64 s, .int .u32 v] w fun e w' => e = .returned (.int .i64 (S.slotE c s)) ∧ PA w' A (S.put c s v) F ∧ Kp F w w' ∧ w'.heap.size = w.heap.size := by
  by_cases he : S.slotE c s = 0
  · rcases slotE_cases S c s with ⟨h1, _⟩ | ⟨h1, _⟩ | ⟨h1, ag, ws, hc, hs0, hs⟩
    · omega
    · omega
    · obtain ⟨h0, hl⟩ := Ars.cell_some hc
      obtain ⟨i, rfl⟩ := Int.eq_ofNat_of_zero_le h0
      obtain ⟨k, rfl⟩ := Int.eq_ofNat_of_zero_le hs0
      have hk : k < ws.length := by omega
      simp only [Int.toNat_natCast] at hl
      have h7 := (h.ok.cell _ _ _ hl).2.2.2.1
      obtain ⟨g, cc', r, k1, hgl, ha, hr, hf, hlt⟩ := h.at_ hl
      have r1 : w.cell? ⟨g, i * 9 + 2 + k, none⟩ = some (.int .u32 (ws.getD k 0)) := by
        rw [show i * 9 + 2 + k = i * 9 + (2 + k) by omega, hr (2 + k) (by omega)]; exact ha.2.2.2.1 k hk
      have r2 := hf (i * 9 + 2 + k)
      have hP : PA (w.setCell ⟨g, i * 9 + (2 + k), none⟩ (.int .u32 v)) A (S.put i k v) F :=
        h.turn hl (by omega) k1 (c' := some (ag, ws.set k v)) (by unfold Ars.put; rw [hc]; simp only; rw [if_neg (by omega)]; simp) (h.ok.put _ _ _ hv) (fun r hr => hr.word hk h7 v)
      have hgF : g ∈ F := by
        obtain ⟨cv, bv, rows, hA, _, _, _, _, rfl, _⟩ := h
        have : cv = .slice (some ⟨g, 0, none⟩) S.cells.length cc' := by simpa [World.cell?, hA] using k1
        rw [this]; simp [ownB]
      have HP := Lib.hid (And.intro hP hgF)
      have HE := Lib.hid h1
      have HAT := Lib.hid (ar_at_yes A S F i k g cc' ag ws w h hc hk k1)
      clear h hc h1 he hr hf ha hl h0 k1 hP hgF hv
      go_enter Try.func47, Try.ntmps47
      go_wp2_with (go_at_call 96; refine HAT.out.mono ?_; rintro e w' ⟨rfl, rfl⟩)
      go_ret
      exact ⟨by rw [HE.out]; rfl, by rw [show i * 9 + 2 + k = i * 9 + (2 + k) by omega]; exact HP.out.1, (Kp.refl _ _).setCell (.inl HP.out.2) _, by simp⟩
  · have HS : Hid (S.put c s v = S) := by
      show _ = _
      rcases slotE_cases S c s with ⟨h1, hc⟩ | ⟨h1, ag, ws, hc, hs⟩ | ⟨h1, _⟩
      · unfold Ars.put; rw [hc]
      · unfold Ars.put; rw [hc]; simp only; rw [if_pos hs]
      · exact absurd h1 he
    have hne : (S.slotE c s == 0) = false := by simpa using he
    have HAT := Lib.hid (ar_at_no A S F c s w h he)
    have H := Lib.hid h
    clear h he hv
    go_enter Try.func47, Try.ntmps47
    go_wp2_with (go_at_call 96; refine HAT.out.mono ?_; rintro e w' ⟨rfl, rfl⟩)
    go_ret
    exact ⟨rfl, by rw [HS.out]; exact H.out, Kp.refl _ _, rfl⟩
end Go.Proofs.Ythbobooiedcofaa
namespace Go.Proofs.Ythbobooiedcofaa
open Go.RowKit
attribute [local go_sem] cell_set
set_option maxRecDepth 100000

/-- The arena's blocks, with its rows of nine cells as they lie. -/
structure PA0 (w : World) (A most : Nat) (p : Int) (cv bv : Value) (rows : List (List Value)) (back : List Nat) : Prop where
  head : w.heap[A]? = some (.cells #[.int .i64 most, cv, bv, .int .i64 p] 118 (0, 0))
  cells : Row w 150 9 cv rows.length rows.flatten
  nine : ∀ r ∈ rows, r.length = 9
  back : Row w 3 1 bv back.length (back.map fun (b : Nat) => Value.int .i64 (b : Int))
section
variable {w w' : World} {A most : Nat} {p : Int} {cv bv : Value} {rows : List (List Value)} {back : List Nat}
theorem Row.ty {e : TypeId} {size n : Nat} {v : Value} {xs : List Value} (h : Row w e size v n xs) {b : Nat} (hb : b ∈ ownB v) : ∃ cur, w.heap[b]? = some (.cells cur e (0, 0)) := by
  rcases h.2 with ⟨e, _⟩ | ⟨g, c, cur, e, hh, _⟩
  · rw [e] at hb; simp [ownB] at hb
  · rw [e] at hb; simp [ownB] at hb; subst hb; exact ⟨cur, hh⟩
theorem ty_ne {a b : Nat} {c1 c2 : Array Value} {t1 t2 : TypeId} {f1 f2 : Nat × Nat} (h1 : w.heap[a]? = some (.cells c1 t1 f1)) (h2 : w.heap[b]? = some (.cells c2 t2 f2)) (ht : t1 ≠ t2) : a ≠ b := by
  rintro rfl; rw [h1] at h2; injection h2 with h2; injection h2 with _ h2; exact ht h2
theorem PA0.a1 (h : PA0 w A most p cv bv rows back) : A ∉ ownB cv := fun hb => by obtain ⟨_, hh⟩ := h.cells.ty hb; exact ty_ne h.head hh (by decide) rfl
theorem PA0.a2 (h : PA0 w A most p cv bv rows back) : A ∉ ownB bv := fun hb => by obtain ⟨_, hh⟩ := h.back.ty hb; exact ty_ne h.head hh (by decide) rfl
theorem PA0.a3 (h : PA0 w A most p cv bv rows back) : ∀ b ∈ ownB cv, b ∉ ownB bv := fun b hb hb' => by
  obtain ⟨_, h1⟩ := h.cells.ty hb; obtain ⟨_, h2⟩ := h.back.ty hb'; exact ty_ne h1 h2 (by decide) rfl
theorem PA0.keep (h : PA0 w A most p cv bv rows back) (hk : ∀ b ∈ A :: (ownB cv ++ ownB bv), w'.heap[b]? = w.heap[b]?) : PA0 w' A most p cv bv rows back :=
  ⟨(hk A (by simp)).trans h.head, h.cells.keep (fun b hm => hk b (by simp [hm])), h.nine, h.back.keep (fun b hm => hk b (by simp [hm]))⟩
theorem PA0.lt (h : PA0 w A most p cv bv rows back) : ∀ b ∈ A :: (ownB cv ++ ownB bv), b < w.heap.size := by
  intro b hm
  simp only [List.mem_cons, List.mem_append] at hm
  rcases hm with rfl | hm | hm
  · exact heap_lt h.head
  · exact h.cells.lt b hm
  · exact h.back.lt b hm
theorem PA0.alloc (h : PA0 w A most p cv bv rows back) (o : Obj) : PA0 (w.alloc o) A most p cv bv rows back := h.keep fun b hb => Below.heap_alloc w o b (h.lt b hb)
theorem PA0.drew (h : PA0 w A most p cv bv rows back) : PA0 w.drew A most p cv bv rows back := h.keep fun _ _ => rfl
theorem PA0.kp {G : List Nat} (h : PA0 w A most p cv bv rows back) (hk : Kp G w w') (hG : ∀ b ∈ A :: (ownB cv ++ ownB bv), b ∉ G) : PA0 w' A most p cv bv rows back := h.keep fun b hb => hk.block b (h.lt b hb) (hG b hb)
theorem PA0.turn {g n cc : Nat} (h : PA0 w A most p (.slice (some ⟨g, 0, none⟩) n cc) bv rows back) {i j : Nat} {r : List Value} (hi : rows[i]? = some r) (hj : j < 9) (u : Value) : PA0 (w.setCell ⟨g, i * 9 + j, none⟩ u) A most p (.slice (some ⟨g, 0, none⟩) n cc) bv (rows.set i (r.set j u)) back := by
  have hAg : A ≠ g := fun e => h.a1 (by simp [ownB, e])
  have hBg : g ∉ ownB bv := h.a3 g (by simp [ownB])
  obtain ⟨c1, c2, c3, c4⟩ := h
  have hn : n = rows.length := by
    obtain ⟨_, _, e, _⟩ := c2.len
    injection e
  subst hn
  refine ⟨(Below.heap_setCell w _ u A (by simpa using hAg)).trans c1, ?_, fun x hx => ?_, c4.keep fun b hm => Below.heap_setCell w _ u b (fun e => by
      have e' : b = g := e
      subst e'; exact hBg hm)⟩
  · have := c2.set (i * 9 + j) u
    rw [flat_set c3 hi hj] at this
    simpa using this
  · rcases List.mem_or_eq_of_mem_set hx with hx | rfl
    · exact c3 x hx
    · simpa using c3 r (List.mem_of_getElem? hi)
/-- A new slice of those that were given back. -/
theorem PA0.setBack (h : PA0 w A most p cv bv rows back) {w1 : World} {G : List Nat} (hk : Kp G w w1) (hG : A ∉ G ∧ ∀ b ∈ ownB cv, b ∉ G) {bv' : Value} {back' : List Nat}
    (hr : Row w1 3 1 bv' back'.length (back'.map fun (b : Nat) => Value.int .i64 (b : Int))) : PA0 (w1.setCell ⟨A, 2, none⟩ bv') A most p cv bv' rows back' := by
  have hA1 : w1.heap[A]? = some (.cells #[.int .i64 most, cv, bv, .int .i64 p] 118 (0, 0)) := (hk.block A (heap_lt h.head) hG.1).trans h.head
  refine ⟨by simp [World.setCell, Array.getElem?_modify, hA1], ?_, h.nine, ?_⟩
  · exact (h.cells.kp hk hG.2).keep fun b hb => Below.heap_setCell w1 _ _ b (fun e => by have e' : b = A := e; subst e'; exact h.a1 hb)
  · refine hr.keep fun b hb => Below.heap_setCell w1 _ _ b (fun e => ?_)
    have e' : b = A := e
    subst e'
    obtain ⟨_, hh⟩ := hr.ty hb
    exact ty_ne hA1 hh (by decide) rfl
/-- A new slice of cells. -/
theorem PA0.setCells (h : PA0 w A most p cv bv rows back) {w1 : World} {G : List Nat} (hk : Kp G w w1) (hG : A ∉ G ∧ ∀ b ∈ ownB bv, b ∉ G) {cv' : Value} {rows' : List (List Value)} (h9 : ∀ r ∈ rows', r.length = 9)
    (hr : Row w1 150 9 cv' rows'.length rows'.flatten) : PA0 (w1.setCell ⟨A, 1, none⟩ cv') A most p cv' bv rows' back := by
  have hA1 : w1.heap[A]? = some (.cells #[.int .i64 most, cv, bv, .int .i64 p] 118 (0, 0)) := (hk.block A (heap_lt h.head) hG.1).trans h.head
  refine ⟨by simp [World.setCell, Array.getElem?_modify, hA1], ?_, h9, ?_⟩
  · refine hr.keep fun b hb => Below.heap_setCell w1 _ _ b (fun e => ?_)
    have e' : b = A := e
    subst e'
    obtain ⟨_, hh⟩ := hr.ty hb
    exact ty_ne hA1 hh (by decide) rfl
  · exact (h.back.kp hk hG.2).keep fun b hb => Below.heap_setCell w1 _ _ b (fun e => by have e' : b = A := e; subst e'; exact h.a2 hb)
theorem PA0.setPeak (h : PA0 w A most p cv bv rows back) (q : Int) : PA0 (w.setCell ⟨A, 3, none⟩ (.int .i64 q)) A most q cv bv rows back := by
  refine ⟨by simp [World.setCell, Array.getElem?_modify, h.head], ?_, h.nine, ?_⟩
  · exact h.cells.keep fun b hb => Below.heap_setCell w _ _ b (fun e => by have e' : b = A := e; subst e'; exact h.a1 hb)
  · exact h.back.keep fun b hb => Below.heap_setCell w _ _ b (fun e => by have e' : b = A := e; subst e'; exact h.a2 hb)
theorem PA.p0 {S : Ars} {F : List Nat} (h : PA w A S F) : ∃ (cv bv : Value) (rows : List (List Value)), PA0 w A S.most S.cells.length cv bv rows S.back ∧ rows.length = S.cells.length ∧ (∀ (i : Nat) c r, S.cells[i]? = some c → rows[i]? = some r → acell c r) ∧ F = A :: (ownB cv ++ ownB bv) := by
  obtain ⟨cv, bv, rows, hA, hc, hl, hr, hb, hF, _⟩ := h
  refine ⟨cv, bv, rows, ⟨hA, by rw [hl]; exact hc, fun r hm => ?_, hb⟩, hl, hr, hF⟩
  obtain ⟨k, hk, rfl⟩ := List.mem_iff_getElem.1 hm
  exact (hr k _ _ (List.getElem?_eq_getElem (show k < S.cells.length by omega)) (List.getElem?_eq_getElem hk)).len
theorem PA0.pa {S : Ars} (h : PA0 w A most p cv bv rows back) (hm : most = S.most) (hp : p = (S.cells.length : Int)) (hb : back = S.back) (hl : rows.length = S.cells.length)
    (hr : ∀ (i : Nat) c r, S.cells[i]? = some c → rows[i]? = some r → acell c r) (ok : S.Ok) : PA w A S (A :: (ownB cv ++ ownB bv)) := by
  subst hm hp hb
  exact ⟨cv, bv, rows, h.head, by rw [← hl]; exact h.cells, hl, hr, h.back, rfl, ok⟩
end
theorem rows_set {cells : List (Option (Int × List Int))} {rows : List (List Value)} (hr : ∀ (i : Nat) c r, cells[i]? = some c → rows[i]? = some r → acell c r) (hl : rows.length = cells.length) {i : Nat} {c' : Option (Int × List Int)} {r' : List Value} (h : acell c' r') :
    ∀ (k : Nat) c r, (cells.set i c')[k]? = some c → (rows.set i r')[k]? = some r → acell c r := by
  intro k c r hc hr'
  rw [List.getElem?_set] at hc hr'
  by_cases e : i = k
  · rw [if_pos e] at hc hr'
    split at hc
    · rename_i hlt
      rw [if_pos (by omega)] at hr'
      injection hc with hc; injection hr' with hr'
      subst hc hr'; exact h
    · cases hc
  · rw [if_neg e] at hc hr'
    exact hr k c r hc hr'
theorem rows_snoc {cells : List (Option (Int × List Int))} {rows : List (List Value)} (hr : ∀ (i : Nat) c r, cells[i]? = some c → rows[i]? = some r → acell c r) (hl : rows.length = cells.length) {c' : Option (Int × List Int)} {r' : List Value} (h : acell c' r') :
    ∀ (k : Nat) c r, (cells ++ [c'])[k]? = some c → (rows ++ [r'])[k]? = some r → acell c r := by
  intro k c r hc hr'
  rw [List.getElem?_append] at hc hr'
  by_cases e : k < cells.length
  · rw [if_pos e] at hc; rw [if_pos (by omega)] at hr'; exact hr k c r hc hr'
  · rw [if_neg e, List.getElem?_singleton] at hc
    rw [if_neg (by omega), List.getElem?_singleton] at hr'
    split at hc
    · rw [if_pos (by omega)] at hr'
      injection hc with hc; injection hr' with hr'
      subst hc hr'; exact h
    · cases hc
/-- Give on a live cell: what the arena says then. -/
theorem ar_give_close {w w5 : World} {A : Nat} {S : Ars} {F : List Nat} {i g cc : Nat} {x : Int × List Int} {bv v5 : Value} {o : Obj} (h : PA w A S F) (hc : S.cell i = some x)
    (k1 : w.cell? ⟨A, 1, none⟩ = some (.slice (some ⟨g, 0, none⟩) S.cells.length cc)) (k2 : w.cell? ⟨A, 2, none⟩ = some bv)
    (k5 : Kp (ownB bv) ((w.setCell ⟨g, i * 9, none⟩ (.int .i64 (-1))).alloc o) w5) (o5 : ownB v5 = ownB bv ∨ ownB v5 = [((w.setCell ⟨g, i * 9, none⟩ (.int .i64 (-1))).alloc o).heap.size])
    (r5 : Row w5 3 1 v5 (S.back.length + 1) ((S.back.map fun (b : Nat) => Value.int .i64 (b : Int)) ++ [.int .i64 (i : Int)])) :
    (∃ F', PA (w5.setCell ⟨A, 2, none⟩ v5) A (S.give i) F' ∧ ∀ b ∈ F', b ∈ F ∨ w.heap.size ≤ b) ∧ Kp F w (w5.setCell ⟨A, 2, none⟩ v5) := by
  obtain ⟨cv, bv', rows, h0, hl, hr, rfl⟩ := h.p0
  have e1 : cv = .slice (some ⟨g, 0, none⟩) S.cells.length cc := by have := h0.head; simpa [World.cell?, this] using k1
  have e2 : bv' = bv := by have := h0.head; simpa [World.cell?, this] using k2
  subst e1 e2
  obtain ⟨_, hli⟩ := Ars.cell_some hc
  simp only [Int.toNat_natCast] at hli
  have hilt : i < S.cells.length := by
    rcases Nat.lt_or_ge i S.cells.length with hl | hl
    · exact hl
    · rw [List.getElem?_eq_none hl] at hli; cases hli
  have hir : rows[i]? = some (rows[i]'(by omega)) := List.getElem?_eq_getElem (by omega)
  have hok := h.ok.give i
  have hS : S.give i = { S with cells := S.cells.set i none, back := S.back ++ [i] } := by
    unfold Ars.give; rw [hc]; simp
  have t1 := (h0.turn hir (by omega : 0 < 9) (.int .i64 (-1))).alloc o
  have t2 := t1.setBack k5 ⟨h0.a2, h0.a3⟩ (bv' := v5) (back' := S.back ++ [i]) (by simpa using r5)
  have hF : ∀ b ∈ A :: (ownB (.slice (some ⟨g, 0, none⟩) S.cells.length cc) ++ ownB v5), b ∈ A :: (ownB (.slice (some ⟨g, 0, none⟩) S.cells.length cc) ++ ownB bv') ∨ w.heap.size ≤ b := by
    intro b hb
    simp only [List.mem_cons, List.mem_append] at hb ⊢
    rcases hb with hb | hb | hb
    · exact .inl (.inl hb)
    · exact .inl (.inr (.inl hb))
    · rcases o5 with e | e
      · rw [e] at hb; exact .inl (.inr (.inr hb))
      · rw [e] at hb; simp at hb; exact .inr (by omega)
  refine ⟨⟨_, t2.pa (S := S.give i) (by rw [hS]) (by rw [hS]; simp) (by rw [hS]) (by rw [hS]; simpa using hl) (by rw [hS]; exact rows_set hr hl (hr i _ _ hli hir).dead) hok, hF⟩, ?_⟩
  refine Kp.setCell ?_ (.inl (by simp)) _
  refine ((((Kp.refl _ w).setCell (p := ⟨g, i * 9, none⟩) (.inl (by simp [ownB])) _).alloc o).trans k5 (fun b hb => .inl (by simp [hb])))
theorem int_info : (Try.prog.info? 3).map (fun i => (i.zero, i.size, i.bytes)) = some (some (.int .i64 0), 1, 8) := by kernel_rfl

theorem ar_give_no (A : Nat) (S : Ars) (F : List Nat) (c : Int) (w : World) (h : PA w A S F) (hc : S.cell c = none) :
    Calls Try.prog 49 #[.pointer (some ⟨A, 0, none⟩), .int .i64 c] w fun e w' => e = .returned (.int .i64 41) ∧ w = w' := by
  obtain ⟨VC, VB, cc, cb, c0, c1, c2, c3, hAl⟩ := h.head
  have hne := ok_ne h.ok
  have H := Lib.hid h
  have HS : Hid ((S.cell c).isSome = false) := by show _ = _; rw [hc]; rfl
  clear h hc
  go_enter Try.func49, Try.ntmps49
  go_wp2_with (first
    | (go_at_call 91; refine (ar_none_is _ S.most _ hne (by go_simp)).mono ?_; rintro e w' ⟨rfl, rfl⟩)
    | (go_at_call 93; refine (ar_is _ S F _ _ H.out).mono ?_; rintro e w1 ⟨rfl, rfl⟩; rw [HS.out]))
  go_ret
  exact ⟨rfl, rfl⟩

/-- The row of those that were given back. -/
theorem PA.backRow {w : World} {A : Nat} {S : Ars} {F : List Nat} (h : PA w A S F) : ∃ (VB : Option Addr) (cb : Nat), w.cell? ⟨A, 2, none⟩ = some (.slice VB S.back.length cb) ∧ w.frozen? ⟨A, 2, none⟩ = false ∧ A < w.heap.size ∧ A ∉ ownB (.slice VB S.back.length cb) ∧
    Row w 3 1 (.slice VB S.back.length cb) S.back.length (S.back.map fun (b : Nat) => Value.int .i64 (b : Int)) := by
  obtain ⟨cv, bv, rows, hA, hc, _, _, hb, rfl, _⟩ := h
  obtain ⟨VB, cb, rfl, _⟩ := hb.len
  refine ⟨VB, cb, by simp [World.cell?, hA], by simp [World.frozen?, hA], heap_lt hA, fun hm => ?_, hb⟩
  rcases hb.2 with ⟨e, _⟩ | ⟨g2, c2, cur2, e, hh, _⟩
  · rw [e] at hm; simp [ownB] at hm
  · rw [e] at hm; simp [ownB] at hm; subst hm; rw [hA] at hh; injection hh with hh; injection hh with _ ht; exact absurd ht (by decide)

/-- The cells' row and the row of those given back are apart. -/
theorem PA.apart {w : World} {A : Nat} {S : Ars} {F : List Nat} (h : PA w A S F) {g cc : Nat} {VB : Option Addr} {cb : Nat} (hg : w.cell? ⟨A, 1, none⟩ = some (.slice (some ⟨g, 0, none⟩) S.cells.length cc)) (h2 : w.cell? ⟨A, 2, none⟩ = some (.slice VB S.back.length cb)) : g ∉ ownB (.slice VB S.back.length cb) ∧ A ≠ g := by
  obtain ⟨cv, bv, rows, hA, hc, _, _, hb, rfl, _⟩ := h
  have e1 : cv = .slice (some ⟨g, 0, none⟩) S.cells.length cc := by simpa [World.cell?, hA] using hg
  have e2 : bv = .slice VB S.back.length cb := by simpa [World.cell?, hA] using h2
  subst e1 e2
  rcases hc.2 with ⟨e, _⟩ | ⟨g', c', cur, e, hgb, _⟩
  · simp at e
  · simp only [Value.slice.injEq, Option.some.injEq, Addr.mk.injEq, and_true, true_and] at e
    obtain ⟨rfl, rfl⟩ := e
    refine ⟨fun hm => ?_, fun e => ?_⟩
    · rcases hb.2 with ⟨e, _⟩ | ⟨g2, c2, cur2, e, hh, _⟩
      · rw [e] at hm; simp [ownB] at hm
      · rw [e] at hm; simp [ownB] at hm; subst hm; rw [hgb] at hh; injection hh with hh; injection hh with _ ht; exact absurd ht (by decide)
    · subst e; rw [hA] at hgb; injection hgb with hgb; injection hgb with _ ht; exact absurd ht (by decide)

theorem ar_give_yes (A : Nat) (S : Ars) (F : List Nat) (i : Nat) (x : Int × List Int) (w : World) (h : PA w A S F) (hc : S.cell i = some x) :
    Calls Try.prog 49 #[.pointer (some ⟨A, 0, none⟩), .int .i64 (i : Int)] w fun e w' => e = .returned (.int .i64 0) ∧ (∃ F', PA w' A (S.give i) F' ∧ ∀ b ∈ F', b ∈ F ∨ w.heap.size ≤ b) ∧ Kp F w w' := by
  obtain ⟨VC, VB', cc, cb', c0, c1, c2', c3, hAl⟩ := h.head
  have hne := ok_ne h.ok
  have hbl := h.ok.back_le
  have hm2 := h.ok.most2
  have hcl := h.ok.len
  have H := Lib.hid h
  have HS : Hid ((S.cell i).isSome = true) := by show _ = _; rw [hc]; rfl
  obtain ⟨_, hl⟩ := Ars.cell_some hc
  simp only [Int.toNat_natCast] at hl
  obtain ⟨ag, ws⟩ := x
  obtain ⟨g, cc', r, k1, hgl, ha, hr, hf, hlt⟩ := h.at_ hl
  have r0 : w.cell? ⟨g, i * 9, none⟩ = some (.int .i64 ag) := (hr 0 (by omega)).trans ha.2.1
  have z0 := hf (i * 9)
  obtain ⟨VB, cb, d2, df, _, hAV, hrow⟩ := h.backRow
  have HR := Lib.hid (And.intro hrow hAV)
  obtain ⟨i0, hi0, hz0, hz1, hz2⟩ := info_parts int_info
  obtain ⟨hgB, hAg⟩ := h.apart k1 d2
  have HR2 : Hid (Row ((w.setCell ⟨g, i * 9, none⟩ (.int .i64 (-1))).alloc (.cells #[.int .i64 (i : Int)] 3)) 3 1 (.slice VB S.back.length cb) S.back.length (S.back.map fun (b : Nat) => Value.int .i64 (b : Int))) :=
    (hrow.keep (fun b hm => Below.heap_setCell w _ _ b (fun e => by have e' : b = g := e; subst e'; exact hgB hm))).alloc _
  have HSrc : Hid (Src ((w.setCell ⟨g, i * 9, none⟩ (.int .i64 (-1))).alloc (.cells #[.int .i64 (i : Int)] 3)) (some ⟨w.heap.size, 0, none⟩) 1 1 [.int .i64 (i : Int)]) := by
    have := Src.block (cs := #[.int .i64 (i : Int)]) (t := 3) (fr := (0, 0)) (m := 1) (size := 1) (heap_alloc_new (w.setCell ⟨g, i * 9, none⟩ (.int .i64 (-1))) _) rfl (by simp [Value.oneCell'])
    exact Lib.hid (by simpa using this)
  have HK := Lib.hid hc
  have HB63 : S.back.length + 1 ≤ maxLen := by simp only [maxLen]; omega
  have HB47 : (S.back.length + 1) * 8 ≤ 140737488355328 := by omega
  clear c1 hr hf ha h c2' hrow hAV
  go_enter Try.func49, Try.ntmps49
  go_wp2_with (first
    | (go_at_call 91; refine (ar_none_is _ S.most _ hne (by go_simp)).mono ?_; rintro e w' ⟨rfl, rfl⟩)
    | (go_at_call 93; refine (ar_is _ S F _ _ H.out).mono ?_; rintro e w1 ⟨rfl, rfl⟩; rw [HS.out])
    | (at_builtin; go_loud (refine inPlain rfl (wpo_row_append _ _ _ rfl i0 _ 8 Try.underlying64 hi0 hz0 hz1 hz2 rfl rfl HR2.out _ 1 1 rfl [.int .i64 (i : Int)] HSrc.out HB63 HB47 ?_)); intro sv5 w5 r5 k5 o5; obtain ⟨V5, cp5, rfl, hc5⟩ := r5.len
       go_loud (have q2 : w5.cell? ⟨A, 2, none⟩ = some (.slice VB S.back.length cb) := (k5.cell (p := ⟨A, 2, none⟩) (by simp; omega) HR.out.2).trans (by go_simp)); go_loud (
       have q3 : w5.frozen? ⟨A, 2, none⟩ = false := (k5.frozen (p := ⟨A, 2, none⟩) (by simp; omega) HR.out.2).trans (by go_simp)); go_loud (
       have hA5 : A < w5.heap.size := Nat.lt_of_lt_of_le hAl (by have := k5.size; simp at this; omega))))
  go_ret
  exact ⟨rfl, ar_give_close H.out HK.out k1 d2 k5 o5 r5⟩
end Go.Proofs.Ythbobooiedcofaa
