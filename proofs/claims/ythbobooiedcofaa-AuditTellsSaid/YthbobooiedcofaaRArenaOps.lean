/-
  The document's arena, continued: Put, Give.
-/
import Derived.Test.YthbobooiedcofaaRArena
/-
  The document's arena, continued: Put, Give.
-/
namespace Go.Proofs.Ythbobooiedcofaa
open Go.RowKit
attribute [local go_sem] cell_set
set_option maxRecDepth 100000

theorem flatN_set {m : Nat} {rows : List (List Value)} (h : ∀ r ∈ rows, r.length = m) {i : Nat} {r : List Value} (hi : rows[i]? = some r) {j : Nat} (hj : j < m) (u : Value) :
    rows.flatten.set (i * m + j) u = (rows.set i (r.set j u)).flatten := by
  have hil : i < rows.length := by
    rcases Nat.lt_or_ge i rows.length with hl | hl
    · exact hl
    · rw [List.getElem?_eq_none hl] at hi; cases hi
  have hr : r.length = m := h r (List.mem_of_getElem? hi)
  have h' : ∀ x ∈ rows.set i (r.set j u), x.length = m := by
    intro x hx
    rcases List.mem_or_eq_of_mem_set hx with hx | rfl
    · exact h x hx
    · simpa using hr
  apply List.ext_getElem?
  intro k
  have hm0 : 0 < m := by omega
  have hk : k = (k / m) * m + k % m := by have := Nat.div_add_mod k m; rw [Nat.mul_comm] at this; omega
  have hm : k % m < m := Nat.mod_lt _ hm0
  generalize k / m = q at hk
  generalize k % m = t at hk hm
  subst hk
  rw [flatN_at h' hm, List.getElem?_set, flatN_at h hm]
  by_cases hki : i = q
  · subst hki
    rw [hi]
    simp only [List.getElem?_set, hil, if_true, Option.bind_some]
    have hlt : i * m + j < rows.flatten.length := by rw [flatN_len h]; calc i * m + j < i * m + m := by omega
      _ = (i + 1) * m := by rw [Nat.succ_mul]
      _ ≤ rows.length * m := Nat.mul_le_mul_right _ (by omega)
    by_cases hkj : j = t
    · rw [if_pos (by omega), if_pos hkj, if_pos hlt, if_pos (by omega)]
    · rw [if_neg (by omega), if_neg hkj]
  · have hne : i * m + j ≠ q * m + t := by
      intro e
      rcases Nat.lt_or_gt_of_ne hki with hlt | hlt
      · have := Nat.mul_le_mul_right m (show i + 1 ≤ q by omega); rw [Nat.succ_mul] at this; omega
      · have := Nat.mul_le_mul_right m (show q + 1 ≤ i by omega); rw [Nat.succ_mul] at this; omega
    rw [if_neg hne, List.getElem?_set, if_neg hki]
theorem cells_set3 {cs : List (Option (Int × Value))} {i : Nat} (hi : i < cs.length) {r : Option (Int × Value)} {u0 u1 u2 : Value} (hr : rcell r = [u0, u1, u2]) :
    (((cs.map rcell).flatten.set (i * 3) u0).set (i * 3 + 1) u1).set (i * 3 + 2) u2 = ((cs.set i r).map rcell).flatten := by
  have hir : (cs.map rcell)[i]? = some (rcell cs[i]) := by rw [List.getElem?_map, List.getElem?_eq_getElem hi]; rfl
  have e0 := flatN_set (rcells_len cs) hir (j := 0) (by omega) u0
  rw [Nat.add_zero] at e0
  have l1 : ∀ x ∈ (cs.map rcell).set i ((rcell cs[i]).set 0 u0), x.length = 3 := fun x hx => by
    rcases List.mem_or_eq_of_mem_set hx with hx | rfl
    · exact rcells_len cs x hx
    · simp [rcell_len]
  have e1 := flatN_set l1 (List.getElem?_set_self (by simpa using hi)) (j := 1) (by omega) u1
  rw [List.set_set] at e1
  have l2 : ∀ x ∈ (cs.map rcell).set i (((rcell cs[i]).set 0 u0).set 1 u1), x.length = 3 := fun x hx => by
    rcases List.mem_or_eq_of_mem_set hx with hx | rfl
    · exact rcells_len cs x hx
    · simp [rcell_len]
  have e2 := flatN_set l2 (List.getElem?_set_self (by simpa using hi)) (j := 2) (by omega) u2
  rw [List.set_set] at e2
  rw [e0, e1, e2, List.map_set, hr]
  congr 2
  have h3 := rcell_len cs[i]
  generalize rcell cs[i] = q at h3
  match q, h3 with
  | [_, _, _], _ => rfl
section
variable {w w' w1 : World} {R most : Nat} {live peak : Int} {cv bv : Value} {cs : List (Option (Int × Value))} {back : List Nat}
theorem RA0.a1 (h : RA0 w R most live peak cv bv cs back) : R ∉ ownB cv := fun hb => by obtain ⟨_, hh⟩ := h.cells.ty hb; exact ty_ne h.head hh (by decide) rfl
theorem RA0.a2 (h : RA0 w R most live peak cv bv cs back) : R ∉ ownB bv := fun hb => by obtain ⟨_, hh⟩ := h.back.ty hb; exact ty_ne h.head hh (by decide) rfl
theorem RA0.a3 (h : RA0 w R most live peak cv bv cs back) : ∀ b ∈ ownB cv, b ∉ ownB bv := fun b hb hb' => by
  obtain ⟨_, h1⟩ := h.cells.ty hb; obtain ⟨_, h2⟩ := h.back.ty hb'; exact ty_ne h1 h2 (by decide) rfl
theorem RA0.keep (h : RA0 w R most live peak cv bv cs back) (hk : ∀ b ∈ R :: (ownB cv ++ ownB bv), w'.heap[b]? = w.heap[b]?) : RA0 w' R most live peak cv bv cs back :=
  ⟨(hk R (by simp)).trans h.head, h.cells.keep (fun b hm => hk b (by simp [hm])), h.back.keep (fun b hm => hk b (by simp [hm]))⟩
theorem RA0.lt (h : RA0 w R most live peak cv bv cs back) : ∀ b ∈ R :: (ownB cv ++ ownB bv), b < w.heap.size := by
  intro b hm
  simp only [List.mem_cons, List.mem_append] at hm
  rcases hm with rfl | hm | hm
  · exact heap_lt h.head
  · exact h.cells.lt b hm
  · exact h.back.lt b hm
theorem RA0.alloc (h : RA0 w R most live peak cv bv cs back) (o : Obj) : RA0 (w.alloc o) R most live peak cv bv cs back := h.keep fun b hb => Below.heap_alloc w o b (h.lt b hb)
theorem RA0.drew (h : RA0 w R most live peak cv bv cs back) : RA0 w.drew R most live peak cv bv cs back := h.keep fun _ _ => rfl
/-- A block that holds something of another kind. -/
theorem RA0.other (h : RA0 w R most live peak cv bv cs back) {d : Nat} {cur : Array Value} {t : TypeId} (hd : w.heap[d]? = some (.cells cur t (0, 0))) (h1 : t ≠ 121) (h2 : t ≠ 147) (h3 : t ≠ 3) : ∀ b ∈ R :: (ownB cv ++ ownB bv), b ≠ d := by
  intro b hm
  simp only [List.mem_cons, List.mem_append] at hm
  rcases hm with rfl | hm | hm
  · exact ty_ne h.head hd (fun e => h1 e.symm)
  · obtain ⟨_, hh⟩ := h.cells.ty hm; exact ty_ne hh hd (fun e => h2 e.symm)
  · obtain ⟨_, hh⟩ := h.back.ty hm; exact ty_ne hh hd (fun e => h3 e.symm)
theorem RA0.set3 {g n cc : Nat} (h : RA0 w R most live peak (.slice (some ⟨g, 0, none⟩) n cc) bv cs back) {i : Nat} (hi : i < cs.length) {r : Option (Int × Value)} {u0 u1 u2 : Value} (hr : rcell r = [u0, u1, u2]) :
    RA0 (((w.setCell ⟨g, i * 3, none⟩ u0).setCell ⟨g, i * 3 + 1, none⟩ u1).setCell ⟨g, i * 3 + 2, none⟩ u2) R most live peak (.slice (some ⟨g, 0, none⟩) n cc) bv (cs.set i r) back := by
  have hAg : R ≠ g := fun e => h.a1 (by simp [ownB, e])
  have hBg : g ∉ ownB bv := h.a3 g (by simp [ownB])
  have hk : ∀ b, b ≠ g → (((w.setCell ⟨g, i * 3, none⟩ u0).setCell ⟨g, i * 3 + 1, none⟩ u1).setCell ⟨g, i * 3 + 2, none⟩ u2).heap[b]? = w.heap[b]? := fun b hb =>
    ((Below.heap_setCell _ _ _ b hb).trans (Below.heap_setCell _ _ _ b hb)).trans (Below.heap_setCell _ _ _ b hb)
  obtain ⟨c1, c2, c4⟩ := h
  have hn : n = cs.length := by obtain ⟨_, _, e, _⟩ := c2.len; injection e
  subst hn
  refine ⟨(hk R hAg).trans c1, ?_, c4.keep fun b hm => hk b (fun e => by subst e; exact hBg hm)⟩
  have := ((c2.set (i * 3) u0).set (i * 3 + 1) u1).set (i * 3 + 2) u2
  rw [cells_set3 hi hr] at this
  simpa using this
theorem RA0.setBack (h : RA0 w R most live peak cv bv cs back) {G : List Nat} (hk : Kp G w w1) (hG : R ∉ G ∧ ∀ b ∈ ownB cv, b ∉ G) {bv' : Value} {back' : List Nat}
    (hr : Row w1 3 1 bv' back'.length (back'.map fun (b : Nat) => Value.int .i64 (b : Int))) : RA0 (w1.setCell ⟨R, 2, none⟩ bv') R most live peak cv bv' cs back' := by
  have hA1 := (hk.block R (heap_lt h.head) hG.1).trans h.head
  refine ⟨by simp [World.setCell, Array.getElem?_modify, hA1], ?_, ?_⟩
  · exact (h.cells.kp hk hG.2).keep fun b hb => Below.heap_setCell w1 _ _ b (fun e => by have e' : b = R := e; subst e'; exact h.a1 hb)
  · refine hr.keep fun b hb => Below.heap_setCell w1 _ _ b (fun e => ?_)
    have e' : b = R := e
    subst e'
    obtain ⟨_, hh⟩ := hr.ty hb
    exact ty_ne hA1 hh (by decide) rfl
theorem RA0.setCells (h : RA0 w R most live peak cv bv cs back) {G : List Nat} (hk : Kp G w w1) (hG : R ∉ G ∧ ∀ b ∈ ownB bv, b ∉ G) {cv' : Value} {cs' : List (Option (Int × Value))}
    (hr : Row w1 147 3 cv' cs'.length (cs'.map rcell).flatten) : RA0 (w1.setCell ⟨R, 1, none⟩ cv') R most live peak cv' bv cs' back := by
  have hA1 := (hk.block R (heap_lt h.head) hG.1).trans h.head
  refine ⟨by simp [World.setCell, Array.getElem?_modify, hA1], ?_, ?_⟩
  · refine hr.keep fun b hb => Below.heap_setCell w1 _ _ b (fun e => ?_)
    have e' : b = R := e
    subst e'
    obtain ⟨_, hh⟩ := hr.ty hb
    exact ty_ne hA1 hh (by decide) rfl
  · exact (h.back.kp hk hG.2).keep fun b hb => Below.heap_setCell w1 _ _ b (fun e => by have e' : b = R := e; subst e'; exact h.a2 hb)
theorem RA0.setLive (h : RA0 w R most live peak cv bv cs back) (q : Int) : RA0 (w.setCell ⟨R, 3, none⟩ (.int .i64 q)) R most q peak cv bv cs back := by
  refine ⟨by simp [World.setCell, Array.getElem?_modify, h.head], ?_, ?_⟩
  · exact h.cells.keep fun b hb => Below.heap_setCell w _ _ b (fun e => by have e' : b = R := e; subst e'; exact h.a1 hb)
  · exact h.back.keep fun b hb => Below.heap_setCell w _ _ b (fun e => by have e' : b = R := e; subst e'; exact h.a2 hb)
theorem RA0.setPeak (h : RA0 w R most live peak cv bv cs back) (q : Int) : RA0 (w.setCell ⟨R, 4, none⟩ (.int .i64 q)) R most live q cv bv cs back := by
  refine ⟨by simp [World.setCell, Array.getElem?_modify, h.head], ?_, ?_⟩
  · exact h.cells.keep fun b hb => Below.heap_setCell w _ _ b (fun e => by have e' : b = R := e; subst e'; exact h.a1 hb)
  · exact h.back.keep fun b hb => Below.heap_setCell w _ _ b (fun e => by have e' : b = R := e; subst e'; exact h.a2 hb)
end
end Go.Proofs.Ythbobooiedcofaa
namespace Go.Proofs.Ythbobooiedcofaa
open Go.RowKit
attribute [local go_sem] cell_set
set_option maxRecDepth 100000

/-- Blocks of words lie as they lay. -/
def KW (w w' : World) : Prop := ∀ (b : Nat) (cur : Array Value), w.heap[b]? = some (.cells cur 49 (0, 0)) → w'.heap[b]? = some (.cells cur 49 (0, 0))
section
variable {w w1 w2 : World}
theorem KW.refl (w : World) : KW w w := fun _ _ h => h
theorem KW.setCell (h : KW w w1) {p : Addr} {c : Array Value} {t : TypeId} (hp : w1.heap[p.block]? = some (.cells c t (0, 0))) (ht : t ≠ 49) (u : Value) : KW w (w1.setCell p u) := fun b cur hb =>
  (Below.heap_setCell w1 p u b (ty_ne (h b cur hb) hp (fun e => ht e.symm))).trans (h b cur hb)
theorem KW.alloc (h : KW w w1) (o : Obj) : KW w (w1.alloc o) := fun b cur hb => (Below.heap_alloc w1 o b (heap_lt (h b cur hb))).trans (h b cur hb)
theorem KW.drew (h : KW w w1) : KW w w1.drew := h
theorem KW.kp (h : KW w w1) {G : List Nat} (hk : Kp G w1 w2) (hG : ∀ b ∈ G, ∃ c t, w1.heap[b]? = some (.cells c t (0, 0)) ∧ t ≠ 49) : KW w w2 := fun b cur hb =>
  (hk.block b (heap_lt (h b cur hb)) (fun hm => by obtain ⟨c, t, h1, h2⟩ := hG b hm; exact ty_ne (h b cur hb) h1 (fun e => h2 e.symm) rfl)).trans (h b cur hb)
theorem KW.below (h : KW w w1) (hk : Below w1.heap.size w1 w2) : KW w w2 := fun b cur hb => (hk.block b (heap_lt (h b cur hb))).trans (h b cur hb)
theorem wOk.kw {c : Option (Int × List Int)} {r : Option (Int × Value)} (h : wOk w c r) (hk : KW w w1) : wOk w1 c r := by
  match c, r, h with
  | none, none, _ => trivial
  | some (_, _), some (_, v), h => exact ⟨h.1, h.2.keep fun b hb => by obtain ⟨cur, hh⟩ := h.2.ty hb; rw [hh]; exact hk b cur hh⟩
theorem setCell_ty {g : Nat} {cur : Array Value} {t : TypeId} (hg : w.heap[g]? = some (.cells cur t (0, 0))) (p : Addr) (u : Value) : ∃ cur', (w.setCell p u).heap[g]? = some (.cells cur' t (0, 0)) := by
  by_cases e : g = p.block
  · subst e; exact ⟨_, by simp [World.setCell, Array.getElem?_modify, hg]; rfl⟩
  · exact ⟨cur, (Below.heap_setCell w p u g e).trans hg⟩
end
theorem RA.slice {w : World} {R : Nat} {S : Ars} {g cc : Nat} {cv bv : Value} {cs : List (Option (Int × Value))} (h0 : RA0 w R S.most S.live S.cells.length cv bv cs S.back) (k1 : w.cell? ⟨R, 1, none⟩ = some (.slice (some ⟨g, 0, none⟩) S.cells.length cc)) : cv = .slice (some ⟨g, 0, none⟩) S.cells.length cc := by
  have := h0.head; simpa [World.cell?, this] using k1
theorem RA.putw {w : World} {R : Nat} {S : Ars} {F : List Nat} (h : RA w R S F) {i k g cc d cw : Nat} {ag : Int} {ws : List Int} (hc : S.cell i = some (ag, ws)) (hk : k < ws.length)
    (k1 : w.cell? ⟨R, 1, none⟩ = some (.slice (some ⟨g, 0, none⟩) S.cells.length cc)) (z2 : w.cell? ⟨g, i * 3 + 2, none⟩ = some (.slice (some ⟨d, 0, none⟩) ws.length cw)) {v : Int} (hv : 0 ≤ v ∧ v < 4294967296) :
    RA (w.setCell ⟨d, k, none⟩ (.int .u32 v)) R (S.put i k v) F := by
  obtain ⟨cv, bv, cs, h0, hl, hw, hap, rfl, ok, hwd⟩ := h.words
  have hcv := RA.slice h0 k1
  subst hcv
  obtain ⟨_, hli⟩ := Ars.cell_some hc
  simp only [Int.toNat_natCast] at hli
  have hilt : i < S.cells.length := by
    rcases Nat.lt_or_ge i S.cells.length with hl | hl
    · exact hl
    · rw [List.getElem?_eq_none hl] at hli; cases hli
  have hir : cs[i]? = some (cs[i]'(by omega)) := List.getElem?_eq_getElem (by omega)
  have hwi := hw i _ _ hli hir
  have hS : S.put i k v = { S with cells := S.cells.set i (some (ag, ws.set k v)) } := by
    unfold Ars.put; rw [hc]; simp only; rw [if_neg (by omega)]; simp
  cases hci : cs[i] with
  | none => rw [hci] at hwi; exact hwi.elim
  | some y =>
    obtain ⟨ag', vi⟩ := y
    rw [hci] at hwi hir
    obtain ⟨rfl, hrow⟩ := hwi
    have hcr := h0.cells
    rw [hl] at hcr
    have hvi : vi = .slice (some ⟨d, 0, none⟩) ws.length cw := by
      have := hcr.cellAt (i * 3 + 2) (by omega)
      rw [z2, flatN_at (rcells_len cs) (by omega), List.getElem?_map, hir] at this
      simpa [rcell] using this.symm
    subst hvi
    obtain ⟨curd, hd⟩ := hrow.ty (b := d) (by simp [ownB])
    have hne := h0.other hd (by decide) (by decide) (by decide)
    refine ⟨_, bv, cs, ?_, by rw [hS]; simpa using hl, fun j c r hcj hrj => ?_, hap, rfl, ok.put _ _ _ hv⟩
    · have := h0.keep (w' := w.setCell ⟨d, k, none⟩ (.int .u32 v)) fun b hb => Below.heap_setCell w _ _ b (hne b hb)
      rw [hS]; simpa [Ars.live] using this
    · rw [hS] at hcj
      simp only [List.getElem?_set] at hcj
      by_cases e : i = j
      · subst e
        rw [if_pos rfl, if_pos hilt] at hcj
        injection hcj with hcj; subst hcj
        rw [hir] at hrj; injection hrj with hrj; subst hrj
        refine ⟨rfl, ?_⟩
        have := hrow.set k (.int .u32 v)
        simp only [List.length_set]
        rw [show wvals (ws.set k v) = (wvals ws).set k (.int .u32 v) by simp [wvals, List.map_set]]
        exact this
      · rw [if_neg e] at hcj
        refine (hw j c r hcj hrj).keep fun b hb => Below.heap_setCell w _ _ b (fun e' => ?_)
        have e'' : b = d := e'
        subst e''
        exact hap j i _ _ hrj hir (fun e2 => e e2.symm) b hb (by simp [wB, ownB])
theorem rr_put (R : Nat) (S : Ars) (F : List Nat) (c s v : Int) (hv : 0 ≤ v ∧ v < 4294967296) (w : World) (h : RA w R S F) :
    Calls Try.prog 48 #[.pointer (some ⟨R, 0, none⟩), .int .i64 c, .int .i64 s, .int .u32 v] w fun e w' => e = .returned (.int .i64 (S.slotE c s)) ∧ RA w' R (S.put c s v) F ∧ Kp F w w' ∧ w'.heap.size = w.heap.size := by
  have H := Lib.hid h
  by_cases he : S.slotE c s = 0
  · rcases slotE_cases S c s with ⟨h1, _⟩ | ⟨h1, _⟩ | ⟨h1, ag, ws, hc, hs0, hs⟩
    · omega
    · omega
    · obtain ⟨h0, hl⟩ := Ars.cell_some hc
      obtain ⟨i, rfl⟩ := Int.eq_ofNat_of_zero_le h0
      obtain ⟨k, rfl⟩ := Int.eq_ofNat_of_zero_le hs0
      have hk : k < ws.length := by omega
      obtain ⟨g, cc, d, cw, k1, hlt, z1, z2, hrow, hdF, hgF, hn1, hn7⟩ := h.live hc
      have z3 : w.cell? ⟨d, k, none⟩ = some (.int .u32 (ws.getD k 0)) := (hrow.cellAt k (by omega)).trans (by simp [wvals, hk])
      have z3f := hrow.frozenAt k
      have HP := Lib.hid (And.intro (h.putw hc hk k1 z2 hv) hdF)
      have HE := Lib.hid h1
      clear h hc h1 he hl h0 hrow hdF hgF hv
      go_enter Try.func48, Try.ntmps48
      go_wp2_with (go_at_call 97; refine (rr_slot _ S F _ _ _ H.out).mono ?_; rintro e w' ⟨rfl, rfl⟩; rw [HE.out])
      go_ret
      exact ⟨by rw [HE.out]; rfl, HP.out.1, (Kp.refl _ _).setCell (.inl HP.out.2) _, by simp⟩
  · have HS : Hid (S.put c s v = S) := by
      show _ = _
      rcases slotE_cases S c s with ⟨h1, hc⟩ | ⟨h1, ag, ws, hc, hs⟩ | ⟨h1, _⟩
      · unfold Ars.put; rw [hc]
      · unfold Ars.put; rw [hc]; simp only; rw [if_pos hs]
      · exact absurd h1 he
    have hne : (S.slotE c s == 0) = false := by simpa using he
    clear h he hv
    go_enter Try.func48, Try.ntmps48
    go_wp2_with (go_at_call 97; refine (rr_slot _ S F _ _ _ H.out).mono ?_; rintro e w' ⟨rfl, rfl⟩)
    go_ret
    exact ⟨rfl, by rw [HS.out]; exact H.out, Kp.refl _ _, rfl⟩

theorem wApart.set {cs : List (Option (Int × Value))} (h : wApart cs) (i : Nat) (r' : Option (Int × Value)) (hr : ∀ (j : Nat) s, cs[j]? = some s → ∀ b ∈ wB s, b ∉ wB r') : wApart (cs.set i r') := by
  intro a b r s ha hb hne x hx hx'
  rw [List.getElem?_set] at ha hb
  by_cases e1 : i = a
  · by_cases e2 : i = b
    · omega
    · rw [if_neg e2] at hb
      rw [if_pos e1] at ha
      split at ha
      · injection ha with ha; subst ha; exact hr b s hb x hx' hx
      · cases ha
  · rw [if_neg e1] at ha
    by_cases e2 : i = b
    · rw [if_pos e2] at hb
      split at hb
      · injection hb with hb; subst hb; exact hr a r ha x hx hx'
      · cases hb
    · rw [if_neg e2] at hb
      exact h a b r s ha hb hne x hx hx'
theorem wOks_set {w : World} {cells : List (Option (Int × List Int))} {cs : List (Option (Int × Value))} (hr : ∀ (i : Nat) c r, cells[i]? = some c → cs[i]? = some r → wOk w c r) (hl : cs.length = cells.length) {i : Nat} {c' : Option (Int × List Int)} {r' : Option (Int × Value)} (h : wOk w c' r') :
    ∀ (k : Nat) c r, (cells.set i c')[k]? = some c → (cs.set i r')[k]? = some r → wOk w c r := by
  intro k c r hc hr'
  rw [List.getElem?_set] at hc hr'
  by_cases e : i = k
  · rw [if_pos e] at hc hr'
    split at hc
    · rename_i hlt
      rw [if_pos (by omega)] at hr'
      injection hc with hc; injection hr' with hr'
      subst hc hr'; exact h
    · cases hc
  · rw [if_neg e] at hc hr'
    exact hr k c r hc hr'
theorem rr_give_close {w w5 : World} {R : Nat} {S : Ars} {F : List Nat} {i g cc : Nat} {x : Int × List Int} {bv v5 : Value} {o : Obj} (h : RA w R S F) (hc : S.cell i = some x)
    (k1 : w.cell? ⟨R, 1, none⟩ = some (.slice (some ⟨g, 0, none⟩) S.cells.length cc)) (k2 : w.cell? ⟨R, 2, none⟩ = some bv)
    (k5 : Kp (ownB bv) ((((w.setCell ⟨g, i * 3, none⟩ (.bool false)).setCell ⟨g, i * 3 + 1, none⟩ (.int .i64 0)).setCell ⟨g, i * 3 + 2, none⟩ (.slice none 0 0)).alloc o) w5) (o5 : ownB v5 = ownB bv ∨ ∃ z, ownB v5 = [z] ∧ w.heap.size ≤ z)
    (r5 : Row w5 3 1 v5 (S.back.length + 1) ((S.back.map fun (b : Nat) => Value.int .i64 (b : Int)) ++ [.int .i64 (i : Int)])) :
    (∃ F', RA ((w5.setCell ⟨R, 2, none⟩ v5).setCell ⟨R, 3, none⟩ (.int .i64 (S.live - 1))) R (S.give i) F' ∧ ∀ b ∈ F', b ∈ F ∨ w.heap.size ≤ b) ∧ Kp F w ((w5.setCell ⟨R, 2, none⟩ v5).setCell ⟨R, 3, none⟩ (.int .i64 (S.live - 1))) := by
  obtain ⟨cv, bv', cs, h0, hl, hw, hap, rfl, ok, hwd⟩ := h.words
  have hcv := RA.slice h0 k1
  have e2 : bv' = bv := by have := h0.head; simpa [World.cell?, this] using k2
  subst hcv e2
  obtain ⟨_, hli⟩ := Ars.cell_some hc
  simp only [Int.toNat_natCast] at hli
  have hilt : i < S.cells.length := by
    rcases Nat.lt_or_ge i S.cells.length with hl | hl
    · exact hl
    · rw [List.getElem?_eq_none hl] at hli; cases hli
  have hS : S.give i = { S with cells := S.cells.set i none, back := S.back ++ [i] } := by
    unfold Ars.give; rw [hc]; simp
  have t1 := (h0.set3 (i := i) (by omega) (r := none) (u0 := .bool false) (u1 := .int .i64 0) (u2 := .slice none 0 0) rfl).alloc o
  have t2 := t1.setBack k5 ⟨h0.a2, h0.a3⟩ (bv' := v5) (back' := S.back ++ [i]) (by simpa using r5)
  have t3 := t2.setLive (S.live - 1)
  have hF : ∀ b ∈ R :: (ownB (.slice (some ⟨g, 0, none⟩) S.cells.length cc) ++ (ownB v5 ++ (cs.set i none).flatMap wB)), b ∈ R :: (ownB (.slice (some ⟨g, 0, none⟩) S.cells.length cc) ++ (ownB bv' ++ cs.flatMap wB)) ∨ w.heap.size ≤ b := by
    intro b hb
    simp only [List.mem_cons, List.mem_append, List.mem_flatMap] at hb ⊢
    rcases hb with hb | hb | hb | ⟨r, hr, hb⟩
    · exact .inl (.inl hb)
    · exact .inl (.inr (.inl hb))
    · rcases o5 with e | ⟨z, e, hz⟩
      · rw [e] at hb; exact .inl (.inr (.inr (.inl hb)))
      · rw [e] at hb; simp at hb; exact .inr (by omega)
    · rcases List.mem_or_eq_of_mem_set hr with hr | rfl
      · exact .inl (.inr (.inr (.inr ⟨r, hr, hb⟩)))
      · simp [wB] at hb
  obtain ⟨cg, hg⟩ := h0.cells.ty (b := g) (by simp [ownB])
  obtain ⟨cg1, hg1⟩ := setCell_ty hg ⟨g, i * 3, none⟩ (.bool false)
  obtain ⟨cg2, hg2⟩ := setCell_ty hg1 ⟨g, i * 3 + 1, none⟩ (.int .i64 0)
  have kw1 : KW w ((((w.setCell ⟨g, i * 3, none⟩ (.bool false)).setCell ⟨g, i * 3 + 1, none⟩ (.int .i64 0)).setCell ⟨g, i * 3 + 2, none⟩ (.slice none 0 0)).alloc o) :=
    ((((KW.refl w).setCell hg (by decide) _).setCell hg1 (by decide) _).setCell hg2 (by decide) _).alloc o
  have hRT : w5.heap[R]? = _ := (k5.block R (heap_lt t1.head) h0.a2).trans t1.head
  obtain ⟨cR2, hR2⟩ := setCell_ty hRT ⟨R, 2, none⟩ v5
  have kw : KW w ((w5.setCell ⟨R, 2, none⟩ v5).setCell ⟨R, 3, none⟩ (.int .i64 (S.live - 1))) :=
    ((kw1.kp k5 (fun b hb => by obtain ⟨cur, hh⟩ := t1.back.ty hb; exact ⟨cur, _, hh, by decide⟩)).setCell hRT (by decide) _).setCell hR2 (by decide) _
  have hlive : S.live - 1 = (S.give i).live := by rw [hS]; simp [Ars.live]; omega
  refine ⟨⟨_, ⟨_, v5, cs.set i none, ?_, by rw [hS]; simpa using hl, ?_, hap.set i none (fun j s hj b hb => by simp [wB]), rfl, h.ok.give i⟩, hF⟩, ?_⟩
  · rw [← hlive, hS]; simpa using t3
  · rw [hS]; exact wOks_set (fun j c r hj hr => (hw j c r hj hr).kw kw) hl trivial
  · have k9 : Kp (R :: (ownB (.slice (some ⟨g, 0, none⟩) S.cells.length cc) ++ (ownB bv' ++ cs.flatMap wB))) w w5 :=
      ((((((Kp.refl _ w).setCell (p := ⟨g, i * 3, none⟩) (.inl (by simp [ownB])) _).setCell (p := ⟨g, i * 3 + 1, none⟩) (.inl (by simp [ownB])) _).setCell (p := ⟨g, i * 3 + 2, none⟩) (.inl (by simp [ownB])) _).alloc o).trans k5 (fun b hb => .inl (by simp [hb])))
    exact (k9.setCell (.inl (by simp)) _).setCell (.inl (by simp)) _
theorem rr_give (R : Nat) (S : Ars) (F : List Nat) (c : Int) (w : World) (h : RA w R S F) :
    Calls Try.prog 50 #[.pointer (some ⟨R, 0, none⟩), .int .i64 c] w fun e w' => e = .returned (.int .i64 (S.giveE c)) ∧ (∃ F', RA w' R (S.give c) F' ∧ ∀ b ∈ F', b ∈ F ∨ w.heap.size ≤ b) ∧ Kp F w w' := by
  have H := Lib.hid h
  cases hc : S.cell c with
  | none =>
    have HS : Hid ((S.cell c).isSome = false) := by show _ = _; rw [hc]; rfl
    have HC := Lib.hid hc
    clear hc h
    go_enter Try.func50, Try.ntmps50
    go_wp2_with (go_at_call 98; refine (rr_is _ S F _ _ H.out).mono ?_; rintro e w1 ⟨rfl, rfl⟩; rw [HS.out])
    go_ret
    exact ⟨by simp [Ars.giveE, HC.out], ⟨F, by simpa [Ars.give, HC.out] using H.out, fun b hb => .inl hb⟩, Kp.refl _ _⟩
  | some x =>
    obtain ⟨VC, VB', cc', cb', c0, c1, c2', c3, c4, cf, hRl⟩ := h.head
    obtain ⟨h0, hl⟩ := Ars.cell_some hc
    obtain ⟨i, rfl⟩ := Int.eq_ofNat_of_zero_le h0
    obtain ⟨ag, ws⟩ := x
    simp only [Int.toNat_natCast] at hl
    obtain ⟨g, cc, r, k1, hgl, ha, hr, hf, hlt⟩ := h.at_ hl
    cases r with
    | none => exact ha.elim
    | some y =>
      obtain ⟨ay, vy⟩ := y
      have z0 : w.cell? ⟨g, i * 3, none⟩ = some (.bool true) := hr 0 (by omega)
      have z1 : w.cell? ⟨g, i * 3 + 1, none⟩ = some (.int .i64 ay) := hr 1 (by omega)
      have z2 : w.cell? ⟨g, i * 3 + 2, none⟩ = some vy := hr 2 (by omega)
      obtain ⟨cvP, bvP, csP, p0, pl, _⟩ := h
      have hcv := RA.slice p0 k1
      have e2 : bvP = .slice VB' S.back.length cb' := by have := p0.head; simpa [World.cell?, this] using c2'
      subst hcv e2
      have hgB : g ∉ ownB (.slice VB' S.back.length cb') := p0.a3 g (by simp [ownB])
      have hRB : R ∉ ownB (.slice VB' S.back.length cb') := p0.a2
      have hRg : R ≠ g := fun e => p0.a1 (by simp [ownB, e])
      have hbl := H.out.ok.back_le
      have hm2 := H.out.ok.most2
      have hcl := H.out.ok.len
      have HRB := Lib.hid hRB
      obtain ⟨i0, hi0, hz0, hz1, hz2⟩ := info_parts int_info
      have HR2 : Hid (Row ((((w.setCell ⟨g, i * 3, none⟩ (.bool false)).setCell ⟨g, i * 3 + 1, none⟩ (.int .i64 0)).setCell ⟨g, i * 3 + 2, none⟩ (.slice none 0 0)).alloc (.cells #[.int .i64 (i : Int)] 3)) 3 1 (.slice VB' S.back.length cb') S.back.length (S.back.map fun (b : Nat) => Value.int .i64 (b : Int))) := by
        have hkk : ∀ (W : World) (j : Nat) (u : Value), Row W 3 1 (.slice VB' S.back.length cb') S.back.length (S.back.map fun (b : Nat) => Value.int .i64 (b : Int)) → Row (W.setCell ⟨g, j, none⟩ u) 3 1 (.slice VB' S.back.length cb') S.back.length (S.back.map fun (b : Nat) => Value.int .i64 (b : Int)) :=
          fun W j u hr => hr.keep fun b hm => Below.heap_setCell W _ _ b (fun e => by have e' : b = g := e; subst e'; exact hgB hm)
        exact Lib.hid ((hkk _ _ _ (hkk _ _ _ (hkk _ _ _ p0.back))).alloc _)
      have HSrc : Hid (Src ((((w.setCell ⟨g, i * 3, none⟩ (.bool false)).setCell ⟨g, i * 3 + 1, none⟩ (.int .i64 0)).setCell ⟨g, i * 3 + 2, none⟩ (.slice none 0 0)).alloc (.cells #[.int .i64 (i : Int)] 3)) (some ⟨w.heap.size, 0, none⟩) 1 1 [.int .i64 (i : Int)]) := by
        have := Src.block (cs := #[.int .i64 (i : Int)]) (t := 3) (fr := (0, 0)) (m := 1) (size := 1) (heap_alloc_new (((w.setCell ⟨g, i * 3, none⟩ (.bool false)).setCell ⟨g, i * 3 + 1, none⟩ (.int .i64 0)).setCell ⟨g, i * 3 + 2, none⟩ (.slice none 0 0)) _) rfl (by simp [Value.oneCell'])
        exact Lib.hid (by simpa using this)
      have HS : Hid ((S.cell i).isSome = true) := by show _ = _; rw [hc]; rfl
      have HK := Lib.hid hc
      have HB63 : S.back.length + 1 ≤ maxLen := by simp only [maxLen]; omega
      have HB47 : (S.back.length + 1) * 8 ≤ 140737488355328 := by omega
      have f2 := cf 2
      have f3 := cf 3
      have hlive : Hid (0 ≤ S.live ∧ S.live ≤ 4096) := by constructor <;> (unfold Ars.live; omega)
      have hlv1 : 0 ≤ S.live := hlive.out.1
      have hlv2 : S.live ≤ 4096 := hlive.out.2
      clear c1 hr ha hRB p0 pl cf c0 c4
      go_enter Try.func50, Try.ntmps50
      go_wp2_with (first
        | (go_at_call 98; refine (rr_is _ S F _ _ H.out).mono ?_; rintro e w1 ⟨rfl, rfl⟩; rw [HS.out])
        | (at_builtin; go_loud (refine inPlain rfl (wpo_row_append _ _ _ rfl i0 _ 8 Try.underlying64 hi0 hz0 hz1 hz2 rfl rfl HR2.out _ 1 1 rfl [.int .i64 (i : Int)] HSrc.out HB63 HB47 ?_)); intro sv5 w5 r5 k5 o5; obtain ⟨V5, cp5, rfl, hc5⟩ := r5.len
           go_loud (have q2 : w5.cell? ⟨R, 2, none⟩ = some (.slice VB' S.back.length cb') := (k5.cell (p := ⟨R, 2, none⟩) (by simp; omega) HRB.out).trans (by go_simp))
           go_loud (have q3 : w5.frozen? ⟨R, 2, none⟩ = false := (k5.frozen (p := ⟨R, 2, none⟩) (by simp; omega) HRB.out).trans (by go_simp))
           go_loud (have q4 : w5.cell? ⟨R, 3, none⟩ = some (.int .i64 S.live) := (k5.cell (p := ⟨R, 3, none⟩) (by simp; omega) HRB.out).trans (by go_simp))
           go_loud (have q5 : w5.frozen? ⟨R, 3, none⟩ = false := (k5.frozen (p := ⟨R, 3, none⟩) (by simp; omega) HRB.out).trans (by go_simp))))
      go_ret
      exact ⟨by simp [Ars.giveE, HK.out], rr_give_close H.out HK.out k1 c2' k5 (o5.imp id fun e => ⟨_, e, by simp⟩) r5⟩
end Go.Proofs.Ythbobooiedcofaa
