/-
  The document's arena, continued: Take.
-/
import Derived.Test.YthbobooiedcofaaRArenaOps
namespace Go.Proofs.Ythbobooiedcofaa
open Go.RowKit
attribute [local go_sem] cell_set
set_option maxRecDepth 100000

theorem rr_take_bad (R : Nat) (S : Ars) (F : List Nat) (ag ar : Int) (w : World) (_ : RA w R S F) (hb : Ars.bad ag ar) :
    Calls Try.prog 52 #[.pointer (some ⟨R, 0, none⟩), .int .i64 ag, .int .i64 ar] w fun e w' => e = .returned (.tuple #[.int .i64 0, .int .i64 1]) ∧ w = w' := by
  rcases (by unfold Ars.bad at hb; omega : ag < 0 ∨ (0 ≤ ag ∧ 32 ≤ ag) ∨ (0 ≤ ag ∧ ag < 32 ∧ ar < 0) ∨ (0 ≤ ag ∧ ag < 32 ∧ 0 ≤ ar ∧ 6 < ar)) with h1 | ⟨h1, h2⟩ | ⟨h1, h2, h3⟩ | ⟨h1, h2, h3, h4⟩
  all_goals
    go_enter Try.func52, Try.ntmps52
    go_wp2
    go_ret2
    exact ⟨rfl, rfl⟩
theorem rr_take_full (R : Nat) (S : Ars) (F : List Nat) (ag ar : Int) (w : World) (h : RA w R S F) (hb : ¬ Ars.bad ag ar) (he : S.nextE ≠ 0) :
    Calls Try.prog 52 #[.pointer (some ⟨R, 0, none⟩), .int .i64 ag, .int .i64 ar] w fun e w' => e = .returned (.tuple #[.int .i64 0, .int .i64 S.nextE]) ∧ Below w.heap.size w w' := by
  have H := Lib.hid h
  have hE : S.nextE = 40 := S.nextE_eq.resolve_left he
  obtain ⟨h1, h2, h3, h4⟩ : 0 ≤ ag ∧ ag < 32 ∧ 0 ≤ ar ∧ ar ≤ 6 := by unfold Ars.bad at hb; omega
  have HE := Lib.hid hE
  clear h hb he hE
  go_enter Try.func52, Try.ntmps52
  go_wp2_with (go_at_call 100; refine (rr_next _ S F _ H.out).mono ?_; rintro e w1 ⟨rfl, hb1⟩; rw [HE.out])
  go_ret2
  exact ⟨retI2 rfl HE.out.symm, hb1⟩

/-- The new cell in the making. -/
structure WB (w1 wr : World) (ag : Int) (k : Nat) (v : Value) : Prop where
  below : Below w1.heap.size w1 wr
  blk : wr.heap[w1.heap.size]? = some (.cells #[.bool true, .int .i64 ag, v] 147 (0, 0))
  row : Row wr 49 1 v k (wvals (List.replicate k 4294967295))
  own : ∀ b ∈ ownB v, w1.heap.size < b
theorem WB.cell {w1 wr : World} {ag : Int} {k j : Nat} {v u : Value} (h : WB w1 wr ag k v) (hu : #[Value.bool true, .int .i64 ag, v][j]? = some u) : wr.cell? ⟨w1.heap.size, j, none⟩ = some u := by
  simp only [World.cell?, h.blk]; exact hu
theorem WB.frozen {w1 wr : World} {ag : Int} {k : Nat} {v : Value} (h : WB w1 wr ag k v) (j : Nat) : wr.frozen? ⟨w1.heap.size, j, none⟩ = false := by simp [World.frozen?, h.blk]
theorem WB.append {w1 wr w5 : World} {ag : Int} {k : Nat} {v v5 : Value} {o : Obj} (h : WB w1 wr ag k v) (k5 : Kp (ownB v) (wr.alloc o) w5) (o5 : ownB v5 = ownB v ∨ ∃ z, ownB v5 = [z] ∧ wr.heap.size ≤ z)
    (r5 : Row w5 49 1 v5 (k + 1) (wvals (List.replicate k 4294967295) ++ [.int .u32 4294967295])) : WB w1 (w5.setCell ⟨w1.heap.size, 2, none⟩ v5) ag (k + 1) v5 := by
  have hX : w1.heap.size ∉ ownB v := fun hb => by have := h.own _ hb; omega
  have hb5 : w5.heap[w1.heap.size]? = some (.cells #[.bool true, .int .i64 ag, v] 147 (0, 0)) :=
    ((k5.block _ (by have := heap_lt h.blk; simp; omega) hX).trans (Below.heap_alloc _ _ _ (heap_lt h.blk))).trans h.blk
  refine ⟨(((h.below.alloc h.below.size o).trans (k5.below (by have := h.below.size; simp; omega) (fun b hb => Nat.le_of_lt (h.own b hb)))).setCell (Nat.le_refl _) _), by simp [World.setCell, Array.getElem?_modify, hb5], ?_, fun b hb => ?_⟩
  · have e : wvals (List.replicate (k + 1) 4294967295) = wvals (List.replicate k 4294967295) ++ [.int .u32 4294967295] := by simp [wvals, List.replicate_succ']
    rw [e]
    refine r5.keep fun b hb => Below.heap_setCell w5 _ _ b (fun e => ?_)
    have e' : b = w1.heap.size := e
    subst e'
    obtain ⟨_, hh⟩ := r5.ty hb
    exact ty_ne hb5 hh (by decide) rfl
  · rcases o5 with e | ⟨z, e, hz⟩
    · rw [e] at hb; exact h.own b hb
    · rw [e] at hb; simp at hb; have := heap_lt h.blk; omega

/-- Behind the store of the new cell. -/
def RTMid (w W : World) (R : Nat) (S : Ars) (F : List Nat) (S' : Ars) : Prop :=
  ∃ cv bv cs, RA0 W R S'.most S'.live (S.cells.length : Int) cv bv cs S'.back ∧ cs.length = S'.cells.length ∧ (∀ (i : Nat) c r, S'.cells[i]? = some c → cs[i]? = some r → wOk W c r) ∧ wApart cs ∧
    (∀ b ∈ R :: (ownB cv ++ (ownB bv ++ cs.flatMap wB)), b ∈ F ∨ w.heap.size ≤ b) ∧ Kp F w W
theorem rtake_close {w W : World} {R : Nat} {S S' : Ars} {F : List Nat} (h : RTMid w W R S F S') (hok : S'.Ok) {q : Int} (hq : q = (S'.cells.length : Int)) :
    (∃ F', RA ((W.setCell ⟨R, 4, none⟩ (.int .i64 q)).drew) R S' F' ∧ ∀ b ∈ F', b ∈ F ∨ w.heap.size ≤ b) ∧ Kp F w ((W.setCell ⟨R, 4, none⟩ (.int .i64 q)).drew) := by
  obtain ⟨cv, bv, cs, h0, hl, hr, hap, hF, hk⟩ := h
  subst hq
  exact ⟨⟨_, ⟨cv, bv, cs, (h0.setPeak _).drew, hl, fun i c r hc hr' => (hr i c r hc hr').kw (((KW.refl W).setCell h0.head (by decide) _).drew), hap, rfl, hok⟩, hF⟩, ((hk.setCell (hF R (by simp)) _).drew)⟩
theorem wfresh {w1 wr W : World} {ag ar : Int} {k : Nat} {v : Value} (h : WB w1 wr ag k v) (hk : (k : Int) = ar + 1) (h3 : 0 ≤ ar) (hkw : KW wr W) : wOk W (Ars.fresh ag ar) (some (ag, v)) := by
  refine ⟨rfl, ?_⟩
  have e : ar.toNat + 1 = k := by omega
  simp only [List.length_replicate, e]
  exact h.row.keep fun b hb => by obtain ⟨cur, hh⟩ := h.row.ty hb; rw [hh]; exact hkw b cur hh
set_option maxHeartbeats 1000000 in
theorem rmid_a {w w1 wr : World} {R : Nat} {S : Ars} {F : List Nat} (h : RA wr R S F) (hlt : ∀ b ∈ F, b < w1.heap.size) (hkw : Kp F w wr) (hw1 : w.heap.size ≤ w1.heap.size) {ag ar : Int} {k : Nat} {v : Value} (X : WB w1 wr ag k v) (hk : (k : Int) = ar + 1) (h3 : 0 ≤ ar) {b g cc g2 cb m : Nat} (hcb : S.cells[b]? = some none) (hm : S.back.length = m + 1)
    (ht : S.take ag ar = { S with cells := S.cells.set b (Ars.fresh ag ar), back := S.back.dropLast })
    (k1 : wr.cell? ⟨R, 1, none⟩ = some (.slice (some ⟨g, 0, none⟩) S.cells.length cc)) (d2 : wr.cell? ⟨R, 2, none⟩ = some (.slice (some ⟨g2, 0, none⟩) S.back.length cb)) (hncb : S.back.length ≤ cb) {q : Int} (hq : q = S.live + 1) :
    RTMid w (((((wr.setCell ⟨R, 2, none⟩ (.slice (some ⟨g2, 0, none⟩) m cb)).setCell ⟨g, b * 3, none⟩ (.bool true)).setCell ⟨g, b * 3 + 1, none⟩ (.int .i64 ag)).setCell ⟨g, b * 3 + 2, none⟩ v).setCell ⟨R, 3, none⟩ (.int .i64 q)) R S F (S.take ag ar) := by
  obtain ⟨cv, bv, cs, h0, hl, hw, hap, rfl, ok, hwd⟩ := h.words
  have e1 := RA.slice h0 k1
  have e2 : bv = .slice (some ⟨g2, 0, none⟩) S.back.length cb := by have := h0.head; simpa [World.cell?, this] using d2
  subst e1 e2 hq
  have hblt : b < S.cells.length := by
    rcases Nat.lt_or_ge b S.cells.length with hl | hl
    · exact hl
    · rw [List.getElem?_eq_none hl] at hcb; cases hcb
  have s1 := h0.setBack (Kp.refl [] wr) ⟨by simp, by simp⟩ (bv' := .slice (some ⟨g2, 0, none⟩) m cb) (back' := S.back.dropLast) (by
    have := h0.back.cut (k := m) (c := cb) (by omega) (by omega) (Nat.le_refl _)
    have hd : S.back.dropLast.length = m := by simp [hm]
    rw [hd, List.dropLast_eq_take, List.map_take, hm]
    simpa using this)
  have s2 := s1.set3 (i := b) (by omega) (r := some (ag, v)) (u0 := .bool true) (u1 := .int .i64 ag) (u2 := v) rfl
  have s3 := s2.setLive (S.live + 1)
  obtain ⟨cg, hg⟩ := s1.cells.ty (b := g) (by simp [ownB])
  obtain ⟨cg1, hg1⟩ := setCell_ty hg ⟨g, b * 3, none⟩ (.bool true)
  obtain ⟨cg2, hg2⟩ := setCell_ty hg1 ⟨g, b * 3 + 1, none⟩ (.int .i64 ag)
  have kw : KW wr (((((wr.setCell ⟨R, 2, none⟩ (.slice (some ⟨g2, 0, none⟩) m cb)).setCell ⟨g, b * 3, none⟩ (.bool true)).setCell ⟨g, b * 3 + 1, none⟩ (.int .i64 ag)).setCell ⟨g, b * 3 + 2, none⟩ v).setCell ⟨R, 3, none⟩ (.int .i64 (S.live + 1))) :=
    (((((KW.refl wr).setCell h0.head (by decide) _).setCell hg (by decide) _).setCell hg1 (by decide) _).setCell hg2 (by decide) _).setCell s2.head (by decide) _
  have hlive : S.live + 1 = (S.take ag ar).live := by rw [ht]; simp [Ars.live]; omega
  refine ⟨.slice (some ⟨g, 0, none⟩) S.cells.length cc, .slice (some ⟨g2, 0, none⟩) m cb, cs.set b (some (ag, v)), ?_, ?_, ?_, ?_, ?_, ?_⟩
  · rw [← hlive, ht]; exact s3
  · rw [ht]; simpa using hl
  · rw [ht]; exact wOks_set (fun j c r hj hr => (hw j c r hj hr).kw kw) hl (wfresh X hk h3 kw)
  · refine hap.set b _ fun j s hj x hx hx' => ?_
    have h1 := hlt x (by simp only [List.mem_cons, List.mem_append, List.mem_flatMap]; exact .inr (.inr (.inr ⟨s, List.mem_of_getElem? hj, hx⟩)))
    have h2 := X.own x hx'
    omega
  · intro x hx
    simp only [List.mem_cons, List.mem_append, List.mem_flatMap] at hx ⊢
    rcases hx with hx | hx | hx | ⟨r, hr, hx⟩
    · exact .inl (.inl hx)
    · exact .inl (.inr (.inl hx))
    · exact .inl (.inr (.inr (.inl (by simpa [ownB] using hx))))
    · rcases List.mem_or_eq_of_mem_set hr with hr | rfl
      · exact .inl (.inr (.inr (.inr ⟨r, hr, hx⟩)))
      · have := X.own x hx; exact .inr (by omega)
  · iterate 5 refine Kp.setCell ?_ (.inl (by simp [ownB])) _
    exact hkw
theorem wApart.snoc {cs : List (Option (Int × Value))} (h : wApart cs) (r' : Option (Int × Value)) (hr : ∀ (j : Nat) s, cs[j]? = some s → ∀ b ∈ wB s, b ∉ wB r') : wApart (cs ++ [r']) := by
  intro a b r s ha hb hne x hx hx'
  rw [List.getElem?_append] at ha hb
  split at ha
  · split at hb
    · exact h a b r s ha hb hne x hx hx'
    · rw [List.getElem?_singleton] at hb; split at hb
      · injection hb with hb; subst hb; exact hr a r ha x hx hx'
      · cases hb
  · rw [List.getElem?_singleton] at ha
    split at ha
    · injection ha with ha; subst ha
      split at hb
      · exact hr b s hb x hx' hx
      · rw [List.getElem?_singleton] at hb; split at hb
        · omega
        · cases hb
    · cases ha
theorem wOks_snoc {w : World} {cells : List (Option (Int × List Int))} {cs : List (Option (Int × Value))} (hr : ∀ (i : Nat) c r, cells[i]? = some c → cs[i]? = some r → wOk w c r) (hl : cs.length = cells.length) {c' : Option (Int × List Int)} {r' : Option (Int × Value)} (h : wOk w c' r') :
    ∀ (k : Nat) c r, (cells ++ [c'])[k]? = some c → (cs ++ [r'])[k]? = some r → wOk w c r := by
  intro k c r hc hr'
  rw [List.getElem?_append] at hc hr'
  by_cases e : k < cells.length
  · rw [if_pos e] at hc; rw [if_pos (by omega)] at hr'; exact hr k c r hc hr'
  · rw [if_neg e, List.getElem?_singleton] at hc
    rw [if_neg (by omega), List.getElem?_singleton] at hr'
    split at hc
    · rw [if_pos (by omega)] at hr'
      injection hc with hc; injection hr' with hr'
      subst hc hr'; exact h
    · cases hc
theorem rmid_b {w w1 wr w5 : World} {R : Nat} {S : Ars} {F : List Nat} (h : RA wr R S F) (hlt : ∀ b ∈ F, b < w1.heap.size) (hkw : Kp F w wr) (hw1 : w.heap.size ≤ w1.heap.size) {ag ar : Int} {k : Nat} {v : Value} (X : WB w1 wr ag k v) (hk : (k : Int) = ar + 1) (h3 : 0 ≤ ar) {VC : Option Addr} {cc : Nat} {o : Obj} {v5 : Value}
    (k1 : wr.cell? ⟨R, 1, none⟩ = some (.slice VC S.cells.length cc)) (ht : S.take ag ar = { S with cells := S.cells ++ [Ars.fresh ag ar] })
    (k5 : Kp (ownB (.slice VC S.cells.length cc)) ((wr.alloc o).drew) w5) (o5 : ownB v5 = ownB (.slice VC S.cells.length cc) ∨ ∃ z, ownB v5 = [z] ∧ wr.heap.size ≤ z)
    (r5 : ∀ xs, Row wr 147 3 (.slice VC S.cells.length cc) S.cells.length xs → Row w5 147 3 v5 (S.cells.length + 1) (xs ++ [.bool true, .int .i64 ag, v])) {q : Int} (hq : q = S.live + 1) :
    RTMid w ((w5.setCell ⟨R, 1, none⟩ v5).setCell ⟨R, 3, none⟩ (.int .i64 q)) R S F (S.take ag ar) := by
  obtain ⟨cv, bv, cs, h0, hl, hw, hap, rfl, ok, hwd⟩ := h.words
  have e1 : cv = .slice VC S.cells.length cc := by have := h0.head; simpa [World.cell?, this] using k1
  subst e1 hq
  have hr5 := r5 _ (by have := h0.cells; rw [hl] at this; exact this)
  have t1 := (h0.alloc o).drew
  have t2 := t1.setCells k5 ⟨h0.a1, fun b hb hb' => h0.a3 b hb' hb⟩ (cv' := v5) (cs' := cs ++ [some (ag, v)]) (by simpa [hl, rcell] using hr5)
  have t3 := t2.setLive (S.live + 1)
  have hRT : w5.heap[R]? = _ := (k5.block R (heap_lt t1.head) h0.a1).trans t1.head
  have kw : KW wr ((w5.setCell ⟨R, 1, none⟩ v5).setCell ⟨R, 3, none⟩ (.int .i64 (S.live + 1))) :=
    ((((KW.refl wr).alloc o).drew.kp k5 (fun b hb => by obtain ⟨cur, hh⟩ := t1.cells.ty hb; exact ⟨cur, _, hh, by decide⟩)).setCell hRT (by decide) _).setCell t2.head (by decide) _
  have hlive : S.live + 1 = (S.take ag ar).live := by rw [ht]; simp [Ars.live]; omega
  refine ⟨v5, bv, cs ++ [some (ag, v)], ?_, ?_, ?_, ?_, ?_, ?_⟩
  · rw [← hlive, ht]; exact t3
  · rw [ht]; simpa using hl
  · rw [ht]; exact wOks_snoc (fun j c r hj hr => (hw j c r hj hr).kw kw) hl (wfresh X hk h3 kw)
  · refine hap.snoc _ fun j s hj x hx hx' => ?_
    have h1 := hlt x (by simp only [List.mem_cons, List.mem_append, List.mem_flatMap]; exact .inr (.inr (.inr ⟨s, List.mem_of_getElem? hj, hx⟩)))
    have h2 := X.own x hx'
    omega
  · intro x hx
    simp only [List.mem_cons, List.mem_append, List.mem_flatMap, List.not_mem_nil, or_false] at hx ⊢
    rcases hx with hx | hx | hx | ⟨r, hr | rfl, hx⟩
    · exact .inl (.inl hx)
    · rcases o5 with e | ⟨z, e, hz⟩
      · rw [e] at hx; exact .inl (.inr (.inl hx))
      · rw [e] at hx; simp at hx; have := hkw.size; exact .inr (by omega)
    · exact .inl (.inr (.inr (.inl hx)))
    · exact .inl (.inr (.inr (.inr ⟨r, hr, hx⟩)))
    · have := X.own x hx; exact .inr (by omega)
  · refine Kp.setCell (Kp.setCell ?_ (.inl (by simp)) _) (.inl (by simp)) _
    exact ((hkw.alloc o).drew).trans k5 (fun b hb => .inl (by simp [hb]))
end Go.Proofs.Ythbobooiedcofaa
