/-
  Contract of net.Check.
-/
import Derived.Test.YtogbanlfihabpaaNetIs
import Derived.Test.YtogbanlfihabpaaRef03C
import Derived.Deep.Cut
import Derived.Deep.RegionHeld3
namespace Go.Proofs.Ytogbanlfihabpaa
open Go.RowKit Go.Shelf
attribute [local go_sem] cell_set
attribute [local go_sem] Oper.semAt_some
attribute [local go_sem high] run_eql_port
set_option maxRecDepth 100000
set_option linter.unusedVariables false

theorem leaveM {F : Fence} {n : Nat} {P : Program} {fn : Func} {tmps : Array Value} {R : Ending → World → Prop} {D : Nat} {ds : List Deferred} {W : World}
    (hD : W.heap[D]? = some (.deferred (some []))) (h : LeavesInM F n P fn tmps R ds .returning (W.putObj D (.deferred none))) : LeavesInM F n P fn tmps R ({ target := .collected D, args := #[] } :: ds) .returning W :=
  ⟨by simp, .inl ⟨_, _, rfl, run_takeDeferred hD, h⟩⟩
theorem cell_put (W : World) (D : Nat) (o : Obj) {b : Nat} (h : b ≠ D) (j : Nat) : (W.putObj D o).cell? ⟨b, j, none⟩ = W.cell? ⟨b, j, none⟩ := World.cell?_of_block (World.putObj_heap_other h)
theorem below_put {w W : World} (hb : Below w.heap.size w W) {D : Nat} (hD : w.heap.size ≤ D) (o : Obj) : Below w.heap.size w (W.putObj D o) :=
  ⟨hb.os, hb.tape, hb.output, by simpa using hb.size, fun k hk => (World.putObj_heap_other (by omega)).trans (hb.block k hk)⟩
/-- Two results in boxes of their own. -/
structure RB (W : World) (b : Nat) (e a : Int) : Prop where
  e0 : W.cell? ⟨b, 0, none⟩ = some (.int .i64 e)
  a0 : W.cell? ⟨b + 1, 0, none⟩ = some (.int .i64 a)
  ef : W.frozen? ⟨b, 0, none⟩ = false
  af : W.frozen? ⟨b + 1, 0, none⟩ = false
  lt : b + 1 < W.heap.size
theorem RB.keep {W W' : World} {b : Nat} {e a : Int} (h : RB W b e a) (hz : W.heap.size ≤ W'.heap.size) (h0 : W'.heap[b]? = W.heap[b]?) (h1 : W'.heap[b + 1]? = W.heap[b + 1]?) : RB W' b e a :=
  ⟨(World.cell?_of_block h0).trans h.e0, (World.cell?_of_block h1).trans h.a0, (World.frozen?_of_block h0).trans h.ef, (World.frozen?_of_block h1).trans h.af, Nat.lt_of_lt_of_le h.lt hz⟩
theorem RB.below {W W' : World} {b : Nat} {e a : Int} (h : RB W b e a) (hb : Below W.heap.size W W') : RB W' b e a :=
  h.keep hb.size (hb.block b (by have := h.lt; omega)) (hb.block (b + 1) h.lt)
theorem RB.set {W : World} {b : Nat} {e a : Int} (h : RB W b e a) (e' a' : Int) : RB ((W.setCell ⟨b, 0, none⟩ (.int .i64 e')).setCell ⟨b + 1, 0, none⟩ (.int .i64 a')) b e' a' := by
  obtain ⟨h1, h2, h3, h4, h5⟩ := h
  refine ⟨?_, ?_, ?_, ?_, by simpa using h5⟩
  · rw [cell_set, if_neg (by omega), cell_set, if_pos ⟨rfl, rfl⟩, h1]; rfl
  · rw [cell_set, if_pos ⟨rfl, rfl⟩, cell_set, if_neg (by omega), h2]; rfl
  · rw [World.frozen?_setCell, World.frozen?_setCell]; exact h3
  · rw [World.frozen?_setCell, World.frozen?_setCell]; exact h4
structure CkI (w : World) (m b : Nat) (f : Pt → Option Value) (e a : Int) (W : World) : Prop where
  be : Below w.heap.size w W
  mp : MP encPt W m f
  vb : W.cell? ⟨m + 1, 0, none⟩ = some (.map (some m))
  rb : RB W b e a
  lt : m + 1 < W.heap.size
theorem CkI.keep {w : World} {m b : Nat} {f : Pt → Option Value} {e a : Int} {W W' : World} (h : CkI w m b f e a W) (hb : Below w.heap.size w W') (hz : W.heap.size ≤ W'.heap.size) (hk : ∀ x ∈ [m, m + 1, b, b + 1], W'.heap[x]? = W.heap[x]?) : CkI w m b f e a W' :=
  ⟨hb, h.mp.keep (hk m (by simp)), (World.cell?_of_block (hk (m + 1) (by simp))).trans h.vb, h.rb.keep hz (hk b (by simp)) (hk (b + 1) (by simp)), Nat.lt_of_lt_of_le h.lt hz⟩
theorem CkI.grown {w : World} {m b : Nat} {f : Pt → Option Value} {e a : Int} {W W' : World} (h : CkI w m b f e a W) {row : Option Nat} (hg : W.grownBy W' row) {C : Nat} (hC : w.heap.size ≤ C) (hm : m + 1 < C) (hb : b + 1 < C) (hr : ∀ r, row = some r → C ≤ r ∧ ∃ o : Obj, W.heap[r]? = some o ∧ o.isCells = false) : CkI w m b f e a W' := by
  have hl := h.lt
  have hl2 := h.rb.lt
  refine h.keep (h.be.grown hg h.be.size (fun r e => Nat.le_trans hC (hr r e).1)) hg.size fun x hx => hg.block x ?_ fun e => ?_
  · simp only [List.mem_cons, List.not_mem_nil, or_false] at hx; omega
  · have := (hr x e.symm).1
    simp only [List.mem_cons, List.not_mem_nil, or_false] at hx; omega
def seenP (W : List (Pt × Pt)) (k : Nat) (p : Pt) : Option Value := if p ∈ ends (W.take k) then some (.bool true) else none
theorem seenP_0 (W : List (Pt × Pt)) : seenP W 0 = fun _ => none := by funext p; simp [seenP, ends]
theorem seenP_succ {W : List (Pt × Pt)} {k : Nat} (hk : k < W.length) : seenP W (k + 1) = upd (upd (seenP W k) (W.getD k default).1 (.bool true)) (W.getD k default).2 (.bool true) := by
  funext p
  unfold seenP upd
  rw [ends_take_succ hk]
  by_cases h2 : p = (W.getD k default).2
  · rw [if_pos h2, if_pos (by simp [h2])]
  · rw [if_neg h2]
    by_cases h1 : p = (W.getD k default).1
    · rw [if_pos h1, if_pos (by simp [h1])]
    · rw [if_neg h1]; simp only [List.mem_append, List.mem_cons, List.not_mem_nil, or_false, h1, h2]
theorem seenP_all (W : List (Pt × Pt)) (p : Pt) : seenP W W.length p = if p ∈ ends W then some (.bool true) else none := by unfold seenP; rw [List.take_length]
theorem ck_S {m b : Nat} {w w' : World} {v x0 x1 x2 x3 : Value} (k : Kp [m] w w') (hm : m + 1 < w.heap.size) (hb : b < w.heap.size) (hne : b ≠ m)
    (h : w.cell? ⟨m + 1, 0, none⟩ = some v ∧ w.cell? ⟨b, 0, none⟩ = some x0 ∧ w.cell? ⟨b, 1, none⟩ = some x1 ∧ w.cell? ⟨b, 2, none⟩ = some x2 ∧ w.cell? ⟨b, 3, none⟩ = some x3) :
    w'.cell? ⟨m + 1, 0, none⟩ = some v ∧ w'.cell? ⟨b, 0, none⟩ = some x0 ∧ w'.cell? ⟨b, 1, none⟩ = some x1 ∧ w'.cell? ⟨b, 2, none⟩ = some x2 ∧ w'.cell? ⟨b, 3, none⟩ = some x3 :=
  ⟨(k.cell (p := ⟨m + 1, 0, none⟩) hm (by simp)).trans h.1, (k.cell (p := ⟨b, 0, none⟩) hb (by simpa using hne)).trans h.2.1, (k.cell (p := ⟨b, 1, none⟩) hb (by simpa using hne)).trans h.2.2.1, (k.cell (p := ⟨b, 2, none⟩) hb (by simpa using hne)).trans h.2.2.2.1, (k.cell (p := ⟨b, 3, none⟩) hb (by simpa using hne)).trans h.2.2.2.2⟩
theorem chk_pos {L : List (ByteArray × Int)} (h : (chk L).1 = 0) : 0 < L.length := by
  unfold chk at h
  by_cases h0 : L.length = 0
  · rw [if_pos h0] at h; simp at h
  · omega
theorem RB.grown {W W' : World} {b : Nat} {e a : Int} (h : RB W b e a) {row : Option Nat} (hg : W.grownBy W' row) {C : Nat} (hb : b + 1 < C) (hr : ∀ r, row = some r → C ≤ r ∧ ∃ o : Obj, W.heap[r]? = some o ∧ o.isCells = false) : RB W' b e a := by
  have hl := h.lt
  exact h.keep hg.size (hg.block b (by omega) (fun e => by have := (hr b e.symm).1; omega)) (hg.block (b + 1) hl (fun e => by have := (hr _ e.symm).1; omega))
theorem pre_at {α : Type} {l l' : List α} (h : l <+: l') {j : Nat} {y : α} (hy : l[j]? = some y) : l'[j]? = some y := by
  obtain ⟨r, rfl⟩ := h
  have hj : j < l.length := by
    rcases Nat.lt_or_ge j l.length with h2 | h2
    · exact h2
    · rw [List.getElem?_eq_none h2] at hy; cases hy
  rw [List.getElem?_append_left hj]; exact hy
theorem snoc_at {α : Type} (l : List α) (x : α) : (l ++ [x])[l.length]? = some x := by simp
theorem numd_mem {P : List Pt} {j : Nat} (hj : j < P.length) : (j, P[j]) ∈ numd P := by
  refine List.mem_of_getElem? (i := j) ?_
  rw [numd, List.getElem?_map, List.getElem?_zipIdx, List.getElem?_eq_getElem hj]
  simp
theorem pQ_lt {w : World} {Bn Bs cap ca cb free n2 : Nat} {A VA VB : Option Addr} {L : List (ByteArray × Int)} {cells : List Int} (h : PSet w Bn Bs A cap L VA VB ca cb cells free n2) (hs : 0 < L.length) : ∀ b ∈ pQ Bn Bs A VA cells, b < w.heap.size := by
  intro b hb
  simp only [pQ, List.mem_cons, List.mem_append] at hb
  rcases hb with rfl | rfl | hb | hb
  · exact h.n.lt
  · exact h.sl
  · obtain ⟨b', off, rfl, hlt, _⟩ := h.a 0 hs
    simp [ablk] at hb; omega
  · unfold ablkL at hb
    by_cases h0 : cells.length = 0
    · rw [if_pos h0] at hb; simp at hb
    · rw [if_neg h0] at hb
      obtain ⟨b', off, rfl, hlt, _⟩ := h.c 0 (by omega)
      simp [ablk] at hb; omega
def actC (a : Act) (x : Nat × Pt) (b : Nat) : Act := { tmps := (((a.tmps.setIfInBounds 106 (.int .i64 (x.1 : Int))).setIfInBounds 107 (.agg #[.int .i64 x.2.1, .int .i64 x.2.2])).setIfInBounds 14 (.int .i64 (x.1 : Int))).setIfInBounds 15 (.pointer (some ⟨b, 0, none⟩)), defers := [] }

set_option maxHeartbeats 4000000 in
theorem net_check (A : Option Addr) (n cap : Nat) (L : List (ByteArray × Int)) (VA VB : Option Addr) (ca cb : Nat) (cells : List Int) (free : Int) (W : List (Pt × Pt)) (w : World) (hn : n = L.length) (hcap : L.length ≤ cap) (HL : Hid (AgRd w A L)) (hl : L.length ≤ maxLen) (HC : Hid (IntsRd w VA cells)) (HW : Hid (WrRd w VB W)) (hc : cells.length ≤ 10000) (hw : W.length ≤ 40000) :
    Calls Try.prog 30 #[.slice A n cap, netV VA ca cells free VB cb W] w fun e w' => e = .returned (.tuple #[.int .i64 (netChk (pnL L) L.length (chk L) cells free W).1, .int .i64 (netChk (pnL L) L.length (chk L) cells free W).2]) ∧ Below w.heap.size w w' := by
  subst hn
  refine (callsIn_wide (n := 5)).1 (callsIn_of_wp_marks Try.func30 rfl trivial (wpIn_wide.2 ?_) rfl)
  simp only [Try.ntmps30, List.size_toArray, List.length_cons, List.length_nil, Nat.reduceAdd, Nat.reduceSub, Array.replicate_succ, Array.replicate_zero, List.push_toArray, List.append_toArray, List.nil_append, List.cons_append]
  have hbA : Below w.heap.size w ((((w.alloc (.cells #[.slice A L.length cap] 22)).alloc (.cells #[.slice VA cells.length ca, .int .i64 free, .slice VB W.length cb] 26)).alloc (.cells #[.int .i64 0] 27)).alloc (.cells #[.int .i64 0] 3)) := by (repeat (first | exact Below.refl _ _ | (with_reducible refine Below.drew ?_) | (with_reducible refine Below.alloc ?_ (by (try simp); (try omega)) _) | (with_reducible refine Below.setCell ?_ (by (try simp); (try omega)) _) | (with_reducible refine Below.trans ?_ (Below.mono (by assumption) (by (try simp); (try omega))))))
  cases hsg : ((chk L).1 != 0)
  · have hz : (chk L).1 = 0 := by simpa using hsg
    have hs := chk_sig hz
    have hpos := chk_pos hz
    have HS := Lib.hid hs
    have hll := hs.len
    have HZ := Lib.hid hz
    by_cases h1 : 4096 < cells.length
    · have HR : Hid (netChk (pnL L) L.length (chk L) cells free W = (15, 0)) := nc_many hz (.inl h1)
      clear hz hs hsg
      go_wp2_with (go_at_call 35
                   refine (check_any _ _ _ L _ rfl hl hcap (Lib.hid (HL.out.below hbA))).mono ?_
                   rintro e w1 ⟨rfl, hb1⟩
                   rw [HZ.out]
                   go_loud (have HB1 : Hid (Below w.heap.size w w1) := hbA.trans (hb1.mono (by simp <;> omega)))
                   go_loud (have RB1 : Hid (RB w1 (w.heap.size + 2) 0 0) := RB.below (W := _) ⟨by go_simp, by go_simp, by go_simp, by go_simp, by simp⟩ hb1)
                   go_loud (have nb : Hid (NBox w1 (w.heap.size + 1) VA cells.length ca free VB W.length cb) := NBox.below (w := _) ⟨by simp <;> omega, by go_simp, by go_simp, by go_simp⟩ hb1)
                   go_loud (have sb : w1.cell? ⟨w.heap.size, 0, none⟩ = some (.slice A L.length cap) := (hb1.cell (p := ⟨w.heap.size, 0, none⟩) (by simp <;> omega)).trans (by go_simp))
                   have r0 := RB1.out.e0
                   have r1 := RB1.out.a0
                   have g0 := RB1.out.ef
                   have g1 := RB1.out.af
                   have n0 := nb.out.c0
                   have n1 := nb.out.c1
                   clear hb1)
      exact ⟨.tuple #[.int .i64 15, .int .i64 0], by simp [results, Try.f30, go_sem, r0, r1], by rw [HR.out], (HB1.out.setCell (p := ⟨w.heap.size + 2, 0, none⟩) (by simp) _).setCell (p := ⟨w.heap.size + 3, 0, none⟩) (by simp <;> omega) _⟩
    · by_cases h2 : 64 < free
      · have HR : Hid (netChk (pnL L) L.length (chk L) cells free W = (15, 0)) := nc_many hz (.inr h2)
        clear hz hs hsg
        go_wp2_with (go_at_call 35
                     refine (check_any _ _ _ L _ rfl hl hcap (Lib.hid (HL.out.below hbA))).mono ?_
                     rintro e w1 ⟨rfl, hb1⟩
                     rw [HZ.out]
                     go_loud (have HB1 : Hid (Below w.heap.size w w1) := hbA.trans (hb1.mono (by simp <;> omega)))
                     go_loud (have RB1 : Hid (RB w1 (w.heap.size + 2) 0 0) := RB.below (W := _) ⟨by go_simp, by go_simp, by go_simp, by go_simp, by simp⟩ hb1)
                     go_loud (have nb : Hid (NBox w1 (w.heap.size + 1) VA cells.length ca free VB W.length cb) := NBox.below (w := _) ⟨by simp <;> omega, by go_simp, by go_simp, by go_simp⟩ hb1)
                     go_loud (have sb : w1.cell? ⟨w.heap.size, 0, none⟩ = some (.slice A L.length cap) := (hb1.cell (p := ⟨w.heap.size, 0, none⟩) (by simp <;> omega)).trans (by go_simp))
                     have r0 := RB1.out.e0
                     have r1 := RB1.out.a0
                     have g0 := RB1.out.ef
                     have g1 := RB1.out.af
                     have n0 := nb.out.c0
                     have n1 := nb.out.c1
                     clear hb1)
        exact ⟨.tuple #[.int .i64 15, .int .i64 0], by simp [results, Try.f30, go_sem, r0, r1], by rw [HR.out], (HB1.out.setCell (p := ⟨w.heap.size + 2, 0, none⟩) (by simp) _).setCell (p := ⟨w.heap.size + 3, 0, none⟩) (by simp <;> omega) _⟩
      · by_cases h3 : free < 0
        · have HR : Hid (netChk (pnL L) L.length (chk L) cells free W = (1, 0)) := nc_neg hz (by omega) (by omega) h3
          clear hz hs hsg
          go_wp2_with (go_at_call 35
                       refine (check_any _ _ _ L _ rfl hl hcap (Lib.hid (HL.out.below hbA))).mono ?_
                       rintro e w1 ⟨rfl, hb1⟩
                       rw [HZ.out]
                       go_loud (have HB1 : Hid (Below w.heap.size w w1) := hbA.trans (hb1.mono (by simp <;> omega)))
                       go_loud (have RB1 : Hid (RB w1 (w.heap.size + 2) 0 0) := RB.below (W := _) ⟨by go_simp, by go_simp, by go_simp, by go_simp, by simp⟩ hb1)
                       go_loud (have nb : Hid (NBox w1 (w.heap.size + 1) VA cells.length ca free VB W.length cb) := NBox.below (w := _) ⟨by simp <;> omega, by go_simp, by go_simp, by go_simp⟩ hb1)
                       go_loud (have sb : w1.cell? ⟨w.heap.size, 0, none⟩ = some (.slice A L.length cap) := (hb1.cell (p := ⟨w.heap.size, 0, none⟩) (by simp <;> omega)).trans (by go_simp))
                       have r0 := RB1.out.e0
                       have r1 := RB1.out.a0
                       have g0 := RB1.out.ef
                       have g1 := RB1.out.af
                       have n0 := nb.out.c0
                       have n1 := nb.out.c1
                       clear hb1)
          exact ⟨.tuple #[.int .i64 1, .int .i64 0], by simp [results, Try.f30, go_sem, r0, r1], by rw [HR.out], (HB1.out.setCell (p := ⟨w.heap.size + 2, 0, none⟩) (by simp) _).setCell (p := ⟨w.heap.size + 3, 0, none⟩) (by simp <;> omega) _⟩
        · obtain ⟨f, rfl⟩ := Int.eq_ofNat_of_zero_le (show 0 ≤ free by omega)
          have hf : f ≤ 64 := by omega
          have hc4 : cells.length ≤ 4096 := by omega
          clear h1 h2 h3 hs hz hsg
          go_wp2_with (go_at_call 35
                       refine (check_any _ _ _ L _ rfl hl hcap (Lib.hid (HL.out.below hbA))).mono ?_
                       rintro e w1 ⟨rfl, hb1⟩
                       rw [HZ.out]
                       go_loud (have HB1 : Hid (Below w.heap.size w w1) := hbA.trans (hb1.mono (by simp <;> omega)))
                       go_loud (have RB1 : Hid (RB w1 (w.heap.size + 2) 0 0) := RB.below (W := _) ⟨by go_simp, by go_simp, by go_simp, by go_simp, by simp⟩ hb1)
                       go_loud (have nb : Hid (NBox w1 (w.heap.size + 1) VA cells.length ca f VB W.length cb) := NBox.below (w := _) ⟨by simp <;> omega, by go_simp, by go_simp, by go_simp⟩ hb1)
                       go_loud (have sb : w1.cell? ⟨w.heap.size, 0, none⟩ = some (.slice A L.length cap) := (hb1.cell (p := ⟨w.heap.size, 0, none⟩) (by simp <;> omega)).trans (by go_simp))
                       have r0 := RB1.out.e0
                       have r1 := RB1.out.a0
                       have g0 := RB1.out.ef
                       have g1 := RB1.out.af
                       have n0 := nb.out.c0
                       have n1 := nb.out.c1
                       clear hb1)
          clear r0 r1 g0 g1
          have hw1 := nb.out.lt
          have hmm := @run_makeMap Try.prog
          go_loop [8, 9, 40] (fun _ _ i => ∃ k : Nat, i = .int .i64 k ∧ k ≤ cells.length ∧ Hid (∀ j, j < k → 0 ≤ cells.getD j 0 ∧ cells.getD j 0 < (L.length : Int))) (fun _ _ i => cells.length - (intOf i).toNat)
          case atStart => exact ⟨0, rfl, by omega, fun j hj => by omega⟩
          case round =>
            obtain ⟨k, rfl, hk, HN⟩ := hrel
            by_cases hlt : k < cells.length
            · obtain ⟨b, off, rfl, hb, e0⟩ := HC.out k hlt
              have d0 := (HB1.out.cell (p := ⟨b, off + k, none⟩) hb).trans e0
              have r0 := RB1.out.e0
              have r1 := RB1.out.a0
              have g0 := RB1.out.ef
              have g1 := RB1.out.af
              clear e0 hmm
              have HBad : Hid (cells.getD k 0 < 0 ∨ (L.length : Int) ≤ cells.getD k 0 → netChk (pnL L) L.length (chk L) cells f W = (20, (k : Int))) := fun h => nc_agent HZ.out hc4 (by omega) (by omega) hlt h HN.out
              have HGood : Hid (0 ≤ cells.getD k 0 → cells.getD k 0 < (L.length : Int) → ∀ j, j < k + 1 → 0 ≤ cells.getD j 0 ∧ cells.getD j 0 < (L.length : Int)) := fun h0 h1 j hj => by
                rcases Nat.lt_or_ge j k with h | h
                · exact HN.out j h
                · obtain rfl : j = k := by omega
                  exact ⟨h0, h1⟩
              generalize cells.getD k 0 = x at d0 HBad HGood
              rcases (by omega : x < 0 ∨ (0 ≤ x ∧ (L.length : Int) ≤ x) ∨ (0 ≤ x ∧ x < (L.length : Int))) with h | ⟨h, h'⟩ | ⟨h, h'⟩
              · go_wp2
                exact ⟨.tuple #[.int .i64 20, .int .i64 (k : Int)], by simp [results, Try.f30, go_sem, r0, r1], by rw [HBad.out (.inl h)], (HB1.out.setCell (p := ⟨w.heap.size + 2, 0, none⟩) (by simp) _).setCell (p := ⟨w.heap.size + 3, 0, none⟩) (by simp <;> omega) _⟩
              · go_wp2
                exact ⟨.tuple #[.int .i64 20, .int .i64 (k : Int)], by simp [results, Try.f30, go_sem, r0, r1], by rw [HBad.out (.inr h')], (HB1.out.setCell (p := ⟨w.heap.size + 2, 0, none⟩) (by simp) _).setCell (p := ⟨w.heap.size + 3, 0, none⟩) (by simp <;> omega) _⟩
              · go_wp2
                go_round
                case rel => exact ⟨k + 1, by go_num, by omega, HGood.out h h'⟩
                case measure => simp [intOf]; omega
            · obtain rfl : k = cells.length := by omega
              clear hlt
              have HPS1 : Hid (PSet w1 (w.heap.size + 1) w.heap.size A cap L VA VB ca cb cells f W.length) := ⟨nb.out, sb, by omega, HC.out.below HB1.out, HL.out.below HB1.out⟩
              go_upto_region 16 with (fail)
              clear hmm n0 n1 sb
              have hX0 : Below w1.heap.size w1 ((w1.alloc (.map #[] 0)).alloc (.cells #[.map (some w1.heap.size)] 82)) := by (repeat (first | exact Below.refl _ _ | (with_reducible refine Below.drew ?_) | (with_reducible refine Below.alloc ?_ (by (try simp); (try omega)) _) | (with_reducible refine Below.setCell ?_ (by (try simp); (try omega)) _) | (with_reducible refine Below.trans ?_ (Below.mono (by assumption) (by (try simp); (try omega))))))
              refine absW (fun X => CkI w w1.heap.size (w.heap.size + 2) (seenP W 0) 0 0 X ∧ PSet X (w.heap.size + 1) w.heap.size A cap L VA VB ca cb cells f W.length)
                ⟨⟨HB1.out.trans (hX0.mono HB1.out.size), by rw [seenP_0]; exact (MP.made w1).keep (Below.heap_alloc _ _ _ (by simp)), by go_simp, RB1.out.below hX0, by simp⟩, HPS1.out.below hX0⟩ ?_
              rintro X ⟨hci, hps⟩
              have HCI := Lib.hid hci
              have HPS := Lib.hid hps
              clear hci hps hX0
              have hm1 : w.heap.size + 3 < w1.heap.size := RB1.out.lt
              have HQ0 := Lib.hid (pQ_lt HPS1.out hpos)
              generalize w1.heap.size = m at HCI hm1 HQ0
              clear HPS1 RB1 nb hw1 HB1
              have n2 := HPS.out.n.c2
              go_wp2
              clear n2
              go_loopw [12, 13, 60] (fun _ _ i wr => ∃ k : Nat, i = .int .i64 k ∧ k ≤ W.length ∧ Hid (∀ j, j < k → wBad (isPt (pnL L) cells f) W j = 0) ∧ Hid (CkI w m (w.heap.size + 2) (seenP W k) 0 0 wr) ∧ Hid (PSet wr (w.heap.size + 1) w.heap.size A cap L VA VB ca cb cells f W.length)) (fun _ _ i _ => W.length - (intOf i).toNat)
              case atStart => exact ⟨0, rfl, by omega, fun j hj => by omega, HCI, HPS⟩
              case round =>
                obtain ⟨k, rfl, hk, HN2, HCR, HPR⟩ := hrel
                clear HCI HPS
                have n2 := HPR.out.n.c2
                have vb := HCR.out.vb
                have r0 := HCR.out.rb.e0
                have r1 := HCR.out.rb.a0
                have g0 := HCR.out.rb.ef
                have g1 := HCR.out.rb.af
                have hz := HCR.out.lt
                have HB := Lib.hid HCR.out.be
                by_cases hlt : k < W.length
                · obtain ⟨b, off, rfl, hb, e0, e1, e2, e3⟩ := HW.out k hlt
                  have d0 := (HB.out.cell (p := ⟨b, off + k * 4, none⟩) hb).trans e0
                  have d1 := (HB.out.cell (p := ⟨b, off + k * 4 + 1, none⟩) hb).trans e1
                  have d2 := (HB.out.cell (p := ⟨b, off + k * 4 + 2, none⟩) hb).trans e2
                  have d3 := (HB.out.cell (p := ⟨b, off + k * 4 + 3, none⟩) hb).trans e3
                  clear e0 e1 e2 e3
                  have HNc : Hid (wBad (isPt (pnL L) cells f) W k ≠ 0 → netChk (pnL L) L.length (chk L) cells f W = (wBad (isPt (pnL L) cells f) W k, (k : Int))) := fun h => nc_wire HZ.out hc4 (by omega) (by omega) HN.out hlt h HN2.out
                  have HGd : Hid (wBad (isPt (pnL L) cells f) W k = 0 → ∀ j, j < k + 1 → wBad (isPt (pnL L) cells f) W j = 0) := fun h0 j hj => by
                    rcases Nat.lt_or_ge j k with h | h
                    · exact HN2.out j h
                    · obtain rfl : j = k := by omega
                      exact h0
                  have HBd := Lib.hid (wBad_at (is := isPt (pnL L) cells f) hlt)
                  have HSc := Lib.hid (seenP_succ hlt)
                  generalize W.getD k default = x at d0 d1 d2 d3 HBd HSc
                  obtain ⟨⟨x0, x1⟩, x2, x3⟩ := x
                  have HIs : Hid (∀ Z c s, Below wr.heap.size wr Z → Calls Try.prog 36 #[.agg #[.int .i64 c, .int .i64 s], .pointer (some ⟨w.heap.size + 1, 0, none⟩), .pointer (some ⟨w.heap.size, 0, none⟩)] Z fun e w' => e = .returned (.bool (isPt (pnL L) cells f (c, s))) ∧ Below Z.heap.size Z w') :=
                    fun Z c s h => is_any _ _ A cap L VA (some ⟨b, off, none⟩) ca cb cells f W.length c s Z (Lib.hid (HPR.out.below h)) HS.out (by omega) (by omega)
                  cases hp : isPt (pnL L) cells f (x0, x1)
                  · have he : wBad (isPt (pnL L) cells f) W k = 30 := by rw [HBd.out]; unfold wErr; rw [if_pos (.inl hp)]
                    have HBAD : Hid (netChk (pnL L) L.length (chk L) cells f W = (30, (k : Int))) := by
                      have := HNc.out (by rw [he]; omega)
                      rw [he] at this; exact this
                    have HP := Lib.hid hp
                    clear he hp HBd HSc HGd HNc
                    go_wp2_with fail
                    refine (HIs.out _ x0 x1 ((Below.refl _ _).alloc (Nat.le_refl _) _)).mono ?_
                    rintro e w6 ⟨rfl, hb6⟩
                    rw [HP.out]
                    have HB6 : Hid (Below wr.heap.size wr w6) := ((Below.refl _ _).alloc (Nat.le_refl _) _).trans (hb6.mono (by simp))
                    have m60 : w6.cell? ⟨wr.heap.size, 0, none⟩ = some (.int .i64 x0) := (hb6.cell (p := ⟨wr.heap.size, 0, none⟩) (by simp)).trans (by go_simp)
                    have m61 : w6.cell? ⟨wr.heap.size, 1, none⟩ = some (.int .i64 x1) := (hb6.cell (p := ⟨wr.heap.size, 1, none⟩) (by simp)).trans (by go_simp)
                    have m62 : w6.cell? ⟨wr.heap.size, 2, none⟩ = some (.int .i64 x2) := (hb6.cell (p := ⟨wr.heap.size, 2, none⟩) (by simp)).trans (by go_simp)
                    have m63 : w6.cell? ⟨wr.heap.size, 3, none⟩ = some (.int .i64 x3) := (hb6.cell (p := ⟨wr.heap.size, 3, none⟩) (by simp)).trans (by go_simp)
                    have hz6 : wr.heap.size < w6.heap.size := by have := hb6.size; simp at this; omega
                    clear hb6 n2 vb r0 r1 g0 g1 d0 d1 d2 d3
                    have HR6 := Lib.hid (HCR.out.rb.below HB6.out)
                    have r0 := HR6.out.e0
                    have r1 := HR6.out.a0
                    have g0 := HR6.out.ef
                    have g1 := HR6.out.af
                    have HC6 : Hid (Below w.heap.size w w6) := HB.out.trans (HB6.out.mono HB.out.size)
                    go_wp2
                    exact ⟨.tuple #[.int .i64 30, .int .i64 (k : Int)], by simp [results, Try.f30, go_sem, r0, r1], by rw [HBAD.out], (HC6.out.setCell (p := ⟨w.heap.size + 2, 0, none⟩) (by simp) _).setCell (p := ⟨w.heap.size + 3, 0, none⟩) (by simp <;> omega) _⟩
                  · cases hq : isPt (pnL L) cells f (x2, x3)
                    · have he : wBad (isPt (pnL L) cells f) W k = 30 := by rw [HBd.out]; unfold wErr; rw [if_pos (.inr hq)]
                      have HBAD : Hid (netChk (pnL L) L.length (chk L) cells f W = (30, (k : Int))) := by
                        have := HNc.out (by rw [he]; omega)
                        rw [he] at this; exact this
                      have HP := Lib.hid hp
                      have HQ := Lib.hid hq
                      clear he hp hq HBd HSc HGd HNc
                      go_wp2_with fail
                      refine (HIs.out _ x0 x1 ((Below.refl _ _).alloc (Nat.le_refl _) _)).mono ?_
                      rintro e w6 ⟨rfl, hb6⟩
                      rw [HP.out]
                      have HB6 : Hid (Below wr.heap.size wr w6) := ((Below.refl _ _).alloc (Nat.le_refl _) _).trans (hb6.mono (by simp))
                      have m60 : w6.cell? ⟨wr.heap.size, 0, none⟩ = some (.int .i64 x0) := (hb6.cell (p := ⟨wr.heap.size, 0, none⟩) (by simp)).trans (by go_simp)
                      have m61 : w6.cell? ⟨wr.heap.size, 1, none⟩ = some (.int .i64 x1) := (hb6.cell (p := ⟨wr.heap.size, 1, none⟩) (by simp)).trans (by go_simp)
                      have m62 : w6.cell? ⟨wr.heap.size, 2, none⟩ = some (.int .i64 x2) := (hb6.cell (p := ⟨wr.heap.size, 2, none⟩) (by simp)).trans (by go_simp)
                      have m63 : w6.cell? ⟨wr.heap.size, 3, none⟩ = some (.int .i64 x3) := (hb6.cell (p := ⟨wr.heap.size, 3, none⟩) (by simp)).trans (by go_simp)
                      have hz6 : wr.heap.size < w6.heap.size := by have := hb6.size; simp at this; omega
                      clear hb6 n2 vb r0 r1 g0 g1 d0 d1 d2 d3
                      go_wp2_with fail
                      refine (HIs.out _ x2 x3 HB6.out).mono ?_
                      rintro e w7 ⟨rfl, hb7⟩
                      rw [HQ.out]
                      have HB7 : Hid (Below wr.heap.size wr w7) := HB6.out.trans (hb7.mono (by omega))
                      have m70 := (hb7.cell (p := ⟨wr.heap.size, 0, none⟩) hz6).trans m60
                      have m71 := (hb7.cell (p := ⟨wr.heap.size, 1, none⟩) hz6).trans m61
                      have m72 := (hb7.cell (p := ⟨wr.heap.size, 2, none⟩) hz6).trans m62
                      have m73 := (hb7.cell (p := ⟨wr.heap.size, 3, none⟩) hz6).trans m63
                      have HC7 : Hid (CkI w m (w.heap.size + 2) (seenP W k) 0 0 w7) := HCR.out.keep (HB.out.trans (HB7.out.mono HB.out.size)) HB7.out.size (fun x hx => HB7.out.block x (by simp only [List.mem_cons, List.not_mem_nil, or_false] at hx; omega))
                      have r0 := HC7.out.rb.e0
                      have r1 := HC7.out.rb.a0
                      have g0 := HC7.out.rb.ef
                      have g1 := HC7.out.rb.af
                      have vb := HC7.out.vb
                      have hz7 : wr.heap.size < w7.heap.size := by have := hb7.size; omega
                      clear hb7 m60 m61 m62 m63
                      go_wp2
                      exact ⟨.tuple #[.int .i64 30, .int .i64 (k : Int)], by simp [results, Try.f30, go_sem, r0, r1], by rw [HBAD.out], (HC7.out.be.setCell (p := ⟨w.heap.size + 2, 0, none⟩) (by simp) _).setCell (p := ⟨w.heap.size + 3, 0, none⟩) (by simp <;> omega) _⟩
                    · have he31 : (x0, x1) ∈ ends (W.take k) ∨ (x2, x3) ∈ ends (W.take k) ∨ (x0, x1) = (x2, x3) → netChk (pnL L) L.length (chk L) cells f W = (31, (k : Int)) := fun h => by
                        have he : wBad (isPt (pnL L) cells f) W k = 31 := by rw [HBd.out]; unfold wErr; rw [if_neg (by simp [hp, hq]), if_pos h]
                        have := HNc.out (by rw [he]; omega)
                        rw [he] at this; exact this
                      have he0 : ¬ ((x0, x1) ∈ ends (W.take k) ∨ (x2, x3) ∈ ends (W.take k) ∨ (x0, x1) = (x2, x3)) → wBad (isPt (pnL L) cells f) W k = 0 := fun h => by
                        rw [HBd.out]; unfold wErr; rw [if_neg (by simp [hp, hq]), if_neg h]
                      have HE31 := Lib.hid he31
                      have HE0 := Lib.hid he0
                      have HP := Lib.hid hp
                      have HQ := Lib.hid hq
                      clear he31 he0 HBd HNc hp hq
                      by_cases hva : (x0, x1) ∈ ends (W.take k)
                      · have HBAD := Lib.hid (HE31.out (.inl hva))
                        have HVA := Lib.hid hva
                        clear hva HE31 HE0
                        go_wp2_with fail
                        refine (HIs.out _ x0 x1 ((Below.refl _ _).alloc (Nat.le_refl _) _)).mono ?_
                        rintro e w6 ⟨rfl, hb6⟩
                        rw [HP.out]
                        have HB6 : Hid (Below wr.heap.size wr w6) := ((Below.refl _ _).alloc (Nat.le_refl _) _).trans (hb6.mono (by simp))
                        have m60 : w6.cell? ⟨wr.heap.size, 0, none⟩ = some (.int .i64 x0) := (hb6.cell (p := ⟨wr.heap.size, 0, none⟩) (by simp)).trans (by go_simp)
                        have m61 : w6.cell? ⟨wr.heap.size, 1, none⟩ = some (.int .i64 x1) := (hb6.cell (p := ⟨wr.heap.size, 1, none⟩) (by simp)).trans (by go_simp)
                        have m62 : w6.cell? ⟨wr.heap.size, 2, none⟩ = some (.int .i64 x2) := (hb6.cell (p := ⟨wr.heap.size, 2, none⟩) (by simp)).trans (by go_simp)
                        have m63 : w6.cell? ⟨wr.heap.size, 3, none⟩ = some (.int .i64 x3) := (hb6.cell (p := ⟨wr.heap.size, 3, none⟩) (by simp)).trans (by go_simp)
                        have hz6 : wr.heap.size < w6.heap.size := by have := hb6.size; simp at this; omega
                        clear hb6 n2 vb r0 r1 g0 g1 d0 d1 d2 d3
                        go_wp2_with fail
                        refine (HIs.out _ x2 x3 HB6.out).mono ?_
                        rintro e w7 ⟨rfl, hb7⟩
                        rw [HQ.out]
                        have HB7 : Hid (Below wr.heap.size wr w7) := HB6.out.trans (hb7.mono (by omega))
                        have m70 := (hb7.cell (p := ⟨wr.heap.size, 0, none⟩) hz6).trans m60
                        have m71 := (hb7.cell (p := ⟨wr.heap.size, 1, none⟩) hz6).trans m61
                        have m72 := (hb7.cell (p := ⟨wr.heap.size, 2, none⟩) hz6).trans m62
                        have m73 := (hb7.cell (p := ⟨wr.heap.size, 3, none⟩) hz6).trans m63
                        have HC7 : Hid (CkI w m (w.heap.size + 2) (seenP W k) 0 0 w7) := HCR.out.keep (HB.out.trans (HB7.out.mono HB.out.size)) HB7.out.size (fun x hx => HB7.out.block x (by simp only [List.mem_cons, List.not_mem_nil, or_false] at hx; omega))
                        have r0 := HC7.out.rb.e0
                        have r1 := HC7.out.rb.a0
                        have g0 := HC7.out.rb.ef
                        have g1 := HC7.out.rb.af
                        have vb := HC7.out.vb
                        have hz7 : wr.heap.size < w7.heap.size := by have := hb7.size; omega
                        clear hb7 m60 m61 m62 m63
                        have lkA := HC7.out.mp.lookup kport Try.underlying82 zbool (x0, x1) false
                        simp only [Bool.false_eq_true, if_false, encPt] at lkA
                        have lkAe : seenP W k (x0, x1) = some (.bool true) := by unfold seenP; rw [if_pos HVA.out]
                        rw [lkAe] at lkA
                        simp only [Option.getD] at lkA
                        clear lkAe
                        go_wp2
                        exact ⟨.tuple #[.int .i64 31, .int .i64 (k : Int)], by simp [results, Try.f30, go_sem, r0, r1], by rw [HBAD.out], (HC7.out.be.setCell (p := ⟨w.heap.size + 2, 0, none⟩) (by simp) _).setCell (p := ⟨w.heap.size + 3, 0, none⟩) (by simp <;> omega) _⟩
                      · by_cases hvb : (x2, x3) ∈ ends (W.take k)
                        · have HBAD := Lib.hid (HE31.out (.inr (.inl hvb)))
                          have HVA := Lib.hid hva
                          have HVB := Lib.hid hvb
                          clear hva hvb HE31 HE0
                          go_wp2_with fail
                          refine (HIs.out _ x0 x1 ((Below.refl _ _).alloc (Nat.le_refl _) _)).mono ?_
                          rintro e w6 ⟨rfl, hb6⟩
                          rw [HP.out]
                          have HB6 : Hid (Below wr.heap.size wr w6) := ((Below.refl _ _).alloc (Nat.le_refl _) _).trans (hb6.mono (by simp))
                          have m60 : w6.cell? ⟨wr.heap.size, 0, none⟩ = some (.int .i64 x0) := (hb6.cell (p := ⟨wr.heap.size, 0, none⟩) (by simp)).trans (by go_simp)
                          have m61 : w6.cell? ⟨wr.heap.size, 1, none⟩ = some (.int .i64 x1) := (hb6.cell (p := ⟨wr.heap.size, 1, none⟩) (by simp)).trans (by go_simp)
                          have m62 : w6.cell? ⟨wr.heap.size, 2, none⟩ = some (.int .i64 x2) := (hb6.cell (p := ⟨wr.heap.size, 2, none⟩) (by simp)).trans (by go_simp)
                          have m63 : w6.cell? ⟨wr.heap.size, 3, none⟩ = some (.int .i64 x3) := (hb6.cell (p := ⟨wr.heap.size, 3, none⟩) (by simp)).trans (by go_simp)
                          have hz6 : wr.heap.size < w6.heap.size := by have := hb6.size; simp at this; omega
                          clear hb6 n2 vb r0 r1 g0 g1 d0 d1 d2 d3
                          go_wp2_with fail
                          refine (HIs.out _ x2 x3 HB6.out).mono ?_
                          rintro e w7 ⟨rfl, hb7⟩
                          rw [HQ.out]
                          have HB7 : Hid (Below wr.heap.size wr w7) := HB6.out.trans (hb7.mono (by omega))
                          have m70 := (hb7.cell (p := ⟨wr.heap.size, 0, none⟩) hz6).trans m60
                          have m71 := (hb7.cell (p := ⟨wr.heap.size, 1, none⟩) hz6).trans m61
                          have m72 := (hb7.cell (p := ⟨wr.heap.size, 2, none⟩) hz6).trans m62
                          have m73 := (hb7.cell (p := ⟨wr.heap.size, 3, none⟩) hz6).trans m63
                          have HC7 : Hid (CkI w m (w.heap.size + 2) (seenP W k) 0 0 w7) := HCR.out.keep (HB.out.trans (HB7.out.mono HB.out.size)) HB7.out.size (fun x hx => HB7.out.block x (by simp only [List.mem_cons, List.not_mem_nil, or_false] at hx; omega))
                          have r0 := HC7.out.rb.e0
                          have r1 := HC7.out.rb.a0
                          have g0 := HC7.out.rb.ef
                          have g1 := HC7.out.rb.af
                          have vb := HC7.out.vb
                          have hz7 : wr.heap.size < w7.heap.size := by have := hb7.size; omega
                          clear hb7 m60 m61 m62 m63
                          have lkA := HC7.out.mp.lookup kport Try.underlying82 zbool (x0, x1) false
                          simp only [Bool.false_eq_true, if_false, encPt] at lkA
                          have lkAe : seenP W k (x0, x1) = none := by unfold seenP; rw [if_neg HVA.out]
                          rw [lkAe] at lkA
                          simp only [Option.getD] at lkA
                          clear lkAe
                          have lkB := HC7.out.mp.lookup kport Try.underlying82 zbool (x2, x3) false
                          simp only [Bool.false_eq_true, if_false, encPt] at lkB
                          have lkBe : seenP W k (x2, x3) = some (.bool true) := by unfold seenP; rw [if_pos HVB.out]
                          rw [lkBe] at lkB
                          simp only [Option.getD] at lkB
                          clear lkBe
                          go_wp2
                          exact ⟨.tuple #[.int .i64 31, .int .i64 (k : Int)], by simp [results, Try.f30, go_sem, r0, r1], by rw [HBAD.out], (HC7.out.be.setCell (p := ⟨w.heap.size + 2, 0, none⟩) (by simp) _).setCell (p := ⟨w.heap.size + 3, 0, none⟩) (by simp <;> omega) _⟩
                        · by_cases hab : (x0, x1) = (x2, x3)
                          · have HBAD := Lib.hid (HE31.out (.inr (.inr hab)))
                            have HVA := Lib.hid hva
                            have HVB := Lib.hid hvb
                            have heq : eqP (x0, x1) (x2, x3) = true := by unfold eqP; simpa using hab
                            clear hva hvb HE31 HE0 hab
                            go_wp2_with fail
                            refine (HIs.out _ x0 x1 ((Below.refl _ _).alloc (Nat.le_refl _) _)).mono ?_
                            rintro e w6 ⟨rfl, hb6⟩
                            rw [HP.out]
                            have HB6 : Hid (Below wr.heap.size wr w6) := ((Below.refl _ _).alloc (Nat.le_refl _) _).trans (hb6.mono (by simp))
                            have m60 : w6.cell? ⟨wr.heap.size, 0, none⟩ = some (.int .i64 x0) := (hb6.cell (p := ⟨wr.heap.size, 0, none⟩) (by simp)).trans (by go_simp)
                            have m61 : w6.cell? ⟨wr.heap.size, 1, none⟩ = some (.int .i64 x1) := (hb6.cell (p := ⟨wr.heap.size, 1, none⟩) (by simp)).trans (by go_simp)
                            have m62 : w6.cell? ⟨wr.heap.size, 2, none⟩ = some (.int .i64 x2) := (hb6.cell (p := ⟨wr.heap.size, 2, none⟩) (by simp)).trans (by go_simp)
                            have m63 : w6.cell? ⟨wr.heap.size, 3, none⟩ = some (.int .i64 x3) := (hb6.cell (p := ⟨wr.heap.size, 3, none⟩) (by simp)).trans (by go_simp)
                            have hz6 : wr.heap.size < w6.heap.size := by have := hb6.size; simp at this; omega
                            clear hb6 n2 vb r0 r1 g0 g1 d0 d1 d2 d3
                            go_wp2_with fail
                            refine (HIs.out _ x2 x3 HB6.out).mono ?_
                            rintro e w7 ⟨rfl, hb7⟩
                            rw [HQ.out]
                            have HB7 : Hid (Below wr.heap.size wr w7) := HB6.out.trans (hb7.mono (by omega))
                            have m70 := (hb7.cell (p := ⟨wr.heap.size, 0, none⟩) hz6).trans m60
                            have m71 := (hb7.cell (p := ⟨wr.heap.size, 1, none⟩) hz6).trans m61
                            have m72 := (hb7.cell (p := ⟨wr.heap.size, 2, none⟩) hz6).trans m62
                            have m73 := (hb7.cell (p := ⟨wr.heap.size, 3, none⟩) hz6).trans m63
                            have HC7 : Hid (CkI w m (w.heap.size + 2) (seenP W k) 0 0 w7) := HCR.out.keep (HB.out.trans (HB7.out.mono HB.out.size)) HB7.out.size (fun x hx => HB7.out.block x (by simp only [List.mem_cons, List.not_mem_nil, or_false] at hx; omega))
                            have r0 := HC7.out.rb.e0
                            have r1 := HC7.out.rb.a0
                            have g0 := HC7.out.rb.ef
                            have g1 := HC7.out.rb.af
                            have vb := HC7.out.vb
                            have hz7 : wr.heap.size < w7.heap.size := by have := hb7.size; omega
                            clear hb7 m60 m61 m62 m63
                            have lkA := HC7.out.mp.lookup kport Try.underlying82 zbool (x0, x1) false
                            simp only [Bool.false_eq_true, if_false, encPt] at lkA
                            have lkAe : seenP W k (x0, x1) = none := by unfold seenP; rw [if_neg HVA.out]
                            rw [lkAe] at lkA
                            simp only [Option.getD] at lkA
                            clear lkAe
                            have lkB := HC7.out.mp.lookup kport Try.underlying82 zbool (x2, x3) false
                            simp only [Bool.false_eq_true, if_false, encPt] at lkB
                            have lkBe : seenP W k (x2, x3) = none := by unfold seenP; rw [if_neg HVB.out]
                            rw [lkBe] at lkB
                            simp only [Option.getD] at lkB
                            clear lkBe
                            go_wp2
                            exact ⟨.tuple #[.int .i64 31, .int .i64 (k : Int)], by simp [results, Try.f30, go_sem, r0, r1], by rw [HBAD.out], (HC7.out.be.setCell (p := ⟨w.heap.size + 2, 0, none⟩) (by simp) _).setCell (p := ⟨w.heap.size + 3, 0, none⟩) (by simp <;> omega) _⟩
                          · have HG : Hid (∀ j, j < k + 1 → wBad (isPt (pnL L) cells f) W j = 0) := HGd.out (HE0.out (by
                              rintro (h | h | h)
                              · exact hva h
                              · exact hvb h
                              · exact hab h))
                            have HVA := Lib.hid hva
                            have HVB := Lib.hid hvb
                            have heq : eqP (x0, x1) (x2, x3) = false := by unfold eqP; simpa using hab
                            clear hva hvb HE31 HE0 hab HGd
                            go_wp2_with fail
                            refine (HIs.out _ x0 x1 ((Below.refl _ _).alloc (Nat.le_refl _) _)).mono ?_
                            rintro e w6 ⟨rfl, hb6⟩
                            rw [HP.out]
                            have HB6 : Hid (Below wr.heap.size wr w6) := ((Below.refl _ _).alloc (Nat.le_refl _) _).trans (hb6.mono (by simp))
                            have m60 : w6.cell? ⟨wr.heap.size, 0, none⟩ = some (.int .i64 x0) := (hb6.cell (p := ⟨wr.heap.size, 0, none⟩) (by simp)).trans (by go_simp)
                            have m61 : w6.cell? ⟨wr.heap.size, 1, none⟩ = some (.int .i64 x1) := (hb6.cell (p := ⟨wr.heap.size, 1, none⟩) (by simp)).trans (by go_simp)
                            have m62 : w6.cell? ⟨wr.heap.size, 2, none⟩ = some (.int .i64 x2) := (hb6.cell (p := ⟨wr.heap.size, 2, none⟩) (by simp)).trans (by go_simp)
                            have m63 : w6.cell? ⟨wr.heap.size, 3, none⟩ = some (.int .i64 x3) := (hb6.cell (p := ⟨wr.heap.size, 3, none⟩) (by simp)).trans (by go_simp)
                            have hz6 : wr.heap.size < w6.heap.size := by have := hb6.size; simp at this; omega
                            clear hb6 n2 vb r0 r1 g0 g1 d0 d1 d2 d3
                            go_wp2_with fail
                            refine (HIs.out _ x2 x3 HB6.out).mono ?_
                            rintro e w7 ⟨rfl, hb7⟩
                            rw [HQ.out]
                            have HB7 : Hid (Below wr.heap.size wr w7) := HB6.out.trans (hb7.mono (by omega))
                            have m70 := (hb7.cell (p := ⟨wr.heap.size, 0, none⟩) hz6).trans m60
                            have m71 := (hb7.cell (p := ⟨wr.heap.size, 1, none⟩) hz6).trans m61
                            have m72 := (hb7.cell (p := ⟨wr.heap.size, 2, none⟩) hz6).trans m62
                            have m73 := (hb7.cell (p := ⟨wr.heap.size, 3, none⟩) hz6).trans m63
                            have HC7 : Hid (CkI w m (w.heap.size + 2) (seenP W k) 0 0 w7) := HCR.out.keep (HB.out.trans (HB7.out.mono HB.out.size)) HB7.out.size (fun x hx => HB7.out.block x (by simp only [List.mem_cons, List.not_mem_nil, or_false] at hx; omega))
                            have r0 := HC7.out.rb.e0
                            have r1 := HC7.out.rb.a0
                            have g0 := HC7.out.rb.ef
                            have g1 := HC7.out.rb.af
                            have vb := HC7.out.vb
                            have hz7 : wr.heap.size < w7.heap.size := by have := hb7.size; omega
                            clear hb7 m60 m61 m62 m63
                            have lkA := HC7.out.mp.lookup kport Try.underlying82 zbool (x0, x1) false
                            simp only [Bool.false_eq_true, if_false, encPt] at lkA
                            have lkAe : seenP W k (x0, x1) = none := by unfold seenP; rw [if_neg HVA.out]
                            rw [lkAe] at lkA
                            simp only [Option.getD] at lkA
                            clear lkAe
                            have lkB := HC7.out.mp.lookup kport Try.underlying82 zbool (x2, x3) false
                            simp only [Bool.false_eq_true, if_false, encPt] at lkB
                            have lkBe : seenP W k (x2, x3) = none := by unfold seenP; rw [if_neg HVB.out]
                            rw [lkBe] at lkB
                            simp only [Option.getD] at lkB
                            clear lkBe
                            go_wp2_with fail
                            clear lkA lkB heq r0 r1 g0 g1
                            have HM7 := Lib.hid HC7.out.mp
                            have hzm : m + 1 < w7.heap.size := by omega
                            have hnm : wr.heap.size ≠ m := by omega
                            go_region_held3 (fun w' => w'.cell? ⟨m + 1, 0, none⟩ = some (.map (some m)) ∧ w'.cell? ⟨wr.heap.size, 0, none⟩ = some (.int .i64 x0) ∧ w'.cell? ⟨wr.heap.size, 1, none⟩ = some (.int .i64 x1) ∧ w'.cell? ⟨wr.heap.size, 2, none⟩ = some (.int .i64 x2) ∧ w'.cell? ⟨wr.heap.size, 3, none⟩ = some (.int .i64 x3))
                              (first | exact S9 | exact S8 | exact ⟨vb, m70, m71, m72, m73⟩)
                              (first
                                | (refine up_map_update (k := (x0, x1)) HM7.out.drew kport Try.underlying82 ?_; intro w8 mp8 k8 z8
                                   have S8 := ck_S k8 hzm hz7 hnm ⟨vb, m70, m71, m72, m73⟩)
                                | (refine up_map_update (k := (x2, x3)) mp8 kport Try.underlying82 ?_; intro w9 mp9 k9 z9
                                   have S9 := ck_S k9 (by rw [z8]; exact hzm) (by rw [z8]; exact hz7) hnm S8))
                            have K9 : Kp [m] w7 w9 := (((Kp.refl [m] w7).drew).trans k8 (by simp)).trans k9 (by simp)
                            have HC9 : Hid (CkI w m (w.heap.size + 2) (seenP W (k + 1)) 0 0 w9) := ⟨HC7.out.be.trans (K9.below (by omega) (by simp; omega)), by rw [HSc.out]; exact mp9, S9.1, HC7.out.rb.keep K9.size (K9.block _ (by omega) (by simp; omega)) (K9.block _ (by omega) (by simp; omega)), by have := K9.size; omega⟩
                            have HP9 : Hid (PSet w9 (w.heap.size + 1) w.heap.size A cap L VA (some ⟨b, off, none⟩) ca cb cells f W.length) := (HPR.out.below HB7.out).kq (KQ.kp K9 (fun x hx => by have := HQ0.out x hx; simp; omega)) (fun x hx => hx)
                            clear S8 S9 k8 k9 z8 z9 mp8 mp9 K9 HM7
                            go_wp2
                            go_roundw
                            case rel => exact ⟨k + 1, by go_num, by omega, HG, HC9, HP9⟩
                            case measure => simp [intOf]; omega
                · obtain rfl : k = W.length := by omega
                  have hbs := HPR.out.sl
                  have s0 := HPR.out.s
                  have n0 := HPR.out.n.c0
                  have n1 := HPR.out.n.c1
                  have hbn := HPR.out.n.lt
                  have HCp := Lib.hid HPR.out.c
                  have HLp := Lib.hid HPR.out.a
                  clear r0 r1 g0 g1 vb
                  go_wp2_with (go_at_call 38; refine (net_ports A _ cap VA VB ca cb cells f W L _ rfl HCp HLp).mono ?_; rintro e w2 ⟨rfl, hps, hb2⟩)
                  have HC2 : Hid (CkI w m (w.heap.size + 2) (seenP W W.length) 0 0 w2) := HCR.out.keep (HB.out.trans (hb2.mono HB.out.size)) hb2.size (fun x hx => hb2.block x (by simp only [List.mem_cons, List.not_mem_nil, or_false] at hx; omega))
                  have hz2 : wr.heap.size + 1 < w2.heap.size := hps.n.lt
                  have HNw := Lib.hid HN2.out
                  clear hb2 n0 n1 s0 hbs hbn HCp HLp
                  refine rfb rfl (enters_of Try.func52 (by kernel_rfl) rfl) (ports_seq 4 _ _ A cap L VA VB ca cb cells f W.length HS.out (by omega) (by omega) _ hps) (pQ_lt hps hpos) (fun _ => rfl)
                    (fun pre X => CkI w m (w.heap.size + 2) (seenP W W.length) 0 0 X ∧ ∀ y ∈ pre, y.2 ∈ ends W)
                    (fun c pre X => c = .ret ∧ ∃ pre0 x, pre = pre0 ++ [x] ∧ x.2 ∉ ends W ∧ (∀ y ∈ pre0, y.2 ∈ ends W) ∧ RB X (w.heap.size + 2) 32 (x.1 : Int) ∧ Below w.heap.size w X)
                    (fun s X X' row h hg hr => ⟨h.1.grown hg (by omega) (by omega) (by omega) hr, h.2⟩)
                    (fun c s X X' row h hg hr => by
                      obtain ⟨h0, pre0, x, h1, h2, h3, h4, h5⟩ := h
                      exact ⟨h0, pre0, x, h1, h2, h3, h4.grown hg (C := w2.heap.size) (by omega) hr, h5.grown hg h5.size (fun r e => by have := (hr r e).1; omega)⟩)
                    ⟨HC2.out, by simp⟩ (fun x => .cells #[.int .i64 x.2.1, .int .i64 x.2.2] 41) actC ?assign ?body ?done ?stop
                  case assign =>
                    intro l x X K hK
                    unfold encP
                    gi_wp2
                    simpa [actC] using hK
                  case body =>
                    rintro l pre x b X ⟨hci, hall⟩ hlen hb hbx
                    have b0 : X.cell? ⟨b, 0, none⟩ = some (.int .i64 x.2.1) := by simp [World.cell?, hbx]
                    have b1 : X.cell? ⟨b, 1, none⟩ = some (.int .i64 x.2.2) := by simp [World.cell?, hbx]
                    have vb := hci.vb
                    have r0 := hci.rb.e0
                    have r1 := hci.rb.a0
                    have g0 := hci.rb.ef
                    have g1 := hci.rb.af
                    have lk := hci.mp.lookup kport Try.underlying82 zbool x.2 false
                    rw [seenP_all] at lk
                    have HCx := Lib.hid hci
                    have HAll := Lib.hid hall
                    clear hci hall
                    simp only [actC]
                    by_cases hx : x.2 ∈ ends W
                    · rw [if_pos hx] at lk
                      simp only [Bool.false_eq_true, if_false, encPt, Option.getD_some] at lk
                      have HX := Lib.hid hx
                      clear hx
                      gi_wp2
                      exact ⟨KeepsFrom.refl _ _, KQ.refl _ _, HCx.out, fun y hy => by
                        rcases List.mem_append.1 hy with hy | hy
                        · exact HAll.out y hy
                        · simp only [List.mem_singleton] at hy; subst hy; exact HX.out⟩
                    · rw [if_neg hx] at lk
                      simp only [Bool.false_eq_true, if_false, encPt, Option.getD_none] at lk
                      have HX := Lib.hid hx
                      clear hx
                      gi_wp2
                      exact ⟨((KeepsOthers.setCell _ _ _).trans (KeepsOthers.setCell _ _ _)).from _, rfl, pre, x, rfl, HX.out, HAll.out, HCx.out.rb.set 32 x.1, (HCx.out.be.setCell (p := ⟨w.heap.size + 2, 0, none⟩) (by simp) _).setCell (p := ⟨w.heap.size + 3, 0, none⟩) (by simp <;> omega) _⟩
                  case done =>
                    rintro D xs X hD rfl ⟨hci, hall⟩ hK
                    have HOK : Hid (netChk (pnL L) L.length (chk L) cells f W = (0, 0)) := nc_ok HZ.out hc4 (by omega) (by omega) HN.out HNw.out (fun j hj => by
                      have hj2 : j < (allPs (pnL L) cells f).length := hj
                      have hg : (allPs (pnL L) cells f).getD j (0, 0) = (allPs (pnL L) cells f)[j]'hj2 := by rw [List.getD_eq_getElem?_getD, List.getElem?_eq_getElem hj2]; rfl
                      rw [show ((f : Int)).toNat = f from rfl, hg]
                      exact hall _ (numd_mem hj2))
                    have r0 := hci.rb.e0
                    have r1 := hci.rb.a0
                    have g0 := hci.rb.ef
                    have g1 := hci.rb.af
                    have HCx := Lib.hid hci
                    have HK := Lib.hid hK
                    clear hci hall hK
                    go_wp2
                    have hD1 : w.heap.size + 2 ≠ D := by omega
                    have hD2 : w.heap.size + 3 ≠ D := by omega
                    have HR := Lib.hid (HCx.out.rb.set 0 0)
                    refine leaveM ((KeepsOthers.trans (KeepsOthers.setCell _ _ _) (KeepsOthers.setCell _ _ _)).same D _ HK.out rfl) ?_
                    exact ⟨.tuple #[.int .i64 0, .int .i64 0], by simp [results, Try.f30, go_sem, cell_put, hD1, hD2, r0, r1], by rw [HOK.out], below_put ((HCx.out.be.setCell (p := ⟨w.heap.size + 2, 0, none⟩) (by simp) _).setCell (p := ⟨w.heap.size + 3, 0, none⟩) (by simp <;> omega) _) (by omega) _⟩
                  case stop =>
                    rintro D c pre X hD hpre ⟨rfl, pre0, x, rfl, hx, hall, hrb, hbe⟩ hK
                    have hat : ∀ j y, (pre0 ++ [x])[j]? = some y → (numd (allPs (pnL L) cells f))[j]? = some y := fun j y h => pre_at hpre h
                    obtain ⟨q1, q2⟩ := numd_at _ (hat pre0.length x (snoc_at _ _))
                    have hlt2 : pre0.length < (allPs (pnL L) cells f).length := by
                      rcases Nat.lt_or_ge pre0.length (allPs (pnL L) cells f).length with h2 | h2
                      · exact h2
                      · rw [List.getElem?_eq_none h2] at q2; cases q2
                    have HBAD : Hid (netChk (pnL L) L.length (chk L) cells f W = (32, (x.1 : Int))) := by
                      show _ = _
                      rw [q1]
                      refine nc_open HZ.out hc4 (by omega) (by omega) HN.out HNw.out (k := pre0.length) hlt2 ?_ (fun j hj => ?_)
                      · rw [show ((f : Int)).toNat = f from rfl, List.getD_eq_getElem?_getD, q2]; exact hx
                      · obtain ⟨y, hy⟩ : ∃ y, pre0[j]? = some y := ⟨_, List.getElem?_eq_getElem hj⟩
                        obtain ⟨p1, p2⟩ := numd_at _ (hat j y (by rw [List.getElem?_append_left hj]; exact hy))
                        rw [show ((f : Int)).toNat = f from rfl, List.getD_eq_getElem?_getD, p2]
                        exact hall y (List.mem_of_getElem? hy)
                    have r0 := hrb.e0
                    have r1 := hrb.a0
                    have hD1 : w.heap.size + 2 ≠ D := by omega
                    have hD2 : w.heap.size + 3 ≠ D := by omega
                    go_wp2
                    refine leaveM hK ?_
                    exact ⟨.tuple #[.int .i64 32, .int .i64 (x.1 : Int)], by simp [results, Try.f30, go_sem, cell_put, hD1, hD2, r0, r1], by rw [HBAD.out], below_put hbe (by omega) _⟩
  · have hz : (chk L).1 ≠ 0 := by simpa using hsg
    have HR : Hid (netChk (pnL L) L.length (chk L) cells free W = chk L) := nc_sig hz
    clear hz
    go_wp2_with (go_at_call 35
                 refine (check_any _ _ _ L _ rfl hl hcap (Lib.hid (HL.out.below hbA))).mono ?_
                 rintro e w1 ⟨rfl, hb1⟩
                 skip
                 go_loud (have HB1 : Hid (Below w.heap.size w w1) := hbA.trans (hb1.mono (by simp <;> omega)))
                 go_loud (have RB1 : Hid (RB w1 (w.heap.size + 2) 0 0) := RB.below (W := _) ⟨by go_simp, by go_simp, by go_simp, by go_simp, by simp⟩ hb1)
                 go_loud (have nb : Hid (NBox w1 (w.heap.size + 1) VA cells.length ca free VB W.length cb) := NBox.below (w := _) ⟨by simp <;> omega, by go_simp, by go_simp, by go_simp⟩ hb1)
                 go_loud (have sb : w1.cell? ⟨w.heap.size, 0, none⟩ = some (.slice A L.length cap) := (hb1.cell (p := ⟨w.heap.size, 0, none⟩) (by simp <;> omega)).trans (by go_simp))
                 have r0 := RB1.out.e0
                 have r1 := RB1.out.a0
                 have g0 := RB1.out.ef
                 have g1 := RB1.out.af
                 have n0 := nb.out.c0
                 have n1 := nb.out.c1
                 clear hb1)
    exact ⟨.tuple #[.int .i64 (chk L).1, .int .i64 (chk L).2], by simp [results, Try.f30, go_sem, r0, r1], by rw [HR.out], (HB1.out.setCell (p := ⟨w.heap.size + 2, 0, none⟩) (by simp) _).setCell (p := ⟨w.heap.size + 3, 0, none⟩) (by simp <;> omega) _⟩
end Go.Proofs.Ytogbanlfihabpaa
