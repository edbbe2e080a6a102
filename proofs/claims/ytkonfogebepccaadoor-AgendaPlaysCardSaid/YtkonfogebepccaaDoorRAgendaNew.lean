/-
  The document's agenda: Add of a pair of cells that stand in none.
-/
import Derived.Test.YtkonfogebepccaaDoorRAgendaAdd
import Derived.Test.YtkonfogebepccaaDoorRegionHS
namespace Go.Proofs.YtkonfogebepccaaDoor
open Go.RowKit
attribute [local go_sem] cell_set
set_option maxRecDepth 100000
set_option linter.unusedVariables false

theorem rag_close {w w4 w5 : World} {R : Nat} {x y : Int} {sv sv5 : Value} {ps : List (Int × Int)} {o : Obj} (hR : w.heap[R]? = some (.cells #[sv] 29 (0, 0)))
    (HR : Row w 35 2 sv ps.length (pcells ps)) (hb4 : Below w.heap.size w w4) (hRV : R ∉ ownB sv)
    (r5 : Row w5 35 2 sv5 (ps.length + 1) (pcells ps ++ [.int .i64 x, .int .i64 y])) (k5 : Kp (ownB sv) (w4.alloc o).drew w5) (o5 : ownB sv5 = ownB sv ∨ ownB sv5 = [(w4.alloc o).drew.heap.size]) :
    (∃ F', RAG (w5.setCell ⟨R, 0, none⟩ sv5) R (ps ++ [(x, y)]) F' ∧ ∀ b ∈ F', b ∈ R :: ownB sv ∨ w.heap.size ≤ b) ∧ Kp (R :: ownB sv) w (w5.setCell ⟨R, 0, none⟩ sv5) := by
  have hRl := heap_lt hR
  have hsz : (w4.alloc o).drew.heap.size = w4.heap.size + 1 := by simp [World.drew]
  have z4 := hb4.size
  have a5 : w5.heap[R]? = some (.cells #[sv] 29 (0, 0)) := (k5.block R (by omega) hRV).trans ((Below.heap_alloc w4 o R (by omega)).trans ((hb4.block R hRl).trans hR))
  have hR5 : R ∉ ownB sv5 := by
    rcases o5 with e | e <;> rw [e]
    · exact hRV
    · simp [hsz]; omega
  have hk : Kp (R :: ownB sv) w w5 := (Kp.of_below hb4).trans (((((Kp.refl (ownB sv) w4).alloc o).drew).trans k5 (fun b hb => .inl hb)).mono (by intro b hb; simp [hb])) (fun b hb => .inl hb)
  refine ⟨⟨R :: ownB sv5, ⟨sv5, ?_, ?_, rfl⟩, ?_⟩, hk.setCell (by simp) _⟩
  · simp [World.setCell, Array.getElem?_modify, a5]
  · have := r5.keep (w' := w5.setCell ⟨R, 0, none⟩ sv5) (fun b hb => Below.heap_setCell w5 _ _ b (fun e => by subst e; exact hR5 hb))
    rw [pcells_snoc]; simpa using this
  · intro b hb
    simp only [List.mem_cons] at hb ⊢
    rcases hb with h | h
    · exact .inl (.inl h)
    · rcases o5 with e | e <;> rw [e] at h
      · exact .inl (.inr h)
      · simp [hsz] at h; right; omega
section
variable (R : Nat) (ps : List (Int × Int)) (F : List Nat) (x y : Int) (w : World)
set_option maxHeartbeats 2000000 in
theorem rag_add_new (lo hi : Int) (h : RAG w R ps F) (hlo : 0 ≤ lo) (hlh : lo < hi) (hxy : (x = lo ∧ y = hi) ∨ (x = hi ∧ y = lo)) (ol : ¬ inAg ps lo) (oh : ¬ inAg ps hi) (hl : ps.length < 65536) :
    Calls Tryd.prog 9 #[.pointer (some ⟨R, 0, none⟩), .agg #[.int .i64 x, .int .i64 y]] w fun e w' => e = .returned (.int .i64 0) ∧ (∃ F', RAG w' R (ps ++ [(lo, hi)]) F' ∧ ∀ b ∈ F', b ∈ F ∨ w.heap.size ≤ b) ∧ Kp F w w' := by
  have hx : 0 ≤ x := by omega
  have hy : 0 ≤ y := by omega
  have hne : x ≠ y := by omega
  have HO : Hid (∀ i (hi : i < ps.length), ¬ hit ps[i] x y) := fun i hi2 => by
    rcases hxy with ⟨rfl, rfl⟩ | ⟨rfl, rfl⟩
    · exact no_hit ol oh hi2
    · exact no_hit oh ol hi2
  have HMn : Hid ((if y < x then y else x) = lo ∧ (if x < y then y else x) = hi) := ⟨by split <;> omega, by split <;> omega⟩
  have HXY := Lib.hid hxy
  have HLT := Lib.hid hlh
  obtain ⟨i0, hi0, hz0, hz1, hz2⟩ := info_parts pair_infoA
  clear ol oh hlo hlh hxy
  obtain ⟨sv, c0, z0, hr, rfl, hR⟩ := h.head
  have hRl : R < w.heap.size := heap_lt hR
  obtain ⟨V, cap, rfl, hcap⟩ := hr.len
  have d0 : decide (x < 0) = false := by simpa using hx
  have d1 : decide (y < 0) = false := by simpa using hy
  have d2 : (x == y) = false := by rw [beq_eq_false_iff_ne]; exact hne
  have HH := Lib.hid (And.intro hR hr)
  clear hr hR hx hy hne
  go_enter Tryd.func9, Tryd.ntmps9
  go_upto_region 3 with fail
  refine absW (fun X => Below w.heap.size w X ∧ X.heap[w.heap.size]? = some (.cells #[.int .i64 x, .int .i64 y] 35 (0, 0))) ⟨by (repeat (first | exact Below.refl _ _ | (with_reducible refine Below.drew ?_) | (with_reducible refine Below.alloc ?_ (by (try simp); (try omega)) _) | (with_reducible refine Below.setCell ?_ (by (try simp); (try omega)) _) | (with_reducible refine Below.trans ?_ (Below.mono (by assumption) (by (try simp); (try omega)))))), by first | exact heap_alloc_new w _ | simp⟩ ?_
  rintro X ⟨hbX, hxb⟩
  have HX := Lib.hid (And.intro hbX hxb)
  clear hbX hxb d0 d1 d2
  go_wp2_with fail
  go_loopw [5] (fun i wr => ∃ k : Nat, i = .int .i64 k ∧ k ≤ ps.length ∧ Hid (Below X.heap.size X wr)) (fun i _ => ps.length - (intOf i).toNat)
  case atStart => exact ⟨0, rfl, Nat.zero_le _, Below.refl _ _⟩
  case round =>
    obtain ⟨k, rfl, hk, HB⟩ := hrel
    have HBw := Lib.hid (HX.out.1.trans (HB.out.mono HX.out.1.size))
    have hxb := (HB.out.block _ (heap_lt HX.out.2)).trans HX.out.2
    have x0 : wr.cell? ⟨w.heap.size, 0, none⟩ = some (.int .i64 x) := by simp [World.cell?, hxb]
    have x1 : wr.cell? ⟨w.heap.size, 1, none⟩ = some (.int .i64 y) := by simp [World.cell?, hxb]
    have xl := heap_lt hxb
    have hRb := (HBw.out.block _ hRl).trans HH.out.1
    have c1 : wr.cell? ⟨R, 0, none⟩ = some (.slice V ps.length cap) := (HBw.out.cell (p := ⟨R, 0, none⟩) hRl).trans c0
    have z1 : wr.frozen? ⟨R, 0, none⟩ = false := by simp [World.frozen?, hRb]
    have hRw := heap_lt hRb
    clear hxb hRb
    by_cases hkl : k < ps.length
    · obtain ⟨g, cc, cur, hVe, hg, _, _⟩ := HH.out.2.some_ (show 0 < ps.length by omega)
      simp only [Value.slice.injEq, true_and] at hVe
      obtain ⟨rfl, rfl⟩ := hVe
      have hrw := HH.out.2.keep (w' := wr) fun b hb => HBw.out.block b (HH.out.2.lt b hb)
      have hgl : g < wr.heap.size := Nat.lt_of_lt_of_le (heap_lt hg) HBw.out.size
      obtain ⟨p0, p1⟩ := pcells_at (ps := ps) (i := k) hkl
      have r0 := (hrw.cellAt (k * 2) (by omega)).trans p0
      have r1 := (hrw.cellAt (k * 2 + 1) (by omega)).trans p1
      have hk1 : (k : Int) < (ps.length : Int) := by have := hkl; omega
      clear hg hrw p0 p1
      have hnh := HO.out k hkl
      generalize ps[k] = q at r0 r1 hnh
      obtain ⟨u, v⟩ := q
      simp only [hit, not_or] at hnh
      obtain ⟨n1, n2, n3, n4⟩ := hnh
      dsimp only at r0 r1
      have e1 : (u == x) = false := by rw [beq_eq_false_iff_ne]; exact Ne.symm n1
      have e2 : (v == x) = false := by rw [beq_eq_false_iff_ne]; exact Ne.symm n2
      have e3 : (u == y) = false := by rw [beq_eq_false_iff_ne]; exact Ne.symm n3
      have e4 : (v == y) = false := by rw [beq_eq_false_iff_ne]; exact Ne.symm n4
      clear n1 n2 n3 n4
      go_wp2_with fail
      go_roundw
      case rel => exact ⟨k + 1, by go_num, by omega, Lib.hid (HB.out.alloc HB.out.size _)⟩
      case measure => simp [intOf]; omega
    · obtain rfl : k = ps.length := by omega
      go_upto_region 9 with fail
      have HR4 := Lib.hid (HH.out.2.keep (w' := wr) fun b hb => HBw.out.block b (HH.out.2.lt b hb))
      have HV : Hid (R ∉ ownB (.slice V ps.length cap)) := fun hb => by
        obtain ⟨_, hr | ⟨g, c', cur, e, hh, _⟩⟩ := HH.out.2
        · rw [hr.1] at hb; simp [ownB] at hb
        · rw [e] at hb; simp [ownB] at hb; subst hb
          rw [HH.out.1] at hh; injection hh with hh; injection hh with _ ht; exact absurd ht (by decide)
      have HB63 : ps.length + 1 ≤ maxLen := by simp only [maxLen]; omega
      have HB47 : (ps.length + 1) * 16 ≤ 140737488355328 := by omega
      have HS5 : Hid (∀ (w5 : World) (o : Obj), Kp (ownB (.slice V ps.length cap)) (wr.alloc o).drew w5 → w5.cell? ⟨R, 0, none⟩ = some (.slice V ps.length cap) ∧ w5.frozen? ⟨R, 0, none⟩ = false) := fun w5 o k5 => by
        have key : w5.heap[R]? = wr.heap[R]? := (k5.block R (by simp; omega) HV.out).trans (Below.heap_alloc wr o R hRw)
        exact ⟨(World.cell?_of_block (a := ⟨R, 0, none⟩) key).trans c1, (World.frozen?_of_block (a := ⟨R, 0, none⟩) key).trans z1⟩
      have HX5 : Hid (∀ (w5 : World) (o : Obj), Kp (ownB (.slice V ps.length cap)) (wr.alloc o).drew w5 → w5.cell? ⟨w.heap.size, 0, none⟩ = some (.int .i64 x) ∧ w5.cell? ⟨w.heap.size, 1, none⟩ = some (.int .i64 y)) := fun w5 o k5 => by
        have hxn : w.heap.size ∉ ownB (.slice V ps.length cap) := fun hb => absurd (HH.out.2.lt _ hb) (by omega)
        have key : w5.heap[w.heap.size]? = wr.heap[w.heap.size]? := (k5.block w.heap.size (by simp; omega) hxn).trans (Below.heap_alloc wr o _ xl)
        exact ⟨(World.cell?_of_block (a := ⟨w.heap.size, 0, none⟩) key).trans x0, (World.cell?_of_block (a := ⟨w.heap.size, 1, none⟩) key).trans x1⟩
      have hlt : lo < hi := HLT.out
      rcases HXY.out with ⟨rfl, rfl⟩ | ⟨rfl, rfl⟩
      · have m1 : (if y < x then y else x) = x := if_neg (by omega)
        have m2 : (if x < y then y else x) = y := if_pos hlt
        have HRw : Hid (Row ((wr.alloc (.cells #[.int .i64 x, .int .i64 y] 35)).drew) 35 2 (.slice V ps.length cap) ps.length (pcells ps)) := (HR4.out.alloc (.cells #[.int .i64 x, .int .i64 y] 35)).drew
        have HSr : Hid (Src ((wr.alloc (.cells #[.int .i64 x, .int .i64 y] 35)).drew) (some ⟨wr.heap.size, 0, none⟩) 1 2 [.int .i64 x, .int .i64 y]) :=
          (Src.block (cs := #[.int .i64 x, .int .i64 y]) (t := 35) (fr := (0, 0)) (heap_alloc_new wr _) (by rfl) (by simp [Value.oneCell'])).drew
        refine region_hs 16 18 (fun X' => X'.cell? ⟨R, 0, none⟩ = some (.slice V ps.length cap) ∧ X'.cell? ⟨w.heap.size, 0, none⟩ = some (.int .i64 x) ∧ X'.cell? ⟨w.heap.size, 1, none⟩ = some (.int .i64 y)) (by kernel_rfl) (by kernel_rfl) (fun _ _ d _ _ h => by cases d <;> exact h) ⟨c1, x0, x1⟩ ?_
        simp only [List.take_succ_cons, List.take_zero, List.drop_succ_cons, List.drop_zero]
        iterate 16 (refine wpHead_step (v := ?_) (by rfl) ?_ ?_; rotate_left; (· intro W9 hSw; (try dsimp only at hSw); go_simp; try with_reducible rfl); (try simp only [Act.put, List.setIfInBounds_toArray, List.set_cons_zero, List.set_cons_succ]))
        refine wpHead_nil ?_
        refine wpMid_step (by rfl) (fun K9 hK9 => ?_)
        unfold Oper.wp
        go_simp
        refine hK9 _ _ (⟨by go_simp, by go_simp, by go_simp⟩) ?_
        (try simp only [Act.put, List.setIfInBounds_toArray, List.set_cons_zero, List.set_cons_succ])
        refine wpMid_step (by rfl) (fun K9 hK9 => ?_)
        refine wpo_row_append _ _ _ (by rfl) i0 _ 16 Tryd.underlying27 hi0 hz0 hz1 hz2 (by rfl) (by rfl) HRw.out _ 1 1 (by rfl) [.int .i64 x, .int .i64 y] HSr.out HB63 HB47 ?_
        intro sv5 w5 r5 k5 o5
        obtain ⟨V5, cp5, rfl, hc5⟩ := r5.len
        have S5 := HS5.out _ _ k5
        have HQ5 := Lib.hid (HX5.out _ _ k5)
        have HFn := Lib.hid (rag_close HH.out.1 HH.out.2 HBw.out HV.out r5 k5 o5)
        clear r5 o5 k5
        refine hK9 _ _ ⟨S5.1, HQ5.out⟩ ?_
        refine wpMid_nil ?_
        clear hK9 K9 HRw HSr c1 z1 x0 x1
        go_wp2
        go_ret
        obtain ⟨⟨F', h1, h2⟩, h3⟩ := HFn.out
        exact ⟨rfl, ⟨F', h1, fun b hb => by simpa using h2 b hb⟩, h3⟩
      · have m1 : (if y < x then y else x) = y := if_pos hlt
        have m2 : (if x < y then y else x) = x := if_neg (by omega)
        have HRw : Hid (Row ((wr.alloc (.cells #[.int .i64 y, .int .i64 x] 35)).drew) 35 2 (.slice V ps.length cap) ps.length (pcells ps)) := (HR4.out.alloc (.cells #[.int .i64 y, .int .i64 x] 35)).drew
        have HSr : Hid (Src ((wr.alloc (.cells #[.int .i64 y, .int .i64 x] 35)).drew) (some ⟨wr.heap.size, 0, none⟩) 1 2 [.int .i64 y, .int .i64 x]) :=
          (Src.block (cs := #[.int .i64 y, .int .i64 x]) (t := 35) (fr := (0, 0)) (heap_alloc_new wr _) (by rfl) (by simp [Value.oneCell'])).drew
        refine region_hs 16 18 (fun X' => X'.cell? ⟨R, 0, none⟩ = some (.slice V ps.length cap) ∧ X'.cell? ⟨w.heap.size, 0, none⟩ = some (.int .i64 x) ∧ X'.cell? ⟨w.heap.size, 1, none⟩ = some (.int .i64 y)) (by kernel_rfl) (by kernel_rfl) (fun _ _ d _ _ h => by cases d <;> exact h) ⟨c1, x0, x1⟩ ?_
        simp only [List.take_succ_cons, List.take_zero, List.drop_succ_cons, List.drop_zero]
        iterate 16 (refine wpHead_step (v := ?_) (by rfl) ?_ ?_; rotate_left; (· intro W9 hSw; (try dsimp only at hSw); go_simp; try with_reducible rfl); (try simp only [Act.put, List.setIfInBounds_toArray, List.set_cons_zero, List.set_cons_succ]))
        refine wpHead_nil ?_
        refine wpMid_step (by rfl) (fun K9 hK9 => ?_)
        unfold Oper.wp
        go_simp
        refine hK9 _ _ (⟨by go_simp, by go_simp, by go_simp⟩) ?_
        (try simp only [Act.put, List.setIfInBounds_toArray, List.set_cons_zero, List.set_cons_succ])
        refine wpMid_step (by rfl) (fun K9 hK9 => ?_)
        refine wpo_row_append _ _ _ (by rfl) i0 _ 16 Tryd.underlying27 hi0 hz0 hz1 hz2 (by rfl) (by rfl) HRw.out _ 1 1 (by rfl) [.int .i64 y, .int .i64 x] HSr.out HB63 HB47 ?_
        intro sv5 w5 r5 k5 o5
        obtain ⟨V5, cp5, rfl, hc5⟩ := r5.len
        have S5 := HS5.out _ _ k5
        have HQ5 := Lib.hid (HX5.out _ _ k5)
        have HFn := Lib.hid (rag_close HH.out.1 HH.out.2 HBw.out HV.out r5 k5 o5)
        clear r5 o5 k5
        refine hK9 _ _ ⟨S5.1, HQ5.out⟩ ?_
        refine wpMid_nil ?_
        clear hK9 K9 HRw HSr c1 z1 x0 x1
        go_wp2
        go_ret
        obtain ⟨⟨F', h1, h2⟩, h3⟩ := HFn.out
        exact ⟨rfl, ⟨F', h1, fun b hb => by simpa using h2 b hb⟩, h3⟩
end
end Go.Proofs.YtkonfogebepccaaDoor
