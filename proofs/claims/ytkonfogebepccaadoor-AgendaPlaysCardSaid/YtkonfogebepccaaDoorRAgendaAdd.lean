/-
  The document's agenda: Add.
-/
import Derived.Test.YtkonfogebepccaaDoorRAgenda
import Derived.Deep.Cut
namespace Go.Proofs.YtkonfogebepccaaDoor
open Go.RowKit
attribute [local go_sem] cell_set
set_option maxRecDepth 100000
set_option linter.unusedVariables false

def hit (p : Int × Int) (x y : Int) : Prop := x = p.1 ∨ x = p.2 ∨ y = p.1 ∨ y = p.2
theorem first_hit (ps : List (Int × Int)) (x y : Int) (h : inAg ps x ∨ inAg ps y) : ∃ i, ∃ hi : i < ps.length, hit ps[i] x y ∧ ∀ j (hj : j < i), ¬ hit (ps[j]'(by omega)) x y := by
  induction ps with
  | nil => rcases h with ⟨p, hp, _⟩ | ⟨p, hp, _⟩ <;> cases hp
  | cons p r ih =>
    by_cases hp : hit p x y
    · exact ⟨0, by simp, by simpa using hp, fun j hj => by omega⟩
    · have h' : inAg r x ∨ inAg r y := by
        rcases h with ⟨q, hq, hk⟩ | ⟨q, hq, hk⟩
        · rcases List.mem_cons.1 hq with rfl | hq
          · exact absurd (by rcases hk with h | h; exact .inl h; exact .inr (.inl h)) hp
          · exact .inl ⟨q, hq, hk⟩
        · rcases List.mem_cons.1 hq with rfl | hq
          · exact absurd (by rcases hk with h | h; exact .inr (.inr (.inl h)); exact .inr (.inr (.inr h))) hp
          · exact .inr ⟨q, hq, hk⟩
      obtain ⟨i, hi, h1, h2⟩ := ih h'
      refine ⟨i + 1, by simpa using hi, by simpa using h1, fun j hj => ?_⟩
      cases j with
      | zero => simpa using hp
      | succ j => simpa using h2 j (by omega)
theorem no_hit {ps : List (Int × Int)} {x y : Int} (hx : ¬ inAg ps x) (hy : ¬ inAg ps y) {i : Nat} (hi : i < ps.length) : ¬ hit ps[i] x y := by
  rintro (h | h | h | h)
  · exact hx ⟨_, List.getElem_mem hi, .inl h⟩
  · exact hx ⟨_, List.getElem_mem hi, .inr h⟩
  · exact hy ⟨_, List.getElem_mem hi, .inl h⟩
  · exact hy ⟨_, List.getElem_mem hi, .inr h⟩
section
variable (R : Nat) (ps : List (Int × Int)) (F : List Nat) (x y : Int) (w : World)
set_option maxHeartbeats 1000000 in
theorem rag_add_twice (h : RAG w R ps F) (hx : 0 ≤ x) (hy : 0 ≤ y) (hne : x ≠ y) (hin : inAg ps x ∨ inAg ps y) (hl : ps.length < 65536) :
    Calls Tryd.prog 9 #[.pointer (some ⟨R, 0, none⟩), .agg #[.int .i64 x, .int .i64 y]] w fun e w' => e = .returned (.int .i64 21) ∧ Below w.heap.size w w' := by
  obtain ⟨i0, hi0, hh, hno⟩ := first_hit ps x y hin
  have HN := Lib.hid hno
  have HI := Lib.hid hh
  clear hin hno hh
  obtain ⟨sv, c0, z0, hr, rfl, hR⟩ := h.head
  have hRl : R < w.heap.size := heap_lt hR
  obtain ⟨V, cap, rfl, hcap⟩ := hr.len
  have d0 : decide (x < 0) = false := by simpa using hx
  have d1 : decide (y < 0) = false := by simpa using hy
  have d2 : (x == y) = false := by rw [beq_eq_false_iff_ne]; exact hne
  have HH := Lib.hid (And.intro hR hr)
  clear hr hR hx hy hne
  go_enter Tryd.func9, Tryd.ntmps9
  go_upto_region 3 with fail
  refine absW (fun X => Below w.heap.size w X ∧ X.heap[w.heap.size]? = some (.cells #[.int .i64 x, .int .i64 y] 35 (0, 0))) ⟨by (repeat (first | exact Below.refl _ _ | (with_reducible refine Below.drew ?_) | (with_reducible refine Below.alloc ?_ (by (try simp); (try omega)) _) | (with_reducible refine Below.setCell ?_ (by (try simp); (try omega)) _) | (with_reducible refine Below.trans ?_ (Below.mono (by assumption) (by (try simp); (try omega)))))), by first | exact heap_alloc_new w _ | simp⟩ ?_
  rintro X ⟨hbX, hxb⟩
  have HX := Lib.hid (And.intro hbX hxb)
  clear hbX hxb d0 d1 d2
  go_wp2_with fail
  go_loopw [5] (fun i wr => ∃ k : Nat, i = .int .i64 k ∧ k ≤ i0 ∧ Hid (Below X.heap.size X wr)) (fun i _ => ps.length - (intOf i).toNat)
  case atStart => exact ⟨0, rfl, Nat.zero_le _, Below.refl _ _⟩
  case round =>
    obtain ⟨k, rfl, hk, HB⟩ := hrel
    have HBw := Lib.hid (HX.out.1.trans (HB.out.mono HX.out.1.size))
    have hxb := (HB.out.block _ (heap_lt HX.out.2)).trans HX.out.2
    have x0 : wr.cell? ⟨w.heap.size, 0, none⟩ = some (.int .i64 x) := by simp [World.cell?, hxb]
    have x1 : wr.cell? ⟨w.heap.size, 1, none⟩ = some (.int .i64 y) := by simp [World.cell?, hxb]
    have xl := heap_lt hxb
    have hRb := (HBw.out.block _ hRl).trans HH.out.1
    have c1 : wr.cell? ⟨R, 0, none⟩ = some (.slice V ps.length cap) := (HBw.out.cell (p := ⟨R, 0, none⟩) hRl).trans c0
    have z1 : wr.frozen? ⟨R, 0, none⟩ = false := by simp [World.frozen?, hRb]
    have hRw := heap_lt hRb
    clear hxb hRb
    have hkl : k < ps.length := by omega
    obtain ⟨g, cc, cur, hVe, hg, _, _⟩ := HH.out.2.some_ (show 0 < ps.length by omega)
    simp only [Value.slice.injEq, true_and] at hVe
    obtain ⟨rfl, rfl⟩ := hVe
    have hrw := HH.out.2.keep (w' := wr) fun b hb => HBw.out.block b (HH.out.2.lt b hb)
    have hgl : g < wr.heap.size := Nat.lt_of_lt_of_le (heap_lt hg) HBw.out.size
    obtain ⟨p0, p1⟩ := pcells_at (ps := ps) (i := k) hkl
    have r0 := (hrw.cellAt (k * 2) (by omega)).trans p0
    have r1 := (hrw.cellAt (k * 2 + 1) (by omega)).trans p1
    have hk1 : (k : Int) < (ps.length : Int) := by have := hkl; omega
    clear hg hrw p0 p1
    by_cases hki : k < i0
    · have hnh := HN.out k hki
      generalize ps[k] = q at r0 r1 hnh
      obtain ⟨u, v⟩ := q
      simp only [hit, not_or] at hnh
      obtain ⟨n1, n2, n3, n4⟩ := hnh
      dsimp only at r0 r1
      have e1 : (u == x) = false := by rw [beq_eq_false_iff_ne]; exact Ne.symm n1
      have e2 : (v == x) = false := by rw [beq_eq_false_iff_ne]; exact Ne.symm n2
      have e3 : (u == y) = false := by rw [beq_eq_false_iff_ne]; exact Ne.symm n3
      have e4 : (v == y) = false := by rw [beq_eq_false_iff_ne]; exact Ne.symm n4
      clear n1 n2 n3 n4
      go_wp2_with fail
      go_roundw
      case rel => exact ⟨k + 1, by go_num, by omega, Lib.hid (HB.out.alloc HB.out.size _)⟩
      case measure => simp [intOf]; omega
    · obtain rfl : k = i0 := by omega
      have hh := HI.out
      generalize ps[k] = q at r0 r1 hh
      obtain ⟨u, v⟩ := q
      dsimp only at r0 r1
      simp only [hit] at hh
      have HFin : Hid (∀ o : Obj, Below w.heap.size w (wr.alloc o)) := fun o => HBw.out.alloc HBw.out.size o
      by_cases a1 : u = x
      · have e1 : (u == x) = true := by simpa using a1
        clear hh a1
        go_wp2_with fail
        go_ret
        exact ⟨rfl, HFin.out _⟩
      · have e1 : (u == x) = false := by rw [beq_eq_false_iff_ne]; exact a1
        by_cases a2 : u = y
        · have e2 : (u == y) = true := by simpa using a2
          clear hh a1 a2
          go_wp2_with fail
          go_ret
          exact ⟨rfl, HFin.out _⟩
        · have e2 : (u == y) = false := by rw [beq_eq_false_iff_ne]; exact a2
          by_cases a3 : v = x
          · have e3 : (v == x) = true := by simpa using a3
            clear hh a1 a2 a3
            go_wp2_with fail
            go_ret
            exact ⟨rfl, HFin.out _⟩
          · have e3 : (v == x) = false := by rw [beq_eq_false_iff_ne]; exact a3
            have a4 : v = y := by
              rcases hh with h | h | h | h
              · exact absurd h.symm a1
              · exact absurd h.symm a3
              · exact absurd h.symm a2
              · exact h.symm
            have e4 : (v == y) = true := by simpa using a4
            clear hh a1 a2 a3 a4
            go_wp2_with fail
            go_ret
            exact ⟨rfl, HFin.out _⟩
end
end Go.Proofs.YtkonfogebepccaaDoor
