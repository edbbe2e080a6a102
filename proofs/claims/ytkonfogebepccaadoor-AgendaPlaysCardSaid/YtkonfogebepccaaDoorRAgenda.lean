/-
  Contracts of the document's agenda: Place, Pick, Add of a bad pair, Remove of a bad place.
-/
import Derived.Test.YtkonfogebepccaaDoorAgendaLaws
import Derived.Test.YtkonfogebepccaaDoorAgendaR
namespace Go.Proofs.YtkonfogebepccaaDoor
open Go.RowKit
attribute [local go_sem] cell_set
set_option maxRecDepth 100000
set_option linter.unusedVariables false

/-- The document's agenda at block R: ps, in order; F: its blocks. -/
def RAG (w : World) (R : Nat) (ps : List (Int × Int)) (F : List Nat) : Prop :=
  ∃ sv, w.heap[R]? = some (.cells #[sv] 29 (0, 0)) ∧ Row w 35 2 sv ps.length (pcells ps) ∧ F = R :: ownB sv
theorem RAG.lt {w : World} {R : Nat} {ps : List (Int × Int)} {F : List Nat} (h : RAG w R ps F) : ∀ b ∈ F, b < w.heap.size := by
  obtain ⟨sv, hR, hr, rfl⟩ := h
  intro b hb
  simp only [List.mem_cons] at hb
  rcases hb with rfl | hb
  · exact heap_lt hR
  · exact hr.lt b hb
theorem RAG.keep {w w' : World} {R : Nat} {ps : List (Int × Int)} {F : List Nat} (h : RAG w R ps F) (hk : ∀ b ∈ F, w'.heap[b]? = w.heap[b]?) : RAG w' R ps F := by
  obtain ⟨sv, hR, hr, rfl⟩ := h
  exact ⟨sv, (hk R (by simp)).trans hR, hr.keep (fun b hb => hk b (by simp [hb])), rfl⟩
theorem RAG.kp {w w' : World} {R : Nat} {ps : List (Int × Int)} {F G : List Nat} (h : RAG w R ps F) (hk : Kp G w w') (hG : ∀ b ∈ F, b ∉ G) : RAG w' R ps F :=
  h.keep fun b hb => hk.block b (h.lt b hb) (hG b hb)
theorem RAG.head {w : World} {R : Nat} {ps : List (Int × Int)} {F : List Nat} (h : RAG w R ps F) : ∃ sv, w.cell? ⟨R, 0, none⟩ = some sv ∧ w.frozen? ⟨R, 0, none⟩ = false ∧ Row w 35 2 sv ps.length (pcells ps) ∧ F = R :: ownB sv ∧ w.heap[R]? = some (.cells #[sv] 29 (0, 0)) := by
  obtain ⟨sv, hR, hr, rfl⟩ := h
  exact ⟨sv, by simp [World.cell?, hR], by simp [World.frozen?, hR], hr, rfl, hR⟩
theorem rplace22 (k : Int) (n : Nat) (w : World) (hn : 0 < n) (hl : n < 65536) : Calls Tryd.prog 52 #[.int .i64 k, .int .i64 (n : Int)] w fun e w' => e = .returned (.int .i64 (pickI n k)) ∧ w = w' := by
  have HP := Lib.hid (And.intro (pick_pos hn (k := k)) (And.intro (pick_neg hn (k := k)) (pickI_lt hn k)))
  generalize pickI n k = j at *
  by_cases hneg : k.tmod (n : Int) < 0
  · have hrem := HP.out.2.1 hneg
    have hlt := HP.out.2.2
    clear hneg
    go_enter Tryd.func52, Tryd.ntmps52
    go_wp2
    go_ret
    exact ⟨rfl, rfl⟩
  · have hrem := HP.out.1 (by omega)
    have hlt := HP.out.2.2
    clear hneg
    go_enter Tryd.func52, Tryd.ntmps52
    go_wp2
    go_ret
    exact ⟨rfl, rfl⟩
theorem rag_pick_empty (R : Nat) (F : List Nat) (k : Int) (w : World) (h : RAG w R [] F) :
    Calls Tryd.prog 13 #[.pointer (some ⟨R, 0, none⟩), .int .i64 k] w fun e w' => e = .returned (.tuple #[.agg #[.int .i64 0, .int .i64 0], .int .i64 0, .int .i64 60]) ∧ Below w.heap.size w w' := by
  obtain ⟨sv, c0, z0, hr, rfl, hR⟩ := h.head
  have hRl : R < w.heap.size := heap_lt hR
  obtain ⟨V, cap, rfl, hcap⟩ := hr.len
  clear hr hR
  go_enter Tryd.func13, Tryd.ntmps13
  go_wp2
  exact bodyPost_ret (v := .tuple #[.agg #[.int .i64 0, .int .i64 0], .int .i64 0, .int .i64 60]) (by simp only [results, Tryd.results13]; go_simp) rfl ⟨rfl, by (repeat (first | exact Below.refl _ _ | (with_reducible refine Below.drew ?_) | (with_reducible refine Below.alloc ?_ (by (try simp); (try omega)) _) | (with_reducible refine Below.setCell ?_ (by (try simp); (try omega)) _) | (with_reducible refine Below.trans ?_ (Below.mono (by assumption) (by (try simp); (try omega))))))⟩
theorem rag_pick (R : Nat) (ps : List (Int × Int)) (F : List Nat) (k : Int) (w : World) (h : RAG w R ps F) (hl : ps.length < 65536) (hp : 0 < ps.length) :
    Calls Tryd.prog 13 #[.pointer (some ⟨R, 0, none⟩), .int .i64 k] w fun e w' => e = .returned (.tuple #[.agg #[.int .i64 (ps[pickI ps.length k]'(pickI_lt hp k)).1, .int .i64 (ps[pickI ps.length k]'(pickI_lt hp k)).2], .int .i64 (pickI ps.length k), .int .i64 0]) ∧ Below w.heap.size w w' := by
  have hi := pickI_lt hp k
  obtain ⟨p0, p1⟩ := pcells_at hi
  generalize hpv : ps[pickI ps.length k]'hi = pv at *
  obtain ⟨u, v⟩ := pv
  obtain ⟨sv, c0, z0, hr, rfl, hR⟩ := h.head
  obtain ⟨g, cap, cur, rfl, hg, hcap, _⟩ := hr.some_ hp
  have hgl := heap_lt hg
  have hRl := heap_lt hR
  have r0 := (hr.cellAt (pickI ps.length k * 2) (by omega)).trans p0
  have r1 := (hr.cellAt (pickI ps.length k * 2 + 1) (by omega)).trans p1
  have HPl := Lib.hid (fun Z : World => rplace22 k ps.length Z hp hl)
  clear hr hg hpv p0 p1 h hR
  generalize pickI ps.length k = j at *
  generalize ps.length = n at *
  have hn0 : ((n : Int) == 0) = false := by rw [beq_eq_false_iff_ne]; omega
  have hji : (j : Int) < (n : Int) := by omega
  go_enter Tryd.func13, Tryd.ntmps13
  go_wp2_with (go_at_call 52; refine (HPl.out _).mono ?_; rintro e w' ⟨rfl, rfl⟩)
  exact bodyPost_ret (v := .tuple #[.agg #[.int .i64 u, .int .i64 v], .int .i64 j, .int .i64 0]) (by simp only [results, Tryd.results13]; go_simp) rfl ⟨rfl, by (repeat (first | exact Below.refl _ _ | (with_reducible refine Below.drew ?_) | (with_reducible refine Below.alloc ?_ (by (try simp); (try omega)) _) | (with_reducible refine Below.setCell ?_ (by (try simp); (try omega)) _) | (with_reducible refine Below.trans ?_ (Below.mono (by assumption) (by (try simp); (try omega))))))⟩
theorem rag_add_bad (R : Nat) (x y : Int) (w : World) (hb : x < 0 ∨ y < 0 ∨ x = y) :
    Calls Tryd.prog 9 #[.pointer (some ⟨R, 0, none⟩), .agg #[.int .i64 x, .int .i64 y]] w fun e w' => e = .returned (.int .i64 1) ∧ Below w.heap.size w w' := by
  rcases (by omega : x < 0 ∨ (0 ≤ x ∧ y < 0) ∨ (0 ≤ x ∧ 0 ≤ y ∧ x = y)) with h1 | ⟨h0, h1⟩ | ⟨h0, h1, rfl⟩
  · clear hb
    have d1 : decide (x < 0) = true := by simpa using h1
    go_enter Tryd.func9, Tryd.ntmps9
    go_wp2
    go_ret
    exact ⟨rfl, by (repeat (first | exact Below.refl _ _ | (with_reducible refine Below.drew ?_) | (with_reducible refine Below.alloc ?_ (by (try simp); (try omega)) _) | (with_reducible refine Below.setCell ?_ (by (try simp); (try omega)) _) | (with_reducible refine Below.trans ?_ (Below.mono (by assumption) (by (try simp); (try omega))))))⟩
  · clear hb
    have d0 : decide (x < 0) = false := by simpa using h0
    have d1 : decide (y < 0) = true := by simpa using h1
    go_enter Tryd.func9, Tryd.ntmps9
    go_wp2
    go_ret
    exact ⟨rfl, by (repeat (first | exact Below.refl _ _ | (with_reducible refine Below.drew ?_) | (with_reducible refine Below.alloc ?_ (by (try simp); (try omega)) _) | (with_reducible refine Below.setCell ?_ (by (try simp); (try omega)) _) | (with_reducible refine Below.trans ?_ (Below.mono (by assumption) (by (try simp); (try omega))))))⟩
  · clear hb
    have d0 : decide (x < 0) = false := by simpa using h0
    go_enter Tryd.func9, Tryd.ntmps9
    go_wp2
    go_ret
    exact ⟨rfl, by (repeat (first | exact Below.refl _ _ | (with_reducible refine Below.drew ?_) | (with_reducible refine Below.alloc ?_ (by (try simp); (try omega)) _) | (with_reducible refine Below.setCell ?_ (by (try simp); (try omega)) _) | (with_reducible refine Below.trans ?_ (Below.mono (by assumption) (by (try simp); (try omega))))))⟩
theorem rag_remove_bad (R : Nat) (ps : List (Int × Int)) (F : List Nat) (k : Int) (w : World) (h : RAG w R ps F) (hk : k < 0 ∨ (ps.length : Int) ≤ k) :
    Calls Tryd.prog 11 #[.pointer (some ⟨R, 0, none⟩), .int .i64 k] w fun e w' => e = .returned (.tuple #[.agg #[.int .i64 0, .int .i64 0], .int .i64 1]) ∧ Below w.heap.size w w' := by
  obtain ⟨sv, c0, z0, hr, rfl, hR⟩ := h.head
  have hRl : R < w.heap.size := heap_lt hR
  obtain ⟨V, cap, rfl, hcap⟩ := hr.len
  clear hr hR
  rcases (by omega : k < 0 ∨ (0 ≤ k ∧ (ps.length : Int) ≤ k)) with h1 | ⟨h0, h1⟩
  · clear hk
    go_enter Tryd.func11, Tryd.ntmps11
    go_wp2
    exact bodyPost_ret (v := .tuple #[.agg #[.int .i64 0, .int .i64 0], .int .i64 1]) (by simp only [results, Tryd.results11]; go_simp) rfl ⟨rfl, by (repeat (first | exact Below.refl _ _ | (with_reducible refine Below.drew ?_) | (with_reducible refine Below.alloc ?_ (by (try simp); (try omega)) _) | (with_reducible refine Below.setCell ?_ (by (try simp); (try omega)) _) | (with_reducible refine Below.trans ?_ (Below.mono (by assumption) (by (try simp); (try omega))))))⟩
  · clear hk
    go_enter Tryd.func11, Tryd.ntmps11
    go_wp2
    exact bodyPost_ret (v := .tuple #[.agg #[.int .i64 0, .int .i64 0], .int .i64 1]) (by simp only [results, Tryd.results11]; go_simp) rfl ⟨rfl, by (repeat (first | exact Below.refl _ _ | (with_reducible refine Below.drew ?_) | (with_reducible refine Below.alloc ?_ (by (try simp); (try omega)) _) | (with_reducible refine Below.setCell ?_ (by (try simp); (try omega)) _) | (with_reducible refine Below.trans ?_ (Below.mono (by assumption) (by (try simp); (try omega))))))⟩
end Go.Proofs.YtkonfogebepccaaDoor
