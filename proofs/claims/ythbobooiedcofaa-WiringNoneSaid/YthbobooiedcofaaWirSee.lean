/-
  A wiring: Open's inner function.
-/
import Derived.Test.YthbobooiedcofaaWirNew
namespace Go.Proofs.Ythbobooiedcofaa
open Go.RowKit
attribute [local go_sem] cell_set
set_option maxRecDepth 100000
set_option linter.unusedVariables false

/-- Two boxes: a pointer to the wiring, a counter. -/
structure SeeB (w : World) (P N B : Nat) (n : Nat) : Prop where
  p : w.cell? ⟨P, 0, none⟩ = some (.pointer (some ⟨B, 0, none⟩))
  plt : P < w.heap.size
  pn : P ≠ N
  n : w.heap[N]? = some (.cells #[.int .i64 (n : Int)] 3 (0, 0))
theorem SeeB.below {w w' : World} {P N B n : Nat} (h : SeeB w P N B n) (hb : Below w.heap.size w w') : SeeB w' P N B n :=
  ⟨(hb.cell (p := ⟨P, 0, none⟩) h.plt).trans h.p, Nat.lt_of_lt_of_le h.plt hb.size, h.pn, (hb.block N (heap_lt h.n)).trans h.n⟩
theorem SeeB.kp {w w' : World} {P N B n m : Nat} (h : SeeB w P N B n) (hk : Kp [N] w w') (hn : w'.heap[N]? = some (.cells #[.int .i64 (m : Int)] 3 (0, 0))) : SeeB w' P N B m :=
  ⟨(hk.cell (p := ⟨P, 0, none⟩) h.plt (by simpa using h.pn)).trans h.p, Nat.lt_of_lt_of_le h.plt hk.size, h.pn, hn⟩
section
variable (B A : Nat) (S : Wir) (FA : List Nat) (P N n : Nat) (w : World)
set_option maxHeartbeats 1000000 in
theorem wi_see (c s : Int) (hn : n ≤ 1000000) (h : WG w B A S FA) (hb : SeeB w P N B n) :
    Calls Try.prog 73 #[.agg #[.int .i64 c, .int .i64 s], .pointer (some ⟨P, 0, none⟩), .pointer (some ⟨N, 0, none⟩)] w fun e w' => (∃ r, e = .returned r) ∧ w'.heap[N]? = some (.cells #[.int .i64 ((n + (if S.toE (c, s) = 0 then 0 else 1) : Nat) : Int)] 3 (0, 0)) ∧ Kp [N] w w' := by
  have HG := Lib.hid h
  have HB := Lib.hid hb
  have hp := hb.p
  have hpl := hb.plt
  have hnl := heap_lt hb.n
  obtain ⟨k, hk⟩ : ∃ k, S.toE (c, s) = k := ⟨_, rfl⟩
  have HK := Lib.hid hk
  rw [hk]
  by_cases h0 : k = 0
  · subst h0
    rw [if_pos rfl, Nat.add_zero]
    clear hk
    go_enter Try.func73, Try.ntmps73
    go_wp2_with (go_at_call 17; refine (wi_to B A S FA _ c s (HG.out.below (by (repeat (first | exact Below.refl _ _ | (with_reducible refine Below.drew ?_) | (with_reducible refine Below.alloc ?_ (by (try simp); (try omega)) _) | (with_reducible refine Below.setCell ?_ (by (try simp); (try omega)) _) | (with_reducible refine Below.trans ?_ (Below.mono (by assumption) (by (try simp); (try omega))))))))).mono ?_; rintro e w1 ⟨rfl, hb1⟩; rw [HK.out])
    have hz1 := hb1.size
    simp at hz1
    have hbb : Below w.heap.size w (w1.alloc (.cells #[.int .i64 (S.toP (c, s)).1, .int .i64 (S.toP (c, s)).2] 39)) := by (repeat (first | exact Below.refl _ _ | (with_reducible refine Below.drew ?_) | (with_reducible refine Below.alloc ?_ (by (try simp); (try omega)) _) | (with_reducible refine Below.setCell ?_ (by (try simp); (try omega)) _) | (with_reducible refine Below.trans ?_ (Below.mono (by assumption) (by (try simp); (try omega))))))
    refine bodyPost_end (results_none rfl _ _ _) rfl ⟨⟨_, rfl⟩, (hbb.block N hnl).trans HB.out.n, Kp.of_below hbb⟩
  · rw [if_neg h0]
    have k1 : (k != 0) = true := bne_iff_ne.2 h0
    have ew : IntKind.i64.wrap ((n : Int) + 1) = ((n + 1 : Nat) : Int) := by rw [IntWalk.i64_in _ (by omega)]; omega
    clear hk h0
    go_enter Try.func73, Try.ntmps73
    go_wp2_with (go_at_call 17; refine (wi_to B A S FA _ c s (HG.out.below (by (repeat (first | exact Below.refl _ _ | (with_reducible refine Below.drew ?_) | (with_reducible refine Below.alloc ?_ (by (try simp); (try omega)) _) | (with_reducible refine Below.setCell ?_ (by (try simp); (try omega)) _) | (with_reducible refine Below.trans ?_ (Below.mono (by assumption) (by (try simp); (try omega))))))))).mono ?_; rintro e w1 ⟨rfl, hb1⟩; rw [HK.out]
                 have hz1 := hb1.size
                 simp at hz1
                 have hbb : Below w.heap.size w w1 := by (repeat (first | exact Below.refl _ _ | (with_reducible refine Below.drew ?_) | (with_reducible refine Below.alloc ?_ (by (try simp); (try omega)) _) | (with_reducible refine Below.setCell ?_ (by (try simp); (try omega)) _) | (with_reducible refine Below.trans ?_ (Below.mono (by assumption) (by (try simp); (try omega))))))
                 have HBB := Lib.hid hbb
                 have hn1 : w1.heap[N]? = some (.cells #[.int .i64 (n : Int)] 3 (0, 0)) := (hbb.block N hnl).trans HB.out.n
                 have HN1 := Lib.hid hn1
                 have n0 : w1.cell? ⟨N, 0, none⟩ = some (.int .i64 (n : Int)) := by simp [World.cell?, hn1]
                 have n1 : w1.frozen? ⟨N, 0, none⟩ = false := by simp [World.frozen?, hn1]
                 have n2 : N < w1.heap.size := heap_lt hn1
                 clear hbb hn1)
    refine bodyPost_end (results_none rfl _ _ _) rfl ⟨⟨_, rfl⟩, ?_, ?_⟩
    · refine (Below.heap_alloc _ _ _ (by simpa using n2)).trans ?_
      simp [World.setCell, Array.getElem?_modify, HN1.out]
    · exact ((Kp.of_below HBB.out).setCell (p := ⟨N, 0, none⟩) (.inl (by simp)) _).alloc _
end
end Go.Proofs.Ythbobooiedcofaa
