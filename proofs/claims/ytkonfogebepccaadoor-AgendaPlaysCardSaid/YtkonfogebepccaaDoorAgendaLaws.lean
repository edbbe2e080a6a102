/-
  Pick of package agenda, and the walks of two laws of layer 21 (agenda).
-/
import Derived.Test.YtkonfogebepccaaDoorAgenda
namespace Go.Proofs.YtkonfogebepccaaDoor
open Go.RowKit
attribute [local go_sem] cell_set
set_option maxRecDepth 100000
set_option linter.unusedVariables false

/-- The place that Pick takes. -/
def pickI (n : Nat) (k : Int) : Nat := (k % (n : Int)).toNat
theorem pickI_lt {n : Nat} (h : 0 < n) (k : Int) : pickI n k < n := by
  have h1 := Int.emod_nonneg k (show (n : Int) ≠ 0 by omega)
  have h2 := Int.emod_lt_of_pos k (show (0 : Int) < n by omega)
  unfold pickI; omega
theorem pick_pos {n : Nat} (h : 0 < n) {k : Int} (hk : 0 ≤ k.tmod (n : Int)) : k.tmod (n : Int) = (pickI n k : Int) := by
  have h1 := Int.emod_nonneg k (show (n : Int) ≠ 0 by omega)
  have e := Int.tmod_eq_emod (a := k) (b := (n : Int))
  unfold pickI
  rw [e] at hk ⊢
  split at hk
  · rename_i hc; rw [if_pos hc]; omega
  · rename_i hc
    have h2 := Int.emod_lt_of_pos k (show (0 : Int) < n by omega)
    simp at hk; omega
theorem pick_neg {n : Nat} (h : 0 < n) {k : Int} (hk : k.tmod (n : Int) < 0) : k.tmod (n : Int) = (pickI n k : Int) - (n : Int) := by
  have h1 := Int.emod_nonneg k (show (n : Int) ≠ 0 by omega)
  have e := Int.tmod_eq_emod (a := k) (b := (n : Int))
  unfold pickI
  rw [e] at hk ⊢
  split at hk
  · omega
  · rename_i hc; rw [if_neg hc]; simp; omega

theorem ag_pick (A : Nat) (ps : List (Int × Int)) (F : List Nat) (k : Int) (w : World) (h : AG w A ps F) (hl : ps.length < 65536) (hp : 0 < ps.length) :
    Calls Tryd.prog 12 #[.pointer (some ⟨A, 0, none⟩), .int .i64 k] w fun e w' => e = .returned (.tuple #[.agg #[.int .i64 (ps[pickI ps.length k]'(pickI_lt hp k)).1, .int .i64 (ps[pickI ps.length k]'(pickI_lt hp k)).2], .int .i64 (pickI ps.length k), .int .i64 0]) ∧ Below w.heap.size w w' := by
  have hi := pickI_lt hp k
  obtain ⟨p0, p1⟩ := pcells_at hi
  generalize hpv : ps[pickI ps.length k]'hi = pv at *
  obtain ⟨u, v⟩ := pv
  obtain ⟨sv, B, c0, c1, z0, hr, hm, rfl, hA⟩ := h.head
  obtain ⟨g, cap, cur, rfl, hg, hcap, _⟩ := hr.some_ hp
  have hgl := heap_lt hg
  have hAl := heap_lt hA
  have r0 := (hr.cellAt (pickI ps.length k * 2) (by omega)).trans p0
  have r1 := (hr.cellAt (pickI ps.length k * 2 + 1) (by omega)).trans p1
  have HP := Lib.hid (And.intro (pick_pos hp (k := k)) (pick_neg hp (k := k)))
  clear hr hm hg hpv p0 p1 h hA
  generalize pickI ps.length k = j at *
  generalize ps.length = n at *
  by_cases hneg : k.tmod (n : Int) < 0
  · have hrem := HP.out.2 hneg
    clear hneg
    go_enter Tryd.func12, Tryd.ntmps12
    go_wp2_with (go_at_call 51; refine (ag_none_is _ B _ (by go_simp)).mono ?_; rintro e w' ⟨rfl, rfl⟩)
    exact bodyPost_ret (v := .tuple #[.agg #[.int .i64 u, .int .i64 v], .int .i64 j, .int .i64 0]) (by simp only [results, Tryd.results12]; go_simp) rfl ⟨rfl, by (repeat (first | exact Below.refl _ _ | (with_reducible refine Below.drew ?_) | (with_reducible refine Below.alloc ?_ (by (try simp); (try omega)) _) | (with_reducible refine Below.setCell ?_ (by (try simp); (try omega)) _) | (with_reducible refine Below.trans ?_ (Below.mono (by assumption) (by (try simp); (try omega))))))⟩
  · have hrem := HP.out.1 (by omega)
    clear hneg
    go_enter Tryd.func12, Tryd.ntmps12
    go_wp2_with (go_at_call 51; refine (ag_none_is _ B _ (by go_simp)).mono ?_; rintro e w' ⟨rfl, rfl⟩)
    exact bodyPost_ret (v := .tuple #[.agg #[.int .i64 u, .int .i64 v], .int .i64 j, .int .i64 0]) (by simp only [results, Tryd.results12]; go_simp) rfl ⟨rfl, by (repeat (first | exact Below.refl _ _ | (with_reducible refine Below.drew ?_) | (with_reducible refine Below.alloc ?_ (by (try simp); (try omega)) _) | (with_reducible refine Below.setCell ?_ (by (try simp); (try omega)) _) | (with_reducible refine Below.trans ?_ (Below.mono (by assumption) (by (try simp); (try omega))))))⟩

theorem ag_pick_eq (A : Nat) (ps : List (Int × Int)) (F : List Nat) (k : Int) (u v : Int) (j : Nat) (w : World) (h : AG w A ps F) (hl : ps.length < 65536) (hp : 0 < ps.length) (hj : pickI ps.length k = j) (hv : ps[j]? = some (u, v)) :
    Calls Tryd.prog 12 #[.pointer (some ⟨A, 0, none⟩), .int .i64 k] w fun e w' => e = .returned (.tuple #[.agg #[.int .i64 u, .int .i64 v], .int .i64 j, .int .i64 0]) ∧ Below w.heap.size w w' := by
  refine (ag_pick A ps F k w h hl hp).mono ?_
  subst hj
  rw [List.getElem?_eq_getElem (pickI_lt hp k)] at hv
  injection hv with hv
  rw [hv]
  exact fun e w' h => h

theorem works21 (w : World) : Calls Tryd.prog 6 #[] w fun e w' => e = .returned (.bool true) ∧ Below w.heap.size w w' := by
  go_enter Tryd.func6, Tryd.ntmps6
  go_wp2_with fail
  refine (ag_new _).mono ?_; rintro e w1 ⟨A, rfl, hA, hb1, F1, g1, hF1⟩
  have G1 := Lib.hid (And.intro g1 hF1); clear g1 hF1
  go_wp2_with fail
  refine (ag_add_new A _ F1 5 2 2 5 _ G1.out.1 (by decide) (by decide) (.inr ⟨rfl, rfl⟩) (by simp [inAg]) (by simp [inAg]) (by decide)).mono ?_
  rintro e w2 ⟨rfl, ⟨F2, g2, hF2⟩, k2⟩
  have G2 := Lib.hid (And.intro g2 (And.intro hF2 k2)); clear g2 hF2 k2
  go_wp2_with fail
  refine (ag_add_twice A _ F2 2 7 _ G2.out.1 (by decide) (by decide) (by decide) (.inl ⟨(2, 5), by simp, .inl rfl⟩)).mono ?_
  rintro e w3 ⟨rfl, hb3⟩
  have G3 : Hid (AG w3 A [(2, 5)] F2) := G2.out.1.keep fun b hb => hb3.block b (G2.out.1.lt b hb)
  go_wp2_with fail
  refine (ag_add_new A _ F2 0 1 0 1 _ G3.out (by decide) (by decide) (.inl ⟨rfl, rfl⟩) (by simp [inAg]) (by simp [inAg]) (by decide)).mono ?_
  rintro e w4 ⟨rfl, ⟨F4, g4, hF4⟩, k4⟩
  have G4 := Lib.hid (And.intro g4 (And.intro hF4 k4)); clear g4 hF4 k4
  go_wp2_with fail
  refine (ag_pick_eq A _ F4 (-1) 0 1 1 _ G4.out.1 (by decide) (by decide) (by decide) rfl).mono ?_
  rintro e w5 ⟨rfl, hb5⟩
  have G5 : Hid (AG w5 A [(2, 5), (0, 1)] F4) := G4.out.1.keep fun b hb => hb5.block b (G4.out.1.lt b hb)
  go_wp2_with fail
  refine (ag_len A _ F4 _ (G5.out.keep fun b hb => Below.heap_alloc _ _ _ (G5.out.lt b hb))).mono ?_
  rintro e w6 ⟨rfl, hb6⟩
  have B2 : Below w.heap.size w1 w2 := G2.out.2.2.below hb1.size (fun b hb => G1.out.2 b hb)
  have hF2 : ∀ b ∈ F2, w.heap.size ≤ b := fun b hb => (G2.out.2.1 b hb).elim (G1.out.2 b) (fun h => Nat.le_trans hb1.size h)
  have z12 := hb1.size
  have z23 := B2.size
  have z34 := hb3.size
  have B4 : Below w.heap.size w3 w4 := G4.out.2.2.below (by omega) hF2
  have z45 := B4.size
  have z56 := hb5.size
  clear hF2
  go_wp2
  go_ret
  exact ⟨rfl, by (repeat (first | exact Below.refl _ _ | (with_reducible refine Below.drew ?_) | (with_reducible refine Below.alloc ?_ (by (try simp); (try omega)) _) | (with_reducible refine Below.setCell ?_ (by (try simp); (try omega)) _) | (with_reducible refine Below.trans ?_ (Below.mono (by assumption) (by (try simp); (try omega))))))⟩

end Go.Proofs.YtkonfogebepccaaDoor
