/-
  Pick of package agenda, and the walks of two laws of layer 21 (agenda).
-/
import Derived.Test.YtbdfkgchliakfaaAgenda
namespace Go.Proofs.Ytbdfkgchliakfaa
open Go.RowKit
attribute [local go_sem] cell_set
set_option maxRecDepth 100000

/-- The place that Pick takes. -/
def pickI (n : Nat) (k : Int) : Nat := (k % (n : Int)).toNat
theorem pickI_lt {n : Nat} (h : 0 < n) (k : Int) : pickI n k < n := by
  have h1 := Int.emod_nonneg k (show (n : Int) ≠ 0 by omega)
  have h2 := Int.emod_lt_of_pos k (show (0 : Int) < n by omega)
  unfold pickI; omega
theorem pick_pos {n : Nat} (h : 0 < n) {k : Int} (hk : 0 ≤ k.tmod (n : Int)) : k.tmod (n : Int) = (pickI n k : Int) := by
  have h1 := Int.emod_nonneg k (show (n : Int) ≠ 0 by omega)
  have e := Int.tmod_eq_emod (a := k) (b := (n : Int))
  unfold pickI
  rw [e] at hk ⊢
  split at hk
  · rename_i hc; rw [if_pos hc]; omega
  · rename_i hc
    have h2 := Int.emod_lt_of_pos k (show (0 : Int) < n by omega)
    simp at hk; omega
theorem pick_neg {n : Nat} (h : 0 < n) {k : Int} (hk : k.tmod (n : Int) < 0) : k.tmod (n : Int) = (pickI n k : Int) - (n : Int) := by
  have h1 := Int.emod_nonneg k (show (n : Int) ≠ 0 by omega)
  have e := Int.tmod_eq_emod (a := k) (b := (n : Int))
  unfold pickI
  rw [e] at hk ⊢
  split at hk
  · omega
  · rename_i hc; rw [if_neg hc]; simp; omega

theorem ag_pick (A : Nat) (ps : List (Int × Int)) (F : List Nat) (k : Int) (w : World) (h : AG w A ps F) (hl : ps.length < 65536) (hp : 0 < ps.length) :
    Calls Try.prog 19 #[.pointer (some ⟨A, 0, none⟩), .int .i64 k] w fun e w' => e = .returned (.tuple #[.agg #[.int .i64 (ps[pickI ps.length k]'(pickI_lt hp k)).1, .int .i64 (ps[pickI ps.length k]'(pickI_lt hp k)).2], .int .i64 (pickI ps.length k), .int .i64 0]) ∧ Below w.heap.size w w' := by
  have hi := pickI_lt hp k
  obtain ⟨p0, p1⟩ := pcells_at hi
  generalize hpv : ps[pickI ps.length k]'hi = pv at *
  obtain ⟨u, v⟩ := pv
  obtain ⟨sv, B, c0, c1, z0, hr, hm, rfl, hA⟩ := h.head
  obtain ⟨g, cap, cur, rfl, hg, hcap, _⟩ := hr.some_ hp
  have hgl := heap_lt hg
  have hAl := heap_lt hA
  have r0 := (hr.cellAt (pickI ps.length k * 2) (by omega)).trans p0
  have r1 := (hr.cellAt (pickI ps.length k * 2 + 1) (by omega)).trans p1
  have HP := Lib.hid (And.intro (pick_pos hp (k := k)) (pick_neg hp (k := k)))
  clear hr hm hg hpv p0 p1 h hA
  generalize pickI ps.length k = j at *
  generalize ps.length = n at *
  by_cases hneg : k.tmod (n : Int) < 0
  · have hrem := HP.out.2 hneg
    clear hneg
    go_enter Try.func19, Try.ntmps19
    go_wp2_with (go_at_call 49; refine (ag_none_is _ B _ (by go_simp)).mono ?_; rintro e w' ⟨rfl, rfl⟩)
    exact bodyPost_ret (v := .tuple #[.agg #[.int .i64 u, .int .i64 v], .int .i64 j, .int .i64 0]) (by simp only [results, Try.results19]; go_simp) rfl ⟨rfl, by (repeat (first | exact Below.refl _ _ | (with_reducible refine Below.drew ?_) | (with_reducible refine Below.alloc ?_ (by (try simp); (try omega)) _) | (with_reducible refine Below.setCell ?_ (by (try simp); (try omega)) _) | (with_reducible refine Below.trans ?_ (Below.mono (by assumption) (by (try simp); (try omega))))))⟩
  · have hrem := HP.out.1 (by omega)
    clear hneg
    go_enter Try.func19, Try.ntmps19
    go_wp2_with (go_at_call 49; refine (ag_none_is _ B _ (by go_simp)).mono ?_; rintro e w' ⟨rfl, rfl⟩)
    exact bodyPost_ret (v := .tuple #[.agg #[.int .i64 u, .int .i64 v], .int .i64 j, .int .i64 0]) (by simp only [results, Try.results19]; go_simp) rfl ⟨rfl, by (repeat (first | exact Below.refl _ _ | (with_reducible refine Below.drew ?_) | (with_reducible refine Below.alloc ?_ (by (try simp); (try omega)) _) | (with_reducible refine Below.setCell ?_ (by (try simp); (try omega)) _) | (with_reducible refine Below.trans ?_ (Below.mono (by assumption) (by (try simp); (try omega))))))⟩

theorem ag_pick_eq (A : Nat) (ps : List (Int × Int)) (F : List Nat) (k : Int) (u v : Int) (j : Nat) (w : World) (h : AG w A ps F) (hl : ps.length < 65536) (hp : 0 < ps.length) (hj : pickI ps.length k = j) (hv : ps[j]? = some (u, v)) :
    Calls Try.prog 19 #[.pointer (some ⟨A, 0, none⟩), .int .i64 k] w fun e w' => e = .returned (.tuple #[.agg #[.int .i64 u, .int .i64 v], .int .i64 j, .int .i64 0]) ∧ Below w.heap.size w w' := by
  refine (ag_pick A ps F k w h hl hp).mono ?_
  subst hj
  rw [List.getElem?_eq_getElem (pickI_lt hp k)] at hv
  injection hv with hv
  rw [hv]
  exact fun e w' h => h

theorem works21 (w : World) : Calls Try.prog 16 #[] w fun e w' => e = .returned (.bool true) ∧ Below w.heap.size w w' := by
  go_enter Try.func16, Try.ntmps16
  go_wp2_with fail
  refine (ag_new _).mono ?_; rintro e w1 ⟨A, rfl, hA, hb1, F1, g1, hF1⟩
  have G1 := Lib.hid (And.intro g1 hF1); clear g1 hF1
  go_wp2_with fail
  refine (ag_add_new A _ F1 5 2 2 5 _ G1.out.1 (by decide) (by decide) (.inr ⟨rfl, rfl⟩) (by simp [inAg]) (by simp [inAg]) (by decide)).mono ?_
  rintro e w2 ⟨rfl, ⟨F2, g2, hF2⟩, k2⟩
  have G2 := Lib.hid (And.intro g2 (And.intro hF2 k2)); clear g2 hF2 k2
  go_wp2_with fail
  refine (ag_add_twice A _ F2 2 7 _ G2.out.1 (by decide) (by decide) (by decide) (.inl ⟨(2, 5), by simp, .inl rfl⟩)).mono ?_
  rintro e w3 ⟨rfl, hb3⟩
  have G3 : Hid (AG w3 A [(2, 5)] F2) := G2.out.1.keep fun b hb => hb3.block b (G2.out.1.lt b hb)
  go_wp2_with fail
  refine (ag_add_new A _ F2 0 1 0 1 _ G3.out (by decide) (by decide) (.inl ⟨rfl, rfl⟩) (by simp [inAg]) (by simp [inAg]) (by decide)).mono ?_
  rintro e w4 ⟨rfl, ⟨F4, g4, hF4⟩, k4⟩
  have G4 := Lib.hid (And.intro g4 (And.intro hF4 k4)); clear g4 hF4 k4
  go_wp2_with fail
  refine (ag_pick_eq A _ F4 (-1) 0 1 1 _ G4.out.1 (by decide) (by decide) (by decide) rfl).mono ?_
  rintro e w5 ⟨rfl, hb5⟩
  have G5 : Hid (AG w5 A [(2, 5), (0, 1)] F4) := G4.out.1.keep fun b hb => hb5.block b (G4.out.1.lt b hb)
  go_wp2_with fail
  refine (ag_len A _ F4 _ (G5.out.keep fun b hb => Below.heap_alloc _ _ _ (G5.out.lt b hb))).mono ?_
  rintro e w6 ⟨rfl, hb6⟩
  have B2 : Below w.heap.size w1 w2 := G2.out.2.2.below hb1.size (fun b hb => G1.out.2 b hb)
  have hF2 : ∀ b ∈ F2, w.heap.size ≤ b := fun b hb => (G2.out.2.1 b hb).elim (G1.out.2 b) (fun h => Nat.le_trans hb1.size h)
  have z12 := hb1.size
  have z23 := B2.size
  have z34 := hb3.size
  have B4 : Below w.heap.size w3 w4 := G4.out.2.2.below (by omega) hF2
  have z45 := B4.size
  have z56 := hb5.size
  clear hF2
  go_wp2
  go_ret
  exact ⟨rfl, by (repeat (first | exact Below.refl _ _ | (with_reducible refine Below.drew ?_) | (with_reducible refine Below.alloc ?_ (by (try simp); (try omega)) _) | (with_reducible refine Below.setCell ?_ (by (try simp); (try omega)) _) | (with_reducible refine Below.trans ?_ (Below.mono (by assumption) (by (try simp); (try omega))))))⟩

theorem none_walk (k : Int) (w : World) : Calls Try.prog 6 #[.int .i64 k] w fun e w' => e = .returned (.bool true) ∧ Below w.heap.size w w' := by
  go_enter Try.func6, Try.ntmps6
  go_wp2_with fail
  refine (ag_add_nil _ _ _).mono ?_; rintro e w1 ⟨rfl, hb1⟩; obtain ⟨hc1, hf1⟩ := bcell hb1; have hz1 := hb1.size; (try simp at hz1); have hz1a : w.heap.size < w1.heap.size := (by omega)
  go_wp2_with fail
  refine (ag_pick_not _ _ _ (by go_simp) (by omega)).mono ?_; rintro e w2 ⟨rfl, hb2⟩; obtain ⟨hc2, hf2⟩ := bcell hb2; have hz2 := hb2.size; (try simp at hz2); have hz2a : w.heap.size < w2.heap.size := (by omega)
  go_wp2_with fail
  refine (ag_remove_nil _ _).mono ?_; rintro e w3 ⟨rfl, hb3⟩; obtain ⟨hc3, hf3⟩ := bcell hb3; have hz3 := hb3.size; (try simp at hz3); have hz3a : w.heap.size < w3.heap.size := (by omega); have hz3b : w2.heap.size < w3.heap.size := (by omega)
  go_wp2_with fail
  refine (ag_len_nil _).mono ?_; rintro e w4 ⟨rfl, hb4⟩; obtain ⟨hc4, hf4⟩ := bcell hb4; have hz4 := hb4.size; (try simp at hz4); have hz4a : w.heap.size < w4.heap.size := (by omega); have hz4b : w2.heap.size < w4.heap.size := (by omega); have hz4c : w3.heap.size < w4.heap.size := (by omega)
  go_wp2_with fail
  refine (ag_len_not _ _ (by go_simp)).mono ?_; rintro e w5 ⟨rfl, hb5⟩; obtain ⟨hc5, hf5⟩ := bcell hb5; have hz5 := hb5.size; (try simp at hz5); have hz5a : w.heap.size < w5.heap.size := (by omega); have hz5b : w2.heap.size < w5.heap.size := (by omega); have hz5c : w3.heap.size < w5.heap.size := (by omega)
  go_wp2_with fail
  refine (ag_all_nil _).mono ?_; rintro e w6 ⟨rfl, hb6⟩; obtain ⟨hc6, hf6⟩ := bcell hb6; have hz6 := hb6.size; (try simp at hz6); have hz6a : w.heap.size < w6.heap.size := (by omega); have hz6b : w2.heap.size < w6.heap.size := (by omega); have hz6c : w3.heap.size < w6.heap.size := (by omega)
  go_wp2_with fail
  refine (ag_all_not _ _ (by go_simp)).mono ?_; rintro e w7 ⟨rfl, hb7⟩; obtain ⟨hc7, hf7⟩ := bcell hb7; have hz7 := hb7.size; (try simp at hz7); have hz7a : w.heap.size < w7.heap.size := (by omega); have hz7b : w2.heap.size < w7.heap.size := (by omega); have hz7c : w3.heap.size < w7.heap.size := (by omega)
  go_wp2_with fail
  refine (works21 _).mono ?_; rintro e w8 ⟨rfl, hb8⟩
  go_wp2
  go_ret
  exact ⟨rfl, by (repeat (first | exact Below.refl _ _ | (with_reducible refine Below.drew ?_) | (with_reducible refine Below.alloc ?_ (by (try simp); (try omega)) _) | (with_reducible refine Below.setCell ?_ (by (try simp); (try omega)) _) | (with_reducible refine Below.trans ?_ (Below.mono (by assumption) (by (try simp); (try omega))))))⟩

/-- The pairs that AgendaPicks lays. -/
def pl (j : Nat) : List (Int × Int) := (List.range j).map fun (m : Nat) => (2 * (m : Int), 2 * (m : Int) + 1)
theorem pl_len (j : Nat) : (pl j).length = j := by simp [pl]
theorem pl_succ (j : Nat) : pl (j + 1) = pl j ++ [(2 * (j : Int), 2 * (j : Int) + 1)] := by simp [pl, List.range_succ]
theorem pl_at {j i : Nat} (h : i < j) : (pl j)[i]? = some (2 * (i : Int), 2 * (i : Int) + 1) := by simp [pl, h]
theorem pl_out (j : Nat) : ¬ inAg (pl j) (2 * (j : Int)) ∧ ¬ inAg (pl j) (2 * (j : Int) + 1) := by
  constructor <;>
  · rintro ⟨p, hp, h⟩
    simp only [pl, List.mem_map, List.mem_range] at hp
    obtain ⟨m, hm, rfl⟩ := hp
    simp only at h
    omega
theorem pickI_add {n : Nat} (k : Int) : pickI n (k + n) = pickI n k := by unfold pickI; rw [Int.add_emod_right]
theorem pickI_sub {n : Nat} (k : Int) : pickI n (k - n) = pickI n k := by unfold pickI; rw [Int.sub_emod_right]
theorem pickI_self {n : Nat} {k : Int} (h0 : 0 ≤ k) (h1 : k < n) : (pickI n k : Int) = k := by unfold pickI; rw [Int.emod_eq_of_lt h0 h1]; omega

theorem picks_out (n k : Int) (hn : n < 1 ∨ 500 < n) (w : World) : Calls Try.prog 5 #[.int .i64 n, .int .i64 k] w fun e w' => e = .returned (.bool true) ∧ Below w.heap.size w w' := by
  rcases hn with hn | hn
  all_goals
    go_enter Try.func5, Try.ntmps5
    go_wp2_with (go_at_call 16; refine (works21 _).mono ?_; rintro e w8 ⟨rfl, hb8⟩)
    go_ret
    exact ⟨rfl, by (repeat (first | exact Below.refl _ _ | (with_reducible refine Below.drew ?_) | (with_reducible refine Below.alloc ?_ (by (try simp); (try omega)) _) | (with_reducible refine Below.setCell ?_ (by (try simp); (try omega)) _) | (with_reducible refine Below.trans ?_ (Below.mono (by assumption) (by (try simp); (try omega))))))⟩

def AgAt (w0 w : World) (A : Nat) (ps : List (Int × Int)) : Prop := ∃ F, AG w A ps F ∧ (∀ b ∈ F, w0.heap.size ≤ b) ∧ Below w0.heap.size w0 w

set_option maxHeartbeats 1000000 in
theorem picks_in (n : Nat) (k : Int) (h1 : 1 ≤ n) (h500 : n ≤ 500) (hk0 : -9223372036854775808 ≤ k) (hk1 : k ≤ 9223372036854775807) (w : World) : Calls Try.prog 5 #[.int .i64 n, .int .i64 k] w fun e w' => e = .returned (.bool true) ∧ Below w.heap.size w w' := by
  have HK := Lib.hid (And.intro hk0 hk1)
  clear hk0 hk1
  go_enter Try.func5, Try.ntmps5
  go_wp2_with (go_at_call 17; refine (ag_new _).mono ?_; rintro e w1 ⟨A, rfl, hA, hb1, F1, g1, hF1⟩; have G1 : Hid (AgAt w w1 A (pl 0)) := ⟨F1, g1, hF1, hb1⟩; clear g1 hF1 hb1)
  go_loopw [6] (fun i wr => ∃ j : Nat, i = .int .i64 j ∧ j ≤ n ∧ Hid (AgAt w wr A (pl j))) (fun i _ => n - (intOf i).toNat)
  case atStart => exact ⟨0, rfl, by omega, G1⟩
  case round =>
    obtain ⟨j, rfl, hj, GJ⟩ := hrel
    by_cases hlt : j < n
    · have HO := Lib.hid (pl_out j)
      go_wp2_with fail
      obtain ⟨F, g, hF, hbw⟩ := GJ.out
      refine (ag_add_new A _ F _ _ (2 * (j : Int)) (2 * (j : Int) + 1) _ g (by omega) (by omega) (.inr ⟨rfl, rfl⟩) HO.out.1 HO.out.2 (by rw [pl_len]; omega)).mono ?_
      rintro e w2 ⟨rfl, ⟨F2, g2, hF2⟩, k2⟩
      have G2 : Hid (AgAt w w2 A (pl (j + 1))) := ⟨F2, by rw [pl_succ]; exact g2, fun b hb => (hF2 b hb).elim (hF b) (fun h => Nat.le_trans hbw.size h), hbw.trans (k2.below hbw.size hF)⟩
      clear g hF hbw g2 hF2 k2
      go_wp2
      go_roundw
      case rel => exact ⟨j + 1, by go_num, by omega, G2⟩
      case measure => simp [intOf]; omega
    · obtain rfl : j = n := by omega
      have hlen := Lib.hid (pl_len j)
      obtain ⟨q, hq⟩ : ∃ q, Hid (pickI j k = q ∧ q < j ∧ (0 ≤ k → k < j → (q : Int) = k) ∧ pickI j (k + j) = q ∧ pickI j (k - j) = q) :=
        ⟨_, rfl, pickI_lt (by omega) k, fun h0 h1 => pickI_self h0 h1, pickI_add k, pickI_sub k⟩
      have hq1 : q < j := hq.out.2.1
      have pk : Hid (∀ (k' : Int) (W : World) (F : List Nat), AG W A (pl j) F → pickI j k' = q → Calls Try.prog 19 #[.pointer (some ⟨A, 0, none⟩), .int .i64 k'] W fun e w' => e = .returned (.tuple #[.agg #[.int .i64 (2 * (q : Int)), .int .i64 (2 * (q : Int) + 1)], .int .i64 q, .int .i64 0]) ∧ Below W.heap.size W w') :=
        fun k' W F g hk' => ag_pick_eq A (pl j) F k' _ _ q W g (by rw [pl_len]; omega) (by rw [pl_len]; omega) (by rw [pl_len]; exact hk') (pl_at hq1)
      rcases (by omega : k < 0 ∨ (0 ≤ k ∧ k < j) ∨ (j : Int) ≤ k) with hk | ⟨hk, hk2⟩ | hk
      · have hwr : Hid (wrap64 (k + (j : Int)) = k + j) := by have := HK.out; show _ = _; unfold wrap64; omega
        go_wp2_with fail
        obtain ⟨F, g, hF, hbw⟩ := GJ.out
        refine (pk.out _ _ F g hq.out.1).mono ?_
        rintro e w2 ⟨rfl, hb2⟩
        have G2 : Hid (AG w2 A (pl j) F) := g.keep fun b hb => hb2.block b (g.lt b hb)
        have HB := Lib.hid (hbw.trans (hb2.mono hbw.size))
        clear g hF hbw hb2
        go_wp2_with fail
        rw [hwr.out]
        refine (pk.out _ _ F (G2.out.keep fun b hb => Below.heap_alloc _ _ _ (G2.out.lt b hb)) hq.out.2.2.2.1).mono ?_
        rintro e w3 ⟨rfl, hb3⟩; obtain ⟨hc3, hf3⟩ := bcell hb3; have hz3 := hb3.size; (try simp at hz3); have hz3a : w2.heap.size < w3.heap.size := (by omega)
        go_wp2_with fail
        refine (works21 _).mono ?_; rintro e w4 ⟨rfl, hb4⟩; have hz4 := hb4.size; (try simp at hz4)
        go_wp2
        go_ret
        have hB0 := HB.out
        have hBz := hB0.size
        exact ⟨rfl, by (repeat (first | exact Below.refl _ _ | (with_reducible refine Below.drew ?_) | (with_reducible refine Below.alloc ?_ (by (try simp); (try omega)) _) | (with_reducible refine Below.setCell ?_ (by (try simp); (try omega)) _) | (with_reducible refine Below.trans ?_ (Below.mono (by assumption) (by (try simp); (try omega))))))⟩
      · have hqk : (q : Int) = k := hq.out.2.2.1 hk hk2
        have hne : (k != (q : Int)) = false := by rw [bne_eq_false_iff_eq]; omega
        have hne2 : ((q : Int) != k) = false := by rw [bne_eq_false_iff_eq]; omega
        have HQK := Lib.hid hqk
        clear hqk
        have hwr : Hid (wrap64 (k - (j : Int)) = k - j) := by have := HK.out; show _ = _; unfold wrap64; omega
        go_wp2_with fail
        obtain ⟨F, g, hF, hbw⟩ := GJ.out
        refine (pk.out _ _ F g hq.out.1).mono ?_
        rintro e w2 ⟨rfl, hb2⟩
        have G2 : Hid (AG w2 A (pl j) F) := g.keep fun b hb => hb2.block b (g.lt b hb)
        have HB := Lib.hid (hbw.trans (hb2.mono hbw.size))
        clear g hF hbw hb2
        go_wp2_with fail
        refine (pk.out _ _ F (G2.out.keep fun b hb => Below.heap_alloc _ _ _ (G2.out.lt b hb)) hq.out.2.2.2.2).mono ?_
        rintro e w3 ⟨rfl, hb3⟩; obtain ⟨hc3, hf3⟩ := bcell hb3; have hz3 := hb3.size; (try simp at hz3); have hz3a : w2.heap.size < w3.heap.size := (by omega)
        go_wp2_with fail
        refine (works21 _).mono ?_; rintro e w4 ⟨rfl, hb4⟩; have hz4 := hb4.size; (try simp at hz4)
        go_wp2
        go_ret
        have hB0 := HB.out
        have hBz := hB0.size
        exact ⟨rfl, by (repeat (first | exact Below.refl _ _ | (with_reducible refine Below.drew ?_) | (with_reducible refine Below.alloc ?_ (by (try simp); (try omega)) _) | (with_reducible refine Below.setCell ?_ (by (try simp); (try omega)) _) | (with_reducible refine Below.trans ?_ (Below.mono (by assumption) (by (try simp); (try omega))))))⟩
      · have hnk : ¬ k < (j : Int) := by omega
        have hwr : Hid (wrap64 (k - (j : Int)) = k - j) := by have := HK.out; show _ = _; unfold wrap64; omega
        go_wp2_with fail
        obtain ⟨F, g, hF, hbw⟩ := GJ.out
        refine (pk.out _ _ F g hq.out.1).mono ?_
        rintro e w2 ⟨rfl, hb2⟩
        have G2 : Hid (AG w2 A (pl j) F) := g.keep fun b hb => hb2.block b (g.lt b hb)
        have HB := Lib.hid (hbw.trans (hb2.mono hbw.size))
        clear g hF hbw hb2
        go_wp2_with fail
        rw [hwr.out]
        refine (pk.out _ _ F (G2.out.keep fun b hb => Below.heap_alloc _ _ _ (G2.out.lt b hb)) hq.out.2.2.2.2).mono ?_
        rintro e w3 ⟨rfl, hb3⟩; obtain ⟨hc3, hf3⟩ := bcell hb3; have hz3 := hb3.size; (try simp at hz3); have hz3a : w2.heap.size < w3.heap.size := (by omega)
        go_wp2_with fail
        refine (works21 _).mono ?_; rintro e w4 ⟨rfl, hb4⟩; have hz4 := hb4.size; (try simp at hz4)
        go_wp2
        go_ret
        have hB0 := HB.out
        have hBz := hB0.size
        exact ⟨rfl, by (repeat (first | exact Below.refl _ _ | (with_reducible refine Below.drew ?_) | (with_reducible refine Below.alloc ?_ (by (try simp); (try omega)) _) | (with_reducible refine Below.setCell ?_ (by (try simp); (try omega)) _) | (with_reducible refine Below.trans ?_ (Below.mono (by assumption) (by (try simp); (try omega))))))⟩

theorem picks_walk (n k : Int) (hk0 : -9223372036854775808 ≤ k) (hk1 : k ≤ 9223372036854775807) (w : World) : Calls Try.prog 5 #[.int .i64 n, .int .i64 k] w fun e w' => e = .returned (.bool true) ∧ Below w.heap.size w w' := by
  by_cases h : n < 1 ∨ 500 < n
  · exact picks_out n k h w
  · obtain ⟨m, rfl⟩ := Int.eq_ofNat_of_zero_le (show 0 ≤ n by omega)
    exact picks_in m k (by omega) (by omega) hk0 hk1 w
end Go.Proofs.Ytbdfkgchliakfaa
