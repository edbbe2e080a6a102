/-
  The statement NetLaws: the numbers back: written.
-/
import Derived.Test.YtcebejcdfdahjaaLawsB
import Derived.Test.YtcebejcdfdahjaaLawsP
/-
  The statement NetLaws: the numbers back: laid.
-/
namespace Go.Proofs.Ytcebejcdfdahjaa
open Go.RowKit
attribute [local go_sem] cell_set
set_option maxRecDepth 100000
set_option linter.unusedVariables false

theorem heap3 (X : World) (p q r : Obj) : (((X.alloc p).alloc q).alloc r).drew.heap[X.heap.size]? = some p ∧ (((X.alloc p).alloc q).alloc r).drew.heap[X.heap.size + 1]? = some q ∧ (((X.alloc p).alloc q).alloc r).drew.heap[X.heap.size + 2]? = some r := by
  have h0 : ∀ (W : World) (o : Obj) (b : Nat), b < W.heap.size → (W.alloc o).heap[b]? = W.heap[b]? := fun W o b h => Below.heap_alloc _ _ _ h
  refine ⟨?_, ?_, ?_⟩
  · show ((X.alloc p |>.alloc q).alloc r).heap[X.heap.size]? = _
    rw [h0 _ _ _ (by simp; omega), h0 _ _ _ (by simp)]
    exact heap_alloc_new X p
  · show ((X.alloc p |>.alloc q).alloc r).heap[X.heap.size + 1]? = _
    rw [h0 _ _ _ (by simp)]
    have := heap_alloc_new (X.alloc p) q
    rw [World.size_alloc] at this
    exact this
  · show ((X.alloc p |>.alloc q).alloc r).heap[X.heap.size + 2]? = _
    have := heap_alloc_new ((X.alloc p).alloc q) r
    rw [World.size_alloc, World.size_alloc] at this
    exact this
/-- The numbers back, laid: a box and two lists. -/
def Bk0 (X : World) (nx ny : Nat) (v : Value) (Y : World) : Prop :=
  ∃ B o1 o2, v = .pointer (some ⟨B, 0, none⟩) ∧ Y.heap[B]? = some (.cells #[.slice (some ⟨o1, 0, none⟩) nx nx, .slice (some ⟨o2, 0, none⟩) ny ny] 28 (0, 0)) ∧ Y.heap[o1]? = some (.cells (madeCells #[.int .i64 0] nx) 3 (0, 0)) ∧ Y.heap[o2]? = some (.cells (madeCells #[.int .i64 0] ny) 3 (0, 0)) ∧
    X.heap.size ≤ B ∧ X.heap.size ≤ o1 ∧ X.heap.size ≤ o2 ∧ B ≠ o1 ∧ B ≠ o2 ∧ o1 ≠ o2 ∧ Below X.heap.size X Y
section
variable (Q : Exit → Act → World → Prop) (v0 : Value) (b : Nat) (VA VB VX VY V1 V2 V3 V4 : Option Addr) (nc ca nw cb nx cx ny cy n1 c1 n2 c2 b7 n3 c3 n4 c4 b16 : Nat) (fr F F3 : Int)
set_option maxHeartbeats 4000000 in
theorem nl_19 (a : Act) (X : World) (htb : LB X b VA nc ca fr VB nw cb VX nx cx VY ny cy)
    (HE1 : Hid (∀ Z, Below X.heap.size X Z → Calls Try.prog 18 #[.slice VX nx cx, .int .i64 (nc : Int)] Z fun e w' => e = .returned (.bool true) ∧ Below Z.heap.size Z w'))
    (HE2 : Hid (∀ Z, Below X.heap.size X Z → Calls Try.prog 18 #[.slice VY ny cy, .int .i64 fr] Z fun e w' => e = .returned (.bool true) ∧ Below Z.heap.size Z w'))
    (hnext : Hid (∀ a' X', FrN 286 [] [(0, v0), (4, .pointer (some ⟨b, 0, none⟩)), (5, .pointer (some ⟨b + 1, 0, none⟩)), (7, .pointer (some ⟨b7, 0, none⟩)), (16, .pointer (some ⟨b16, 0, none⟩))] a' → Below X.heap.size X X' → (nlT 21).wp Try.prog Q a' X'))
    (ha : FrN 286 [] [(0, v0), (4, .pointer (some ⟨b, 0, none⟩)), (5, .pointer (some ⟨b + 1, 0, none⟩)), (7, .pointer (some ⟨b7, 0, none⟩)), (16, .pointer (some ⟨b16, 0, none⟩))] a) : (nlT 19).wp Try.prog Q a X := by
  obtain ⟨U, rfl, e0, e4, e5, e7, e16, -⟩ := ha.open286
  have HT := Lib.hid htb
  obtain ⟨c0, c1, c2, d0, d1, clt⟩ := htb
  have HX0 := Lib.hid (Below.refl X.heap.size X)
  unfold FrNL
  simp only [e0, e4, e5, e7, e16]
  clear e0 e4 e5 e7 e16 ha
  show (Code.seq _ _).wp _ _ _ _
  go_wp2_with fail
  refine (HE1.out _ HX0.out).mono ?_
  rintro e w1 ⟨rfl, hb1⟩
  have HB1 := Lib.hid hb1
  clear hb1 c0 c1 c2 d0 d1 clt
  obtain ⟨c0, c1, c2, d0, d1, clt⟩ := HT.out.below HB1.out
  go_wp2_with fail
  refine (HE2.out _ HB1.out).mono ?_
  rintro e w2 ⟨rfl, hb2⟩
  have HB2 := Lib.hid (HB1.out.trans (hb2.mono HB1.out.size))
  clear hb2 c0 c1 c2 d0 d1 clt
  simp only []
  go_at_K
  repeat (first
    | exact hnext.out _ _ ⟨rfl, rfl, rfl, rfl, rfl, rfl, rfl, trivial⟩ HB2.out
    | go_values | go_skip | go_guarded | go_step | go_upon | go_back)
set_option maxHeartbeats 4000000 in
theorem nl_21 (a : Act) (X : World) (htb : LB X b VA nc ca fr VB nw cb VX nx cx VY ny cy) (hnx : nx ≤ 100000) (hny : ny ≤ 100000)
    (hnext : Hid (∀ a' X' x17, FrN 286 [] [(0, v0), (4, .pointer (some ⟨b, 0, none⟩)), (5, .pointer (some ⟨b + 1, 0, none⟩)), (7, .pointer (some ⟨b7, 0, none⟩)), (16, .pointer (some ⟨b16, 0, none⟩)), (17, x17)] a' → Bk0 X nx ny x17 X' → (nlT 22).wp Try.prog Q a' X'))
    (ha : FrN 286 [] [(0, v0), (4, .pointer (some ⟨b, 0, none⟩)), (5, .pointer (some ⟨b + 1, 0, none⟩)), (7, .pointer (some ⟨b7, 0, none⟩)), (16, .pointer (some ⟨b16, 0, none⟩))] a) : (nlT 21).wp Try.prog Q a X := by
  obtain ⟨U, rfl, e0, e4, e5, e7, e16, -⟩ := ha.open286
  have hmk := run_make_row' 23 3 (.int .i64 0) 8 Try.underlying23 int_info rfl .i64 .i64 nx (by omega) (by omega)
  have hmk2 := run_make_row' 23 3 (.int .i64 0) 8 Try.underlying23 int_info rfl .i64 .i64 ny (by omega) (by omega)
  obtain ⟨c0, c1, c2, d0, d1, clt⟩ := htb
  unfold FrNL
  simp only [e0, e4, e5, e7, e16]
  clear e0 e4 e5 e7 e16 ha
  show (Code.seq _ _).wp _ _ _ _
  go_upto_region 21 with fail
  have clt0 : b < X.heap.size := by omega
  go_cut [17] from 178 to 285 (fun v wx => Bk0 X nx ny v wx)
  case first =>
    go_region
    all_goals
      go_wp2_with fail
      go_meet
      case rel =>
        first
        | exact ⟨_, X.heap.size, X.heap.size + 1, rfl, (heap3 X _ _ _).2.2, (heap3 X _ _ _).1, (heap3 X _ _ _).2.1, by omega, by omega, by omega, by omega, by omega, by omega, by (repeat (first | exact Below.refl _ _ | (with_reducible refine Below.drew ?_) | (with_reducible refine Below.alloc ?_ (by (try simp); (try omega)) _) | (with_reducible refine Below.setCell ?_ (by (try simp); (try omega)) _) | (with_reducible refine Below.trans ?_ (Below.mono (by assumption) (by (try simp); (try omega))))))⟩
        | exact ⟨_, X.heap.size, X.heap.size + 2, rfl, (heap3 X _ _ _).2.1, (heap3 X _ _ _).1, (heap3 X _ _ _).2.2, by omega, by omega, by omega, by omega, by omega, by omega, by (repeat (first | exact Below.refl _ _ | (with_reducible refine Below.drew ?_) | (with_reducible refine Below.alloc ?_ (by (try simp); (try omega)) _) | (with_reducible refine Below.setCell ?_ (by (try simp); (try omega)) _) | (with_reducible refine Below.trans ?_ (Below.mono (by assumption) (by (try simp); (try omega))))))⟩
        | exact ⟨_, X.heap.size + 1, X.heap.size, rfl, (heap3 X _ _ _).2.2, (heap3 X _ _ _).2.1, (heap3 X _ _ _).1, by omega, by omega, by omega, by omega, by omega, by omega, by (repeat (first | exact Below.refl _ _ | (with_reducible refine Below.drew ?_) | (with_reducible refine Below.alloc ?_ (by (try simp); (try omega)) _) | (with_reducible refine Below.setCell ?_ (by (try simp); (try omega)) _) | (with_reducible refine Below.trans ?_ (Below.mono (by assumption) (by (try simp); (try omega))))))⟩
        | exact ⟨_, X.heap.size + 1, X.heap.size + 2, rfl, (heap3 X _ _ _).1, (heap3 X _ _ _).2.1, (heap3 X _ _ _).2.2, by omega, by omega, by omega, by omega, by omega, by omega, by (repeat (first | exact Below.refl _ _ | (with_reducible refine Below.drew ?_) | (with_reducible refine Below.alloc ?_ (by (try simp); (try omega)) _) | (with_reducible refine Below.setCell ?_ (by (try simp); (try omega)) _) | (with_reducible refine Below.trans ?_ (Below.mono (by assumption) (by (try simp); (try omega))))))⟩
        | exact ⟨_, X.heap.size + 2, X.heap.size, rfl, (heap3 X _ _ _).2.1, (heap3 X _ _ _).2.2, (heap3 X _ _ _).1, by omega, by omega, by omega, by omega, by omega, by omega, by (repeat (first | exact Below.refl _ _ | (with_reducible refine Below.drew ?_) | (with_reducible refine Below.alloc ?_ (by (try simp); (try omega)) _) | (with_reducible refine Below.setCell ?_ (by (try simp); (try omega)) _) | (with_reducible refine Below.trans ?_ (Below.mono (by assumption) (by (try simp); (try omega))))))⟩
        | exact ⟨_, X.heap.size + 2, X.heap.size + 1, rfl, (heap3 X _ _ _).1, (heap3 X _ _ _).2.2, (heap3 X _ _ _).2.1, by omega, by omega, by omega, by omega, by omega, by omega, by (repeat (first | exact Below.refl _ _ | (with_reducible refine Below.drew ?_) | (with_reducible refine Below.alloc ?_ (by (try simp); (try omega)) _) | (with_reducible refine Below.setCell ?_ (by (try simp); (try omega)) _) | (with_reducible refine Below.trans ?_ (Below.mono (by assumption) (by (try simp); (try omega))))))⟩
  case rest =>
    clear hmk hmk2 c0 c1 c2 d0 d1
    repeat (first
      | exact hnext.out _ _ _ ⟨rfl, rfl, rfl, rfl, rfl, rfl, rfl, rfl, trivial⟩ hcut
      | go_values | go_skip | go_guarded | go_step | go_upon | go_back)
end
end Go.Proofs.Ytcebejcdfdahjaa
namespace Go.Proofs.Ytcebejcdfdahjaa
open Go.RowKit
attribute [local go_sem] cell_set
set_option maxRecDepth 100000
set_option linter.unusedVariables false

section
variable (Q : Exit → Act → World → Prop) (v0 v4 v7 v16 : Value) (b : Nat) (VA VB VX VY V1 V2 : Option Addr) (nc ca nw cb nx cx ny cy B o1 o2 : Nat) (fr F : Int) (xs ys : List Int) (w : World)
set_option maxHeartbeats 4000000 in
theorem nl_22 (a : Act) (X : World) (hbX : Below w.heap.size w X) (htb : LB w b VA nc ca fr VB nw cb VX nx cx VY ny cy) (HX : Hid (IntsRd w VX xs)) (he : Hid (eachN xs nx)) (hn : nx ≤ 100000)
    (hbB : w.heap.size ≤ B) (hbo : w.heap.size ≤ o1) (hbn : B ≠ o1) (hB : X.heap[B]? = some (.cells #[.slice (some ⟨o1, 0, none⟩) nx nx, .slice (some ⟨o2, 0, none⟩) ny ny] 28 (0, 0))) (hR : Row X 3 1 (.slice (some ⟨o1, 0, none⟩) nx nx) nx (ivals (outK (idsN nx) xs 0)))
    (hnext : Hid (∀ a' X', FrN 286 [] [(0, v0), (4, v4), (5, .pointer (some ⟨b + 1, 0, none⟩)), (7, v7), (16, v16), (17, .pointer (some ⟨B, 0, none⟩))] a' → Row X' 3 1 (.slice (some ⟨o1, 0, none⟩) nx nx) nx (ivals (bkN xs nx)) → Kp [o1] X X' → (nlT 26).wp Try.prog Q a' X'))
    (ha : FrN 286 [] [(0, v0), (4, v4), (5, .pointer (some ⟨b + 1, 0, none⟩)), (7, v7), (16, v16), (17, .pointer (some ⟨B, 0, none⟩))] a) : (nlT 22).wp Try.prog Q a X := by
  obtain ⟨U, rfl, e0, e4, e5, e7, e16, e17, -⟩ := ha.open286
  have HBX := Lib.hid hbX
  have HT := Lib.hid htb
  have HBB := Lib.hid hB
  have HR0 : Hid (Row X 3 1 (.slice (some ⟨o1, 0, none⟩) nx nx) nx (ivals (outK (idsN nx) xs 0)) ∧ Kp [o1] X X) := ⟨hR, Kp.refl _ _⟩
  have hBl := heap_lt hB
  have HLN : Hid (xs.length = nx) := he.out.1
  have hn63 : (nx : Int) ≤ 100000 := by omega
  unfold FrNL
  simp only [e0, e4, e5, e7, e16, e17]
  clear e0 e4 e5 e7 e16 e17 ha hbX htb hB hR
  show (Code.seq _ _).wp _ _ _ _
  go_wp2_with fail
  go_loopw [18] (fun i wr => ∃ k : Nat, i = .int .i64 k ∧ k ≤ nx ∧ Hid (Row wr 3 1 (.slice (some ⟨o1, 0, none⟩) nx nx) nx (ivals (outK (idsN nx) xs k)) ∧ Kp [o1] X wr)) (fun i _ => nx - (intOf i).toNat)
  case atStart => exact ⟨0, rfl, Nat.zero_le _, HR0⟩
  case round =>
    obtain ⟨k, rfl, hk, HR⟩ := hrel
    clear HR0
    have HBw : Hid (Below w.heap.size w wr) := HBX.out.trans (HR.out.2.below HBX.out.size (by simp; omega))
    obtain ⟨c0, c1, c2, d0, d1, clt⟩ := HT.out.below HBw.out
    have clt0 : b < wr.heap.size := by omega
    by_cases hlt : k < nx
    · obtain ⟨g, o, hV, hg, p0⟩ := (HX.out.below HBw.out) k (by have := HLN.out; omega)
      subst hV
      have hea := each_at he.out hlt
      have hnx : outK (idsN nx) xs (k + 1) = (outK (idsN nx) xs k).set (xs.getD k 0).toNat (k : Int) := by rw [outK, idsN_at hlt]
      generalize xs.getD k 0 = c at p0 hnx hea
      obtain ⟨g1, g2⟩ := hea
      obtain ⟨m, rfl⟩ := Int.eq_ofNat_of_zero_le g1
      have HNX : Hid (outK (idsN nx) xs (k + 1) = (outK (idsN nx) xs k).set m (k : Int)) := hnx
      clear hnx
      have hm : m < nx := by omega
      have hbw : wr.heap[B]? = some (.cells #[.slice (some ⟨o1, 0, none⟩) nx nx, .slice (some ⟨o2, 0, none⟩) ny ny] 28 (0, 0)) := (HR.out.2.block _ hBl (by simpa using hbn)).trans HBB.out
      have bn0 : wr.cell? ⟨B, 0, none⟩ = some (.slice (some ⟨o1, 0, none⟩) nx nx) := by simp [World.cell?, hbw]
      have s0 : wr.frozen? ⟨o1, m, none⟩ = false := HR.out.1.frozenAt m
      obtain ⟨u1, s2⟩ : ∃ u, wr.cell? ⟨o1, m, none⟩ = some u := ⟨_, (HR.out.1.cellAt m (by omega)).trans (List.getElem?_eq_getElem (by rw [HR.out.1.1]; omega))⟩
      clear hbw
      have hkx : (0 : Int) ≤ (k : Int) := by omega
      go_upto_region 25 with fail
      (refine region_tail 9 (by kernel_rfl) (by kernel_rfl) ?_; simp only [List.take_succ_cons, List.take_zero, List.drop_succ_cons, List.drop_zero]; repeat still_step; try refine wpStill_nil ?_)
      go_wp2
      go_roundw
      case rel =>
        have hR8 := (HR.out.1.drew).set m (.int .i64 (k : Int))
        have hB8 := (HR.out.2.drew).setCell (p := ⟨o1, m, none⟩) (.inl (by simp)) (.int .i64 (k : Int))
        rw [ivals_set, ← HNX.out] at hR8
        exact ⟨k + 1, by go_num, by omega, hR8, hB8⟩
      case measure => simp [intOf]; omega
    · obtain rfl : k = nx := by omega
      repeat (first
        | exact hnext.out _ _ ⟨rfl, rfl, rfl, rfl, rfl, rfl, rfl, rfl, trivial⟩ HR.out.1 HR.out.2
        | go_values | go_skip | go_guarded | go_step | go_upon | go_back)
set_option maxHeartbeats 4000000 in
theorem nl_26 (a : Act) (X : World) (hbX : Below w.heap.size w X) (htb : LB w b VA nc ca fr VB nw cb VX nx cx VY ny cy) (HX : Hid (IntsRd w VY ys)) (he : Hid (eachN ys ny)) (hn : ny ≤ 100000)
    (hbB : w.heap.size ≤ B) (hbo : w.heap.size ≤ o2) (hbn : B ≠ o2) (hB : X.heap[B]? = some (.cells #[.slice (some ⟨o1, 0, none⟩) nx nx, .slice (some ⟨o2, 0, none⟩) ny ny] 28 (0, 0))) (hR : Row X 3 1 (.slice (some ⟨o2, 0, none⟩) ny ny) ny (ivals (outK (idsN ny) ys 0)))
    (hnext : Hid (∀ a' X', FrN 286 [] [(0, v0), (4, v4), (5, .pointer (some ⟨b + 1, 0, none⟩)), (7, v7), (16, v16), (17, .pointer (some ⟨B, 0, none⟩))] a' → Row X' 3 1 (.slice (some ⟨o2, 0, none⟩) ny ny) ny (ivals (bkN ys ny)) → Kp [o2] X X' → (nlT 30).wp Try.prog Q a' X'))
    (ha : FrN 286 [] [(0, v0), (4, v4), (5, .pointer (some ⟨b + 1, 0, none⟩)), (7, v7), (16, v16), (17, .pointer (some ⟨B, 0, none⟩))] a) : (nlT 26).wp Try.prog Q a X := by
  obtain ⟨U, rfl, e0, e4, e5, e7, e16, e17, -⟩ := ha.open286
  have HBX := Lib.hid hbX
  have HT := Lib.hid htb
  have HBB := Lib.hid hB
  have HR0 : Hid (Row X 3 1 (.slice (some ⟨o2, 0, none⟩) ny ny) ny (ivals (outK (idsN ny) ys 0)) ∧ Kp [o2] X X) := ⟨hR, Kp.refl _ _⟩
  have hBl := heap_lt hB
  have HLN : Hid (ys.length = ny) := he.out.1
  have hn63 : (ny : Int) ≤ 100000 := by omega
  unfold FrNL
  simp only [e0, e4, e5, e7, e16, e17]
  clear e0 e4 e5 e7 e16 e17 ha hbX htb hB hR
  show (Code.seq _ _).wp _ _ _ _
  go_wp2_with fail
  go_loopw [19] (fun i wr => ∃ k : Nat, i = .int .i64 k ∧ k ≤ ny ∧ Hid (Row wr 3 1 (.slice (some ⟨o2, 0, none⟩) ny ny) ny (ivals (outK (idsN ny) ys k)) ∧ Kp [o2] X wr)) (fun i _ => ny - (intOf i).toNat)
  case atStart => exact ⟨0, rfl, Nat.zero_le _, HR0⟩
  case round =>
    obtain ⟨k, rfl, hk, HR⟩ := hrel
    clear HR0
    have HBw : Hid (Below w.heap.size w wr) := HBX.out.trans (HR.out.2.below HBX.out.size (by simp; omega))
    obtain ⟨c0, c1, c2, d0, d1, clt⟩ := HT.out.below HBw.out
    have clt0 : b < wr.heap.size := by omega
    by_cases hlt : k < ny
    · obtain ⟨g, o, hV, hg, p0⟩ := (HX.out.below HBw.out) k (by have := HLN.out; omega)
      subst hV
      have hea := each_at he.out hlt
      have hnx : outK (idsN ny) ys (k + 1) = (outK (idsN ny) ys k).set (ys.getD k 0).toNat (k : Int) := by rw [outK, idsN_at hlt]
      generalize ys.getD k 0 = c at p0 hnx hea
      obtain ⟨g1, g2⟩ := hea
      obtain ⟨m, rfl⟩ := Int.eq_ofNat_of_zero_le g1
      have HNX : Hid (outK (idsN ny) ys (k + 1) = (outK (idsN ny) ys k).set m (k : Int)) := hnx
      clear hnx
      have hm : m < ny := by omega
      have hbw : wr.heap[B]? = some (.cells #[.slice (some ⟨o1, 0, none⟩) nx nx, .slice (some ⟨o2, 0, none⟩) ny ny] 28 (0, 0)) := (HR.out.2.block _ hBl (by simpa using hbn)).trans HBB.out
      have bn0 : wr.cell? ⟨B, 1, none⟩ = some (.slice (some ⟨o2, 0, none⟩) ny ny) := by simp [World.cell?, hbw]
      have s0 : wr.frozen? ⟨o2, m, none⟩ = false := HR.out.1.frozenAt m
      obtain ⟨u1, s2⟩ : ∃ u, wr.cell? ⟨o2, m, none⟩ = some u := ⟨_, (HR.out.1.cellAt m (by omega)).trans (List.getElem?_eq_getElem (by rw [HR.out.1.1]; omega))⟩
      clear hbw
      have hkx : (0 : Int) ≤ (k : Int) := by omega
      go_upto_region 29 with fail
      (refine region_tail 9 (by kernel_rfl) (by kernel_rfl) ?_; simp only [List.take_succ_cons, List.take_zero, List.drop_succ_cons, List.drop_zero]; repeat still_step; try refine wpStill_nil ?_)
      go_wp2
      go_roundw
      case rel =>
        have hR8 := (HR.out.1.drew).set m (.int .i64 (k : Int))
        have hB8 := (HR.out.2.drew).setCell (p := ⟨o2, m, none⟩) (.inl (by simp)) (.int .i64 (k : Int))
        rw [ivals_set, ← HNX.out] at hR8
        exact ⟨k + 1, by go_num, by omega, hR8, hB8⟩
      case measure => simp [intOf]; omega
    · obtain rfl : k = ny := by omega
      repeat (first
        | exact hnext.out _ _ ⟨rfl, rfl, rfl, rfl, rfl, rfl, rfl, rfl, trivial⟩ HR.out.1 HR.out.2
        | go_values | go_skip | go_guarded | go_step | go_upon | go_back)
end
end Go.Proofs.Ytcebejcdfdahjaa
