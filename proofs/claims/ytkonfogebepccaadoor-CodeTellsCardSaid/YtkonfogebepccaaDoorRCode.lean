/-
  skeinref12.Code: the loop that lays the code.
-/
import Derived.Test.YtkonfogebepccaaDoorRWalkC
import Derived.Test.YtkonfogebepccaaDoorWebFrom
import Derived.Test.YtkonfogebepccaaDoorRWalk
import Derived.Test.YtkonfogebepccaaDoorCodeFrom
import Derived.Deep.Cut
import Derived.Deep.RegionHeld3
/-
  Contract of skeinref12.mark; plain: the places at which the walk found the cells, as skeinref12.Code keeps them.
-/
namespace Go.Proofs.YtkonfogebepccaaDoor
open Go.RowKit
attribute [local go_sem] cell_set
set_option maxRecDepth 100000
set_option linter.unusedVariables false

def fdZ (n : Nat) (l : List Int) : List Int := (List.range n).map fun (c : Nat) => if (c : Int) ∈ l then (l.idxOf (c : Int) : Int) else 0
theorem fdZ_len (n : Nat) (l : List Int) : (fdZ n l).length = n := by simp [fdZ]
theorem fdZ_nil (n : Nat) : fdZ n [] = List.replicate n 0 := by
  refine List.ext_getElem (by simp [fdZ]) fun i h1 h2 => ?_
  simp [fdZ]
theorem fdZ_at {n : Nat} {l : List Int} {c : Nat} (hc : c < n) : (fdZ n l).getD c 0 = if (c : Int) ∈ l then (l.idxOf (c : Int) : Int) else 0 := by
  simp [fdZ, hc]
theorem fdZ_snoc {n : Nat} {l : List Int} {c : Nat} (h : (c : Int) ∉ l) : fdZ n (l ++ [(c : Int)]) = (fdZ n l).set c (l.length : Int) := by
  refine List.ext_getElem (by simp [fdZ]) fun i h1 h2 => ?_
  simp only [fdZ, List.getElem_map, List.getElem_range, List.getElem_set]
  by_cases e : c = i
  · subst e
    rw [if_pos rfl, if_pos (by simp), List.idxOf_append, if_neg h]
    simp
  · rw [if_neg e]
    have hne : (i : Int) ≠ (c : Int) := by omega
    by_cases hi : (i : Int) ∈ l
    · rw [if_pos (by simp [hi]), if_pos hi, List.idxOf_append, if_pos hi]
    · rw [if_neg (by simp [hi, hne]), if_neg hi]
theorem fdZ_take {n : Nat} {l : List Int} (h : l.Nodup) {i c : Nat} (hi : i < l.length) (hc : l.getD i 0 = (c : Int)) : fdZ n (l.take (i + 1)) = (fdZ n (l.take i)).set c (i : Int) := by
  have e : l[i] = (c : Int) := by rw [← hc]; simp [hi]
  have hn : (c : Int) ∉ l.take i := fun hm => by
    have h1 : l.take (i + 1) = l.take i ++ [l[i]] := by rw [List.take_add_one, List.getElem?_eq_getElem hi]; rfl
    have h2 : (l.take (i + 1)).Nodup := h.sublist (List.take_sublist _ _)
    rw [h1, e, List.nodup_append] at h2
    exact h2.2.2 _ hm _ (by simp) rfl
  rw [List.take_add_one, List.getElem?_eq_getElem hi, e]
  show fdZ n (l.take i ++ [(c : Int)]) = _
  rw [fdZ_snoc hn, List.length_take, Nat.min_eq_left (by omega)]
theorem fdZ_bd {n : Nat} {l : List Int} (h : l.length ≤ 10000) (c : Nat) (hc : c < n) : 0 ≤ (fdZ n l).getD c 0 ∧ (fdZ n l).getD c 0 ≤ 10000 := by
  rw [fdZ_at hc]
  split
  · have := List.idxOf_le_length (l := l) (a := (c : Int))
    omega
  · omega
theorem markZ {n : Nat} {l : List Int} {q : Pt} (hq : q.1 < 0 ∨ q.1 ∈ l) (hn : q.1 < n) : markN0 (fdZ n l) q = markN0 (fdOf n l) q := by
  unfold markN0
  by_cases h : q.1 < 0
  · rw [if_pos h, if_pos h]
  · rw [if_neg h, if_neg h]
    have hm := hq.resolve_left h
    have e : ((q.1.toNat : Nat) : Int) = q.1 := Int.toNat_of_nonneg (by omega)
    rw [fdOf_at (by omega), fdZ_at (by omega), e, if_pos hm, if_pos hm]
/-- Every port that the walk looks at leads to a cell that it finds. -/
theorem wlk_has {pn : Int → Nat} {cs : List Int} {Lk : Pt → Pt} {p : Pt} (hL : ∀ x, (Lk x).1 < cs.length) (hs : (startP Lk p).1 < cs.length) : ∀ q ∈ startP Lk p :: (wlk pn cs Lk p).flatMap (rowP pn cs Lk), q.1 < 0 ∨ q.1 ∈ wlk pn cs Lk p := fun q hq => by
  have hx := wlk_fix (pn := pn) hL hs
  rcases Int.lt_or_le q.1 0 with h | h
  · exact .inl h
  · right
    have := mem_visit (R := startP Lk p :: (wlk pn cs Lk p).flatMap (rowP pn cs Lk)) (l := []) (x := q.1)
    rw [hx] at this
    exact this.2 (.inr ⟨h, q, hq, rfl⟩)
section
variable (V : Option Addr) (n c : Nat) (fd : List Int) (w : World)
set_option maxHeartbeats 1000000 in
theorem rmark_neg (k : Nat) (hk : k ≤ 10000) : Calls Tryd.prog 107 #[.agg #[.int .i64 (-1), .int .i64 (k : Int)], .slice V n c] w fun e w' => e = .returned (.int .i64 (-1 - (k : Int))) ∧ Below w.heap.size w w' := by
  have h1 : IntKind.i64.wrap (-1 - (k : Int)) = -1 - (k : Int) := IntWalk.i64_in _ (by omega)
  go_enter Tryd.func107, Tryd.ntmps107
  go_wp2
  go_ret
  exact ⟨by first | rfl | (congr 2), (Below.refl _ _).alloc (Nat.le_refl _) _⟩
set_option maxHeartbeats 1000000 in
theorem rmark_cell (d k : Nat) (HF : Hid (IntsRd w V fd)) (hn : fd.length = n) (hd : d < n) (hk : k ≤ 10000) (h0 : 0 ≤ fd.getD d 0) (h1 : fd.getD d 0 ≤ 10000) : Calls Tryd.prog 107 #[.agg #[.int .i64 (d : Int), .int .i64 (k : Int)], .slice V n c] w fun e w' => e = .returned (.int .i64 (8 * fd.getD d 0 + k)) ∧ Below w.heap.size w w' := by
  obtain ⟨g, off, rfl, hgl, g0⟩ := HF.out d (by omega)
  have hdn : (d : Int) < (n : Int) := by omega
  generalize fd.getD d 0 = x at *
  have h2 : IntKind.i64.wrap (8 * x) = 8 * x := IntWalk.i64_in _ (by omega)
  have h3 : IntKind.i64.wrap (8 * x + k) = 8 * x + k := IntWalk.i64_in _ (by omega)
  go_enter Tryd.func107, Tryd.ntmps107
  go_wp2_with fail
  (refine region_still (by kernel_rfl) (by kernel_rfl) ?_; repeat still_step; try refine wpStill_nil ?_)
  go_wp2
  go_ret
  exact ⟨by first | rfl | (congr 2), by (repeat (first | exact Below.refl _ _ | (with_reducible refine Below.drew ?_) | (with_reducible refine Below.alloc ?_ (by (try simp); (try omega)) _) | (with_reducible refine Below.setCell ?_ (by (try simp); (try omega)) _) | (with_reducible refine Below.trans ?_ (Below.mono (by assumption) (by (try simp); (try omega))))))⟩
theorem rmark (pn : Int → Nat) (cs : List Int) (fr : Nat) (p : Pt) (HF : Hid (IntsRd w V fd)) (hfl : fd.length = n) (hn : n = cs.length) (hn2 : n ≤ 10000) (hp : isPt pn cs fr p = true) (hfr : fr ≤ 100) (h7 : ∀ a, pn a ≤ 7) (hfd : ∀ c, c < n → 0 ≤ fd.getD c 0 ∧ fd.getD c 0 ≤ 10000) :
    Calls Tryd.prog 107 #[.agg #[.int .i64 p.1, .int .i64 p.2], .slice V n c] w fun e w' => e = .returned (.int .i64 (markN0 fd p)) ∧ Below w.heap.size w w' := by
  obtain ⟨p1, p2⟩ := p
  unfold isPt at hp
  by_cases h : p1 = -1
  · subst h
    rw [if_pos rfl, decide_eq_true_eq] at hp
    obtain ⟨h1, h2⟩ := hp
    obtain ⟨s, rfl⟩ := Int.eq_ofNat_of_zero_le (show 0 ≤ p2 from h1)
    dsimp only at h2
    refine (rmark_neg V n c w s (by omega)).mono ?_
    rintro e w1 ⟨rfl, hb⟩
    exact ⟨by rw [markN0, if_pos (by show (-1 : Int) < 0; decide)], hb⟩
  · rw [if_neg h, decide_eq_true_eq] at hp
    obtain ⟨h1, h2, h3, h4⟩ := hp
    obtain ⟨d, rfl⟩ := Int.eq_ofNat_of_zero_le (show 0 ≤ p1 from h1)
    obtain ⟨s, rfl⟩ := Int.eq_ofNat_of_zero_le (show 0 ≤ p2 from h3)
    dsimp only at h2 h4
    rw [Int.toNat_natCast] at h4
    have := h7 (cs.getD d 0)
    obtain ⟨f1, f2⟩ := hfd d (by omega)
    refine (rmark_cell V n c fd w d s HF hfl (by omega) (by omega) f1 f2).mono ?_
    rintro e w1 ⟨rfl, hb⟩
    exact ⟨by rw [markN0, if_neg (by dsimp only; omega)]; simp, hb⟩
end
end Go.Proofs.YtkonfogebepccaaDoor
namespace Go.Proofs.YtkonfogebepccaaDoor
open Go.RowKit
attribute [local go_sem] cell_set
set_option maxRecDepth 100000
set_option linter.unusedVariables false

noncomputable def rcT (n : Nat) : Code := ((Tryd.f91.body).bind (tailQ n)).getD .skip
def FrRC (ds : List Deferred) (U : Nat → Value) : Act := { tmps := (U 0 :: U 1 :: U 2 :: U 3 :: U 4 :: U 5 :: U 6 :: U 7 :: U 8 :: U 9 :: U 10 :: U 11 :: U 12 :: U 13 :: U 14 :: U 15 :: U 16 :: U 17 :: U 18 :: U 19 :: U 20 :: U 21 :: U 22 :: U 23 :: U 24 :: U 25 :: U 26 :: U 27 :: U 28 :: U 29 :: U 30 :: U 31 :: U 32 :: U 33 :: U 34 :: U 35 :: U 36 :: U 37 :: U 38 :: U 39 :: U 40 :: U 41 :: U 42 :: U 43 :: U 44 :: U 45 :: U 46 :: U 47 :: U 48 :: U 49 :: U 50 :: U 51 :: U 52 :: U 53 :: U 54 :: U 55 :: U 56 :: U 57 :: U 58 :: U 59 :: U 60 :: U 61 :: U 62 :: U 63 :: U 64 :: U 65 :: U 66 :: U 67 :: U 68 :: U 69 :: U 70 :: U 71 :: U 72 :: U 73 :: U 74 :: U 75 :: U 76 :: U 77 :: U 78 :: U 79 :: U 80 :: U 81 :: U 82 :: U 83 :: U 84 :: U 85 :: U 86 :: U 87 :: U 88 :: U 89 :: U 90 :: U 91 :: U 92 :: U 93 :: U 94 :: U 95 :: U 96 :: U 97 :: U 98 :: U 99 :: U 100 :: U 101 :: U 102 :: U 103 :: U 104 :: U 105 :: []).toArray, defers := ds }
theorem FrN.openRC {ds : List Deferred} {L : List (Nat × Value)} {a : Act} (h : FrN 106 ds L a) : ∃ U, a = FrRC ds U ∧ Us U L := h.open_
section
variable (Q : Exit → Act → World → Prop) (w : World) (pn : Int → Nat) (cs : List Int) (f : Nat) (W : List (Pt × Pt)) (b1 o1 b2 o2 b3 o3 : Nat) (c1 c2 c3 M B n : Nat)
set_option maxHeartbeats 4000000 in
theorem rc_11 (a : Act) (X : World) (L : List Int) (VA VL VF Vo : Option Addr) (ca cL cF co : Nat) (q : Pt) (CK : Nat → List Int) (CJ : Nat → Nat → List Int) (hn : n = cs.length) (hn2 : n ≤ 10000) (hM : firstN pn cs f cs.length = M) (hM2 : M ≤ 100000) (hfr : f ≤ 100) (h7 : ∀ a, pn a ≤ 7) (hok : Hid (NetOk pn cs f W))
    (HN : Hid (NLk pn cs f W (some ⟨b1, o1, none⟩) (some ⟨b2, o2, none⟩) (some ⟨b3, o3, none⟩) c1 c2 c3 M B w)) (HA : Hid (IntsRd w VA cs)) (HLl : Hid (IntsRd w VL L)) (HFd : Hid (IntsRd w VF (fdZ n L))) (hfn : Fnd n L)
    (hhas : Hid (∀ q ∈ L.flatMap (rowP pn cs (lkM W)), q.1 < 0 ∨ q.1 ∈ L)) (hcs : Hid (CodeS (rowP pn cs (lkM W)) cs (fdOf n L) q L CK CJ))
    (hret : Hid (∀ a' X' V c, FrN 106 [] [(6, .slice V (CK L.length).length c)] a' → Fresh w X' 3 1 (CK L.length).length (.slice V (CK L.length).length c) (ivals (CK L.length)) → Q .ret a' X'))
    (hk0 : Hid ((CK 0).length = 1)) (ho : Hid (Fresh w X 3 1 1 (.slice Vo 1 co) (ivals (CK 0))))
    (ha : FrN 106 [] [(1, .slice VA n ca), (3, .pointer (some ⟨B, 0, none⟩)), (7, .slice VL L.length cL), (8, .slice VF n cF), (11, .slice Vo 1 co)] a) : (rcT 11).wp Tryd.prog Q a X := by
  obtain ⟨U, rfl, e1, e3, e7, e8, e11, -⟩ := ha.openRC
  unfold FrRC
  simp only [e1, e3, e7, e8, e11]
  clear e1 e3 e7 e8 e11 ha
  show (Code.seq _ _).wp _ _ _ _
  have HNM := Lib.hid (And.intro hn hM)
  have hLn := hfn.len
  have hbd : Hid (∀ c, c < n → 0 ≤ (fdZ n L).getD c 0 ∧ (fdZ n L).getD c 0 ≤ 10000) := fdZ_bd (by omega)
  have HFn : Hid (Fnd n L) := hfn
  clear hn hM hfn
  obtain ⟨i0, hi0, hi1, hi2, hi3⟩ := info_parts int_info
  go_wp2_with fail
  go_loopw [11, 12] (fun o i wr => ∃ j : Nat, ∃ V5 c5, o = .slice V5 (CK j).length c5 ∧ i = .int .i64 j ∧ j ≤ L.length ∧ Hid (Fresh w wr 3 1 (CK j).length (.slice V5 (CK j).length c5) (ivals (CK j)))) (fun _ i _ => L.length - (intOf i).toNat)
  case atStart => exact ⟨0, Vo, co, by rw [hk0.out], rfl, Nat.zero_le _, by rw [hk0.out]; exact ho⟩
  case round =>
    obtain ⟨j, V5, c5, rfl, rfl, hj, HF5⟩ := hrel
    clear ho hk0
    by_cases hlt : j < L.length
    · obtain ⟨bl, ol, rfl, hbl, ql⟩ := HLl.out j hlt
      have hcx := HFn.out.lt (L.getD j 0) (by rw [List.getD_eq_getElem?_getD, List.getElem?_eq_getElem hlt]; exact List.getElem_mem hlt)
      have hmem : L.getD j 0 ∈ L := by rw [List.getD_eq_getElem?_getD, List.getElem?_eq_getElem hlt]; exact List.getElem_mem hlt
      have HJ0 := Lib.hid (hcs.out.j0 j)
      have HJS := Lib.hid (hcs.out.js j)
      have HJ1 := Lib.hid (hcs.out.k1 j hlt)
      have HKL := Lib.hid (hcs.out.kl j (by omega))
      have HJL := Lib.hid (fun s => hcs.out.jl j s (by omega))
      generalize L.getD j 0 = x at ql hcx hmem HJ0 HJS HJ1
      obtain ⟨c, rfl⟩ := Int.eq_ofNat_of_zero_le hcx.1
      have hcn : c < n := by omega
      rw [Int.toNat_natCast] at HJ0
      obtain ⟨bA, oA, rfl, hbA, qA⟩ := HA.out c (by rw [← HNM.out.1]; exact hcn)
      obtain ⟨F0, hF0⟩ : ∃ F, firstN pn cs f c = F := ⟨_, rfl⟩
      obtain ⟨PN, hPN⟩ : ∃ P, pn (cs.getD c 0) = P := ⟨_, rfl⟩
      have hMr : (rowP pn cs (lkM W) (c : Int)).length = PN := by rw [rowP_len, Int.toNat_natCast, hPN]
      obtain ⟨E0, hE0⟩ : ∃ E, F0 + PN = E := ⟨_, rfl⟩
      have hF1 : firstN pn cs f (c + 1) = E0 := by rw [← hE0]; rw [firstN_succ (by rw [← HNM.out.1]; exact hcn), hF0, hPN]
      have hP7 : PN ≤ 7 := by rw [← hPN]; exact h7 _
      have hPm : F0 + PN ≤ M := by
        have := firstN_mono pn cs f (c := c) (d := cs.length) (by rw [← HNM.out.1]; exact hcn) (Nat.le_refl _)
        rw [hF0, hPN, HNM.out.2] at this
        exact this
      obtain ⟨ag, hag⟩ : ∃ ag, cs.getD c 0 = ag := ⟨_, rfl⟩
      have HAg := Lib.hid (And.intro hag hPN)
      rw [hag] at qA HJ0
      clear hag
      have HF : Hid (∀ Z, Below w.heap.size w Z → Z.cell? ⟨B, 0, none⟩ = some (.slice (some ⟨b1, o1, none⟩) M c1) ∧ Z.cell? ⟨B, 1, none⟩ = some (.slice (some ⟨b2, o2, none⟩) M c2) ∧ Z.cell? ⟨B, 2, none⟩ = some (.slice (some ⟨b3, o3, none⟩) (n + 1) c3) ∧ B < Z.heap.size ∧ Z.cell? ⟨bl, ol + j, none⟩ = some (.int .i64 (c : Int)) ∧ bl < Z.heap.size ∧ Z.cell? ⟨bA, oA + c, none⟩ = some (.int .i64 ag) ∧ bA < Z.heap.size ∧
          b3 < Z.heap.size ∧ Z.cell? ⟨b3, o3 + c, none⟩ = some (.int .i64 (F0 : Int)) ∧ Z.cell? ⟨b3, o3 + (c + 1), none⟩ = some (.int .i64 (E0 : Int))) := fun Z h => by
        obtain ⟨hc, _⟩ := bcell h
        have h1 := HN.out.below h
        obtain ⟨z1, z2⟩ := h1.first2 (c := c) (by rw [← HNM.out.1]; omega)
        obtain ⟨_, z3⟩ := h1.first2 (c := c + 1) (by rw [← HNM.out.1]; omega)
        rw [hF0] at z2
        rw [hF1] at z3
        have hb := h1.bx
        rw [← HNM.out.1] at hb
        exact ⟨by simp [World.cell?, hb], by simp [World.cell?, hb], by simp [World.cell?, hb], heap_lt hb, (hc bl _ hbl).trans ql, Nat.lt_of_lt_of_le hbl h.size, (hc bA _ hbA).trans qA, Nat.lt_of_lt_of_le hbA h.size, z1, z2, z3⟩
      have HL : Hid (∀ s, s < PN → ∃ u : Pt, ∃ jj : Nat, u = lkM W ((c : Int), (s : Int)) ∧ isPt pn cs f u = true ∧ jj < M ∧ F0 + s < M ∧ ∀ Z, Below w.heap.size w Z → b1 < Z.heap.size ∧ b2 < Z.heap.size ∧ Z.cell? ⟨b2, o2 + (F0 + s), none⟩ = some (.int .i64 (jj : Int)) ∧ Z.cell? ⟨b1, o1 + jj * 2, none⟩ = some (.int .i64 u.1) ∧ Z.cell? ⟨b1, o1 + jj * 2 + 1, none⟩ = some (.int .i64 u.2)) := fun s hs => by
        have hp : isPt pn cs f ((c : Int), (s : Int)) = true := isPt_cell f (by rw [← HNM.out.1]; exact hcn) (by rw [hPN]; exact hs)
        have hq := (lkM_eq hok.out hp).2
        obtain ⟨z1, z2, z3⟩ := HN.out.link2 hok.out hp
        obtain ⟨z4, z5, z6, z7⟩ := HN.out.port2 hq
        rw [plc_cellw, hF0] at z2 z3
        refine ⟨_, _, rfl, hq, z5, z2, fun Z h => ?_⟩
        obtain ⟨hc, _⟩ := bcell h
        exact ⟨Nat.lt_of_lt_of_le z4 h.size, Nat.lt_of_lt_of_le z1 h.size, (hc _ _ z1).trans z3, (hc _ _ z4).trans z6, (hc _ _ z4).trans z7⟩
      have HMem : Hid ((c : Int) ∈ L) := hmem
      have HMr := Lib.hid hMr
      have HE0 := Lib.hid hE0
      clear hE0 hmem hbl hbA ql qA hF0 hF1 hPN hMr hcx
      obtain ⟨t0, t1, t2, t3, t4, t5, t6, t7, t8, t9, t10⟩ := HF.out wr HF5.out.2.2
      have hkl := HKL.out
      have HLJ : Hid ((CJ j 0).length = (CK j).length + 1) := by show _ = _; rw [HJ0.out]; simp
      have HRow : Hid (Row (wr.alloc (.cells #[.int .i64 ag] 3)) 3 1 (.slice V5 (CK j).length c5) (CK j).length (ivals (CK j))) := HF5.out.1.alloc _
      have HSrc : Hid (Src (wr.alloc (.cells #[.int .i64 ag] 3)) (some ⟨wr.heap.size, 0, none⟩) 1 1 [.int .i64 ag]) :=
        Src.block (cs := #[.int .i64 ag]) (t := 3) (fr := (0, 0)) (heap_alloc_new wr _) rfl (by simp [Value.oneCell'])
      have HB63 : (CK j).length + 1 ≤ maxLen := by simp only [maxLen]; omega
      have HB47 : ((CK j).length + 1) * 8 ≤ 140737488355328 := by omega
      have hj1 : (j : Int) < (L.length : Int) := by omega
      have hcn1 : (c : Int) < (n : Int) := by omega
      have hcn2 : (c : Int) < ((n + 1 : Nat) : Int) := by omega
      have hcn3 : ((c + 1 : Nat) : Int) < ((n + 1 : Nat) : Int) := by omega
      have hw1 : IntKind.i64.wrap ((c : Int) + 1) = ((c + 1 : Nat) : Int) := by rw [IntWalk.i64_in _ (by omega)]; omega
      go_wp2_with (at_builtin; go_loud (refine inPlain rfl (wpo_row_append _ _ _ rfl i0 _ 8 Tryd.underlying61 hi0 hi1 hi2 hi3 rfl rfl HRow.out _ 1 1 rfl [.int .i64 ag] HSrc.out HB63 HB47 ?_)); intro sv5 w8 r5 k5 o5; obtain ⟨V6, c6, rfl, hc6⟩ := r5.len
                   have F6 : Hid (Fresh w w8 3 1 (CJ j 0).length (.slice V6 (CJ j 0).length c6) (ivals (CJ j 0))) := by rw [HLJ.out, HJ0.out, ivals_snoc]; exact HF5.out.app k5 o5 r5
                   clear t0 t1 t2 t3 t4 t5 t6 t7 t8 t9 t10
                   obtain ⟨t0, t1, t2, t3, t4, t5, t6, t7, t8, t9, t10⟩ := HF.out w8 F6.out.2.2
                   clear k5 o5 r5)
      go_quiet (fail)
      go_wp2_with fail
      refine absW (fun Z => Below w8.heap.size w8 Z) (below_drewN (Below.refl _ _) _) ?_
      intro Z0 hZ0
      have F7 := Lib.hid (F6.out.later hZ0)
      clear t0 t1 t2 t3 t4 t5 t6 t7 t8 t9 t10 hZ0 HRow HSrc
      go_loopw [11, 13] (fun o i w9 => ∃ s : Nat, ∃ V7 c7, o = .slice V7 (CJ j s).length c7 ∧ ∃ k : Nat, i = .int .i64 (k : Int) ∧ Hid (F0 + s = k) ∧ s ≤ PN ∧ Hid (Fresh w w9 3 1 (CJ j s).length (.slice V7 (CJ j s).length c7) (ivals (CJ j s)))) (fun _ i _ => E0 - (intOf i).toNat)
      case atStart => exact ⟨0, _, _, by rw [HLJ.out], F0, rfl, Lib.hid rfl, Nat.zero_le _, F7⟩
      case round =>
        obtain ⟨s, V7, c7, rfl, k, rfl, HK, hs, HF7⟩ := hrel
        clear F7 F6 HB63 HB47
        obtain ⟨t0, t1, t2, t3, t4, t5, t6, t7, t8, t9, t10⟩ := HF.out wr HF7.out.2.2
        by_cases hls : s < PN
        · obtain ⟨u, jj, hu, huP, hjj, hFs, hcell⟩ := HL.out s hls
          simp only [HK.out] at hFs hcell
          have HCell := Lib.hid hcell
          have hsp : s < pn (cs.getD c 0) := by rw [HAg.out.2]; exact hls
          have HV : Hid (CJ j (s + 1) = CJ j s ++ [markN0 (fdOf n L) u]) := by show _ = _; rw [HJS.out s (by rw [HMr.out]; exact hls), rowP_at _ hsp, hu]
          have hmz : markN0 (fdZ n L) u = markN0 (fdOf n L) u := markZ (hhas.out u (List.mem_flatMap.2 ⟨_, HMem.out, by rw [hu]; unfold rowP; exact List.mem_map.2 ⟨s, by rw [List.mem_range, Int.toNat_natCast]; exact hsp, rfl⟩⟩)) (by rw [HNM.out.1]; exact isPt_lt huP)
          have HU := Lib.hid huP
          obtain ⟨mu, hmu⟩ : ∃ mu, markN0 (fdOf n L) u = mu := ⟨_, rfl⟩
          rw [hmu] at HV hmz
          have HMz := Lib.hid hmz
          have hjl := HJL.out s
          have HLS : Hid ((CJ j (s + 1)).length = (CJ j s).length + 1) := by show _ = _; rw [HV.out]; simp
          have HB63 : (CJ j s).length + 1 ≤ maxLen := by simp only [maxLen]; omega
          have HB47 : ((CJ j s).length + 1) * 8 ≤ 140737488355328 := by omega
          have HS63 := Lib.hid (And.intro HB63 HB47)
          have hlt2 : (k : Int) < (E0 : Int) := by have h1 := HK.out; have h2 := HE0.out; omega
          have hk63 : k ≤ 100000 := by omega
          have hjj2 : (jj : Int) < (M : Int) := by omega
          have hFs2 : (k : Int) < (M : Int) := by omega
          obtain ⟨u1, u2⟩ := u
          dsimp only at HCell
          clear hu huP hmu hmz hsp hcell HB63 HB47
          go_wp2_with fail
          go_quiet (fail)
          go_wp2_with fail
          go_upto_region 18 with fail
          refine absW (fun Z => Below wr.heap.size wr Z) (by first | exact below_drewN (below_drewN (Below.refl _ _) _) _ | exact below_drewN (Below.refl _ _) _) ?_
          intro Z hZ
          have HF8 := Lib.hid (HF7.out.later hZ)
          clear t0 t1 t2 t3 t4 t5 t6 t7 t8 t9 t10 hZ
          have HKP : Hid (∀ Y, Below w.heap.size w Y → Y.cell? ⟨B, 0, none⟩ = some (.slice (some ⟨b1, o1, none⟩) M c1) ∧ Y.cell? ⟨B, 1, none⟩ = some (.slice (some ⟨b2, o2, none⟩) M c2) ∧ Y.cell? ⟨b2, o2 + k, none⟩ = some (.int .i64 (jj : Int)) ∧ Y.cell? ⟨b1, o1 + jj * 2, none⟩ = some (.int .i64 u1) ∧ Y.cell? ⟨b1, o1 + jj * 2 + 1, none⟩ = some (.int .i64 u2)) := fun Y hb' => by
            obtain ⟨x0, x1, _⟩ := HF.out Y hb'
            obtain ⟨_, _, x2, x3, x4⟩ := HCell.out Y hb'
            exact ⟨x0, x1, x2, x3, x4⟩
          have hk0 := HKP.out Z HF8.out.2.2
          have HMk : Hid (∀ Y, Below Z.heap.size Z Y → Calls Tryd.prog 107 #[.agg #[.int .i64 u1, .int .i64 u2], .slice VF n cF] Y fun e w' => e = .returned (.int .i64 mu) ∧ Below Y.heap.size Y w') := fun Y hb => by
            have hb' := HF8.out.2.2.trans (hb.mono HF8.out.2.2.size)
            refine (rmark VF n cF (fdZ n L) Y pn cs f (u1, u2) (Lib.hid (HFd.out.below hb')) (fdZ_len _ _) HNM.out.1 hn2 HU.out hfr h7 hbd.out).mono ?_
            rintro e w10 ⟨rfl, hb10⟩
            rw [HMz.out]
            exact ⟨rfl, hb10⟩
          have HSr : Hid (∀ (Y : World) (b : Nat), Y.heap[b]? = some (.cells #[.int .i64 mu] 3 (0, 0)) → Src Y (some ⟨b, 0, none⟩) 1 1 [.int .i64 mu]) := fun Y b h => Src.block (cs := #[.int .i64 mu]) (t := 3) (fr := (0, 0)) h rfl (by simp [Value.oneCell'])
          obtain ⟨_, _, q0, q1, q2, q3, _⟩ := HF.out Z HF8.out.2.2
          obtain ⟨y1, y2, _⟩ := HCell.out Z HF8.out.2.2
          clear q0 q1
          have r1 : (0 : Int) ≤ (k : Int) := by omega
          have r3 : (0 : Int) ≤ (jj : Int) := by omega
          go_region_held3 (fun Y => Y.cell? ⟨B, 0, none⟩ = some (.slice (some ⟨b1, o1, none⟩) M c1) ∧ Y.cell? ⟨B, 1, none⟩ = some (.slice (some ⟨b2, o2, none⟩) M c2) ∧ Y.cell? ⟨b2, o2 + k, none⟩ = some (.int .i64 (jj : Int)) ∧ Y.cell? ⟨b1, o1 + jj * 2, none⟩ = some (.int .i64 u1) ∧ Y.cell? ⟨b1, o1 + jj * 2 + 1, none⟩ = some (.int .i64 u2))
            (first | exact HKP.out _ F9.out.2.2 | exact HKP.out _ HF9.out.2.2 | exact HKP.out _ (HF9.out.2.2.trans (Below.mono (by (repeat (first | exact Below.refl _ _ | (with_reducible refine Below.drew ?_) | (with_reducible refine Below.alloc ?_ (by (try simp); (try omega)) _) | (with_reducible refine Below.setCell ?_ (by (try simp); (try omega)) _) | (with_reducible refine Below.trans ?_ (Below.mono (by assumption) (by (try simp); (try omega))))))) HF9.out.2.2.size)) | exact HKP.out _ (HF8.out.2.2.trans (Below.mono (by (repeat (first | exact Below.refl _ _ | (with_reducible refine Below.drew ?_) | (with_reducible refine Below.alloc ?_ (by (try simp); (try omega)) _) | (with_reducible refine Below.setCell ?_ (by (try simp); (try omega)) _) | (with_reducible refine Below.trans ?_ (Below.mono (by assumption) (by (try simp); (try omega))))))) HF8.out.2.2.size)))
            (first
              | ((with_reducible refine (HMk.out _ (by (repeat (first | exact Below.refl _ _ | (with_reducible refine Below.drew ?_) | (with_reducible refine Below.alloc ?_ (by (try simp); (try omega)) _) | (with_reducible refine Below.setCell ?_ (by (try simp); (try omega)) _) | (with_reducible refine Below.trans ?_ (Below.mono (by assumption) (by (try simp); (try omega)))))))).mono ?_); rintro e w10 ⟨rfl, hb10⟩; dsimp only
                 have hz10 : Below Z.heap.size Z w10 := Below.trans (by (repeat (first | exact Below.refl _ _ | (with_reducible refine Below.drew ?_) | (with_reducible refine Below.alloc ?_ (by (try simp); (try omega)) _) | (with_reducible refine Below.setCell ?_ (by (try simp); (try omega)) _) | (with_reducible refine Below.trans ?_ (Below.mono (by assumption) (by (try simp); (try omega))))))) hb10
                 have HF9 := Lib.hid (HF8.out.later hz10)
                 have hs10 : Z.heap.size ≤ w10.heap.size := hz10.size
                 clear hz10 hb10)
              | (refine inDraw (by rfl) (wpo_row_append _ _ _ (by rfl) i0 _ 8 Tryd.underlying61 hi0 hi1 hi2 hi3 (by rfl) (by rfl) (HF9.out.1.alloc _) _ 1 1 (by rfl) [.int .i64 mu] (HSr.out _ _ (heap_alloc_new _ _)) HS63.out.1 HS63.out.2 ?_); intro sv5 w11 r5 k5 o5; obtain ⟨V8, c8, rfl, hc8⟩ := r5.len
                 have F9 : Hid (Fresh w w11 3 1 (CJ j (s + 1)).length (.slice V8 (CJ j (s + 1)).length c8) (ivals (CJ j (s + 1)))) := by rw [HLS.out, HV.out, ivals_snoc]; exact HF9.out.app k5 o5 r5
                 clear r5 k5 o5))
          go_wp2_with fail
          refine ⟨?rel, ?measure⟩
          case rel => exact ⟨s + 1, V8, c8, by rw [HLS.out], k + 1, by go_num, Lib.hid (by have := HK.out; omega), by omega, F9⟩
          case measure => simp [intOf]; omega
        · obtain rfl : s = PN := by omega
          obtain rfl : k = E0 := by have h1 := HK.out; have h2 := HE0.out; omega
          go_wp2_with fail
          go_quiet (fail)
          go_wp2_with fail
          refine ⟨?rel, ?measure⟩
          case rel =>
            have e : CK (j + 1) = CJ j s := by rw [HJ1.out, HMr.out]
            refine ⟨j + 1, V7, c7, by rw [e], by go_num, by omega, ?_⟩
            rw [e]
            exact Lib.hid (HF7.out.later (below_drewN (Below.refl _ _) _))
          case measure => simp [intOf]; omega
    · obtain rfl : j = L.length := by omega
      repeat (first
        | exact hret.out _ _ _ _ ⟨rfl, rfl, rfl, trivial⟩ HF5.out
        | go_values | go_skip | go_guarded | go_step | go_upon | go_back)
end
end Go.Proofs.YtkonfogebepccaaDoor
