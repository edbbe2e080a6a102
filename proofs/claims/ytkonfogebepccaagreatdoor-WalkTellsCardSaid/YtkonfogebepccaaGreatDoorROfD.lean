/-
  The document's Of: its loop over the free ports.
-/
import Derived.Test.YtkonfogebepccaaGreatDoorPartsDoc
import Derived.Test.YtkonfogebepccaaGreatDoorROfC
import Derived.Test.YtkonfogebepccaaGreatDoorTakeF
import Derived.BigQuiet
/-
  Plain: what the document reads of a free port.
-/
namespace Go.Proofs.YtkonfogebepccaaGreatDoor
open Go.RowKit
set_option linter.unusedVariables false
theorem isPt_split {pn : Int → Nat} {cells : List Int} {f : Nat} {r : Pt} (h : isPt pn cells f r = true) (h0 : 0 ≤ r.1) : ∃ c s : Nat, r = ((c : Int), (s : Int)) ∧ c < cells.length ∧ s < pn (cells.getD c 0) := by
  obtain ⟨a, b⟩ := r
  dsimp only at h0
  unfold isPt at h
  rw [if_neg (by show ¬ a = -1; omega)] at h
  simp only [decide_eq_true_eq] at h
  obtain ⟨c, rfl⟩ := Int.eq_ofNat_of_zero_le h0
  obtain ⟨s, rfl⟩ := Int.eq_ofNat_of_zero_le h.2.2.1
  rw [Int.toNat_natCast] at h
  exact ⟨c, s, rfl, by omega, by omega⟩
theorem isPt_lo {pn : Int → Nat} {cells : List Int} {f : Nat} {r : Pt} (h : isPt pn cells f r = true) (h0 : r.1 < 0) : ∃ i : Nat, r = ((-1 : Int), (i : Int)) ∧ i < f := by
  obtain ⟨a, b⟩ := r
  dsimp only at h0
  unfold isPt at h
  split at h
  · rename_i h1
    dsimp only at h1
    simp only [decide_eq_true_eq] at h
    obtain ⟨i, rfl⟩ := Int.eq_ofNat_of_zero_le h.1
    exact ⟨i, by rw [h1], by omega⟩
  · simp only [decide_eq_true_eq] at h; omega
section
variable {pn : Int → Nat} {cells : List Int} {f : Nat} {W : List (Pt × Pt)}
theorem isPt_fr {i : Nat} (hi : i < f) : isPt pn cells f (-1, (i : Int)) = true := by simp [isPt, hi]
theorem plc_free (i : Nat) : plc pn cells f (-1, (i : Int)) = i := by simp [plc]
theorem all_at {p : Pt} (hp : isPt pn cells f p = true) : (allPs pn cells f).getD (plc pn cells f p) default = p := by
  rw [List.getD_eq_getElem?_getD, allPs_plc pn hp]; rfl
theorem lk_at (h : NetOk pn cells f W) {p : Pt} (hp : isPt pn cells f p = true) : (lkK pn cells f W W.length).getD (plc pn cells f p) 0 = (plc pn cells f (lkM W p) : Int) := by
  obtain ⟨q, hq, hqi⟩ := h.lnk hp
  have hk := lkK_at h (Nat.le_refl W.length) hp (by rw [List.take_length]; exact hq)
  rw [List.getD_eq_getElem?_getD, hk]
  simp [lkM, hq]
theorem all_cell (h : f < firstN pn cells f cells.length) : 0 ≤ ((allPs pn cells f).getD f default).1 := by
  rw [← allPs_len] at h
  have e : (allPs pn cells f)[f]? = some (allPs pn cells f)[f] := List.getElem?_eq_getElem h
  rw [List.getD_eq_getElem?_getD, e, Option.getD_some]
  have hp := plc_at pn e
  have hi := allPs_is pn (List.getElem_mem h)
  generalize (allPs pn cells f)[f] = p at hp hi
  obtain ⟨c, s⟩ := p
  show 0 ≤ c
  unfold isPt at hi
  unfold plc at hp
  by_cases hc : c = -1
  · rw [if_pos hc] at hi hp
    simp at hi
    simp at hp
    omega
  · rw [if_neg hc] at hi
    simp at hi
    exact hi.1
/-- A free port: its place, what it is linked to. -/
theorem of_free (h : NetOk pn cells f W) {i : Nat} (hi : i < f) : ∃ q : Pt, lkM W (-1, (i : Int)) = q ∧ isPt pn cells f q = true ∧ plc pn cells f q < firstN pn cells f cells.length ∧ (lkK pn cells f W W.length).getD i 0 = (plc pn cells f q : Int) ∧ (allPs pn cells f).getD (plc pn cells f q) default = q ∧ (allPs pn cells f).getD i default = ((-1 : Int), (i : Int)) ∧ i < firstN pn cells f cells.length ∧ q.1 < cells.length ∧ -1 ≤ q.1 := by
  have hpi : isPt pn cells f (-1, (i : Int)) = true := isPt_fr hi
  have hq := (lkM_eq h hpi).2
  have h1 := lk_at h hpi
  have h2 := all_at hpi
  have h3 := plc_lt pn hpi
  rw [plc_free] at h1 h2 h3
  refine ⟨_, rfl, hq, plc_lt pn hq, h1, all_at hq, h2, h3, lkM_lt h _, ?_⟩
  unfold isPt at hq
  split at hq
  · omega
  · simp at hq; omega
end
end Go.Proofs.YtkonfogebepccaaGreatDoor
namespace Go.Proofs.YtkonfogebepccaaGreatDoor
open Go.RowKit
attribute [local go_sem] cell_set
attribute [local go_sem] Oper.semAt_some
set_option maxRecDepth 100000
set_option linter.unusedVariables false
theorem OfP.below {X0 X Y : World} {b8 : Nat} {xs ys : List Int} (h : OfP X0 X b8 xs ys) (hb : Below X.heap.size X Y) : OfP X0 Y b8 xs ys := by
  obtain ⟨h1, h2, a, b, h3, h4, h5, h6, h7, h8⟩ := h
  exact ⟨h1.thenBelow hb, h2, a, b, (hb.block _ (heap_lt h3)).trans h3, h4.keep fun y hy => hb.block y (h4.lt y hy), h5.keep fun y hy => hb.block y (h5.lt y hy), h6, h7, h8⟩
/-- What Of reads: the net that is looked at. -/
structure OfR (Z : World) (b2 g n M : Nat) (V1 V2 V3 : Option Addr) (c1 c2 c3 : Nat) (P : List Pt) (K : List Int) (wl : List Int) : Prop where
  n0 : Z.cell? ⟨b2, 0, none⟩ = some (.slice V1 M c1)
  n1 : Z.cell? ⟨b2, 1, none⟩ = some (.slice V2 M c2)
  lt : b2 < Z.heap.size
  p : PtsRd Z V1 P
  k : IntsRd Z V2 K
  s : Row Z 4 1 (.slice (some ⟨g, 0, none⟩) n n) n (seenB n wl)
section
variable (Q : Exit → Act → World → Prop) (X0 : World) (g n b2 b4 b8 : Nat) (V1 V2 V3 V : Option Addr) (c1 c2 c3 c M f : Nat) (pn : Int → Nat) (cells : List Int) (W : List (Pt × Pt)) (p : Pt) (at' : Int) (wl xs : List Int)
theorem nd2 {a b : Prop} (h1 : ¬ a) (h2 : ¬ b) : ¬ (a ∨ b) := by simp [h1, h2]
set_option maxHeartbeats 8000000 in
theorem of_14 (m kp : Nat) (a : Act) (X : World) (k : Nat) (hk : k ≤ f) (hf5 : f ≤ 100000) (hM5 : M ≤ 100000) (hm5 : m ≤ 100000) (hm : wl.length = m) (hat : at' = (kp : Int)) (hn : n = cells.length) (hn5 : n ≤ 100000) (hM : firstN pn cells f cells.length = M) (hok : Hid (NetOk pn cells f W)) (hp : Hid (isPt pn cells f p = true ∧ wlk pn cells (lkM W) p = wl ∧ plc pn cells f p = kp))
    (hR : Hid (∀ Z, Kp [b8] X0 Z → OfR Z b2 g n M V1 V2 V3 c1 c2 c3 (allPs pn cells f) (lkK pn cells f W W.length) wl)) (hI : Hid (OfP X0 X b8 xs (frL k (lkM W) p wl)))
    (hgo : Hid (∀ a' X', k < f → FrN 106 [] [(1, .int .i64 at'), (2, .pointer (some ⟨b2, 0, none⟩)), (4, .pointer (some ⟨b4, 0, none⟩)), (5, .slice (some ⟨g, 0, none⟩) n n), (6, .slice V m c), (8, .pointer (some ⟨b8, 0, none⟩)), (10, .int .i64 ((k + 1 : Nat) : Int))] a' → OfP X0 X' b8 xs (frL (k + 1) (lkM W) p wl) → Q .normal a' X'))
    (hout : Hid (∀ a' X', FrN 106 [] [(1, .int .i64 at'), (2, .pointer (some ⟨b2, 0, none⟩)), (4, .pointer (some ⟨b4, 0, none⟩)), (5, .slice (some ⟨g, 0, none⟩) n n), (6, .slice V m c), (8, .pointer (some ⟨b8, 0, none⟩))] a' → k = f → OfP X0 X' b8 xs (frL k (lkM W) p wl) → Q (.exit 4) a' X'))
    (ha : FrN 106 [] [(1, .int .i64 at'), (2, .pointer (some ⟨b2, 0, none⟩)), (4, .pointer (some ⟨b4, 0, none⟩)), (5, .slice (some ⟨g, 0, none⟩) n n), (6, .slice V m c), (8, .pointer (some ⟨b8, 0, none⟩)), (10, .int .i64 (k : Int))] a) : (ofT 14).wp Tryz.prog Q a X := by
  subst hat
  obtain ⟨U, rfl, e1, e2, e4, e5, e6, e8, e10, -⟩ := ha.openOF
  unfold FrOF
  simp only [e1, e2, e4, e5, e6, e8, e10]
  clear e1 e2 e4 e5 e6 e8 e10 ha
  show (Code.seq _ _).wp _ _ _ _
  obtain ⟨x0, x1, xl, xp, xk, xs1⟩ := hR.out X hI.out.1
  by_cases hlt : k < f
  · have HLT : Hid (k < f) := hlt
    obtain ⟨q, hq, hqi, hql, hK, hPq, hPk, hkM, hqn, hq1⟩ := of_free (pn := pn) (cells := cells) hok.out hlt
    have HD := Lib.hid (frC_doc hok.out hp.out.1 hlt)
    rw [hq, hp.out.2.1, hp.out.2.2] at HD
    rw [hM] at hql hkM
    obtain ⟨b1, o1, rfl, hb1, f0, f1⟩ := xp k (by rw [allPs_len, hM]; exact hkM)
    rw [hPk] at f0 f1
    obtain ⟨d0, d1⟩ : X.cell? ⟨b1, o1 + plc pn cells f q * 2, none⟩ = some (.int .i64 q.1) ∧ X.cell? ⟨b1, o1 + plc pn cells f q * 2 + 1, none⟩ = some (.int .i64 q.2) := by
      obtain ⟨b1', o1', e, _, h0, h1⟩ := xp (plc pn cells f q) (by rw [allPs_len, hM]; exact hql)
      simp only [Option.some.injEq, Addr.mk.injEq, and_true] at e
      obtain ⟨rfl, rfl⟩ := e
      rw [hPq] at h0 h1
      exact ⟨h0, h1⟩
    obtain ⟨b9, o9, rfl, hb9, g0⟩ := xk k (by rw [lkK_len, hM]; exact hkM)
    rw [hK] at g0
    generalize hkq : plc pn cells f q = kq at *
    have hk1 : (k : Int) < (M : Int) := by omega
    have hk2 : (kq : Int) < (M : Int) := by omega
    have HC : Hid (∀ Z, OfP X0 Z b8 xs (frL k (lkM W) p wl) → Z.cell? ⟨b2, 0, none⟩ = some (.slice (some ⟨b1, o1, none⟩) M c1) ∧ Z.cell? ⟨b2, 1, none⟩ = some (.slice (some ⟨b9, o9, none⟩) M c2) ∧ b2 < Z.heap.size ∧ Z.cell? ⟨b9, o9 + k, none⟩ = some (.int .i64 (kq : Int)) ∧ ∀ c, c < n → Z.cell? ⟨g, c, none⟩ = some (.bool (decide ((c : Int) ∈ wl)))) := fun Z hZ => by
      obtain ⟨y0, y1, yl, yp, yk, ys1⟩ := hR.out Z hZ.1
      refine ⟨y0, y1, yl, ?_, fun c hc => ?_⟩
      · obtain ⟨b', o', e, _, h0⟩ := yk k (by rw [lkK_len, hM]; exact hkM)
        simp only [Option.some.injEq, Addr.mk.injEq, and_true] at e
        obtain ⟨rfl, rfl⟩ := e
        rw [hK] at h0
        exact h0
      · have := (ys1.cellAt c (by omega)).trans (seenB_at wl hc)
        simpa using this
    have HM := Lib.hid (And.intro hm (And.intro hn hM))
    have HQN : Hid (isPt pn cells f q = true) := hqi
    have HWL : Hid (wl = [] ↔ m = 0) := by show _ ↔ _; rw [← hm]; exact List.length_eq_zero_iff.symm
    clear hq hqi hql hK hPq hPk hkM hq1 hM hm xp xk xs1 hkq hb1 hb9 hlt d1 f1
    have HN := Lib.hid hn
    clear hn
    dsimp only at f0
    obtain ⟨i0, hi0, hi1, hi2, hi3⟩ := info_parts int_info
    rcases Int.lt_or_le q.1 0 with hq0 | hq0
    · obtain ⟨j, rfl, hj⟩ := isPt_lo HQN.out hq0
      clear hq0 hj
      dsimp only at d0 hqn
      go_upto_region 16 with fail
      go_quiet (fail)
      go_upto_region 17 with fail
      refine absW (fun Z => OfP X0 Z b8 xs (frL k (lkM W) p wl)) (hI.out.below (below_drewN (Below.refl _ _) _)) ?_
      intro Y hY
      have HY := Lib.hid hY
      obtain ⟨y0, y1, yl, y2, y3⟩ := HC.out Y hY
      clear hY x0 x1 xl f0 d0 g0
      have HNA : Hid (¬ (0 ≤ (-1 : Int) ∧ (-1 : Int) ∈ wl)) := (fun h => absurd h.1 (by show ¬ (0 : Int) ≤ -1; decide))
      by_cases hm0 : m = 0
      · subst hm0
        by_cases e1 : k = kp
        · subst e1
          have HS : Hid (frL (k + 1) (lkM W) p wl = frL k (lkM W) p wl ++ [(k : Int)]) := frL_in (HD.out.1 (.inr ⟨HWL.out.2 rfl, .inl rfl⟩))
          obtain ⟨hI1, hI2, av, bv, hI3, hI4, hI5, hI6, hI7, hI8⟩ := HY.out
          obtain ⟨ys, hys⟩ : ∃ ys, frL k (lkM W) p wl = ys := ⟨_, rfl⟩
          have hyl : ys.length ≤ k := by rw [← hys]; exact frL_len _ _ _ _
          rw [hys] at hI5 HS
          obtain ⟨q, hq⟩ : ∃ q, ys.length = q := ⟨_, rfl⟩
          have HQ := Lib.hid hq
          obtain ⟨Va, cva, rfl, _⟩ := hI5.len
          have y8 : Y.cell? ⟨b8, 1, none⟩ = some (.slice Va ys.length cva) := by simp [World.cell?, hI3]
          have HRw : Hid (Row (Y.alloc (.cells #[.int .i64 (k : Int)] 3)) 3 1 (.slice Va q cva) q (ivals ys)) := by
            rw [hq] at hI5; exact hI5.alloc _
          have HSr : Hid (Src (Y.alloc (.cells #[.int .i64 (k : Int)] 3)) (some ⟨Y.heap.size, 0, none⟩) 1 1 [.int .i64 (k : Int)]) := Src.block (cs := #[.int .i64 (k : Int)]) (t := 3) (fr := (0, 0)) (heap_alloc_new Y _) rfl (by simp [Value.oneCell'])
          have hg63 : q + 1 ≤ maxLen := by simp only [maxLen]; omega
          have hg47 : (q + 1) * 8 ≤ 140737488355328 := by omega
          have HI9 := Lib.hid (And.intro hI1 (And.intro hI2 (And.intro hI3 (And.intro hI4 (And.intro hI6 (And.intro hI7 hI8))))))
          rw [hq] at y8
          clear hI1 hI2 hI3 hI4 hI5 hI6 hI7 hI8 hys hq HY
          go_wp2_with (at_builtin; go_loud (refine inPlain rfl (wpo_row_append _ _ _ rfl i0 _ 8 Tryz.underlying23 hi0 hi1 hi2 hi3 rfl rfl HRw.out _ 1 1 rfl [.int .i64 (k : Int)] HSr.out hg63 hg47 ?_)); intro sv5 w5 r5 k5 o5; obtain ⟨V5, cp5, rfl, hc5⟩ := r5.len
                       change Kp (ownB (.slice Va q cva)) _ w5 at k5
                       change ownB (.slice V5 (q + 1) cp5) = ownB (.slice Va q cva) ∨ ownB (.slice V5 (q + 1) cp5) = [_] at o5
                       obtain ⟨h1, h2, h3, h4, h6, h7, h8⟩ := HI9.out
                       rw [HQ.out] at h3 h7 h8
                       have A5 := OfP.app1 (ys := ys) h1 h2 h3 h4 h6 h7 h8 (by rw [HQ.out]; exact r5) k5 (o5.imp id fun e y hy => by rw [e] at hy; simp at hy; omega)
                       obtain ⟨⟨z2, z3⟩, A6⟩ := A5
                       have HA6 := Lib.hid A6
                       clear A6 k5 o5 r5 h1 h2 h3 h4 h6 h7 h8)
          exact hgo.out _ _ HLT.out ⟨rfl, rfl, rfl, rfl, rfl, rfl, rfl, rfl, rfl, trivial⟩ (by rw [HS.out]; exact HA6.out)
        · have g1 : ((k : Int) == (kp : Int)) = false := by simp; omega
          have g2 : decide ((k : Int) = (kp : Int)) = false := by simp; omega
          have HE1 := Lib.hid e1
          clear e1
          by_cases e2 : kq = kp
          · subst e2
            have HS : Hid (frL (k + 1) (lkM W) p wl = frL k (lkM W) p wl ++ [(k : Int)]) := frL_in (HD.out.1 (.inr ⟨HWL.out.2 rfl, .inr rfl⟩))
            obtain ⟨hI1, hI2, av, bv, hI3, hI4, hI5, hI6, hI7, hI8⟩ := HY.out
            obtain ⟨ys, hys⟩ : ∃ ys, frL k (lkM W) p wl = ys := ⟨_, rfl⟩
            have hyl : ys.length ≤ k := by rw [← hys]; exact frL_len _ _ _ _
            rw [hys] at hI5 HS
            obtain ⟨q, hq⟩ : ∃ q, ys.length = q := ⟨_, rfl⟩
            have HQ := Lib.hid hq
            obtain ⟨Va, cva, rfl, _⟩ := hI5.len
            have y8 : Y.cell? ⟨b8, 1, none⟩ = some (.slice Va ys.length cva) := by simp [World.cell?, hI3]
            have HRw : Hid (Row (Y.alloc (.cells #[.int .i64 (k : Int)] 3)) 3 1 (.slice Va q cva) q (ivals ys)) := by
              rw [hq] at hI5; exact hI5.alloc _
            have HSr : Hid (Src (Y.alloc (.cells #[.int .i64 (k : Int)] 3)) (some ⟨Y.heap.size, 0, none⟩) 1 1 [.int .i64 (k : Int)]) := Src.block (cs := #[.int .i64 (k : Int)]) (t := 3) (fr := (0, 0)) (heap_alloc_new Y _) rfl (by simp [Value.oneCell'])
            have hg63 : q + 1 ≤ maxLen := by simp only [maxLen]; omega
            have hg47 : (q + 1) * 8 ≤ 140737488355328 := by omega
            have HI9 := Lib.hid (And.intro hI1 (And.intro hI2 (And.intro hI3 (And.intro hI4 (And.intro hI6 (And.intro hI7 hI8))))))
            rw [hq] at y8
            clear hI1 hI2 hI3 hI4 hI5 hI6 hI7 hI8 hys hq HY
            go_wp2_with (at_builtin; go_loud (refine inPlain rfl (wpo_row_append _ _ _ rfl i0 _ 8 Tryz.underlying23 hi0 hi1 hi2 hi3 rfl rfl HRw.out _ 1 1 rfl [.int .i64 (k : Int)] HSr.out hg63 hg47 ?_)); intro sv5 w5 r5 k5 o5; obtain ⟨V5, cp5, rfl, hc5⟩ := r5.len
                         change Kp (ownB (.slice Va q cva)) _ w5 at k5
                         change ownB (.slice V5 (q + 1) cp5) = ownB (.slice Va q cva) ∨ ownB (.slice V5 (q + 1) cp5) = [_] at o5
                         obtain ⟨h1, h2, h3, h4, h6, h7, h8⟩ := HI9.out
                         rw [HQ.out] at h3 h7 h8
                         have A5 := OfP.app1 (ys := ys) h1 h2 h3 h4 h6 h7 h8 (by rw [HQ.out]; exact r5) k5 (o5.imp id fun e y hy => by rw [e] at hy; simp at hy; omega)
                         obtain ⟨⟨z2, z3⟩, A6⟩ := A5
                         have HA6 := Lib.hid A6
                         clear A6 k5 o5 r5 h1 h2 h3 h4 h6 h7 h8)
            exact hgo.out _ _ HLT.out ⟨rfl, rfl, rfl, rfl, rfl, rfl, rfl, rfl, rfl, trivial⟩ (by rw [HS.out]; exact HA6.out)
          · have g3 : ((kq : Int) == (kp : Int)) = false := by simp; omega
            have g4 : decide ((kq : Int) = (kp : Int)) = false := by simp; omega
            have HE2 := Lib.hid e2
            clear e2
            have HS : Hid (frL (k + 1) (lkM W) p wl = frL k (lkM W) p wl) := by
              refine frL_out ?_
              cases e : frC (lkM W) p wl k with
              | false => rfl
              | true => exact absurd (HD.out.2 e) (nd2 HNA.out (fun h => h.2.elim HE1.out HE2.out))
            repeat (first | ((with_reducible refine hgo.out _ _ ?_ ?_ ?_); (· exact HLT.out); (· exact ⟨rfl, rfl, rfl, rfl, rfl, rfl, rfl, rfl, rfl, trivial⟩); (· (rw [HS.out]; exact HY.out))) | go_values | go_skip | go_guarded | go_step | go_upon | go_back)
      · have g1 : ((m : Int) == 0) = false := by simp; omega
        have g2 : decide ((m : Int) = 0) = false := by simp; omega
        have HE := Lib.hid hm0
        clear hm0
        have HS : Hid (frL (k + 1) (lkM W) p wl = frL k (lkM W) p wl) := by
          refine frL_out ?_
          cases e : frC (lkM W) p wl k with
          | false => rfl
          | true => exact absurd (HD.out.2 e) (nd2 HNA.out (fun h => HE.out (HWL.out.1 h.1)))
        repeat (first | ((with_reducible refine hgo.out _ _ ?_ ?_ ?_); (· exact HLT.out); (· exact ⟨rfl, rfl, rfl, rfl, rfl, rfl, rfl, rfl, rfl, trivial⟩); (· (rw [HS.out]; exact HY.out))) | go_values | go_skip | go_guarded | go_step | go_upon | go_back)
    · obtain ⟨c', s', rfl, hc', hs'⟩ := isPt_split HQN.out hq0
      clear hq0
      dsimp only at d0 hqn
      have hcn : c' < n := by rw [HN.out]; exact hc'
      have hcn2 : (c' : Int) < (n : Int) := by omega
      clear hc' hs'
      go_upto_region 16 with fail
      go_quiet (fail)
      go_upto_region 17 with fail
      refine absW (fun Z => OfP X0 Z b8 xs (frL k (lkM W) p wl)) (hI.out.below (below_drewN (Below.refl _ _) _)) ?_
      intro Y hY
      have HY := Lib.hid hY
      obtain ⟨y0, y1, yl, y2, y3⟩ := HC.out Y hY
      clear hY x0 x1 xl f0 d0 g0
      have s1 := y3 c' hcn
      by_cases hin : (c' : Int) ∈ wl
      · rw [decide_eq_true hin] at s1
        clear y3
        have HS : Hid (frL (k + 1) (lkM W) p wl = frL k (lkM W) p wl ++ [(k : Int)]) := frL_in (HD.out.1 (.inl ⟨by show (0 : Int) ≤ c'; omega, hin⟩))
        obtain ⟨hI1, hI2, av, bv, hI3, hI4, hI5, hI6, hI7, hI8⟩ := HY.out
        obtain ⟨ys, hys⟩ : ∃ ys, frL k (lkM W) p wl = ys := ⟨_, rfl⟩
        have hyl : ys.length ≤ k := by rw [← hys]; exact frL_len _ _ _ _
        rw [hys] at hI5 HS
        obtain ⟨q, hq⟩ : ∃ q, ys.length = q := ⟨_, rfl⟩
        have HQ := Lib.hid hq
        obtain ⟨Va, cva, rfl, _⟩ := hI5.len
        have y8 : Y.cell? ⟨b8, 1, none⟩ = some (.slice Va ys.length cva) := by simp [World.cell?, hI3]
        have HRw : Hid (Row (Y.alloc (.cells #[.int .i64 (k : Int)] 3)) 3 1 (.slice Va q cva) q (ivals ys)) := by
          rw [hq] at hI5; exact hI5.alloc _
        have HSr : Hid (Src (Y.alloc (.cells #[.int .i64 (k : Int)] 3)) (some ⟨Y.heap.size, 0, none⟩) 1 1 [.int .i64 (k : Int)]) := Src.block (cs := #[.int .i64 (k : Int)]) (t := 3) (fr := (0, 0)) (heap_alloc_new Y _) rfl (by simp [Value.oneCell'])
        have hg63 : q + 1 ≤ maxLen := by simp only [maxLen]; omega
        have hg47 : (q + 1) * 8 ≤ 140737488355328 := by omega
        have HI9 := Lib.hid (And.intro hI1 (And.intro hI2 (And.intro hI3 (And.intro hI4 (And.intro hI6 (And.intro hI7 hI8))))))
        rw [hq] at y8
        clear hI1 hI2 hI3 hI4 hI5 hI6 hI7 hI8 hys hq HY
        go_wp2_with (at_builtin; go_loud (refine inPlain rfl (wpo_row_append _ _ _ rfl i0 _ 8 Tryz.underlying23 hi0 hi1 hi2 hi3 rfl rfl HRw.out _ 1 1 rfl [.int .i64 (k : Int)] HSr.out hg63 hg47 ?_)); intro sv5 w5 r5 k5 o5; obtain ⟨V5, cp5, rfl, hc5⟩ := r5.len
                     change Kp (ownB (.slice Va q cva)) _ w5 at k5
                     change ownB (.slice V5 (q + 1) cp5) = ownB (.slice Va q cva) ∨ ownB (.slice V5 (q + 1) cp5) = [_] at o5
                     obtain ⟨h1, h2, h3, h4, h6, h7, h8⟩ := HI9.out
                     rw [HQ.out] at h3 h7 h8
                     have A5 := OfP.app1 (ys := ys) h1 h2 h3 h4 h6 h7 h8 (by rw [HQ.out]; exact r5) k5 (o5.imp id fun e y hy => by rw [e] at hy; simp at hy; omega)
                     obtain ⟨⟨z2, z3⟩, A6⟩ := A5
                     have HA6 := Lib.hid A6
                     clear A6 k5 o5 r5 h1 h2 h3 h4 h6 h7 h8)
        exact hgo.out _ _ HLT.out ⟨rfl, rfl, rfl, rfl, rfl, rfl, rfl, rfl, rfl, trivial⟩ (by rw [HS.out]; exact HA6.out)
      · rw [decide_eq_false hin] at s1
        have HIN := Lib.hid hin
        clear y3 hin
        have HNA : Hid (¬ (0 ≤ (c' : Int) ∧ (c' : Int) ∈ wl)) := (fun h => HIN.out h.2)
        by_cases hm0 : m = 0
        · subst hm0
          by_cases e1 : k = kp
          · subst e1
            have HS : Hid (frL (k + 1) (lkM W) p wl = frL k (lkM W) p wl ++ [(k : Int)]) := frL_in (HD.out.1 (.inr ⟨HWL.out.2 rfl, .inl rfl⟩))
            obtain ⟨hI1, hI2, av, bv, hI3, hI4, hI5, hI6, hI7, hI8⟩ := HY.out
            obtain ⟨ys, hys⟩ : ∃ ys, frL k (lkM W) p wl = ys := ⟨_, rfl⟩
            have hyl : ys.length ≤ k := by rw [← hys]; exact frL_len _ _ _ _
            rw [hys] at hI5 HS
            obtain ⟨q, hq⟩ : ∃ q, ys.length = q := ⟨_, rfl⟩
            have HQ := Lib.hid hq
            obtain ⟨Va, cva, rfl, _⟩ := hI5.len
            have y8 : Y.cell? ⟨b8, 1, none⟩ = some (.slice Va ys.length cva) := by simp [World.cell?, hI3]
            have HRw : Hid (Row (Y.alloc (.cells #[.int .i64 (k : Int)] 3)) 3 1 (.slice Va q cva) q (ivals ys)) := by
              rw [hq] at hI5; exact hI5.alloc _
            have HSr : Hid (Src (Y.alloc (.cells #[.int .i64 (k : Int)] 3)) (some ⟨Y.heap.size, 0, none⟩) 1 1 [.int .i64 (k : Int)]) := Src.block (cs := #[.int .i64 (k : Int)]) (t := 3) (fr := (0, 0)) (heap_alloc_new Y _) rfl (by simp [Value.oneCell'])
            have hg63 : q + 1 ≤ maxLen := by simp only [maxLen]; omega
            have hg47 : (q + 1) * 8 ≤ 140737488355328 := by omega
            have HI9 := Lib.hid (And.intro hI1 (And.intro hI2 (And.intro hI3 (And.intro hI4 (And.intro hI6 (And.intro hI7 hI8))))))
            rw [hq] at y8
            clear hI1 hI2 hI3 hI4 hI5 hI6 hI7 hI8 hys hq HY
            go_wp2_with (at_builtin; go_loud (refine inPlain rfl (wpo_row_append _ _ _ rfl i0 _ 8 Tryz.underlying23 hi0 hi1 hi2 hi3 rfl rfl HRw.out _ 1 1 rfl [.int .i64 (k : Int)] HSr.out hg63 hg47 ?_)); intro sv5 w5 r5 k5 o5; obtain ⟨V5, cp5, rfl, hc5⟩ := r5.len
                         change Kp (ownB (.slice Va q cva)) _ w5 at k5
                         change ownB (.slice V5 (q + 1) cp5) = ownB (.slice Va q cva) ∨ ownB (.slice V5 (q + 1) cp5) = [_] at o5
                         obtain ⟨h1, h2, h3, h4, h6, h7, h8⟩ := HI9.out
                         rw [HQ.out] at h3 h7 h8
                         have A5 := OfP.app1 (ys := ys) h1 h2 h3 h4 h6 h7 h8 (by rw [HQ.out]; exact r5) k5 (o5.imp id fun e y hy => by rw [e] at hy; simp at hy; omega)
                         obtain ⟨⟨z2, z3⟩, A6⟩ := A5
                         have HA6 := Lib.hid A6
                         clear A6 k5 o5 r5 h1 h2 h3 h4 h6 h7 h8)
            exact hgo.out _ _ HLT.out ⟨rfl, rfl, rfl, rfl, rfl, rfl, rfl, rfl, rfl, trivial⟩ (by rw [HS.out]; exact HA6.out)
          · have g1 : ((k : Int) == (kp : Int)) = false := by simp; omega
            have g2 : decide ((k : Int) = (kp : Int)) = false := by simp; omega
            have HE1 := Lib.hid e1
            clear e1
            by_cases e2 : kq = kp
            · subst e2
              have HS : Hid (frL (k + 1) (lkM W) p wl = frL k (lkM W) p wl ++ [(k : Int)]) := frL_in (HD.out.1 (.inr ⟨HWL.out.2 rfl, .inr rfl⟩))
              obtain ⟨hI1, hI2, av, bv, hI3, hI4, hI5, hI6, hI7, hI8⟩ := HY.out
              obtain ⟨ys, hys⟩ : ∃ ys, frL k (lkM W) p wl = ys := ⟨_, rfl⟩
              have hyl : ys.length ≤ k := by rw [← hys]; exact frL_len _ _ _ _
              rw [hys] at hI5 HS
              obtain ⟨q, hq⟩ : ∃ q, ys.length = q := ⟨_, rfl⟩
              have HQ := Lib.hid hq
              obtain ⟨Va, cva, rfl, _⟩ := hI5.len
              have y8 : Y.cell? ⟨b8, 1, none⟩ = some (.slice Va ys.length cva) := by simp [World.cell?, hI3]
              have HRw : Hid (Row (Y.alloc (.cells #[.int .i64 (k : Int)] 3)) 3 1 (.slice Va q cva) q (ivals ys)) := by
                rw [hq] at hI5; exact hI5.alloc _
              have HSr : Hid (Src (Y.alloc (.cells #[.int .i64 (k : Int)] 3)) (some ⟨Y.heap.size, 0, none⟩) 1 1 [.int .i64 (k : Int)]) := Src.block (cs := #[.int .i64 (k : Int)]) (t := 3) (fr := (0, 0)) (heap_alloc_new Y _) rfl (by simp [Value.oneCell'])
              have hg63 : q + 1 ≤ maxLen := by simp only [maxLen]; omega
              have hg47 : (q + 1) * 8 ≤ 140737488355328 := by omega
              have HI9 := Lib.hid (And.intro hI1 (And.intro hI2 (And.intro hI3 (And.intro hI4 (And.intro hI6 (And.intro hI7 hI8))))))
              rw [hq] at y8
              clear hI1 hI2 hI3 hI4 hI5 hI6 hI7 hI8 hys hq HY
              go_wp2_with (at_builtin; go_loud (refine inPlain rfl (wpo_row_append _ _ _ rfl i0 _ 8 Tryz.underlying23 hi0 hi1 hi2 hi3 rfl rfl HRw.out _ 1 1 rfl [.int .i64 (k : Int)] HSr.out hg63 hg47 ?_)); intro sv5 w5 r5 k5 o5; obtain ⟨V5, cp5, rfl, hc5⟩ := r5.len
                           change Kp (ownB (.slice Va q cva)) _ w5 at k5
                           change ownB (.slice V5 (q + 1) cp5) = ownB (.slice Va q cva) ∨ ownB (.slice V5 (q + 1) cp5) = [_] at o5
                           obtain ⟨h1, h2, h3, h4, h6, h7, h8⟩ := HI9.out
                           rw [HQ.out] at h3 h7 h8
                           have A5 := OfP.app1 (ys := ys) h1 h2 h3 h4 h6 h7 h8 (by rw [HQ.out]; exact r5) k5 (o5.imp id fun e y hy => by rw [e] at hy; simp at hy; omega)
                           obtain ⟨⟨z2, z3⟩, A6⟩ := A5
                           have HA6 := Lib.hid A6
                           clear A6 k5 o5 r5 h1 h2 h3 h4 h6 h7 h8)
              exact hgo.out _ _ HLT.out ⟨rfl, rfl, rfl, rfl, rfl, rfl, rfl, rfl, rfl, trivial⟩ (by rw [HS.out]; exact HA6.out)
            · have g3 : ((kq : Int) == (kp : Int)) = false := by simp; omega
              have g4 : decide ((kq : Int) = (kp : Int)) = false := by simp; omega
              have HE2 := Lib.hid e2
              clear e2
              have HS : Hid (frL (k + 1) (lkM W) p wl = frL k (lkM W) p wl) := by
                refine frL_out ?_
                cases e : frC (lkM W) p wl k with
                | false => rfl
                | true => exact absurd (HD.out.2 e) (nd2 HNA.out (fun h => h.2.elim HE1.out HE2.out))
              repeat (first | ((with_reducible refine hgo.out _ _ ?_ ?_ ?_); (· exact HLT.out); (· exact ⟨rfl, rfl, rfl, rfl, rfl, rfl, rfl, rfl, rfl, trivial⟩); (· (rw [HS.out]; exact HY.out))) | go_values | go_skip | go_guarded | go_step | go_upon | go_back)
        · have g1 : ((m : Int) == 0) = false := by simp; omega
          have g2 : decide ((m : Int) = 0) = false := by simp; omega
          have HE := Lib.hid hm0
          clear hm0
          have HS : Hid (frL (k + 1) (lkM W) p wl = frL k (lkM W) p wl) := by
            refine frL_out ?_
            cases e : frC (lkM W) p wl k with
            | false => rfl
            | true => exact absurd (HD.out.2 e) (nd2 HNA.out (fun h => HE.out (HWL.out.1 h.1)))
          repeat (first | ((with_reducible refine hgo.out _ _ ?_ ?_ ?_); (· exact HLT.out); (· exact ⟨rfl, rfl, rfl, rfl, rfl, rfl, rfl, rfl, rfl, trivial⟩); (· (rw [HS.out]; exact HY.out))) | go_values | go_skip | go_guarded | go_step | go_upon | go_back)
  · obtain rfl : k = f := by omega
    clear hlt
    by_cases hfM : k < M
    · have h0 := all_cell (pn := pn) (cells := cells) (f := k) (by rw [hM]; exact hfM)
      obtain ⟨b1, o1, rfl, hb1, f0, f1⟩ := xp k (by rw [allPs_len, hM]; exact hfM)
      obtain ⟨cz, hcz⟩ := Int.eq_ofNat_of_zero_le h0
      rw [hcz] at f0
      have hk1 : (k : Int) < (M : Int) := by omega
      clear h0 f1 hcz hM hm hn xs1 xk xp hfM
      repeat (first | ((with_reducible refine hout.out _ _ ?_ ?_ ?_); (· exact ⟨rfl, rfl, rfl, rfl, rfl, rfl, rfl, rfl, trivial⟩); (· rfl); (· exact hI.out)) | go_values | go_skip | go_guarded | go_step | go_upon | go_back)
    · have hk1 : ¬ (k : Int) < (M : Int) := by omega
      clear hM hm hn xs1 xk xp hfM
      repeat (first | ((with_reducible refine hout.out _ _ ?_ ?_ ?_); (· exact ⟨rfl, rfl, rfl, rfl, rfl, rfl, rfl, rfl, trivial⟩); (· rfl); (· exact hI.out)) | go_values | go_skip | go_guarded | go_step | go_upon | go_back)
end
end Go.Proofs.YtkonfogebepccaaGreatDoor
