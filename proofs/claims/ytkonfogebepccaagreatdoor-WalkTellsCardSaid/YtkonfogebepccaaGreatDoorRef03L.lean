/-
  Contracts of skeinref03: Links.
-/
import Derived.Test.YtkonfogebepccaaGreatDoorRef03K
namespace Go.Proofs.YtkonfogebepccaaGreatDoor
open Go.RowKit
attribute [local go_sem] cell_set
set_option maxRecDepth 100000
set_option linter.unusedVariables false

set_option maxHeartbeats 1000000 in
theorem rlinks (A : Option Addr) (n cap : Nat) (L : List (ByteArray × Int)) (VA VB : Option Addr) (ca cb : Nat) (cells : List Int) (free : Nat) (W : List (Pt × Pt)) (w : World) (hn : n = L.length) (HL : Hid (AgRd w A L)) (hs : SigOk L) (HC : Hid (IntsRd w VA cells)) (HW : Hid (WrRd w VB W)) (hc : cells.length ≤ 5000) (hf : free ≤ 100) (hw : W.length ≤ 40000)
    (hok : Hid (NetOk (pnL L) cells free W)) :
    Calls Tryz.prog 57 #[.slice A n cap, netV VA ca cells free VB cb W] w fun e w' => ∃ V c, e = .returned (.slice V (firstN (pnL L) cells free cells.length) c) ∧ Fresh w w' 3 1 (firstN (pnL L) cells free cells.length) (.slice V (firstN (pnL L) cells free cells.length) c) (ivals (lkK (pnL L) cells free W W.length)) := by
  have hll := hs.len
  subst hn
  obtain ⟨i0, hi0, hi1, hi2, hi3⟩ := info_parts int_info
  have hle := firstN_le (pnL_le hs) cells free cells.length
  go_enter Tryz.func57, Tryz.ntmps57
  have hbA : ∀ o : Obj, Below w.heap.size w (w.alloc o) := fun o => (Below.refl _ _).alloc (Nat.le_refl _) o
  generalize hM : firstN (pnL L) cells free cells.length = M at hle
  go_wp2_with (first
    | (go_at_call 30; refine (rfirst _ _ _ L VA VB ca cb cells free W _ rfl (Lib.hid (HL.out.below (hbA _))) hs (Lib.hid (HC.out.below (hbA _))) hc hf).mono ?_; rintro e w1 ⟨V1, c1, rfl, hF1⟩; rw [hM]
       have HB1 : Hid (Below w.heap.size w w1) := (hbA _).trans (hF1.2.2.mono (by simp))
       have nb : Hid (NBox w1 w.heap.size VA cells.length ca free VB W.length cb) := NBox.below (w := w.alloc _) ⟨by simp, by go_simp, by go_simp, by go_simp⟩ hF1.2.2
       have HF1 := Lib.hid hF1
       clear hF1)
    | (at_make; refine wpList_make_row _ rfl _ _ _ rfl _ i0 _ (by rfl) hi0 hi1 hi2 (by rfl) .i64 .i64 M (by rfl) (by rfl) (by rw [hi3]; omega) (by omega) ?_))
  have HCZ : Hid (∀ Z, Below w1.heap.size w1 Z → IntsRd Z VA cells) := fun Z h => (HC.out.below HB1.out).below h
  have HLZ : Hid (∀ Z, Below w1.heap.size w1 Z → AgRd Z A L) := fun Z h => (HL.out.below HB1.out).below h
  have HVZ : Hid (∀ Z, Below w1.heap.size w1 Z → IntsRd Z V1 (firstL (pnL L) cells free cells.length)) := fun Z h => by
    have e := HF1.out.1
    have : IntsRd w1 V1 (firstL (pnL L) cells free cells.length) := by
      have r := Row.ints (w := w1) (V := V1) (cap := c1) (l := firstL (pnL L) cells free cells.length) (by rw [firstL_len]; exact e)
      exact r
    exact this.below h
  have HR0 : Hid (Row (w1.alloc (.cells (madeCells #[.int .i64 0] M) 3)) 3 1 (.slice (some ⟨w1.heap.size, 0, none⟩) M M) M (ivals (lkK (pnL L) cells free W 0)) ∧ Below w1.heap.size w1 (w1.alloc (.cells (madeCells #[.int .i64 0] M) 3))) :=
    ⟨by rw [lkK, hM, ivals_replicate]; exact Row.made w1 _ _ M (by unfold maxLen; omega), (Below.refl _ _).alloc (Nat.le_refl _) _⟩
  go_loopw [8] (fun i wr => ∃ k : Nat, i = .int .i64 k ∧ k ≤ W.length ∧ Hid (Row wr 3 1 (.slice (some ⟨w1.heap.size, 0, none⟩) M M) M (ivals (lkK (pnL L) cells free W k)) ∧ Below w1.heap.size w1 wr)) (fun i _ => W.length - (intOf i).toNat)
  case atStart => exact ⟨0, rfl, by omega, HR0⟩
  case round =>
    obtain ⟨k, rfl, hk, HR⟩ := hrel
    have hbr := HR.out.2
    have nbr := nb.out.below hbr
    have n0 := nbr.c0
    have n1 := nbr.c1
    have n2 := nbr.c2
    have hz := hbr.size
    have HB := Lib.hid hbr
    have hnl := nb.out.lt
    have hgl : w1.heap.size < wr.heap.size := HR.out.1.lt _ (by simp [ownB])
    clear nbr hbr HR0
    by_cases hlt : k < W.length
    · obtain ⟨b, off, rfl, hb, e0, e1, e2, e3⟩ := HW.out k hlt
      have hwr := HB1.out.trans (HB.out.mono HB1.out.size)
      have d0 := (hwr.cell (p := ⟨b, off + k * 4, none⟩) hb).trans e0
      have d1 := (hwr.cell (p := ⟨b, off + k * 4 + 1, none⟩) hb).trans e1
      have d2 := (hwr.cell (p := ⟨b, off + k * 4 + 2, none⟩) hb).trans e2
      have d3 := (hwr.cell (p := ⟨b, off + k * 4 + 3, none⟩) hb).trans e3
      clear e0 e1 e2 e3
      have hm := ends_at hlt
      have i1 := hok.out.is _ hm.1
      have i2 := hok.out.is _ hm.2
      have l1 := plc_lt (pnL L) i1
      have l2 := plc_lt (pnL L) i2
      rw [hM] at l1 l2
      have hab : ¬ plc (pnL L) cells free (W.getD k default).1 = plc (pnL L) cells free (W.getD k default).2 := fun e => ends_ne hok.out.nodup hlt (plc_inj (pnL L) i1 i2 e)
      have hnx : lkK (pnL L) cells free W (k + 1) = ((lkK (pnL L) cells free W k).set (plc (pnL L) cells free (W.getD k default).1) (plc (pnL L) cells free (W.getD k default).2 : Int)).set (plc (pnL L) cells free (W.getD k default).2) (plc (pnL L) cells free (W.getD k default).1 : Int) := rfl
      have r1 := plcR_is i1
      have r2 := plcR_is i2
      generalize plc (pnL L) cells free (W.getD k default).1 = a at l1 hnx r1 hab
      generalize plc (pnL L) cells free (W.getD k default).2 = b2 at l2 hnx r2 hab
      generalize W.getD k default = x at d0 d1 d2 d3 r1 r2
      obtain ⟨⟨x0, x1⟩, x2, x3⟩ := x
      have HNX := Lib.hid hnx
      have HR1 : Hid (plcR (pnL L) cells free (x0, x1) = (a : Int)) := r1
      have HR2 : Hid (plcR (pnL L) cells free (x2, x3) = (b2 : Int)) := r2
      clear hnx r1 r2 i1 i2 hm hwr
      have hbz : b < wr.heap.size := by have := HB1.out.size; omega
      have q0 : Hid (∀ j, j < M → wr.frozen? ⟨w1.heap.size, j, none⟩ = false ∧ ∃ u, wr.cell? ⟨w1.heap.size, j, none⟩ = some u) := fun j hj => ⟨HR.out.1.frozenAt j, ⟨_, (HR.out.1.cellAt j (by omega)).trans (List.getElem?_eq_getElem (by rw [HR.out.1.1]; omega))⟩⟩
      have hPl : Hid (∀ Z p, Below w1.heap.size w1 Z → Calls Tryz.prog 31 #[.slice A L.length cap, netV VA ca cells free (some ⟨b, off, none⟩) cb W, .slice V1 cells.length c1, .agg #[.int .i64 p.1, .int .i64 p.2]] Z fun e w' => e = .returned (.int .i64 (plcR (pnL L) cells free p)) ∧ Below Z.heap.size Z w') :=
        fun Z p h => rplace A L.length cap L VA (some ⟨b, off, none⟩) V1 ca cb c1 cells.length cells free W p.1 p.2 Z rfl (Lib.hid (HLZ.out Z h)) hs (Lib.hid (HCZ.out Z h)) hc hf rfl (Lib.hid (HVZ.out Z h))
      go_wp2_with fail
      (refine region_tail 9 (by kernel_rfl) (by kernel_rfl) ?_; simp only [List.take_succ_cons, List.take_zero, List.drop_succ_cons, List.drop_zero]; repeat still_step; try refine wpStill_nil ?_)
      go_wp2_with (go_at_call 31; go_loud (refine (hPl.out _ (x0, x1) HB.out.drew).mono ?_); rintro e w6 ⟨rfl, hb6⟩; rw [HR1.out]; have HB6 := Lib.hid (HB.out.drew.trans (hb6.mono HB.out.drew.size))
                   have nb6 := nb.out.below HB6.out
                   have m0 := nb6.c0
                   have m1 := nb6.c1
                   have m2 := nb6.c2
                   have d60 := (hb6.cell (p := ⟨b, off + k * 4, none⟩) (by simpa using hbz)).trans d0
                   have d61 := (hb6.cell (p := ⟨b, off + k * 4 + 1, none⟩) (by simpa using hbz)).trans d1
                   have d62 := (hb6.cell (p := ⟨b, off + k * 4 + 2, none⟩) (by simpa using hbz)).trans d2
                   have d63 := (hb6.cell (p := ⟨b, off + k * 4 + 3, none⟩) (by simpa using hbz)).trans d3
                   have R6 := Lib.hid (HR.out.1.keep (w' := w6) fun b hb => hb6.block b (HR.out.1.lt b hb))
                   clear hb6 nb6)
      (refine region_tail 9 (by kernel_rfl) (by kernel_rfl) ?_; simp only [List.take_succ_cons, List.take_zero, List.drop_succ_cons, List.drop_zero]; repeat still_step; try refine wpStill_nil ?_)
      go_wp2_with (go_at_call 31; refine (hPl.out _ (x2, x3) HB6.out.drew).mono ?_; rintro e w7 ⟨rfl, hb7⟩; rw [HR2.out]; have nb7 := nb.out.below (HB6.out.drew.trans (hb7.mono HB6.out.drew.size))
                   have m70 := nb7.c0
                   have m71 := nb7.c1
                   have m72 := nb7.c2
                   clear nb7
                   have HB7 := Lib.hid (HB6.out.drew.trans (hb7.mono HB6.out.drew.size))
                   have R7 : Hid (Row w7 3 1 (.slice (some ⟨w1.heap.size, 0, none⟩) M M) M (ivals (lkK (pnL L) cells free W k))) := R6.out.keep fun b hb => hb7.block b (R6.out.lt b hb)
                   have s0 : w7.frozen? ⟨w1.heap.size, a, none⟩ = false := R7.out.frozenAt a
                   have s1 : w7.frozen? ⟨w1.heap.size, b2, none⟩ = false := R7.out.frozenAt b2
                   obtain ⟨u1, s2⟩ : ∃ u, w7.cell? ⟨w1.heap.size, a, none⟩ = some u := ⟨_, (R7.out.cellAt a (by omega)).trans (List.getElem?_eq_getElem (by rw [R7.out.1]; omega))⟩
                   obtain ⟨u2, s3⟩ : ∃ u, w7.cell? ⟨w1.heap.size, b2, none⟩ = some u := ⟨_, (R7.out.cellAt b2 (by omega)).trans (List.getElem?_eq_getElem (by rw [R7.out.1]; omega))⟩
                   clear hb7)
      go_roundw
      case rel =>
        have hR8 := (R7.out.set a (.int .i64 (b2 : Int))).set b2 (.int .i64 (a : Int))
        have hB8 := (HB7.out.setCell (p := ⟨w1.heap.size, a, none⟩) (Nat.le_refl _) (.int .i64 (b2 : Int))).setCell (p := ⟨w1.heap.size, b2, none⟩) (Nat.le_refl _) (.int .i64 (a : Int))
        rw [ivals_set, ivals_set, ← HNX.out] at hR8
        exact ⟨k + 1, by go_num, by omega, hR8, hB8⟩
      case measure => simp [intOf]; omega
    · obtain rfl : k = W.length := by omega
      go_wp2
      go_ret
      exact ⟨_, _, rfl, HR.out.1, fun b hb => by simp [ownB] at hb; have := HB1.out.size; omega, HB1.out.trans (HR.out.2.mono HB1.out.size)⟩
end Go.Proofs.YtkonfogebepccaaGreatDoor
