/-
  Contract of skeinref03.Check, of nets of any size.
-/
import Derived.Test.YtogbanlfihabpaaRef03C
namespace Go.Proofs.Ytogbanlfihabpaa
open Go.RowKit
attribute [local go_sem] cell_set
set_option maxRecDepth 100000
set_option linter.unusedVariables false

set_option maxHeartbeats 4000000 in
theorem rcheck3w (A : Option Addr) (n cap : Nat) (L : List (ByteArray × Int)) (VA VB : Option Addr) (ca cb : Nat) (cells : List Int) (free : Int) (W : List (Pt × Pt)) (w : World) (hn : n = L.length) (hcap : L.length ≤ cap) (HL : Hid (AgRd w A L)) (hl : L.length ≤ maxLen) (HC : Hid (IntsRd w VA cells)) (HW : Hid (WrRd w VB W)) (hc : cells.length ≤ 1000000000000000000) (hw : W.length ≤ 1000000000000000000) :
    Calls Try.prog 4 #[.slice A n cap, netV VA ca cells free VB cb W] w fun e w' => e = .returned (.tuple #[.int .i64 (netChk (pnL L) L.length (chk L) cells free W).1, .int .i64 (netChk (pnL L) L.length (chk L) cells free W).2]) ∧ Below w.heap.size w w' := by
  subst hn
  have hbA : ∀ o : Obj, Below w.heap.size w (w.alloc o) := fun o => (Below.refl _ _).alloc (Nat.le_refl _) o
  cases hsg : ((chk L).1 != 0)
  · have hz : (chk L).1 = 0 := by simpa using hsg
    have hs := chk_sig hz
    have HS := Lib.hid hs
    have hll := hs.len
    have HZ := Lib.hid hz
    by_cases h1 : 4096 < cells.length
    · have HR : Hid (netChk (pnL L) L.length (chk L) cells free W = (15, 0)) := nc_many hz (.inl h1)
      go_enter Try.func4, Try.ntmps4
      clear hz hs hsg
      go_wp2_with (go_at_call 13; refine (rcheck_any _ _ _ L _ rfl hl hcap (Lib.hid (HL.out.below (hbA _)))).mono ?_; rintro e w1 ⟨rfl, hb1⟩; rw [HZ.out]
                   have HB1 : Hid (Below w.heap.size w w1) := (hbA _).trans (hb1.mono (by simp))
                   have nb : Hid (NBox w1 w.heap.size VA cells.length ca free VB W.length cb) := NBox.below (w := w.alloc _) ⟨by simp, by go_simp, by go_simp, by go_simp⟩ hb1
                   have n0 := nb.out.c0
                   have n1 := nb.out.c1)
      go_ret2
      exact ⟨retI2 (by rw [HR.out]) (by rw [HR.out]), by have := HB1.out; (repeat (first | exact Below.refl _ _ | (with_reducible refine Below.drew ?_) | (with_reducible refine Below.alloc ?_ (by (try simp); (try omega)) _) | (with_reducible refine Below.setCell ?_ (by (try simp); (try omega)) _) | (with_reducible refine Below.trans ?_ (Below.mono (by assumption) (by (try simp); (try omega))))))⟩
    · by_cases h2 : 64 < free
      · have HR : Hid (netChk (pnL L) L.length (chk L) cells free W = (15, 0)) := nc_many hz (.inr h2)
        go_enter Try.func4, Try.ntmps4
        clear hz hs hsg
        go_wp2_with (go_at_call 13; refine (rcheck_any _ _ _ L _ rfl hl hcap (Lib.hid (HL.out.below (hbA _)))).mono ?_; rintro e w1 ⟨rfl, hb1⟩; rw [HZ.out]
                     have HB1 : Hid (Below w.heap.size w w1) := (hbA _).trans (hb1.mono (by simp))
                     have nb : Hid (NBox w1 w.heap.size VA cells.length ca free VB W.length cb) := NBox.below (w := w.alloc _) ⟨by simp, by go_simp, by go_simp, by go_simp⟩ hb1
                     have n0 := nb.out.c0
                     have n1 := nb.out.c1)
        go_ret2
        exact ⟨retI2 (by rw [HR.out]) (by rw [HR.out]), by have := HB1.out; (repeat (first | exact Below.refl _ _ | (with_reducible refine Below.drew ?_) | (with_reducible refine Below.alloc ?_ (by (try simp); (try omega)) _) | (with_reducible refine Below.setCell ?_ (by (try simp); (try omega)) _) | (with_reducible refine Below.trans ?_ (Below.mono (by assumption) (by (try simp); (try omega))))))⟩
      · by_cases h3 : free < 0
        · have HR : Hid (netChk (pnL L) L.length (chk L) cells free W = (1, 0)) := nc_neg hz (by omega) (by omega) h3
          go_enter Try.func4, Try.ntmps4
          clear hz hs hsg
          go_wp2_with (go_at_call 13; refine (rcheck_any _ _ _ L _ rfl hl hcap (Lib.hid (HL.out.below (hbA _)))).mono ?_; rintro e w1 ⟨rfl, hb1⟩; rw [HZ.out]
                       have HB1 : Hid (Below w.heap.size w w1) := (hbA _).trans (hb1.mono (by simp))
                       have nb : Hid (NBox w1 w.heap.size VA cells.length ca free VB W.length cb) := NBox.below (w := w.alloc _) ⟨by simp, by go_simp, by go_simp, by go_simp⟩ hb1
                       have n0 := nb.out.c0
                       have n1 := nb.out.c1)
          go_ret2
          exact ⟨retI2 (by rw [HR.out]) (by rw [HR.out]), by have := HB1.out; (repeat (first | exact Below.refl _ _ | (with_reducible refine Below.drew ?_) | (with_reducible refine Below.alloc ?_ (by (try simp); (try omega)) _) | (with_reducible refine Below.setCell ?_ (by (try simp); (try omega)) _) | (with_reducible refine Below.trans ?_ (Below.mono (by assumption) (by (try simp); (try omega))))))⟩
        · obtain ⟨f, rfl⟩ := Int.eq_ofNat_of_zero_le (show 0 ≤ free by omega)
          have hf : f ≤ 64 := by omega
          have hc4 : cells.length ≤ 4096 := by omega
          clear h1 h2 h3 hs hz hsg
          go_enter Try.func4, Try.ntmps4
          go_wp2_with (go_at_call 13; refine (rcheck_any _ _ _ L _ rfl hl hcap (Lib.hid (HL.out.below (hbA _)))).mono ?_; rintro e w1 ⟨rfl, hb1⟩; rw [HZ.out]
                       have HB1 : Hid (Below w.heap.size w w1) := (hbA _).trans (hb1.mono (by simp))
                       have nb : Hid (NBox w1 w.heap.size VA cells.length ca f VB W.length cb) := NBox.below (w := w.alloc _) ⟨by simp, by go_simp, by go_simp, by go_simp⟩ hb1
                       have n0 := nb.out.c0
                       have n1 := nb.out.c1)
          clear n0 n1
          obtain ⟨i0, hi0, hi1, hi2, hi3⟩ := info_parts bool_info
          go_loopw [8] (fun i wr => ∃ k : Nat, i = .int .i64 k ∧ k ≤ cells.length ∧ Hid (∀ j, j < k → 0 ≤ cells.getD j 0 ∧ cells.getD j 0 < (L.length : Int)) ∧ Hid (Below w1.heap.size w1 wr)) (fun i _ => cells.length - (intOf i).toNat)
          case atStart => exact ⟨0, rfl, by omega, fun j hj => by omega, Below.refl _ _⟩
          case round =>
            obtain ⟨k, rfl, hk, HN, HB⟩ := hrel
            have nbr := nb.out.below HB.out
            have n0 := nbr.c0
            have n1 := nbr.c1
            have n2 := nbr.c2
            by_cases hlt : k < cells.length
            · obtain ⟨b, off, rfl, hb, e0⟩ := HC.out k hlt
              have hwr := HB1.out.trans (HB.out.mono HB1.out.size)
              have d0 := (hwr.cell (p := ⟨b, off + k, none⟩) hb).trans e0
              clear e0 hwr nbr n1 n2
              have HBad : Hid (cells.getD k 0 < 0 ∨ (L.length : Int) ≤ cells.getD k 0 → netChk (pnL L) L.length (chk L) cells f W = (20, (k : Int))) := fun h => nc_agent HZ.out hc4 (by omega) (by omega) hlt h HN.out
              have HGood : Hid (0 ≤ cells.getD k 0 → cells.getD k 0 < (L.length : Int) → ∀ j, j < k + 1 → 0 ≤ cells.getD j 0 ∧ cells.getD j 0 < (L.length : Int)) := fun h0 h1 j hj => by
                rcases Nat.lt_or_ge j k with h | h
                · exact HN.out j h
                · obtain rfl : j = k := by omega
                  exact ⟨h0, h1⟩
              generalize cells.getD k 0 = x at d0 HBad HGood
              rcases (by omega : x < 0 ∨ (0 ≤ x ∧ (L.length : Int) ≤ x) ∨ (0 ≤ x ∧ x < (L.length : Int))) with h | ⟨h, h'⟩ | ⟨h, h'⟩
              · go_wp2
                go_ret2
                exact ⟨retI2 (by rw [HBad.out (.inl h)]) (by rw [HBad.out (.inl h)]), HB1.out.trans (HB.out.mono HB1.out.size)⟩
              · go_wp2
                go_ret2
                exact ⟨retI2 (by rw [HBad.out (.inr h')]) (by rw [HBad.out (.inr h')]), HB1.out.trans (HB.out.mono HB1.out.size)⟩
              · go_wp2
                go_roundw
                case rel => exact ⟨k + 1, by go_num, by omega, HGood.out h h', HB⟩
                case measure => simp [intOf]; omega
            · obtain rfl : k = cells.length := by omega
              clear hlt nbr
              have HBw : Hid (Below w.heap.size w wr) := HB1.out.trans (HB.out.mono HB1.out.size)
              have hle := firstN_le (pnL_le HS.out) cells f cells.length
              generalize hM : firstN (pnL L) cells f cells.length = M at hle
              have HM := Lib.hid hM
              clear hM
              go_wp2_with (first
                | (go_at_call 14; refine (rfirst _ _ _ L VA VB ca cb cells f W _ rfl (Lib.hid (HL.out.below HBw.out)) HS.out (Lib.hid (HC.out.below HBw.out)) (by omega) (by omega)).mono ?_; rintro e w2 ⟨V2, c2, rfl, hF2⟩; rw [HM.out]
                   have HB2 : Hid (Below w.heap.size w w2) := HBw.out.trans (hF2.2.2.mono HBw.out.size)
                   have nb2 : Hid (NBox w2 w.heap.size VA cells.length ca f VB W.length cb) := (nb.out.below HB.out).below hF2.2.2
                   have HF2 := Lib.hid hF2
                   clear hF2)
                | (at_make; refine wpList_make_row _ rfl _ _ _ rfl _ i0 _ (by rfl) hi0 hi1 hi2 (by rfl) .i64 .i64 M (by rfl) (by rfl) (by rw [hi3]; omega) (by omega) ?_))
              clear n0 n1 n2
              have HVZ : Hid (∀ Z, Below w2.heap.size w2 Z → IntsRd Z V2 (firstL (pnL L) cells f cells.length)) := fun Z h => by
                have e := HF2.out.1
                have : IntsRd w2 V2 (firstL (pnL L) cells f cells.length) := Row.ints (cap := c2) (by rw [firstL_len]; exact e)
                exact this.below h
              have HR0 : Hid (Row (w2.alloc (.cells (madeCells #[.bool false] M) 4)) 4 1 (.slice (some ⟨w2.heap.size, 0, none⟩) M M) M (bvals (seenW (pnL L) cells f W 0)) ∧ Below w2.heap.size w2 (w2.alloc (.cells (madeCells #[.bool false] M) 4))) :=
                ⟨by rw [seenW_0, HM.out, bvals_replicate]; exact Row.made w2 _ _ M (by unfold maxLen; omega), (Below.refl _ _).alloc (Nat.le_refl _) _⟩
              go_loopw [12, 13, 14] (fun i _ _ wr => ∃ k : Nat, i = .int .i64 k ∧ k ≤ W.length ∧ Hid (∀ j, j < k → wBad (isPt (pnL L) cells f) W j = 0) ∧ Hid (Row wr 4 1 (.slice (some ⟨w2.heap.size, 0, none⟩) M M) M (bvals (seenW (pnL L) cells f W k)) ∧ Below w2.heap.size w2 wr)) (fun i _ _ _ => W.length - (intOf i).toNat)
              case atStart => exact ⟨0, rfl, by omega, fun j hj => by omega, HR0⟩
              case round =>
                obtain ⟨k, rfl, hk, HN2, HR⟩ := hrel
                have hbr := HR.out.2
                have nbr := nb2.out.below hbr
                have n0 := nbr.c0
                have n1 := nbr.c1
                have n2 := nbr.c2
                have HBr := Lib.hid hbr
                clear nbr hbr HR0
                by_cases hlt : k < W.length
                · obtain ⟨b, off, rfl, hb, e0, e1, e2, e3⟩ := HW.out k hlt
                  have hwr := HB2.out.trans (HBr.out.mono HB2.out.size)
                  have d0 := (hwr.cell (p := ⟨b, off + k * 4, none⟩) hb).trans e0
                  have d1 := (hwr.cell (p := ⟨b, off + k * 4 + 1, none⟩) hb).trans e1
                  have d2 := (hwr.cell (p := ⟨b, off + k * 4 + 2, none⟩) hb).trans e2
                  have d3 := (hwr.cell (p := ⟨b, off + k * 4 + 3, none⟩) hb).trans e3
                  clear e0 e1 e2 e3
                  have hbz : b < _ := Nat.lt_of_lt_of_le hb hwr.size
                  have HNc : Hid (wBad (isPt (pnL L) cells f) W k ≠ 0 → netChk (pnL L) L.length (chk L) cells f W = (wBad (isPt (pnL L) cells f) W k, (k : Int))) := fun h => nc_wire HZ.out hc4 (by omega) (by omega) HN.out hlt h HN2.out
                  have HGd : Hid (wBad (isPt (pnL L) cells f) W k = 0 → ∀ j, j < k + 1 → wBad (isPt (pnL L) cells f) W j = 0) := fun h0 j hj => by
                    rcases Nat.lt_or_ge j k with h | h
                    · exact HN2.out j h
                    · obtain rfl : j = k := by omega
                      exact h0
                  have HBd := Lib.hid (wBad_at (is := isPt (pnL L) cells f) hlt)
                  have HSc : Hid (isPt (pnL L) cells f (W.getD k default).1 = true → isPt (pnL L) cells f (W.getD k default).2 = true → seenW (pnL L) cells f W (k + 1) = ((seenW (pnL L) cells f W k).set (plc (pnL L) cells f (W.getD k default).1) true).set (plc (pnL L) cells f (W.getD k default).2) true) := fun h1 h2 => seenW_succ hlt h1 h2
                  generalize W.getD k default = x at d0 d1 d2 d3 HBd HSc
                  obtain ⟨⟨x0, x1⟩, x2, x3⟩ := x
                  clear hwr
                  have hPl : Hid (∀ Z p, Below w2.heap.size w2 Z → Calls Try.prog 15 #[.slice A L.length cap, netV VA ca cells f (some ⟨b, off, none⟩) cb W, .slice V2 cells.length c2, .agg #[.int .i64 p.1, .int .i64 p.2]] Z fun e w' => e = .returned (.int .i64 (plcR (pnL L) cells f p)) ∧ Below Z.heap.size Z w') :=
                    fun Z p h => rplace A L.length cap L VA (some ⟨b, off, none⟩) V2 ca cb c2 cells.length cells f W p.1 p.2 Z rfl (Lib.hid ((HL.out.below HB2.out).below h)) HS.out (Lib.hid ((HC.out.below HB2.out).below h)) (by omega) (by omega) rfl (Lib.hid (HVZ.out Z h))
                  cases hp : isPt (pnL L) cells f (x0, x1)
                  · have HR1 : Hid (plcR (pnL L) cells f (x0, x1) = -1) := by show _ = _; unfold plcR; rw [hp]; rfl
                    have he : wBad (isPt (pnL L) cells f) W k = 30 := by rw [HBd.out]; unfold wErr; rw [if_pos (.inl hp)]
                    have HBAD : Hid (netChk (pnL L) L.length (chk L) cells f W = (30, (k : Int))) := by
                      have := HNc.out (by rw [he]; omega)
                      rw [he] at this; exact this
                    generalize hrb : plcR (pnL L) cells f (x2, x3) = rb
                    have HR2 := Lib.hid hrb
                    clear hrb he HBd HSc HGd HNc hp
                    go_wp2_with fail
                    (refine region_tail 9 (by kernel_rfl) (by kernel_rfl) ?_; simp only [List.take_succ_cons, List.take_zero, List.drop_succ_cons, List.drop_zero]; repeat still_step; try refine wpStill_nil ?_)
                    go_wp2_with (go_at_call 15; refine (hPl.out _ (x0, x1) HBr.out.drew).mono ?_; rintro e w6 ⟨rfl, hb6⟩; rw [HR1.out]
                                 have HB6 := Lib.hid (HBr.out.drew.trans (hb6.mono HBr.out.drew.size))
                                 have nb6 := nb2.out.below HB6.out
                                 have m0 := nb6.c0
                                 have m1 := nb6.c1
                                 have m2 := nb6.c2
                                 have d60 := (hb6.cell (p := ⟨b, off + k * 4, none⟩) (by simpa using hbz)).trans d0
                                 have d61 := (hb6.cell (p := ⟨b, off + k * 4 + 1, none⟩) (by simpa using hbz)).trans d1
                                 have d62 := (hb6.cell (p := ⟨b, off + k * 4 + 2, none⟩) (by simpa using hbz)).trans d2
                                 have d63 := (hb6.cell (p := ⟨b, off + k * 4 + 3, none⟩) (by simpa using hbz)).trans d3
                                 have R6 := Lib.hid (HR.out.1.keep (w' := w6) fun b hb => hb6.block b (HR.out.1.lt b hb))
                                 clear hb6 nb6)
                    (refine region_tail 9 (by kernel_rfl) (by kernel_rfl) ?_; simp only [List.take_succ_cons, List.take_zero, List.drop_succ_cons, List.drop_zero]; repeat still_step; try refine wpStill_nil ?_)
                    go_wp2_with (go_at_call 15; refine (hPl.out _ (x2, x3) HB6.out.drew).mono ?_; rintro e w7 ⟨rfl, hb7⟩; rw [HR2.out]
                                 have HB7 := Lib.hid (HB6.out.drew.trans (hb7.mono HB6.out.drew.size))
                                 have R7 : Hid (Row w7 4 1 (.slice (some ⟨w2.heap.size, 0, none⟩) M M) M (bvals (seenW (pnL L) cells f W k))) := R6.out.keep fun b hb => hb7.block b (R6.out.lt b hb)
                                 clear hb7)
                    go_ret2
                    exact ⟨retI2 (by rw [HBAD.out]) (by rw [HBAD.out]), HB2.out.trans (HB7.out.mono HB2.out.size)⟩
                  · cases hq : isPt (pnL L) cells f (x2, x3)
                    · have HR2 : Hid (plcR (pnL L) cells f (x2, x3) = -1) := by show _ = _; unfold plcR; rw [hq]; rfl
                      have he : wBad (isPt (pnL L) cells f) W k = 30 := by rw [HBd.out]; unfold wErr; rw [if_pos (.inr hq)]
                      have HBAD : Hid (netChk (pnL L) L.length (chk L) cells f W = (30, (k : Int))) := by
                        have := HNc.out (by rw [he]; omega)
                        rw [he] at this; exact this
                      have HR1 : Hid (plcR (pnL L) cells f (x0, x1) = (plc (pnL L) cells f (x0, x1) : Int)) := plcR_is hp
                      generalize plc (pnL L) cells f (x0, x1) = a at HR1
                      clear he HBd HSc HGd HNc hp hq
                      go_wp2_with fail
                      (refine region_tail 9 (by kernel_rfl) (by kernel_rfl) ?_; simp only [List.take_succ_cons, List.take_zero, List.drop_succ_cons, List.drop_zero]; repeat still_step; try refine wpStill_nil ?_)
                      go_wp2_with (go_at_call 15; refine (hPl.out _ (x0, x1) HBr.out.drew).mono ?_; rintro e w6 ⟨rfl, hb6⟩; rw [HR1.out]
                                   have HB6 := Lib.hid (HBr.out.drew.trans (hb6.mono HBr.out.drew.size))
                                   have nb6 := nb2.out.below HB6.out
                                   have m0 := nb6.c0
                                   have m1 := nb6.c1
                                   have m2 := nb6.c2
                                   have d60 := (hb6.cell (p := ⟨b, off + k * 4, none⟩) (by simpa using hbz)).trans d0
                                   have d61 := (hb6.cell (p := ⟨b, off + k * 4 + 1, none⟩) (by simpa using hbz)).trans d1
                                   have d62 := (hb6.cell (p := ⟨b, off + k * 4 + 2, none⟩) (by simpa using hbz)).trans d2
                                   have d63 := (hb6.cell (p := ⟨b, off + k * 4 + 3, none⟩) (by simpa using hbz)).trans d3
                                   have R6 := Lib.hid (HR.out.1.keep (w' := w6) fun b hb => hb6.block b (HR.out.1.lt b hb))
                                   clear hb6 nb6)
                      (refine region_tail 9 (by kernel_rfl) (by kernel_rfl) ?_; simp only [List.take_succ_cons, List.take_zero, List.drop_succ_cons, List.drop_zero]; repeat still_step; try refine wpStill_nil ?_)
                      go_wp2_with (go_at_call 15; refine (hPl.out _ (x2, x3) HB6.out.drew).mono ?_; rintro e w7 ⟨rfl, hb7⟩; rw [HR2.out]
                                   have HB7 := Lib.hid (HB6.out.drew.trans (hb7.mono HB6.out.drew.size))
                                   have R7 : Hid (Row w7 4 1 (.slice (some ⟨w2.heap.size, 0, none⟩) M M) M (bvals (seenW (pnL L) cells f W k))) := R6.out.keep fun b hb => hb7.block b (R6.out.lt b hb)
                                   clear hb7)
                      go_ret2
                      exact ⟨retI2 (by rw [HBAD.out]) (by rw [HBAD.out]), HB2.out.trans (HB7.out.mono HB2.out.size)⟩
                    · have HR1 : Hid (plcR (pnL L) cells f (x0, x1) = (plc (pnL L) cells f (x0, x1) : Int)) := plcR_is hp
                      have HR2 : Hid (plcR (pnL L) cells f (x2, x3) = (plc (pnL L) cells f (x2, x3) : Int)) := plcR_is hq
                      have l1 := plc_lt (pnL L) hp
                      have l2 := plc_lt (pnL L) hq
                      rw [HM.out] at l1 l2
                      have HVA := Lib.hid (seenW_at (W := W) (k := k) hp)
                      have HVB := Lib.hid (seenW_at (W := W) (k := k) hq)
                      have HSc2 : Hid (seenW (pnL L) cells f W (k + 1) = ((seenW (pnL L) cells f W k).set (plc (pnL L) cells f (x0, x1)) true).set (plc (pnL L) cells f (x2, x3)) true) := HSc.out hp hq
                      have HEq : Hid (plc (pnL L) cells f (x0, x1) = plc (pnL L) cells f (x2, x3) ↔ (x0, x1) = (x2, x3)) := ⟨fun e => plc_inj (pnL L) hp hq e, fun e => by rw [e]⟩
                      have he31 : (x0, x1) ∈ ends (W.take k) ∨ (x2, x3) ∈ ends (W.take k) ∨ (x0, x1) = (x2, x3) → netChk (pnL L) L.length (chk L) cells f W = (31, (k : Int)) := fun h => by
                        have he : wBad (isPt (pnL L) cells f) W k = 31 := by rw [HBd.out]; unfold wErr; rw [if_neg (by simp [hp, hq]), if_pos h]
                        have := HNc.out (by rw [he]; omega)
                        rw [he] at this; exact this
                      have he0 : ¬ ((x0, x1) ∈ ends (W.take k) ∨ (x2, x3) ∈ ends (W.take k) ∨ (x0, x1) = (x2, x3)) → wBad (isPt (pnL L) cells f) W k = 0 := fun h => by
                        rw [HBd.out]; unfold wErr; rw [if_neg (by simp [hp, hq]), if_neg h]
                      have HE31 := Lib.hid he31
                      have HE0 := Lib.hid he0
                      clear he31 he0 HBd HSc HNc hp hq
                      generalize plc (pnL L) cells f (x0, x1) = a at HR1 l1 HVA HSc2 HEq
                      generalize plc (pnL L) cells f (x2, x3) = b2 at HR2 l2 HVB HSc2 HEq
                      cases hva : decide ((x0, x1) ∈ ends (W.take k))
                      · rw [hva] at HVA
                        cases hvb : decide ((x2, x3) ∈ ends (W.take k))
                        · rw [hvb] at HVB
                          generalize hva' : false = va at HVA
                          generalize hvb' : false = vb at HVB
                          by_cases hab : a = b2
                          · have HBAD : Hid (netChk (pnL L) L.length (chk L) cells f W = (31, (k : Int))) := HE31.out (.inr (.inr (HEq.out.1 hab)))
                            subst hab hva' hvb'
                            have HVB2 := HVB
                            clear hva hvb
                            go_wp2_with fail
                            (refine region_tail 9 (by kernel_rfl) (by kernel_rfl) ?_; simp only [List.take_succ_cons, List.take_zero, List.drop_succ_cons, List.drop_zero]; repeat still_step; try refine wpStill_nil ?_)
                            go_wp2_with (go_at_call 15; refine (hPl.out _ (x0, x1) HBr.out.drew).mono ?_; rintro e w6 ⟨rfl, hb6⟩; rw [HR1.out]
                                         have HB6 := Lib.hid (HBr.out.drew.trans (hb6.mono HBr.out.drew.size))
                                         have nb6 := nb2.out.below HB6.out
                                         have m0 := nb6.c0
                                         have m1 := nb6.c1
                                         have m2 := nb6.c2
                                         have d60 := (hb6.cell (p := ⟨b, off + k * 4, none⟩) (by simpa using hbz)).trans d0
                                         have d61 := (hb6.cell (p := ⟨b, off + k * 4 + 1, none⟩) (by simpa using hbz)).trans d1
                                         have d62 := (hb6.cell (p := ⟨b, off + k * 4 + 2, none⟩) (by simpa using hbz)).trans d2
                                         have d63 := (hb6.cell (p := ⟨b, off + k * 4 + 3, none⟩) (by simpa using hbz)).trans d3
                                         have R6 := Lib.hid (HR.out.1.keep (w' := w6) fun b hb => hb6.block b (HR.out.1.lt b hb))
                                         clear hb6 nb6)
                            (refine region_tail 9 (by kernel_rfl) (by kernel_rfl) ?_; simp only [List.take_succ_cons, List.take_zero, List.drop_succ_cons, List.drop_zero]; repeat still_step; try refine wpStill_nil ?_)
                            go_wp2_with (go_at_call 15; refine (hPl.out _ (x2, x3) HB6.out.drew).mono ?_; rintro e w7 ⟨rfl, hb7⟩; rw [HR2.out]
                                         have HB7 := Lib.hid (HB6.out.drew.trans (hb7.mono HB6.out.drew.size))
                                         have R7 : Hid (Row w7 4 1 (.slice (some ⟨w2.heap.size, 0, none⟩) M M) M (bvals (seenW (pnL L) cells f W k))) := R6.out.keep fun b hb => hb7.block b (R6.out.lt b hb)
                                         have s0 : w7.frozen? ⟨w2.heap.size, a, none⟩ = false := R7.out.frozenAt a
                                         have s1 : w7.frozen? ⟨w2.heap.size, a, none⟩ = false := R7.out.frozenAt a
                                         have s2 : w7.cell? ⟨w2.heap.size, a, none⟩ = some (.bool false) := (R7.out.cellAt a (by omega)).trans HVA.out
                                         have s3 : w7.cell? ⟨w2.heap.size, a, none⟩ = some (.bool false) := (R7.out.cellAt a (by omega)).trans HVB.out
                                         clear hb7)
                            go_ret2
                            exact ⟨retI2 (by rw [HBAD.out]) (by rw [HBAD.out]), HB2.out.trans (HB7.out.mono HB2.out.size)⟩
                          · have HG : Hid (∀ j, j < k + 1 → wBad (isPt (pnL L) cells f) W j = 0) := HGd.out (HE0.out (by
                              simp only [decide_eq_false_iff_not] at hva hvb
                              rintro (h | h | h)
                              · exact hva h
                              · exact hvb h
                              · exact hab (HEq.out.2 h)))
                            have hab2 : ¬ b2 = a := fun e => hab e.symm
                            have hab3 : ((a : Int) == (b2 : Int)) = false := by rw [beq_eq_false_iff_ne]; omega
                            subst hva' hvb'
                            clear hva hvb HGd HE31 HE0 HEq
                            go_wp2_with fail
                            (refine region_tail 9 (by kernel_rfl) (by kernel_rfl) ?_; simp only [List.take_succ_cons, List.take_zero, List.drop_succ_cons, List.drop_zero]; repeat still_step; try refine wpStill_nil ?_)
                            go_wp2_with (go_at_call 15; refine (hPl.out _ (x0, x1) HBr.out.drew).mono ?_; rintro e w6 ⟨rfl, hb6⟩; rw [HR1.out]
                                         have HB6 := Lib.hid (HBr.out.drew.trans (hb6.mono HBr.out.drew.size))
                                         have nb6 := nb2.out.below HB6.out
                                         have m0 := nb6.c0
                                         have m1 := nb6.c1
                                         have m2 := nb6.c2
                                         have d60 := (hb6.cell (p := ⟨b, off + k * 4, none⟩) (by simpa using hbz)).trans d0
                                         have d61 := (hb6.cell (p := ⟨b, off + k * 4 + 1, none⟩) (by simpa using hbz)).trans d1
                                         have d62 := (hb6.cell (p := ⟨b, off + k * 4 + 2, none⟩) (by simpa using hbz)).trans d2
                                         have d63 := (hb6.cell (p := ⟨b, off + k * 4 + 3, none⟩) (by simpa using hbz)).trans d3
                                         have R6 := Lib.hid (HR.out.1.keep (w' := w6) fun b hb => hb6.block b (HR.out.1.lt b hb))
                                         clear hb6 nb6)
                            (refine region_tail 9 (by kernel_rfl) (by kernel_rfl) ?_; simp only [List.take_succ_cons, List.take_zero, List.drop_succ_cons, List.drop_zero]; repeat still_step; try refine wpStill_nil ?_)
                            go_wp2_with (go_at_call 15; refine (hPl.out _ (x2, x3) HB6.out.drew).mono ?_; rintro e w7 ⟨rfl, hb7⟩; rw [HR2.out]
                                         have HB7 := Lib.hid (HB6.out.drew.trans (hb7.mono HB6.out.drew.size))
                                         have R7 : Hid (Row w7 4 1 (.slice (some ⟨w2.heap.size, 0, none⟩) M M) M (bvals (seenW (pnL L) cells f W k))) := R6.out.keep fun b hb => hb7.block b (R6.out.lt b hb)
                                         have s0 : w7.frozen? ⟨w2.heap.size, a, none⟩ = false := R7.out.frozenAt a
                                         have s1 : w7.frozen? ⟨w2.heap.size, b2, none⟩ = false := R7.out.frozenAt b2
                                         have s2 : w7.cell? ⟨w2.heap.size, a, none⟩ = some (.bool false) := (R7.out.cellAt a (by omega)).trans HVA.out
                                         have s3 : w7.cell? ⟨w2.heap.size, b2, none⟩ = some (.bool false) := (R7.out.cellAt b2 (by omega)).trans HVB.out
                                         clear hb7)
                            go_roundw
                            case rel =>
                              have hR8 := (R7.out.set a (.bool true)).set b2 (.bool true)
                              have hB8 := (HB7.out.setCell (p := ⟨w2.heap.size, a, none⟩) (Nat.le_refl _) (.bool true)).setCell (p := ⟨w2.heap.size, b2, none⟩) (Nat.le_refl _) (.bool true)
                              rw [bvals_set, bvals_set, ← HSc2.out] at hR8
                              exact ⟨k + 1, by go_num, by omega, HG, hR8, hB8⟩
                            case measure => simp [intOf]; omega
                        · rw [hvb] at HVB
                          have HBAD : Hid (netChk (pnL L) L.length (chk L) cells f W = (31, (k : Int))) := HE31.out (.inr (.inl (by simpa using hvb)))
                          clear hva hvb HGd HE31 HE0 HEq
                          go_wp2_with fail
                          (refine region_tail 9 (by kernel_rfl) (by kernel_rfl) ?_; simp only [List.take_succ_cons, List.take_zero, List.drop_succ_cons, List.drop_zero]; repeat still_step; try refine wpStill_nil ?_)
                          go_wp2_with (go_at_call 15; refine (hPl.out _ (x0, x1) HBr.out.drew).mono ?_; rintro e w6 ⟨rfl, hb6⟩; rw [HR1.out]
                                       have HB6 := Lib.hid (HBr.out.drew.trans (hb6.mono HBr.out.drew.size))
                                       have nb6 := nb2.out.below HB6.out
                                       have m0 := nb6.c0
                                       have m1 := nb6.c1
                                       have m2 := nb6.c2
                                       have d60 := (hb6.cell (p := ⟨b, off + k * 4, none⟩) (by simpa using hbz)).trans d0
                                       have d61 := (hb6.cell (p := ⟨b, off + k * 4 + 1, none⟩) (by simpa using hbz)).trans d1
                                       have d62 := (hb6.cell (p := ⟨b, off + k * 4 + 2, none⟩) (by simpa using hbz)).trans d2
                                       have d63 := (hb6.cell (p := ⟨b, off + k * 4 + 3, none⟩) (by simpa using hbz)).trans d3
                                       have R6 := Lib.hid (HR.out.1.keep (w' := w6) fun b hb => hb6.block b (HR.out.1.lt b hb))
                                       clear hb6 nb6)
                          (refine region_tail 9 (by kernel_rfl) (by kernel_rfl) ?_; simp only [List.take_succ_cons, List.take_zero, List.drop_succ_cons, List.drop_zero]; repeat still_step; try refine wpStill_nil ?_)
                          go_wp2_with (go_at_call 15; refine (hPl.out _ (x2, x3) HB6.out.drew).mono ?_; rintro e w7 ⟨rfl, hb7⟩; rw [HR2.out]
                                       have HB7 := Lib.hid (HB6.out.drew.trans (hb7.mono HB6.out.drew.size))
                                       have R7 : Hid (Row w7 4 1 (.slice (some ⟨w2.heap.size, 0, none⟩) M M) M (bvals (seenW (pnL L) cells f W k))) := R6.out.keep fun b hb => hb7.block b (R6.out.lt b hb)
                                       have s0 : w7.frozen? ⟨w2.heap.size, a, none⟩ = false := R7.out.frozenAt a
                                       have s1 : w7.frozen? ⟨w2.heap.size, b2, none⟩ = false := R7.out.frozenAt b2
                                       have s2 : w7.cell? ⟨w2.heap.size, a, none⟩ = some (.bool false) := (R7.out.cellAt a (by omega)).trans HVA.out
                                       have s3 : w7.cell? ⟨w2.heap.size, b2, none⟩ = some (.bool true) := (R7.out.cellAt b2 (by omega)).trans HVB.out
                                       clear hb7)
                          go_ret2
                          exact ⟨retI2 (by rw [HBAD.out]) (by rw [HBAD.out]), HB2.out.trans (HB7.out.mono HB2.out.size)⟩
                      · rw [hva] at HVA
                        have HBAD : Hid (netChk (pnL L) L.length (chk L) cells f W = (31, (k : Int))) := HE31.out (.inl (by simpa using hva))
                        generalize hvb : decide ((x2, x3) ∈ ends (W.take k)) = vb at HVB
                        clear hva hvb HGd HE31 HE0 HEq
                        go_wp2_with fail
                        (refine region_tail 9 (by kernel_rfl) (by kernel_rfl) ?_; simp only [List.take_succ_cons, List.take_zero, List.drop_succ_cons, List.drop_zero]; repeat still_step; try refine wpStill_nil ?_)
                        go_wp2_with (go_at_call 15; refine (hPl.out _ (x0, x1) HBr.out.drew).mono ?_; rintro e w6 ⟨rfl, hb6⟩; rw [HR1.out]
                                     have HB6 := Lib.hid (HBr.out.drew.trans (hb6.mono HBr.out.drew.size))
                                     have nb6 := nb2.out.below HB6.out
                                     have m0 := nb6.c0
                                     have m1 := nb6.c1
                                     have m2 := nb6.c2
                                     have d60 := (hb6.cell (p := ⟨b, off + k * 4, none⟩) (by simpa using hbz)).trans d0
                                     have d61 := (hb6.cell (p := ⟨b, off + k * 4 + 1, none⟩) (by simpa using hbz)).trans d1
                                     have d62 := (hb6.cell (p := ⟨b, off + k * 4 + 2, none⟩) (by simpa using hbz)).trans d2
                                     have d63 := (hb6.cell (p := ⟨b, off + k * 4 + 3, none⟩) (by simpa using hbz)).trans d3
                                     have R6 := Lib.hid (HR.out.1.keep (w' := w6) fun b hb => hb6.block b (HR.out.1.lt b hb))
                                     clear hb6 nb6)
                        (refine region_tail 9 (by kernel_rfl) (by kernel_rfl) ?_; simp only [List.take_succ_cons, List.take_zero, List.drop_succ_cons, List.drop_zero]; repeat still_step; try refine wpStill_nil ?_)
                        go_wp2_with (go_at_call 15; refine (hPl.out _ (x2, x3) HB6.out.drew).mono ?_; rintro e w7 ⟨rfl, hb7⟩; rw [HR2.out]
                                     have HB7 := Lib.hid (HB6.out.drew.trans (hb7.mono HB6.out.drew.size))
                                     have R7 : Hid (Row w7 4 1 (.slice (some ⟨w2.heap.size, 0, none⟩) M M) M (bvals (seenW (pnL L) cells f W k))) := R6.out.keep fun b hb => hb7.block b (R6.out.lt b hb)
                                     have s0 : w7.frozen? ⟨w2.heap.size, a, none⟩ = false := R7.out.frozenAt a
                                     have s1 : w7.frozen? ⟨w2.heap.size, b2, none⟩ = false := R7.out.frozenAt b2
                                     have s2 : w7.cell? ⟨w2.heap.size, a, none⟩ = some (.bool true) := (R7.out.cellAt a (by omega)).trans HVA.out
                                     have s3 : w7.cell? ⟨w2.heap.size, b2, none⟩ = some (.bool vb) := (R7.out.cellAt b2 (by omega)).trans HVB.out
                                     clear hb7)
                        go_ret2
                        exact ⟨retI2 (by rw [HBAD.out]) (by rw [HBAD.out]), HB2.out.trans (HB7.out.mono HB2.out.size)⟩
                · obtain rfl : k = W.length := by omega
                  obtain ⟨wo, hwo⟩ : ∃ wo, wo = wr := ⟨_, rfl⟩
                  subst hwo
                  have hg := HR.out.1.lt w2.heap.size (by simp [ownB])
                  have HLA := Lib.hid (allPs_len (pnL L) cells f)
                  have HAt : Hid (∀ i, i < M → wo.cell? ⟨w2.heap.size, i, none⟩ = some (.bool (decide ((allPs (pnL L) cells f).getD i (0, 0) ∈ ends W)))) := fun i hi => by
                    have hil : i < (allPs (pnL L) cells f).length := by rw [HLA.out, HM.out]; exact hi
                    have e := (HR.out.1.cellAt i (by omega))
                    rw [e]
                    simp [bvals, seenW, hil]
                  have HBx : Hid (Below w.heap.size w wo) := HB2.out.trans (HBr.out.mono HB2.out.size)
                  have HNw : Hid (∀ j, j < W.length → wBad (isPt (pnL L) cells f) W j = 0) := HN2
                  clear n0 n1 HN2 HR
                  go_wp2_with fail
                  go_loopw [15] (fun i wz => ∃ k : Nat, i = .int .i64 k ∧ k ≤ M ∧ Hid (∀ j, j < k → (allPs (pnL L) cells f).getD j (0, 0) ∈ ends W) ∧ Hid (Below wo.heap.size wo wz)) (fun i _ => M - (intOf i).toNat)
                  case atStart => exact ⟨0, rfl, by omega, fun j hj => by omega, Below.refl _ _⟩
                  case round =>
                    obtain ⟨k, rfl, hk3, HN3, HB3⟩ := hrel
                    by_cases hlt3 : k < M
                    · have hat := HAt.out k hlt3
                      have s1 := (HB3.out.cell (p := ⟨w2.heap.size, k, none⟩) hg).trans hat
                      clear hat
                      cases hin : decide ((allPs (pnL L) cells f).getD k (0, 0) ∈ ends W)
                      · rw [hin] at s1
                        have HBAD : Hid (netChk (pnL L) L.length (chk L) cells f W = (32, (k : Int))) := nc_open HZ.out hc4 (by omega) (by omega) HN.out HNw.out (by rw [show ((f : Int)).toNat = f from rfl, HLA.out, HM.out]; exact hlt3) (by simpa using hin) HN3.out
                        clear hin
                        go_wp2
                        go_ret2
                        exact ⟨retI2 (by rw [HBAD.out]) (by rw [HBAD.out]), HBx.out.trans (HB3.out.mono HBx.out.size)⟩
                      · rw [hin] at s1
                        have HG : Hid (∀ j, j < k + 1 → (allPs (pnL L) cells f).getD j (0, 0) ∈ ends W) := fun j hj => by
                          rcases Nat.lt_or_ge j k with h | h
                          · exact HN3.out j h
                          · obtain rfl : j = k := by omega
                            simpa using hin
                        clear hin
                        go_wp2
                        go_roundw
                        case rel => exact ⟨k + 1, by go_num, by omega, HG, HB3⟩
                        case measure => simp [intOf]; omega
                    · obtain rfl : k = M := by omega
                      have HOK : Hid (netChk (pnL L) L.length (chk L) cells f W = (0, 0)) := nc_ok HZ.out hc4 (by omega) (by omega) HN.out HNw.out (fun j hj => HN3.out j (by rw [show ((f : Int)).toNat = f from rfl, HLA.out, HM.out] at hj; exact hj))
                      go_wp2
                      go_ret2
                      exact ⟨retI2 (by rw [HOK.out]) (by rw [HOK.out]), HBx.out.trans (HB3.out.mono HBx.out.size)⟩
  · have hz : (chk L).1 ≠ 0 := by simpa using hsg
    have HR : Hid (netChk (pnL L) L.length (chk L) cells free W = chk L) := nc_sig hz
    go_enter Try.func4, Try.ntmps4
    clear hz
    go_wp2_with (go_at_call 13; refine (rcheck_any _ _ _ L _ rfl hl hcap (Lib.hid (HL.out.below (hbA _)))).mono ?_; rintro e w1 ⟨rfl, hb1⟩; have HB1 : Hid (Below w.heap.size w w1) := (hbA _).trans (hb1.mono (by simp)))
    go_ret2
    exact ⟨retI2 (by rw [HR.out]) (by rw [HR.out]), HB1.out⟩
end Go.Proofs.Ytogbanlfihabpaa
