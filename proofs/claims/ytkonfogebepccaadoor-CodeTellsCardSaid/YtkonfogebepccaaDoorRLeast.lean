/-
  Contracts of skeinref12.Least.
-/
import Derived.Test.YtkonfogebepccaaDoorRFrom12
namespace Go.Proofs.YtkonfogebepccaaDoor
open Go.RowKit
attribute [local go_sem] cell_set
set_option maxRecDepth 100000
set_option linter.unusedVariables false

section
variable (A : Option Addr) (n cap : Nat) (L : List (ByteArray × Int)) (VA VB VI : Option Addr) (ca cb ci m : Nat) (cells : List Int) (free : Int) (W : List (Pt × Pt)) (ids : List Int) (w : World)
set_option maxHeartbeats 1000000 in
theorem rleast_bad (hn : n = L.length) (hcap : L.length ≤ cap) (HL : Hid (AgRd w A L)) (hl : L.length ≤ maxLen) (HC : Hid (IntsRd w VA cells)) (HW : Hid (WrRd w VB W)) (hc : cells.length ≤ 10000) (hw : W.length ≤ 40000) (k : Int)
    (hk : (netChk (pnL L) L.length (chk L) cells free W).1 = k) (hk0 : k ≠ 0) :
    Calls Tryd.prog 46 #[.slice A n cap, netV VA ca cells free VB cb W, .slice VI m ci] w fun e w' => e = .returned (.tuple #[.int .i64 0, .slice none 0 0, .int .i64 k]) ∧ Below w.heap.size w w' := by
  subst hn
  have HK := Lib.hid hk
  have f0 : (k != 0) = true := by simpa using hk0
  clear hk hk0
  go_enter Tryd.func46, Tryd.ntmps46
  go_upto_region 1 with fail
  refine absW (fun X => Below w.heap.size w X ∧ NBox X w.heap.size VA cells.length ca free VB W.length cb) ⟨by (repeat (first | exact Below.refl _ _ | (with_reducible refine Below.drew ?_) | (with_reducible refine Below.alloc ?_ (by (try simp); (try omega)) _) | (with_reducible refine Below.setCell ?_ (by (try simp); (try omega)) _) | (with_reducible refine Below.trans ?_ (Below.mono (by assumption) (by (try simp); (try omega)))))), ⟨by simp, by go_simp, by go_simp, by go_simp⟩⟩ ?_
  rintro X ⟨hbx, hnb⟩
  have HX := Lib.hid (And.intro hbx hnb)
  have c0 := (HX.out.2).c0
  have c1 := (HX.out.2).c1
  have c2 := (HX.out.2).c2
  have clt := (HX.out.2).lt
  clear hbx hnb
  go_wp2_with fail
  refine (rcheck3 A _ cap L VA VB ca cb cells free W _ rfl hcap (Lib.hid (HL.out.below HX.out.1)) hl (Lib.hid (HC.out.below HX.out.1)) (Lib.hid (HW.out.below HX.out.1)) hc hw).mono ?_
  rintro e w1 ⟨rfl, hb1⟩
  rw [HK.out]
  have HX := Lib.hid (And.intro (HX.out.1.trans (hb1.mono HX.out.1.size)) (HX.out.2.below hb1))
  clear hb1 c0 c1 c2 clt
  have c0 := (HX.out.2).c0
  have c1 := (HX.out.2).c1
  have c2 := (HX.out.2).c2
  have clt := (HX.out.2).lt
  simp only []
  go_wp2_with fail
  exact bodyPost_ret (v := .tuple #[.int .i64 0, .slice none 0 0, .int .i64 k]) (by simp only [results, Tryd.results46]; go_simp) rfl ⟨rfl, HX.out.1⟩
set_option maxHeartbeats 1000000 in
theorem rleast_nil (hn : n = L.length) (hcap : L.length ≤ cap) (HL : Hid (AgRd w A L)) (hl : L.length ≤ maxLen) (HC : Hid (IntsRd w VA cells)) (HW : Hid (WrRd w VB W)) (hc : cells.length ≤ 10000) (hw : W.length ≤ 40000)
    (hk : (netChk (pnL L) L.length (chk L) cells free W).1 = 0) :
    Calls Tryd.prog 46 #[.slice A n cap, netV VA ca cells free VB cb W, .slice VI 0 ci] w fun e w' => e = .returned (.tuple #[.int .i64 0, .slice none 0 0, .int .i64 1]) ∧ Below w.heap.size w w' := by
  subst hn
  have HK := Lib.hid hk
  clear hk
  go_enter Tryd.func46, Tryd.ntmps46
  go_upto_region 1 with fail
  refine absW (fun X => Below w.heap.size w X ∧ NBox X w.heap.size VA cells.length ca free VB W.length cb) ⟨by (repeat (first | exact Below.refl _ _ | (with_reducible refine Below.drew ?_) | (with_reducible refine Below.alloc ?_ (by (try simp); (try omega)) _) | (with_reducible refine Below.setCell ?_ (by (try simp); (try omega)) _) | (with_reducible refine Below.trans ?_ (Below.mono (by assumption) (by (try simp); (try omega)))))), ⟨by simp, by go_simp, by go_simp, by go_simp⟩⟩ ?_
  rintro X ⟨hbx, hnb⟩
  have HX := Lib.hid (And.intro hbx hnb)
  have c0 := (HX.out.2).c0
  have c1 := (HX.out.2).c1
  have c2 := (HX.out.2).c2
  have clt := (HX.out.2).lt
  clear hbx hnb
  go_wp2_with fail
  refine (rcheck3 A _ cap L VA VB ca cb cells free W _ rfl hcap (Lib.hid (HL.out.below HX.out.1)) hl (Lib.hid (HC.out.below HX.out.1)) (Lib.hid (HW.out.below HX.out.1)) hc hw).mono ?_
  rintro e w1 ⟨rfl, hb1⟩
  rw [HK.out]
  have HX := Lib.hid (And.intro (HX.out.1.trans (hb1.mono HX.out.1.size)) (HX.out.2.below hb1))
  clear hb1 c0 c1 c2 clt
  have c0 := (HX.out.2).c0
  have c1 := (HX.out.2).c1
  have c2 := (HX.out.2).c2
  have clt := (HX.out.2).lt
  simp only []
  go_wp2_with fail
  exact bodyPost_ret (v := .tuple #[.int .i64 0, .slice none 0 0, .int .i64 1]) (by simp only [results, Tryd.results46]; go_simp) rfl ⟨rfl, HX.out.1⟩
set_option maxHeartbeats 2000000 in
theorem rleast_rng (i0 : Nat) (hn : n = L.length) (hcap : L.length ≤ cap) (HL : Hid (AgRd w A L)) (hl : L.length ≤ maxLen) (HC : Hid (IntsRd w VA cells)) (HW : Hid (WrRd w VB W)) (hc : cells.length ≤ 10000) (hw : W.length ≤ 40000)
    (hk : (netChk (pnL L) L.length (chk L) cells free W).1 = 0) (HI : Hid (IntsRd w VI ids)) (hm : m = ids.length) (hm2 : m ≤ 100000) (hi0 : i0 < ids.length) (hr : Hid (∀ i, i < i0 → 0 ≤ ids.getD i 0 ∧ ids.getD i 0 < cells.length)) (hb0 : ids.getD i0 0 < 0 ∨ (cells.length : Int) ≤ ids.getD i0 0) :
    Calls Tryd.prog 46 #[.slice A n cap, netV VA ca cells free VB cb W, .slice VI m ci] w fun e w' => e = .returned (.tuple #[.int .i64 0, .slice none 0 0, .int .i64 1]) ∧ Below w.heap.size w w' := by
  subst hn hm
  have HK := Lib.hid hk
  have HB0 := Lib.hid hb0
  clear hk hb0
  go_enter Tryd.func46, Tryd.ntmps46
  go_upto_region 1 with fail
  refine absW (fun X => Below w.heap.size w X ∧ NBox X w.heap.size VA cells.length ca free VB W.length cb) ⟨by (repeat (first | exact Below.refl _ _ | (with_reducible refine Below.drew ?_) | (with_reducible refine Below.alloc ?_ (by (try simp); (try omega)) _) | (with_reducible refine Below.setCell ?_ (by (try simp); (try omega)) _) | (with_reducible refine Below.trans ?_ (Below.mono (by assumption) (by (try simp); (try omega)))))), ⟨by simp, by go_simp, by go_simp, by go_simp⟩⟩ ?_
  rintro X ⟨hbx, hnb⟩
  have HX := Lib.hid (And.intro hbx hnb)
  have c0 := (HX.out.2).c0
  have c1 := (HX.out.2).c1
  have c2 := (HX.out.2).c2
  have clt := (HX.out.2).lt
  clear hbx hnb
  go_wp2_with fail
  refine (rcheck3 A _ cap L VA VB ca cb cells free W _ rfl hcap (Lib.hid (HL.out.below HX.out.1)) hl (Lib.hid (HC.out.below HX.out.1)) (Lib.hid (HW.out.below HX.out.1)) hc hw).mono ?_
  rintro e w1 ⟨rfl, hb1⟩
  rw [HK.out]
  have HX := Lib.hid (And.intro (HX.out.1.trans (hb1.mono HX.out.1.size)) (HX.out.2.below hb1))
  clear hb1 c0 c1 c2 clt
  have c0 := (HX.out.2).c0
  have c1 := (HX.out.2).c1
  have c2 := (HX.out.2).c2
  have clt := (HX.out.2).lt
  simp only []
  have he0 : ((ids.length : Int) == 0) = false := by rw [beq_eq_false_iff_ne]; omega
  have hne : ¬ ((ids.length : Int) = 0) := by omega
  go_upto_region 6 with fail
  try simp only [he0]
  clear he0 hne
  obtain ⟨Y, rfl⟩ : ∃ Y : World, Y = w1 := ⟨_, rfl⟩
  go_wp2_with fail
  refine absW (fun Z => Below Y.heap.size Y Z) (by first | exact Below.refl _ _ | exact below_drewN (Below.refl _ _) _) ?_
  intro Y0 hY0
  have HY0 := Lib.hid hY0
  clear c0 c1 c2 clt hY0
  go_loopw [11] (fun i wr => ∃ k : Nat, i = .int .i64 k ∧ k ≤ i0 ∧ Hid (Below Y.heap.size Y wr)) (fun i _ => ids.length - (intOf i).toNat)
  case atStart => exact ⟨0, rfl, Nat.zero_le _, HY0⟩
  case round =>
    obtain ⟨k, rfl, hkl, HBr⟩ := hrel
    clear HY0
    have hnb := HX.out.2.below HBr.out
    have c0 := hnb.c0
    have c1 := hnb.c1
    have c2 := hnb.c2
    have clt := hnb.lt
    have HN2 := Lib.hid hnb
    have HB2 := Lib.hid (HX.out.1.trans (HBr.out.mono HX.out.1.size))
    clear hnb
    obtain ⟨b, off, rfl, hb, e0⟩ := HI.out k (show k < ids.length by omega)
    have d0 := (HB2.out.cell (p := ⟨b, off + k, none⟩) hb).trans e0
    have hbl := Nat.lt_of_lt_of_le hb HB2.out.size
    have hk1 : (k : Int) < (ids.length : Int) := by have := (show k < ids.length by omega); omega
    by_cases hki : k < i0
    · obtain ⟨h1, h2⟩ := hr.out k hki
      generalize ids.getD k 0 = x at d0 h1 h2 e0
      clear e0
      go_wp2_with fail
      go_quiet (fail)
      go_wp2_with fail
      go_roundw
      case rel => exact ⟨k + 1, by go_num, by omega, Lib.hid (HBr.out.trans ((below_drewN (Below.refl _ _) _).mono HBr.out.size))⟩
      case measure => simp [intOf]; omega
    · obtain rfl : k = i0 := by omega
      have hx := HB0.out
      generalize ids.getD k 0 = x at d0 hx e0
      have HBF := Lib.hid (HB2.out.trans ((below_drewN (Below.refl _ wr) 0).mono HB2.out.size))
      clear e0
      rcases Int.lt_or_le x 0 with h0 | h0
      · go_wp2_with fail
        go_quiet (fail)
        go_wp2_with fail
        exact bodyPost_ret (v := .tuple #[.int .i64 0, .slice none 0 0, .int .i64 1]) (by simp only [results, Tryd.results46]; go_simp) rfl ⟨rfl, HB2.out.trans (Below.mono (by first | exact Below.refl _ _ | exact below_drewN (Below.refl _ _) _) HB2.out.size)⟩
      · have h3 : (cells.length : Int) ≤ x := by omega
        go_wp2_with fail
        go_quiet (fail)
        go_wp2_with fail
        exact bodyPost_ret (v := .tuple #[.int .i64 0, .slice none 0 0, .int .i64 1]) (by simp only [results, Tryd.results46]; go_simp) rfl ⟨rfl, HB2.out.trans (Below.mono (by first | exact Below.refl _ _ | exact below_drewN (Below.refl _ _) _) HB2.out.size)⟩
set_option maxHeartbeats 4000000 in
theorem rleast_ok (f : Nat) (hn : n = L.length) (hcap : L.length ≤ cap) (HL : Hid (AgRd w A L)) (hl : L.length ≤ maxLen) (HC : Hid (IntsRd w VA cells)) (HW : Hid (WrRd w VB W)) (hc : cells.length ≤ 10000) (hw : W.length ≤ 40000)
    (hk : (netChk (pnL L) L.length (chk L) cells (f : Int) W).1 = 0) (HI : Hid (IntsRd w VI ids)) (hm : m = ids.length) (hm0 : 0 < m) (hm2 : m ≤ 100000) (hr : Hid (∀ i, i < ids.length → 0 ≤ ids.getD i 0 ∧ ids.getD i 0 < cells.length)) :
    Calls Tryd.prog 46 #[.slice A n cap, netV VA ca cells (f : Int) VB cb W, .slice VI m ci] w fun e w' => ∃ V c, e = .returned (.tuple #[.int .i64 (leastN (fun c => codeN (pnL L) cells (lkM W) (c, 0)) ids).1, .slice V (leastN (fun c => codeN (pnL L) cells (lkM W) (c, 0)) ids).2.length c, .int .i64 0]) ∧
      Fresh w w' 3 1 (leastN (fun c => codeN (pnL L) cells (lkM W) (c, 0)) ids).2.length (.slice V (leastN (fun c => codeN (pnL L) cells (lkM W) (c, 0)) ids).2.length c) (ivals (leastN (fun c => codeN (pnL L) cells (lkM W) (c, 0)) ids).2) := by
  subst hn hm
  have HK := Lib.hid hk
  obtain ⟨hz, hc4, hf0, hf64, hag, hok⟩ := netChk_ok hk
  have hsg := Lib.hid (chk_sig hz)
  have HAg := Lib.hid hag
  have HOk : Hid (NetOk (pnL L) cells f W) := hok
  have hc5 : cells.length ≤ 5000 := by omega
  have hf : f ≤ 100 := by omega
  have HPt : Hid (∀ i, i < ids.length → isPt (pnL L) cells f (ids.getD i 0, 0) = true) := fun i hi => by
    obtain ⟨h1, h2⟩ := hr.out i hi
    obtain ⟨c, hc⟩ := Int.eq_ofNat_of_zero_le h1
    rw [hc]
    have h3 := HAg.out c (by omega)
    have h4 := pnL_in hsg.out h3.1 h3.2
    have h5 := hsg.out.ar (cells.getD c 0).toNat (by omega)
    exact isPt_cell (s := 0) f (by omega) (by omega)
  clear hk hz hag hok hf0 hf64 hc4
  obtain ⟨M, hM⟩ : ∃ M, firstN (pnL L) cells f cells.length = M := ⟨_, rfl⟩
  have HM := Lib.hid hM
  have hMl : M ≤ 100000 := by
    have := firstN_le (pnL_le hsg.out) cells f cells.length
    omega
  clear hM
  have hal : Hid ((allPs (pnL L) cells f).length = M) := by show _ = _; rw [allPs_len, HM.out]
  have HLk : Hid (∀ Z, Below w.heap.size w Z → Calls Tryd.prog 92 #[.slice A L.length cap, netV VA ca cells f VB cb W] Z fun e w' => ∃ V1 c1 V2 c2 V3 c3, e = .returned (.agg #[.slice V1 M c1, .slice V2 M c2, .slice V3 (cells.length + 1) c3, .int .i64 (cells.length : Int)]) ∧ (PtsRd w' V1 (allPs (pnL L) cells f) ∧ IntsRd w' V2 (lkK (pnL L) cells f W W.length) ∧ IntsRd w' V3 (firstL (pnL L) cells f cells.length ++ [(firstN (pnL L) cells f cells.length : Int)])) ∧ Below Z.heap.size Z w') := fun Z hb => by
    refine (rlook A _ cap L VA VB ca cb cells f W Z rfl (Lib.hid (HL.out.below hb)) hsg.out (Lib.hid (HC.out.below hb)) (Lib.hid (HW.out.below hb)) hc5 hf hw HOk).mono ?_
    rintro e w4 ⟨V1, k1, V2, k2, V3, k3, rfl, h1, h2, h3, hb4⟩
    rw [hal.out, HM.out]
    refine ⟨V1, k1, V2, k2, V3, k3, rfl, ⟨h1, h2, ?_⟩, hb4⟩
    rw [HM.out] at h3
    exact h3
  have HOf : Hid (∀ (Z : World) V1 V2 V3 k1 k2 k3, Below w.heap.size w Z → (PtsRd Z V1 (allPs (pnL L) cells f) ∧ IntsRd Z V2 (lkK (pnL L) cells f W W.length) ∧ IntsRd Z V3 (firstL (pnL L) cells f cells.length ++ [(firstN (pnL L) cells f cells.length : Int)])) → Calls Tryd.prog 95 #[.agg #[.slice V1 M k1, .slice V2 M k2, .slice V3 (cells.length + 1) k3, .int .i64 (cells.length : Int)], .slice VA cells.length ca, .slice VI ids.length ci] Z fun e w' => ∃ V c, e = .returned (.tuple #[.int .i64 (leastN (fun c => codeN (pnL L) cells (lkM W) (c, 0)) ids).1, .slice V (leastN (fun c => codeN (pnL L) cells (lkM W) (c, 0)) ids).2.length c]) ∧ Fresh Z w' 3 1 (leastN (fun c => codeN (pnL L) cells (lkM W) (c, 0)) ids).2.length (.slice V (leastN (fun c => codeN (pnL L) cells (lkM W) (c, 0)) ids).2.length c) (ivals (leastN (fun c => codeN (pnL L) cells (lkM W) (c, 0)) ids).2)) := fun Z V1 V2 V3 k1 k2 k3 hb h =>
    rof (pnL L) cells f W V1 V2 V3 VA VI k1 k2 k3 ca ci M cells.length ids.length ids Z rfl (by omega) HM.out hMl hf (pnL_le hsg.out) HOk (Lib.hid h.1) (Lib.hid h.2.1) (Lib.hid h.2.2) (Lib.hid (HC.out.below hb)) (Lib.hid (HI.out.below hb)) rfl hm0 hm2 (Lib.hid fun i hi => ⟨(hr.out i hi).1, (hr.out i hi).2, HPt.out i hi⟩)
  obtain ⟨bst, hbst⟩ : ∃ b, leastN (fun c => codeN (pnL L) cells (lkM W) (c, 0)) ids = b := ⟨_, rfl⟩
  rw [hbst] at HOf ⊢
  clear hbst
  obtain ⟨b1, b2⟩ := bst
  dsimp only at HOf ⊢
  go_enter Tryd.func46, Tryd.ntmps46
  go_upto_region 1 with fail
  refine absW (fun X => Below w.heap.size w X ∧ NBox X w.heap.size VA cells.length ca (f : Int) VB W.length cb) ⟨by (repeat (first | exact Below.refl _ _ | (with_reducible refine Below.drew ?_) | (with_reducible refine Below.alloc ?_ (by (try simp); (try omega)) _) | (with_reducible refine Below.setCell ?_ (by (try simp); (try omega)) _) | (with_reducible refine Below.trans ?_ (Below.mono (by assumption) (by (try simp); (try omega)))))), ⟨by simp, by go_simp, by go_simp, by go_simp⟩⟩ ?_
  rintro X ⟨hbx, hnb⟩
  have HX := Lib.hid (And.intro hbx hnb)
  have c0 := (HX.out.2).c0
  have c1 := (HX.out.2).c1
  have c2 := (HX.out.2).c2
  have clt := (HX.out.2).lt
  clear hbx hnb
  go_wp2_with fail
  refine (rcheck3 A _ cap L VA VB ca cb cells (f : Int) W _ rfl hcap (Lib.hid (HL.out.below HX.out.1)) hl (Lib.hid (HC.out.below HX.out.1)) (Lib.hid (HW.out.below HX.out.1)) hc hw).mono ?_
  rintro e w1 ⟨rfl, hb1⟩
  rw [HK.out]
  have HX := Lib.hid (And.intro (HX.out.1.trans (hb1.mono HX.out.1.size)) (HX.out.2.below hb1))
  clear hb1 c0 c1 c2 clt
  have c0 := (HX.out.2).c0
  have c1 := (HX.out.2).c1
  have c2 := (HX.out.2).c2
  have clt := (HX.out.2).lt
  simp only []
  have he0 : ((ids.length : Int) == 0) = false := by rw [beq_eq_false_iff_ne]; omega
  have hne : ¬ ((ids.length : Int) = 0) := by omega
  go_upto_region 6 with fail
  try simp only [he0]
  clear he0 hne
  obtain ⟨Y, rfl⟩ : ∃ Y : World, Y = w1 := ⟨_, rfl⟩
  go_wp2_with fail
  refine absW (fun Z => Below Y.heap.size Y Z) (by first | exact Below.refl _ _ | exact below_drewN (Below.refl _ _) _) ?_
  intro Y0 hY0
  have HY0 := Lib.hid hY0
  clear c0 c1 c2 clt hY0
  go_loopw [11] (fun i wr => ∃ k : Nat, i = .int .i64 k ∧ k ≤ ids.length ∧ Hid (Below Y.heap.size Y wr)) (fun i _ => ids.length - (intOf i).toNat)
  case atStart => exact ⟨0, rfl, Nat.zero_le _, HY0⟩
  case round =>
    obtain ⟨k, rfl, hkl, HBr⟩ := hrel
    clear HY0
    have hnb := HX.out.2.below HBr.out
    have c0 := hnb.c0
    have c1 := hnb.c1
    have c2 := hnb.c2
    have clt := hnb.lt
    have HN2 := Lib.hid hnb
    have HB2 := Lib.hid (HX.out.1.trans (HBr.out.mono HX.out.1.size))
    clear hnb
    by_cases hlt : k < ids.length
    · obtain ⟨b, off, rfl, hb, e0⟩ := HI.out k hlt
      have d0 := (HB2.out.cell (p := ⟨b, off + k, none⟩) hb).trans e0
      have hbl := Nat.lt_of_lt_of_le hb HB2.out.size
      have hk1 : (k : Int) < (ids.length : Int) := by have := hlt; omega
      obtain ⟨h1, h2⟩ := hr.out k hlt
      generalize ids.getD k 0 = x at d0 h1 h2 e0
      clear e0
      go_wp2_with fail
      go_quiet (fail)
      go_wp2_with fail
      go_roundw
      case rel => exact ⟨k + 1, by go_num, by omega, Lib.hid (HBr.out.trans ((below_drewN (Below.refl _ _) _).mono HBr.out.size))⟩
      case measure => simp [intOf]; omega
    · obtain rfl : k = ids.length := by omega
      go_upto_region 11 with fail
      have HKP : Hid (∀ Z, Below wr.heap.size wr Z → Z.cell? ⟨w.heap.size, 0, none⟩ = some (.slice VA cells.length ca) ∧ Z.cell? ⟨w.heap.size, 1, none⟩ = some (.int .i64 (f : Int)) ∧ Z.cell? ⟨w.heap.size, 2, none⟩ = some (.slice VB W.length cb)) := fun Z hb => by
        have hh := HN2.out.below hb
        exact ⟨hh.c0, hh.c1, hh.c2⟩
      have HBw : Hid (∀ Z, Below wr.heap.size wr Z → Below w.heap.size w Z) := fun Z hb => HB2.out.trans (hb.mono HB2.out.size)
      have hk0 := HKP.out wr (Below.refl _ _)
      clear c0 c1 c2
      have HBz : Hid (Below wr.heap.size wr wr) := Below.refl _ _
      go_region_held3 (fun Z => Z.cell? ⟨w.heap.size, 0, none⟩ = some (.slice VA cells.length ca) ∧ Z.cell? ⟨w.heap.size, 1, none⟩ = some (.int .i64 (f : Int)) ∧ Z.cell? ⟨w.heap.size, 2, none⟩ = some (.slice VB W.length cb))
        (first | exact HKP.out _ HBz.out | exact HKP.out _ (HBz.out.trans (Below.mono (by (repeat (first | exact Below.refl _ _ | (with_reducible refine Below.drew ?_) | (with_reducible refine Below.alloc ?_ (by (try simp); (try omega)) _) | (with_reducible refine Below.setCell ?_ (by (try simp); (try omega)) _) | (with_reducible refine Below.trans ?_ (Below.mono (by assumption) (by (try simp); (try omega))))))) HBz.out.size)))
        (first
          | ((with_reducible refine (HLk.out _ (HBw.out _ (HBz.out.trans (Below.mono (by (repeat (first | exact Below.refl _ _ | (with_reducible refine Below.drew ?_) | (with_reducible refine Below.alloc ?_ (by (try simp); (try omega)) _) | (with_reducible refine Below.setCell ?_ (by (try simp); (try omega)) _) | (with_reducible refine Below.trans ?_ (Below.mono (by assumption) (by (try simp); (try omega))))))) HBz.out.size)))).mono ?_); rintro e w4 ⟨V1, k1, V2, k2, V3, k3, rfl, hr4, hb4⟩; dsimp only
             have HBz : Hid (Below wr.heap.size wr w4) := HBz.out.trans (Below.mono (Below.trans (by (repeat (first | exact Below.refl _ _ | (with_reducible refine Below.drew ?_) | (with_reducible refine Below.alloc ?_ (by (try simp); (try omega)) _) | (with_reducible refine Below.setCell ?_ (by (try simp); (try omega)) _) | (with_reducible refine Below.trans ?_ (Below.mono (by assumption) (by (try simp); (try omega))))))) hb4) HBz.out.size)
             have hs4 : wr.heap.size ≤ w4.heap.size := HBz.out.size
             have HR4 := Lib.hid hr4
             clear hr4 hb4)
          | ((with_reducible refine (HOf.out _ _ _ _ _ _ _ (HBw.out _ HBz.out) HR4.out).mono ?_); rintro e w6 ⟨V, c, rfl, hf6⟩; dsimp only
             have HF6 := Lib.hid (hf6.from (HBw.out _ HBz.out))
             have HBz : Hid (Below wr.heap.size wr w6) := HBz.out.trans (hf6.2.2.mono HBz.out.size)
             have hs6 : wr.heap.size ≤ w6.heap.size := HBz.out.size
             clear hf6))
      go_wp2_with fail
      exact bodyPost_ret (v := .tuple #[.int .i64 b1, .slice V b2.length c, .int .i64 0]) (by simp only [results, Tryd.results46]; go_simp) rfl ⟨V, c, rfl, HF6.out⟩
end
end Go.Proofs.YtkonfogebepccaaDoor
