/-
  The statement WalkApart: the walk from its beginning.
-/
import Derived.Test.YtogbanlfihabpaaNetIs
import Derived.Test.YtogbanlfihabpaaWaC
import Derived.Test.YtogbanlfihabpaaWtL
import Derived.Test.YtogbanlfihabpaaRef03W
/-
  The statement WalkApart: the whole walk.
-/
/-
  skeinlaw11.heavy: how much the statement goes through.
-/
/-
  Contract of skeinlaw03.much.
-/
/-
  Contract of skeinref00.SizeAgents.
-/
namespace Go.Proofs.Ytogbanlfihabpaa
open Go.RowKit
attribute [local go_sem] cell_set
set_option maxRecDepth 100000
set_option linter.unusedVariables false

def SomeI (w : World) (e : Ending) (w' : World) : Prop := ∃ m : Int, e = .returned (.int .i64 m) ∧ w = w'
set_option maxHeartbeats 400000 in
theorem size_agents (A : Option Addr) (n cap : Nat) (L : List (ByteArray × Int)) (w : World) (hn : n = L.length) (hl : L.length ≤ maxLen) (HL : Hid (AgRd w A L)) :
    Calls Try.prog 16 #[.slice A n cap] w (SomeI w) := by
  subst hn
  unfold maxLen at hl
  go_enter Try.func16, Try.ntmps16
  go_wp2
  go_loop [3, 4] (fun t i => ∃ k : Nat, ∃ m : Int, i = .int .i64 k ∧ k ≤ L.length ∧ t = .int .i64 m) (fun _ i => L.length - (intOf i).toNat)
  case atStart => exact ⟨0, _, rfl, by omega, rfl⟩
  case round =>
    obtain ⟨k, m, rfl, hk, rfl⟩ := hrel
    by_cases hlt : k < L.length
    · by_cases hm : m ≤ 2147483647
      · obtain ⟨b, off, rfl, hb, e0, e1⟩ := HL.out k hlt
        clear e1
        generalize agN L k = s at e0
        go_wp2
        go_round
        case rel => exact ⟨k + 1, _, by go_num, by omega, rfl⟩
        case measure => simp [intOf]; omega
      · go_wp2
        go_ret
        exact ⟨_, rfl, rfl⟩
    · go_wp2
      go_ret
      exact ⟨_, rfl, rfl⟩

end Go.Proofs.Ytogbanlfihabpaa
namespace Go.Proofs.Ytogbanlfihabpaa
open Go.RowKit
attribute [local go_sem] cell_set
set_option maxRecDepth 100000
set_option linter.unusedVariables false

end Go.Proofs.Ytogbanlfihabpaa
namespace Go.Proofs.Ytogbanlfihabpaa
open Go.RowKit
attribute [local go_sem] cell_set
set_option maxRecDepth 100000
set_option linter.unusedVariables false
theorem size_net_is (VA VB : Option Addr) (n1 n2 ca cb : Nat) (free : Int) (w : World) (h1 : n1 ≤ 1000000000000000000) (h2 : n2 ≤ 1000000000000000000) : Calls Try.prog 17 #[.agg #[.slice VA n1 ca, .int .i64 free, .slice VB n2 cb]] w fun e w' => e = .returned (.int .i64 ((n1 : Int) + n2)) ∧ Below w.heap.size w w' := by
  have hs : IntKind.i64.wrap ((n1 : Int) + n2) = (n1 : Int) + n2 := IntWalk.i64_in _ (by omega)
  go_enter Try.func17, Try.ntmps17
  go_wp2
  go_ret
  exact ⟨rfl, by (repeat (first | exact Below.refl _ _ | (with_reducible refine Below.drew ?_) | (with_reducible refine Below.alloc ?_ (by (try simp); (try omega)) _) | (with_reducible refine Below.setCell ?_ (by (try simp); (try omega)) _) | (with_reducible refine Below.trans ?_ (Below.mono (by assumption) (by (try simp); (try omega))))))⟩
set_option maxHeartbeats 1000000 in
theorem heavy_11 (A : Option Addr) (n cap : Nat) (L : List (ByteArray × Int)) (VA VB : Option Addr) (n1 n2 ca cb : Nat) (free : Int) (w : World) (hn : n = L.length) (hl : L.length ≤ maxLen) (HL : Hid (AgRd w A L)) (h1 : n1 ≤ 1000000000000000000) (h2 : n2 ≤ 1000000000000000000) :
    Calls Try.prog 5 #[.slice A n cap, .agg #[.slice VA n1 ca, .int .i64 free, .slice VB n2 cb]] w fun e w' => ∃ r : Bool, e = .returned (.bool r) ∧ (r = false → n1 + n2 ≤ 2048) ∧ Below w.heap.size w w' := by
  subst hn
  have hbA : ∀ o : Obj, Below w.heap.size w (w.alloc o) := fun o => (Below.refl _ _).alloc (Nat.le_refl _) o
  have HSz : Hid (∀ Z, Below w.heap.size w Z → Calls Try.prog 16 #[.slice A L.length cap] Z (SomeI Z)) := fun Z hz => size_agents A _ cap L Z rfl hl (Lib.hid (HL.out.below hz))
  have HSn : Hid (∀ Z, Calls Try.prog 17 #[.agg #[.slice VA n1 ca, .int .i64 free, .slice VB n2 cb]] Z fun e w' => e = .returned (.int .i64 ((n1 : Int) + n2)) ∧ Below Z.heap.size Z w') := fun Z => size_net_is VA VB n1 n2 ca cb free Z h1 h2
  clear hl h1 h2
  obtain ⟨s, hs⟩ : ∃ s : Int, (n1 : Int) + n2 = s := ⟨_, rfl⟩
  rw [hs] at HSn
  have HS := Lib.hid hs
  clear hs
  go_enter Try.func5, Try.ntmps5
  go_wp2_with fail
  refine (HSz.out _ (hbA _)).mono ?_
  rintro e w1 ⟨m, rfl, rfl⟩
  by_cases c2 : m > 65536
  · go_wp2
    go_ret
    exact ⟨true, rfl, fun h => (by cases h), hbA _⟩
  · by_cases c3 : s > 2048
    · go_wp2_with (go_at_call 17; refine (HSn.out _).mono ?_; rintro e w2 ⟨rfl, hb2⟩)
      go_ret
      exact ⟨true, rfl, fun h => (by cases h), (hbA _).trans (hb2.mono (by simp))⟩
    · go_wp2_with (go_at_call 17; refine (HSn.out _).mono ?_; rintro e w2 ⟨rfl, hb2⟩)
      go_ret
      exact ⟨_, rfl, fun _ => (by have := HS.out; omega), (hbA _).trans (hb2.mono (by simp))⟩
end Go.Proofs.Ytogbanlfihabpaa
namespace Go.Proofs.Ytogbanlfihabpaa
open Go.RowKit
attribute [local go_sem] cell_set
attribute [local go_sem] Oper.semAt_some
set_option maxRecDepth 100000
set_option linter.unusedVariables false
section
variable (Q : Exit → Act → World → Prop) (w : World) (b3 : Nat) (A VA VB : Option Addr) (L : List (ByteArray × Int)) (n cap ca cb : Nat) (cells : List Int) (f : Nat) (W : List (Pt × Pt))
set_option maxHeartbeats 8000000 in
theorem wa_4 (a : Act) (X : World) (hn : n = L.length) (hcap : L.length ≤ cap) (hl : L.length ≤ maxLen) (h64 : cells.length ≤ 64) (hW : W.length ≤ 40000) (HR : Hid (Rd w A VA VB L cells W)) (hk : (netChk (pnL L) L.length (chk L) cells (f : Int) W).1 = 0)
    (hret : Hid (∀ a' X, FrN 198 [] [(4, .bool true)] a' → Below w.heap.size w X → Q .ret a' X))
    (HX : Hid (Below w.heap.size w X ∧ NBox X b3 VA cells.length ca (f : Int) VB W.length cb))
    (ha : FrN 198 [] [(0, .slice A n cap), (3, .pointer (some ⟨b3, 0, none⟩))] a) : (waT 4).wp Try.prog Q a X := by
  subst hn
  obtain ⟨U, rfl, e0, e3, -⟩ := ha.openWA
  unfold FrWA
  simp only [e0, e3]
  clear e0 e3 ha
  show (Code.seq _ _).wp _ _ _ _
  obtain ⟨hz, hc4, hf0, hf64, hag, hok⟩ := netChk_ok hk
  rw [Int.toNat_natCast] at hok
  have hsg := chk_sig hz
  have hL32 := hsg.len
  have HSg := Lib.hid hsg
  have hpos := pnL_pos hsg hag
  have hf6 : f ≤ 64 := by omega
  obtain ⟨R, hR⟩ : ∃ R, partsK (pnL L) cells f (lkM W) [] (frsF f ++ clsF 0 cells.length) = R := ⟨_, rfl⟩
  have hap := parts_apart hok hpos
  have hlen : LenP R := by rw [← hR, ← partsK_all hok hpos]; exact parts_len hsg hok (by omega) (by omega)
  rw [hR] at hap
  obtain ⟨N, hN⟩ : ∃ N, R.length = N := ⟨_, rfl⟩
  have hN5 : N ≤ 100000 := by rw [← hN]; exact hlen.1
  have HPF : Hid (∀ qs, qs.map paW = R → WaP (pnL L) cells f W N qs R) := fun qs hq => ⟨hq, hN, hlen, hok, hap, hpos, h64, hf6⟩
  have HRX : Hid (∀ Z, Below X.heap.size X Z → Rd Z A VA VB L cells W ∧ NBox Z b3 VA cells.length ca (f : Int) VB W.length cb) := fun Z hz => ⟨HR.out.below (HX.out.1.trans (hz.mono HX.out.1.size)), HX.out.2.below hz⟩
  have hS : ∀ Z, Below X.heap.size X Z → Z.cell? ⟨b3, 0, none⟩ = some (.slice VA cells.length ca) ∧ Z.cell? ⟨b3, 1, none⟩ = some (.int .i64 (f : Int)) ∧ Z.cell? ⟨b3, 2, none⟩ = some (.slice VB W.length cb) := fun Z hz => by
    have hk := (HRX.out Z hz).2
    exact ⟨hk.c0, hk.c1, hk.c2⟩
  have HKP := Lib.hid hS
  have C1 : Hid (∀ Z, Below X.heap.size X Z → Calls Try.prog 8 #[.slice A L.length cap] Z fun e w' => ∃ V9 c9, e = .returned (.slice V9 L.length c9) ∧ AgRd w' V9 L ∧ L.length ≤ c9 ∧ Below Z.heap.size Z w') := fun Z hz =>
    (copy_agents A cap L Z ((HRX.out Z hz).1.a) (by omega)).mono fun e w' ⟨V9, c9, he, hf⟩ => ⟨V9, c9, he, Row.agents hf.1, (by obtain ⟨A8, c8, e8, h8⟩ := hf.1.len; injection e8 with _ _ e9; rw [e9]; exact h8), hf.2.2⟩
  have C2 : Hid (∀ Z, Below X.heap.size X Z → Calls Try.prog 9 #[.agg #[.slice VA cells.length ca, .int .i64 (f : Int), .slice VB W.length cb]] Z fun e w' => ∃ V1 k1 V2 k2, e = .returned (.agg #[.slice V1 cells.length k1, .int .i64 (f : Int), .slice V2 W.length k2]) ∧ IntsRd w' V1 cells ∧ WrRd w' V2 W ∧ Below Z.heap.size Z w') := fun Z hz =>
    (copy_net VA VB ca cb cells f W Z (by omega) (by omega) (Lib.hid (HRX.out Z hz).1.c) (Lib.hid (HRX.out Z hz).1.w)).mono fun e w' ⟨V1, k1, V2, k2, he, h1, h2, _, _, hb⟩ => ⟨V1, k1, V2, k2, he, h1, h2, hb⟩
  have C3 : Hid (∀ Z A' cap' VA' VB' ca' cb', L.length ≤ cap' → AgRd Z A' L → IntsRd Z VA' cells → WrRd Z VB' W → Calls Try.prog 7 #[.slice A' L.length cap', .agg #[.slice VA' cells.length ca', .int .i64 (f : Int), .slice VB' W.length cb']] Z fun e w' => ∃ Vp kp qs, e = .returned (.tuple #[.slice Vp N kp, .int .i64 0]) ∧ PaS Z w' (.slice Vp N kp) qs ∧ qs.map paW = R ∧ Below Z.heap.size Z w') := fun Z A' cap' VA' VB' ca' cb' h0 h1 h2 h3 => by
    refine (parts_ok A' _ cap' L VA' VB' ca' cb' cells W Z f rfl h0 (Lib.hid h1) hl (Lib.hid h2) (Lib.hid h3) (by omega) hW hk).mono ?_
    rintro e w' ⟨w1, P, bl, bw, bo, bf, go, gf, ofs, frs, v, qs, he, g1, g2, g3⟩
    rw [hR] at g3
    obtain ⟨Vp, kp, qs', he', hp, hm⟩ := AnsP.of (Q := R) he (g2.pa g1) g3
    rw [hN] at he' hp
    exact ⟨Vp, kp, qs', he', hp, hm, hp.bel⟩
  have HF : Hid (∀ p, isPt (pnL L) cells f p = true → ∀ Z A' cap' VA' VB' ca' cb', L.length ≤ cap' → Rd Z A' VA' VB' L cells W → Calls Try.prog 12 #[.slice A' L.length cap', .agg #[.slice VA' cells.length ca', .int .i64 (f : Int), .slice VB' W.length cb'], .agg #[.int .i64 p.1, .int .i64 p.2]] Z (AnsF Z 0 (wlk (pnL L) cells (lkM W) p))) := fun p hp Z A' cap' VA' VB' ca' cb' h0 h1 =>
    wfrom_ok A' _ cap' L VA' VB' ca' cb' cells W p.1 p.2 Z f rfl h0 (Lib.hid h1.a) hl (Lib.hid h1.c) (Lib.hid h1.w) (by omega) hW hk hp
  have HAll : Hid (∀ Z, Rd Z A VA VB L cells W → Calls Try.prog 11 #[.slice A L.length cap, .agg #[.slice VA cells.length ca, .int .i64 (f : Int), .slice VB W.length cb]] Z fun e w' => ∃ V c, e = .returned (.slice V (allPs (pnL L) cells f).length c) ∧ PtsRd w' V (allPs (pnL L) cells f) ∧ Below Z.heap.size Z w') := fun Z hZ =>
    (rall A _ cap L VA VB ca cb cells f W Z rfl (Lib.hid hZ.a) hsg (Lib.hid hZ.c) (by omega) (by omega)).mono fun e w' ⟨V, c, he, hf⟩ => ⟨V, c, he, Row.pts hf.1, hf.2.2⟩
  obtain ⟨M, hM⟩ : ∃ M, (allPs (pnL L) cells f).length = M := ⟨_, rfl⟩
  have hM5 : M ≤ 100000 := by
    have := firstN_le (pnL_le hsg) cells f cells.length
    rw [← hM, allPs_len]; omega
  rw [hM] at HAll
  have HM := Lib.hid hM
  have HBz : Hid (Below X.heap.size X X.drew) := (Below.refl _ _).drew
  clear hS hk hz hc4 hf0 hf64 hag hok hsg hpos hR hap hlen hN hM
  go_wp2_with fail
  go_region_held3 (fun Z => Z.cell? ⟨b3, 0, none⟩ = some (.slice VA cells.length ca) ∧ Z.cell? ⟨b3, 1, none⟩ = some (.int .i64 (f : Int)) ∧ Z.cell? ⟨b3, 2, none⟩ = some (.slice VB W.length cb)) (exact HKP.out _ HBz.out)
    (first
      | (go_at_call 8; with_reducible refine (C1.out _ HBz.out).mono ?_; rintro e w2 ⟨V9, c9, rfl, ha9, hc9, hb2⟩; have HBz := Lib.hid (HBz.out.trans (hb2.mono HBz.out.size)); have HA9 := Lib.hid ha9; have HC9 := Lib.hid hc9; clear ha9 hc9 hb2; dsimp only)
      | (go_at_call 9; with_reducible refine (C2.out _ HBz.out).mono ?_; rintro e w3 ⟨V1, k1, V2, k2, rfl, h1, h2, hb3⟩; have HBz := Lib.hid (HBz.out.trans (hb3.mono HBz.out.size)); have HA9 := Lib.hid (HA9.out.below hb3); have HN9 := Lib.hid (And.intro h1 h2); clear h1 h2 hb3; dsimp only)
      | (go_at_call 7; with_reducible refine (C3.out _ _ _ _ _ _ _ HC9.out HA9.out HN9.out.1 HN9.out.2).mono ?_; rintro e w4 ⟨Vp, kp, qs, rfl, hp4, hm4, hb4⟩; have HP4 := Lib.hid (hp4.from (HX.out.1.trans (HBz.out.mono HX.out.1.size))); have HBz := Lib.hid (HBz.out.trans (hb4.mono HBz.out.size)); have HWP := Lib.hid (HPF.out qs hm4); clear hp4 hm4 hb4; dsimp only))
  all_goals
    have HK4 : Hid (WaK w w4 b3 A VA VB Vp L ca cb kp N cells f W qs) := ⟨HX.out.1.trans (HBz.out.mono HX.out.1.size), (HRX.out _ HBz.out).1, (HRX.out _ HBz.out).2, HP4.out⟩
    go_upto_region 10 with fail
    rename_i K10 hK10
    refine wp_loop_ghost (fun m' a' X' => ∃ i, m' = N - i ∧ i ≤ N ∧ FrN 198 [] [(0, .slice A L.length cap), (3, .pointer (some ⟨b3, 0, none⟩)), (7, .slice Vp N kp), (9, .int .i64 (cnt1 R i : Int)), (10, .int .i64 (cnt2 R i : Int)), (11, .int .i64 (i : Int))] a' ∧ X' = w4) N ⟨0, by omega, by omega, ⟨rfl, rfl, rfl, rfl, rfl, rfl, rfl, rfl, trivial⟩, rfl⟩ ?_
    rintro m' a2 X2 ⟨i, rfl, hi, hfr, rfl⟩
    refine wa_10 _ w b3 A VA VB Vp L _ cap ca cb kp N cells f W qs R (pnL L) a2 X2 i hi hN5 HWP HK4 (Lib.hid fun a3 hlt hfr3 => ?_) (Lib.hid fun a3 hfr3 hin => ?_) hfr
    · exact ⟨N - (i + 1), by omega, i + 1, rfl, by omega, hfr3, rfl⟩
    refine hK10 _ _ ?_
    have hc1 : cnt1 R i = cells.length := by rw [hin, ← HWP.out.qn, cnt_all.1, HWP.out.ap.cl]
    have hc2 : cnt2 R i = f := by rw [hin, ← HWP.out.qn, cnt_all.2, HWP.out.ap.fl]
    rw [hc1, hc2] at hfr3
    obtain ⟨U, rfl, e0, e3, e7, e9, e10, -⟩ := hfr3.openWA
    unfold FrWA
    simp only [e0, e3, e7, e9, e10]
    clear e0 e3 e7 e9 e10 hfr3 hfr hK10 K10 hi hin hc1 hc2
    show (Code.seq _ _).wp _ _ _ _
    have y0 := HK4.out.nb.c0
    have y1 := HK4.out.nb.c1
    have yl := HK4.out.nb.lt
    go_upto_region 17 with fail
    rename_i K17 hK17
    clear y0 y1 yl
    refine wp_loop_ghost (fun m' a' X' => ∃ i, m' = W.length - i ∧ i ≤ W.length ∧ FrN 198 [] [(0, .slice A L.length cap), (3, .pointer (some ⟨b3, 0, none⟩)), (7, .slice Vp N kp), (12, .int .i64 (i : Int))] a' ∧ WaK w X' b3 A VA VB Vp L ca cb kp N cells f W qs) W.length ⟨0, by omega, by omega, ⟨rfl, rfl, rfl, rfl, rfl, rfl, trivial⟩, HK4.out⟩ ?_
    rintro m' a2 X5 ⟨i, rfl, hi, hfr, hK⟩
    refine wa_17 _ w b3 A VA VB Vp L _ cap ca cb kp N cells f W qs R (pnL L) a2 X5 i hi (by omega) HWP (Lib.hid hK) (Lib.hid fun a3 X6 hlt hfr3 hK3 => ?_) (Lib.hid fun a3 X6 hfr3 hin hK3 => ?_) hfr
    · exact ⟨W.length - (i + 1), by omega, i + 1, rfl, by omega, hfr3, hK3⟩
    refine hK17 _ _ ?_
    obtain ⟨U, rfl, e0, e3, e7, -⟩ := hfr3.openWA
    unfold FrWA
    simp only [e0, e3, e7]
    have HK6 := Lib.hid hK3
    clear e0 e3 e7 hfr3 hfr hK hK3 hK17 K17 hi hin
    show (Code.seq _ _).wp _ _ _ _
    have y0 := HK6.out.nb.c0
    have y1 := HK6.out.nb.c1
    have y2 := HK6.out.nb.c2
    have yl := HK6.out.nb.lt
    go_wp2_with fail
    refine (HAll.out _ HK6.out.rd).mono ?_
    rintro e w7 ⟨VP, cP, rfl, hpt, hb7⟩
    have HK7 := Lib.hid (And.intro (HK6.out.below hb7) hpt)
    clear y0 y1 y2 yl hpt hb7
    simp only []
    go_upto_region 24 with fail
    rename_i K24 hK24
    refine wp_loop_ghost (fun m' a' X' => ∃ i, m' = M - i ∧ i ≤ M ∧ FrN 198 [] [(0, .slice A L.length cap), (3, .pointer (some ⟨b3, 0, none⟩)), (7, .slice Vp N kp), (14, .slice VP M cP), (15, .int .i64 (i : Int))] a' ∧ (WaK w X' b3 A VA VB Vp L ca cb kp N cells f W qs ∧ PtsRd X' VP (allPs (pnL L) cells f))) M ⟨0, by omega, by omega, ⟨rfl, rfl, rfl, rfl, rfl, rfl, rfl, trivial⟩, HK7.out⟩ ?_
    rintro m' a2 X8 ⟨i, rfl, hi, hfr, hK⟩
    refine wa_24 _ w b3 A VA VB Vp L _ cap ca cb kp N cells f W qs R VP M cP a2 X8 i hi hM5 rfl (by omega) hW HWP HM HF (Lib.hid hK) (Lib.hid fun a3 X9 hlt hfr3 hK3 => ?_) (Lib.hid fun a3 X9 hfr3 hin hK3 => ?_) hfr
    · exact ⟨M - (i + 1), by omega, i + 1, rfl, by omega, hfr3, hK3⟩
    refine hK24 _ _ ?_
    obtain ⟨U, rfl, -⟩ := hfr3.openWA
    unfold FrWA
    have HK9 := Lib.hid hK3
    clear hfr3 hfr hK hK3 hK24 K24 hi hin
    show (Code.seq _ _).wp _ _ _ _
    go_wp2_with fail
    refine (lives11 _).mono ?_
    rintro e w10 ⟨rfl, hb10⟩
    have HB10 := Lib.hid (HK9.out.bel.trans (hb10.mono HK9.out.bel.size))
    clear hb10
    simp only []
    repeat (first | go_values | go_skip | go_guarded | go_step | go_upon | go_back)
    exact hret.out _ _ ⟨rfl, rfl, rfl, trivial⟩ HB10.out
end
end Go.Proofs.Ytogbanlfihabpaa
namespace Go.Proofs.Ytogbanlfihabpaa
open Go.RowKit
attribute [local go_sem] cell_set
attribute [local go_sem] Oper.semAt_some
set_option maxRecDepth 100000
set_option linter.unusedVariables false
set_option maxHeartbeats 4000000 in
/-- THE WALK. -/
theorem walk_apart (A : Option Addr) (n cap : Nat) (L : List (ByteArray × Int)) (VA VB : Option Addr) (ca cb : Nat) (cells : List Int) (free : Int) (W : List (Pt × Pt)) (w : World) (hn : n = L.length) (hcap : L.length ≤ cap) (HA : AgRd w A L) (HC : IntsRd w VA cells) (HW : WrRd w VB W)
    (hl : L.length ≤ maxLen) (hcA : cells.length ≤ 1000000000000000000) (hwA : W.length ≤ 1000000000000000000) :
    Calls Try.prog 3 #[.slice A n cap, netV VA ca cells free VB cb W] w fun e w' => e = .returned (.bool true) ∧ Below w.heap.size w w' := by
  subst hn
  have HR : Hid (Rd w A VA VB L cells W) := ⟨HA, HC, HW⟩
  have HL := Lib.hid (And.intro hcap (And.intro hl (And.intro hcA hwA)))
  clear HA HC HW hcap hl hcA hwA
  go_enter Try.func3, Try.ntmps3
  have hfin : Hid (∀ (a' : Act) (X : World), FrN 198 [] [(4, .bool true)] a' → Below w.heap.size w X → bodyPost Try.prog Try.f3 (fun e w' => e = .returned (.bool true) ∧ Below w.heap.size w w') .ret a' X) := by
    rintro a' X ⟨hsz, hdf, h4, _⟩ hb
    have g4 : a'.tmps[4]'(by rw [hsz]; omega) = .bool true := (Array.getElem?_eq_some_iff.1 h4).2
    exact bodyPost_ret (v := .bool true) (by simp only [results, Try.results3]; go_simp) hdf ⟨rfl, hb⟩
  go_upto_region 1 with fail
  refine absW (fun X => Below w.heap.size w X ∧ NBox X w.heap.size VA cells.length ca free VB W.length cb) ⟨by (repeat (first | exact Below.refl _ _ | (with_reducible refine Below.drew ?_) | (with_reducible refine Below.alloc ?_ (by (try simp); (try omega)) _) | (with_reducible refine Below.setCell ?_ (by (try simp); (try omega)) _) | (with_reducible refine Below.trans ?_ (Below.mono (by assumption) (by (try simp); (try omega)))))), ⟨by simp <;> omega, by go_simp, by go_simp, by go_simp⟩⟩ ?_
  rintro X ⟨hbx, hnb⟩
  have HX := Lib.hid (And.intro hbx hnb)
  have c0 := HX.out.2.c0
  have c1 := HX.out.2.c1
  have c2 := HX.out.2.c2
  have clt := HX.out.2.lt
  clear hbx hnb
  have HCk : Hid (Calls Try.prog 4 #[.slice A L.length cap, .agg #[.slice VA cells.length ca, .int .i64 free, .slice VB W.length cb]] X fun e w' => e = .returned (.tuple #[.int .i64 (netChk (pnL L) L.length (chk L) cells free W).1, .int .i64 (netChk (pnL L) L.length (chk L) cells free W).2]) ∧ Below X.heap.size X w') :=
    rcheck3w A _ cap L VA VB ca cb cells free W X rfl HL.out.1 (Lib.hid (HR.out.a.below HX.out.1)) HL.out.2.1 (Lib.hid (HR.out.c.below HX.out.1)) (Lib.hid (HR.out.w.below HX.out.1)) HL.out.2.2.1 HL.out.2.2.2
  obtain ⟨k, hk⟩ : ∃ k, (netChk (pnL L) L.length (chk L) cells free W).1 = k := ⟨_, rfl⟩
  obtain ⟨k2, hk2⟩ : ∃ k, (netChk (pnL L) L.length (chk L) cells free W).2 = k := ⟨_, rfl⟩
  rw [hk, hk2] at HCk
  have HK := Lib.hid hk
  clear hk hk2
  go_wp2_with fail
  refine HCk.out.mono ?_
  rintro e w1 ⟨rfl, hb1⟩
  have HX1 := Lib.hid (And.intro (HX.out.1.trans (hb1.mono HX.out.1.size)) (HX.out.2.below hb1))
  clear hb1 c0 c1 c2 clt
  have c0 := HX1.out.2.c0
  have c1 := HX1.out.2.c1
  have c2 := HX1.out.2.c2
  have clt := HX1.out.2.lt
  simp only []
  go_wp2_with fail
  refine (heavy_11 A _ cap L VA VB cells.length W.length ca cb free _ rfl HL.out.2.1 (Lib.hid (HR.out.a.below HX1.out.1)) HL.out.2.2.1 HL.out.2.2.2).mono ?_
  rintro e w2 ⟨r, rfl, hr, hb2⟩
  have HX2 := Lib.hid (And.intro (HX1.out.1.trans (hb2.mono HX1.out.1.size)) (HX1.out.2.below hb2))
  clear hb2 c0 c1 c2 clt
  have c0 := HX2.out.2.c0
  have clt := HX2.out.2.lt
  simp only []
  cases r with
  | true =>
    clear hr
    go_wp2_with (go_at_call 6; refine (lives11 _).mono ?_; rintro e w9 ⟨rfl, hb9⟩
                 have HB9 := Lib.hid (HX2.out.1.trans (hb9.mono HX2.out.1.size))
                 clear hb9)
    exact hfin.out _ _ ⟨rfl, rfl, rfl, trivial⟩ HB9.out
  | false =>
    have HR1 := Lib.hid (hr rfl)
    clear hr
    by_cases h64 : cells.length ≤ 64
    · have h64a : decide ((64 : Int) < (cells.length : Int)) = false := decide_eq_false (by omega)
      by_cases hk0 : k = 0
      · subst hk0
        obtain ⟨_, _, hf0, _, _, _⟩ := netChk_ok HK.out
        obtain ⟨f, rfl⟩ := Int.eq_ofNat_of_zero_le hf0
        clear hf0
        iterate 80 (first | (with_reducible refine at_seq3 4 ?_) | (with_reducible refine at_seq2 4 ?_) | (with_reducible refine at_seq 4 ?_) | go_values | go_skip | go_guarded | go_step | go_upon | go_back | go_simp)
        refine wa_4 _ w w.heap.size A VA VB L _ cap ca cb cells f W _ w2 rfl HL.out.1 HL.out.2.1 h64 (by have := HR1.out; omega) HR HK.out hfin HX2 ⟨rfl, rfl, rfl, rfl, trivial⟩
      · have hk1 : (k != 0) = true := by simpa using hk0
        have HK0 := Lib.hid hk0
        clear hk0
        go_wp2_with (go_at_call 6; refine (lives11 _).mono ?_; rintro e w9 ⟨rfl, hb9⟩
                     have HB9 := Lib.hid (HX2.out.1.trans (hb9.mono HX2.out.1.size))
                     clear hb9)
        exact hfin.out _ _ ⟨rfl, rfl, rfl, trivial⟩ HB9.out
    · have h64a : decide ((64 : Int) < (cells.length : Int)) = true := decide_eq_true (by omega)
      clear h64
      go_wp2_with (go_at_call 6; refine (lives11 _).mono ?_; rintro e w9 ⟨rfl, hb9⟩
                   have HB9 := Lib.hid (HX2.out.1.trans (hb9.mono HX2.out.1.size))
                   clear hb9)
      exact hfin.out _ _ ⟨rfl, rfl, rfl, trivial⟩ HB9.out
end Go.Proofs.Ytogbanlfihabpaa
