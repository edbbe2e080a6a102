/-
  Contracts of skeinref12.From and skeinref12.Least.
-/
import Derived.Test.YtkonfogebepccaaDoorRWalkC
import Derived.Test.YtkonfogebepccaaDoorRef03C
import Derived.Test.YtkonfogebepccaaDoorRowPorts
import Derived.Test.YtkonfogebepccaaDoorROf
/-
  Contracts of skeinref11.From: of no net; of no port; of a port of a net that may be.
-/
namespace Go.Proofs.YtkonfogebepccaaDoor
open Go.RowKit
attribute [local go_sem] cell_set
set_option maxRecDepth 100000
set_option linter.unusedVariables false

section
variable (A : Option Addr) (n cap : Nat) (L : List (ByteArray × Int)) (VA VB : Option Addr) (ca cb : Nat) (cells : List Int) (free : Int) (W : List (Pt × Pt)) (p1 p2 : Int) (w : World)
set_option maxHeartbeats 1000000 in
theorem rfrom_bad (hn : n = L.length) (hcap : L.length ≤ cap) (HL : Hid (AgRd w A L)) (hl : L.length ≤ maxLen) (HC : Hid (IntsRd w VA cells)) (HW : Hid (WrRd w VB W)) (hc : cells.length ≤ 10000) (hw : W.length ≤ 40000) (k : Int)
    (hk : (netChk (pnL L) L.length (chk L) cells free W).1 = k) (hk0 : k ≠ 0) :
    Calls Tryd.prog 90 #[.slice A n cap, netV VA ca cells free VB cb W, .agg #[.int .i64 p1, .int .i64 p2]] w fun e w' => e = .returned (.tuple #[.slice none 0 0, .int .i64 k]) ∧ Below w.heap.size w w' := by
  have HK := Lib.hid hk
  have f0 : (k != 0) = true := by simpa using hk0
  clear hk hk0
  subst hn
  go_enter Tryd.func90, Tryd.ntmps90
  go_upto_region 1 with fail
  refine absW (fun X => Below w.heap.size w X ∧ NBox X w.heap.size VA cells.length ca free VB W.length cb ∧ PtBx X (w.heap.size + 1) (p1, p2)) ⟨by (repeat (first | exact Below.refl _ _ | (with_reducible refine Below.drew ?_) | (with_reducible refine Below.alloc ?_ (by (try simp); (try omega)) _) | (with_reducible refine Below.setCell ?_ (by (try simp); (try omega)) _) | (with_reducible refine Below.trans ?_ (Below.mono (by assumption) (by (try simp); (try omega)))))), ⟨by simp <;> omega, by go_simp, by go_simp, by go_simp⟩, ?_⟩ ?_
  · have := heap_alloc_new (w.alloc (.cells #[.slice VA cells.length ca, .int .i64 free, .slice VB W.length cb] 64)) (.cells #[.int .i64 p1, .int .i64 p2] 83)
    rw [World.size_alloc] at this
    exact this
  rintro X ⟨hbx, hnb, hpb⟩
  have HX := Lib.hid (And.intro hbx (And.intro hnb hpb))
  have c0 := (HX.out.2.1).c0
  have c1 := (HX.out.2.1).c1
  have c2 := (HX.out.2.1).c2
  have clt := (HX.out.2.1).lt
  obtain ⟨x0, x1, hxl⟩ := (HX.out.2.2).cells
  dsimp only at x0 x1
  clear hbx hnb hpb
  go_wp2_with fail
  refine (rcheck3 A _ cap L VA VB ca cb cells free W _ rfl hcap (Lib.hid (HL.out.below HX.out.1)) hl (Lib.hid (HC.out.below HX.out.1)) (Lib.hid (HW.out.below HX.out.1)) hc hw).mono ?_
  rintro e w1 ⟨rfl, hb1⟩
  rw [HK.out]
  have HB := Lib.hid (HX.out.1.trans (hb1.mono HX.out.1.size))
  clear hb1 c0 c1 c2 clt x0 x1 hxl
  simp only []
  go_wp2_with fail
  go_ret2
  exact ⟨rfl, HB.out⟩
set_option maxHeartbeats 1000000 in
theorem rfrom_port (f : Nat) (hn : n = L.length) (hcap : L.length ≤ cap) (HL : Hid (AgRd w A L)) (hl : L.length ≤ maxLen) (HC : Hid (IntsRd w VA cells)) (HW : Hid (WrRd w VB W)) (hc : cells.length ≤ 10000) (hw : W.length ≤ 40000)
    (hk : (netChk (pnL L) L.length (chk L) cells (f : Int) W).1 = 0) (hp : isPt (pnL L) cells f (p1, p2) = false) :
    Calls Tryd.prog 90 #[.slice A n cap, netV VA ca cells (f : Int) VB cb W, .agg #[.int .i64 p1, .int .i64 p2]] w fun e w' => e = .returned (.tuple #[.slice none 0 0, .int .i64 30]) ∧ Below w.heap.size w w' := by
  obtain ⟨hz, hc4, hf0, hf64, hag, hok⟩ := netChk_ok hk
  have hsg := Lib.hid (chk_sig hz)
  have HK := Lib.hid hk
  have HPl : Hid (plcR (pnL L) cells f (p1, p2) = -1) := by show _ = _; unfold plcR; rw [hp]; rfl
  have hc5 : cells.length ≤ 5000 := by omega
  have hf : f ≤ 100 := by omega
  clear hk hp hz hag hok hf0 hf64 hc4
  subst hn
  go_enter Tryd.func90, Tryd.ntmps90
  go_upto_region 1 with fail
  refine absW (fun X => Below w.heap.size w X ∧ NBox X w.heap.size VA cells.length ca (f : Int) VB W.length cb ∧ PtBx X (w.heap.size + 1) (p1, p2)) ⟨by (repeat (first | exact Below.refl _ _ | (with_reducible refine Below.drew ?_) | (with_reducible refine Below.alloc ?_ (by (try simp); (try omega)) _) | (with_reducible refine Below.setCell ?_ (by (try simp); (try omega)) _) | (with_reducible refine Below.trans ?_ (Below.mono (by assumption) (by (try simp); (try omega)))))), ⟨by simp <;> omega, by go_simp, by go_simp, by go_simp⟩, ?_⟩ ?_
  · have := heap_alloc_new (w.alloc (.cells #[.slice VA cells.length ca, .int .i64 (f : Int), .slice VB W.length cb] 64)) (.cells #[.int .i64 p1, .int .i64 p2] 83)
    rw [World.size_alloc] at this
    exact this
  rintro X ⟨hbx, hnb, hpb⟩
  have HX := Lib.hid (And.intro hbx (And.intro hnb hpb))
  have c0 := (HX.out.2.1).c0
  have c1 := (HX.out.2.1).c1
  have c2 := (HX.out.2.1).c2
  have clt := (HX.out.2.1).lt
  obtain ⟨x0, x1, hxl⟩ := (HX.out.2.2).cells
  dsimp only at x0 x1
  clear hbx hnb hpb
  go_wp2_with fail
  refine (rcheck3 A _ cap L VA VB ca cb cells (f : Int) W _ rfl hcap (Lib.hid (HL.out.below HX.out.1)) hl (Lib.hid (HC.out.below HX.out.1)) (Lib.hid (HW.out.below HX.out.1)) hc hw).mono ?_
  rintro e w1 ⟨rfl, hb1⟩
  rw [HK.out]
  have HX := Lib.hid (And.intro (HX.out.1.trans (hb1.mono HX.out.1.size)) (And.intro (HX.out.2.1.below hb1) (HX.out.2.2.below hb1)))
  clear c0 c1 c2 clt x0 x1 hxl
  have c0 := (HX.out.2.1).c0
  have c1 := (HX.out.2.1).c1
  have c2 := (HX.out.2.1).c2
  have clt := (HX.out.2.1).lt
  obtain ⟨x0, x1, hxl⟩ := (HX.out.2.2).cells
  dsimp only at x0 x1
  clear hb1
  simp only []
  go_wp2_with fail
  refine (rfirst A _ cap L VA VB ca cb cells f W _ rfl (Lib.hid (HL.out.below HX.out.1)) hsg.out (Lib.hid (HC.out.below HX.out.1)) hc5 hf).mono ?_
  rintro e w2 ⟨Vf, cf, rfl, hfr⟩
  have hfl : (firstL (pnL L) cells f cells.length).length = cells.length := firstL_len _ _ _ _
  have HF : Hid (IntsRd w2 Vf (firstL (pnL L) cells f cells.length)) := Row.ints (cap := cf) (by rw [hfl]; exact hfr.1)
  have HX := Lib.hid (And.intro (HX.out.1.trans (hfr.2.2.mono HX.out.1.size)) (And.intro (HX.out.2.1.below hfr.2.2) (HX.out.2.2.below hfr.2.2)))
  clear c0 c1 c2 clt x0 x1 hxl
  have c0 := (HX.out.2.1).c0
  have c1 := (HX.out.2.1).c1
  have c2 := (HX.out.2.1).c2
  have clt := (HX.out.2.1).lt
  obtain ⟨x0, x1, hxl⟩ := (HX.out.2.2).cells
  dsimp only at x0 x1
  clear hfr hfl
  simp only []
  go_wp2_with fail
  refine (rplace A _ cap L VA VB Vf ca cb cf _ cells f W p1 p2 _ rfl (Lib.hid (HL.out.below HX.out.1)) hsg.out (Lib.hid (HC.out.below HX.out.1)) hc5 hf rfl HF).mono ?_
  rintro e w3 ⟨rfl, hb3⟩
  rw [HPl.out]
  have HX := Lib.hid (And.intro (HX.out.1.trans (hb3.mono HX.out.1.size)) (And.intro (HX.out.2.1.below hb3) (HX.out.2.2.below hb3)))
  clear c0 c1 c2 clt x0 x1 hxl
  have c0 := (HX.out.2.1).c0
  have c1 := (HX.out.2.1).c1
  have c2 := (HX.out.2.1).c2
  have clt := (HX.out.2.1).lt
  obtain ⟨x0, x1, hxl⟩ := (HX.out.2.2).cells
  dsimp only at x0 x1
  clear hb3
  simp only []
  go_wp2_with fail
  go_ret2
  exact ⟨rfl, HX.out.1⟩
set_option maxHeartbeats 1000000 in
theorem rfrom_ok (f : Nat) (hn : n = L.length) (hcap : L.length ≤ cap) (HL : Hid (AgRd w A L)) (hl : L.length ≤ maxLen) (HC : Hid (IntsRd w VA cells)) (HW : Hid (WrRd w VB W)) (hc : cells.length ≤ 10000) (hw : W.length ≤ 40000)
    (hk : (netChk (pnL L) L.length (chk L) cells (f : Int) W).1 = 0) (hp : isPt (pnL L) cells f (p1, p2) = true) :
    Calls Tryd.prog 90 #[.slice A n cap, netV VA ca cells (f : Int) VB cb W, .agg #[.int .i64 p1, .int .i64 p2]] w fun e w' => ∃ V c, e = .returned (.tuple #[.slice V (wlk (pnL L) cells (lkM W) (p1, p2)).length c, .int .i64 0]) ∧ Fresh w w' 3 1 (wlk (pnL L) cells (lkM W) (p1, p2)).length (.slice V (wlk (pnL L) cells (lkM W) (p1, p2)).length c) (ivals (wlk (pnL L) cells (lkM W) (p1, p2))) := by
  obtain ⟨hz, hc4, hf0, hf64, hag, hok⟩ := netChk_ok hk
  have hsg := Lib.hid (chk_sig hz)
  have HK := Lib.hid hk
  have HPl : Hid (plcR (pnL L) cells f (p1, p2) = (plc (pnL L) cells f (p1, p2) : Int)) := plcR_is hp
  have HOk : Hid (NetOk (pnL L) cells f W) := hok
  have HP : Hid (isPt (pnL L) cells f (p1, p2) = true) := hp
  have hc5 : cells.length ≤ 5000 := by omega
  have hf : f ≤ 100 := by omega
  clear hk hp hz hag hok hf0 hf64 hc4
  obtain ⟨M, hM⟩ : ∃ M, firstN (pnL L) cells f cells.length = M := ⟨_, rfl⟩
  have HM := Lib.hid hM
  have hMl : M ≤ 100000 := by
    have := firstN_le (pnL_le hsg.out) cells f cells.length
    omega
  clear hM
  subst hn
  go_enter Tryd.func90, Tryd.ntmps90
  go_upto_region 1 with fail
  refine absW (fun X => Below w.heap.size w X ∧ NBox X w.heap.size VA cells.length ca (f : Int) VB W.length cb ∧ PtBx X (w.heap.size + 1) (p1, p2)) ⟨by (repeat (first | exact Below.refl _ _ | (with_reducible refine Below.drew ?_) | (with_reducible refine Below.alloc ?_ (by (try simp); (try omega)) _) | (with_reducible refine Below.setCell ?_ (by (try simp); (try omega)) _) | (with_reducible refine Below.trans ?_ (Below.mono (by assumption) (by (try simp); (try omega)))))), ⟨by simp <;> omega, by go_simp, by go_simp, by go_simp⟩, ?_⟩ ?_
  · have := heap_alloc_new (w.alloc (.cells #[.slice VA cells.length ca, .int .i64 (f : Int), .slice VB W.length cb] 64)) (.cells #[.int .i64 p1, .int .i64 p2] 83)
    rw [World.size_alloc] at this
    exact this
  rintro X ⟨hbx, hnb, hpb⟩
  have HX := Lib.hid (And.intro hbx (And.intro hnb hpb))
  have c0 := (HX.out.2.1).c0
  have c1 := (HX.out.2.1).c1
  have c2 := (HX.out.2.1).c2
  have clt := (HX.out.2.1).lt
  obtain ⟨x0, x1, hxl⟩ := (HX.out.2.2).cells
  dsimp only at x0 x1
  clear hbx hnb hpb
  go_wp2_with fail
  refine (rcheck3 A _ cap L VA VB ca cb cells (f : Int) W _ rfl hcap (Lib.hid (HL.out.below HX.out.1)) hl (Lib.hid (HC.out.below HX.out.1)) (Lib.hid (HW.out.below HX.out.1)) hc hw).mono ?_
  rintro e w1 ⟨rfl, hb1⟩
  rw [HK.out]
  have HX := Lib.hid (And.intro (HX.out.1.trans (hb1.mono HX.out.1.size)) (And.intro (HX.out.2.1.below hb1) (HX.out.2.2.below hb1)))
  clear c0 c1 c2 clt x0 x1 hxl
  have c0 := (HX.out.2.1).c0
  have c1 := (HX.out.2.1).c1
  have c2 := (HX.out.2.1).c2
  have clt := (HX.out.2.1).lt
  obtain ⟨x0, x1, hxl⟩ := (HX.out.2.2).cells
  dsimp only at x0 x1
  clear hb1
  simp only []
  go_wp2_with fail
  refine (rfirst A _ cap L VA VB ca cb cells f W _ rfl (Lib.hid (HL.out.below HX.out.1)) hsg.out (Lib.hid (HC.out.below HX.out.1)) hc5 hf).mono ?_
  rintro e w2 ⟨Vf, cf, rfl, hfr⟩
  have hfl : (firstL (pnL L) cells f cells.length).length = cells.length := firstL_len _ _ _ _
  have HF : Hid (IntsRd w2 Vf (firstL (pnL L) cells f cells.length)) := Row.ints (cap := cf) (by rw [hfl]; exact hfr.1)
  have HX := Lib.hid (And.intro (HX.out.1.trans (hfr.2.2.mono HX.out.1.size)) (And.intro (HX.out.2.1.below hfr.2.2) (HX.out.2.2.below hfr.2.2)))
  clear c0 c1 c2 clt x0 x1 hxl
  have c0 := (HX.out.2.1).c0
  have c1 := (HX.out.2.1).c1
  have c2 := (HX.out.2.1).c2
  have clt := (HX.out.2.1).lt
  obtain ⟨x0, x1, hxl⟩ := (HX.out.2.2).cells
  dsimp only at x0 x1
  clear hfr hfl
  simp only []
  go_wp2_with fail
  refine (rplace A _ cap L VA VB Vf ca cb cf _ cells f W p1 p2 _ rfl (Lib.hid (HL.out.below HX.out.1)) hsg.out (Lib.hid (HC.out.below HX.out.1)) hc5 hf rfl HF).mono ?_
  rintro e w3 ⟨rfl, hb3⟩
  rw [HPl.out]
  have HX := Lib.hid (And.intro (HX.out.1.trans (hb3.mono HX.out.1.size)) (And.intro (HX.out.2.1.below hb3) (HX.out.2.2.below hb3)))
  clear c0 c1 c2 clt x0 x1 hxl
  have c0 := (HX.out.2.1).c0
  have c1 := (HX.out.2.1).c1
  have c2 := (HX.out.2.1).c2
  have clt := (HX.out.2.1).lt
  obtain ⟨x0, x1, hxl⟩ := (HX.out.2.2).cells
  dsimp only at x0 x1
  clear hb3
  simp only []
  obtain ⟨kp, hkp⟩ : ∃ k, plc (pnL L) cells f (p1, p2) = k := ⟨_, rfl⟩
  rw [hkp]
  have HKP := Lib.hid hkp
  clear hkp
  go_wp2_with fail
  refine (rlook A _ cap L VA VB ca cb cells f W _ rfl (Lib.hid (HL.out.below HX.out.1)) hsg.out (Lib.hid (HC.out.below HX.out.1)) (Lib.hid (HW.out.below HX.out.1)) hc5 hf hw HOk).mono ?_
  rintro e w4 ⟨V1, k1, V2, k2, V3, k3, rfl, h1, h2, h3, hb4⟩
  have hal : (allPs (pnL L) cells f).length = M := by rw [allPs_len, HM.out]
  rw [hal, HM.out]
  have HL4 := Lib.hid (And.intro h1 (And.intro h2 h3))
  have HB4 := Lib.hid (HX.out.1.trans (hb4.mono HX.out.1.size))
  clear h1 h2 h3 hb4 c0 c1 c2 clt x0 x1 hxl hal
  simp only []
  go_wp2_with fail
  refine (rwalk (pnL L) cells f W V1 V2 V3 k1 k2 k3 M cells.length (p1, p2) (kp : Int) _ rfl (by omega) HM.out hMl HOk HP.out (by rw [HKP.out]) (Lib.hid HL4.out.1) (Lib.hid HL4.out.2.1) (Lib.hid HL4.out.2.2)).mono ?_
  rintro e w5 ⟨V, c, rfl, hf5⟩
  have HF5 := Lib.hid (hf5.from HB4.out)
  clear hf5
  simp only []
  go_wp2_with fail
  go_ret2
  exact ⟨V, c, rfl, HF5.out⟩
end
end Go.Proofs.YtkonfogebepccaaDoor
namespace Go.Proofs.YtkonfogebepccaaDoor
open Go.RowKit
attribute [local go_sem] cell_set
set_option maxRecDepth 100000
set_option linter.unusedVariables false

section
variable (A : Option Addr) (n cap : Nat) (L : List (ByteArray × Int)) (VA VB : Option Addr) (ca cb : Nat) (cells : List Int) (free : Int) (W : List (Pt × Pt)) (p1 p2 : Int) (w : World)
set_option maxHeartbeats 1000000 in
theorem rfrom12_err (k : Int) (hk0 : k ≠ 0)
    (h : Hid (∀ Z, Below w.heap.size w Z → Calls Tryd.prog 90 #[.slice A n cap, netV VA ca cells free VB cb W, .agg #[.int .i64 p1, .int .i64 p2]] Z fun e w' => e = .returned (.tuple #[.slice none 0 0, .int .i64 k]) ∧ Below Z.heap.size Z w')) :
    Calls Tryd.prog 44 #[.slice A n cap, netV VA ca cells free VB cb W, .agg #[.int .i64 p1, .int .i64 p2]] w fun e w' => e = .returned (.tuple #[.slice none 0 0, .int .i64 k]) ∧ Below w.heap.size w w' := by
  have f0 : (k != 0) = true := by simpa using hk0
  clear hk0
  go_enter Tryd.func44, Tryd.ntmps44
  go_upto_region 1 with fail
  refine absW (fun X => Below w.heap.size w X ∧ NBox X w.heap.size VA cells.length ca free VB W.length cb ∧ PtBx X (w.heap.size + 1) (p1, p2)) ⟨by (repeat (first | exact Below.refl _ _ | (with_reducible refine Below.drew ?_) | (with_reducible refine Below.alloc ?_ (by (try simp); (try omega)) _) | (with_reducible refine Below.setCell ?_ (by (try simp); (try omega)) _) | (with_reducible refine Below.trans ?_ (Below.mono (by assumption) (by (try simp); (try omega)))))), ⟨by simp <;> omega, by go_simp, by go_simp, by go_simp⟩, ?_⟩ ?_
  · have := heap_alloc_new (w.alloc (.cells #[.slice VA cells.length ca, .int .i64 free, .slice VB W.length cb] 64)) (.cells #[.int .i64 p1, .int .i64 p2] 83)
    rw [World.size_alloc] at this
    exact this
  rintro X ⟨hbx, hnb, hpb⟩
  have HX := Lib.hid (And.intro hbx (And.intro hnb hpb))
  have c0 := (HX.out.2.1).c0
  have c1 := (HX.out.2.1).c1
  have c2 := (HX.out.2.1).c2
  have clt := (HX.out.2.1).lt
  obtain ⟨x0, x1, hxl⟩ := (HX.out.2.2).cells
  dsimp only at x0 x1
  clear hbx hnb hpb
  go_wp2_with fail
  refine (h.out _ HX.out.1).mono ?_
  rintro e w1 ⟨rfl, hb1⟩
  have HB := Lib.hid (HX.out.1.trans (hb1.mono HX.out.1.size))
  clear hb1 c0 c1 c2 clt x0 x1 hxl
  simp only []
  go_wp2_with fail
  go_ret2
  exact ⟨rfl, HB.out⟩
set_option maxHeartbeats 1000000 in
theorem rfrom12_ok (f : Nat) (hn : n = L.length) (hcap : L.length ≤ cap) (HL : Hid (AgRd w A L)) (hl : L.length ≤ maxLen) (HC : Hid (IntsRd w VA cells)) (HW : Hid (WrRd w VB W)) (hc : cells.length ≤ 10000) (hw : W.length ≤ 40000)
    (hk : (netChk (pnL L) L.length (chk L) cells (f : Int) W).1 = 0) (hp : isPt (pnL L) cells f (p1, p2) = true) :
    Calls Tryd.prog 44 #[.slice A n cap, netV VA ca cells (f : Int) VB cb W, .agg #[.int .i64 p1, .int .i64 p2]] w fun e w' => ∃ V c, e = .returned (.tuple #[.slice V (codeN (pnL L) cells (lkM W) (p1, p2)).length c, .int .i64 0]) ∧ Fresh w w' 3 1 (codeN (pnL L) cells (lkM W) (p1, p2)).length (.slice V (codeN (pnL L) cells (lkM W) (p1, p2)).length c) (ivals (codeN (pnL L) cells (lkM W) (p1, p2))) := by
  have HF11 : Hid (∀ Z, Below w.heap.size w Z → Calls Tryd.prog 90 #[.slice A n cap, netV VA ca cells (f : Int) VB cb W, .agg #[.int .i64 p1, .int .i64 p2]] Z fun e w' => ∃ V c, e = .returned (.tuple #[.slice V (wlk (pnL L) cells (lkM W) (p1, p2)).length c, .int .i64 0]) ∧ Below Z.heap.size Z w') := fun Z hb => by
    refine (rfrom_ok A n cap L VA VB ca cb cells W p1 p2 Z f hn hcap (Lib.hid (HL.out.below hb)) hl (Lib.hid (HC.out.below hb)) (Lib.hid (HW.out.below hb)) hc hw hk hp).mono ?_
    rintro e w1 ⟨V, c, rfl, hf⟩
    exact ⟨V, c, rfl, hf.2.2⟩
  obtain ⟨hz, hc4, hf0, hf64, hag, hok⟩ := netChk_ok hk
  have hsg := Lib.hid (chk_sig hz)
  have HPl : Hid (plcR (pnL L) cells f (p1, p2) = (plc (pnL L) cells f (p1, p2) : Int)) := plcR_is hp
  have HOk : Hid (NetOk (pnL L) cells f W) := hok
  have HP : Hid (isPt (pnL L) cells f (p1, p2) = true) := hp
  have hc5 : cells.length ≤ 5000 := by omega
  have hf : f ≤ 100 := by omega
  clear hk hp hz hag hok hf0 hf64 hc4
  obtain ⟨M, hM⟩ : ∃ M, firstN (pnL L) cells f cells.length = M := ⟨_, rfl⟩
  have HM := Lib.hid hM
  have hMl : M ≤ 100000 := by
    have := firstN_le (pnL_le hsg.out) cells f cells.length
    omega
  clear hM
  have hal : Hid ((allPs (pnL L) cells f).length = M) := by show _ = _; rw [allPs_len, HM.out]
  obtain ⟨kp, hkp⟩ : ∃ k, plc (pnL L) cells f (p1, p2) = k := ⟨_, rfl⟩
  have HKp := Lib.hid hkp
  clear hkp
  have HLk : Hid (∀ Z, Below w.heap.size w Z → Calls Tryd.prog 92 #[.slice A n cap, netV VA ca cells f VB cb W] Z fun e w' => ∃ V1 c1 V2 c2 V3 c3, e = .returned (.agg #[.slice V1 M c1, .slice V2 M c2, .slice V3 (cells.length + 1) c3, .int .i64 (cells.length : Int)]) ∧ (PtsRd w' V1 (allPs (pnL L) cells f) ∧ IntsRd w' V2 (lkK (pnL L) cells f W W.length) ∧ IntsRd w' V3 (firstL (pnL L) cells f cells.length ++ [(firstN (pnL L) cells f cells.length : Int)])) ∧ Below Z.heap.size Z w') := fun Z hb => by
    refine (rlook A _ cap L VA VB ca cb cells f W Z hn (Lib.hid (HL.out.below hb)) hsg.out (Lib.hid (HC.out.below hb)) (Lib.hid (HW.out.below hb)) hc5 hf hw HOk).mono ?_
    rintro e w4 ⟨V1, k1, V2, k2, V3, k3, rfl, h1, h2, h3, hb4⟩
    rw [hal.out, HM.out]
    refine ⟨V1, k1, V2, k2, V3, k3, rfl, ⟨h1, h2, ?_⟩, hb4⟩
    rw [HM.out] at h3
    exact h3
  have HRp : Hid (∀ (Z : World) (Vf : Option Addr) (cf : Nat), Below w.heap.size w Z → IntsRd Z Vf (firstL (pnL L) cells f cells.length) → Calls Tryd.prog 74 #[.slice A n cap, netV VA ca cells f VB cb W, .slice Vf cells.length cf, .agg #[.int .i64 p1, .int .i64 p2]] Z fun e w' => e = .returned (.int .i64 (kp : Int)) ∧ Below Z.heap.size Z w') := fun Z Vf cf hb hi => by
    have h := rplace A n cap L VA VB Vf ca cb cf _ cells f W p1 p2 Z hn (Lib.hid (HL.out.below hb)) hsg.out (Lib.hid (HC.out.below hb)) hc5 hf rfl (Lib.hid hi)
    rw [HPl.out, HKp.out] at h
    exact h
  have HCo : Hid (∀ (Z : World) V1 V2 V3 k1 k2 k3, Below w.heap.size w Z → (PtsRd Z V1 (allPs (pnL L) cells f) ∧ IntsRd Z V2 (lkK (pnL L) cells f W W.length) ∧ IntsRd Z V3 (firstL (pnL L) cells f cells.length ++ [(firstN (pnL L) cells f cells.length : Int)])) → Calls Tryd.prog 91 #[.agg #[.slice V1 M k1, .slice V2 M k2, .slice V3 (cells.length + 1) k3, .int .i64 (cells.length : Int)], .slice VA cells.length ca, .int .i64 (kp : Int)] Z fun e w' => ∃ V c, e = .returned (.slice V (codeN (pnL L) cells (lkM W) (p1, p2)).length c) ∧ Fresh Z w' 3 1 (codeN (pnL L) cells (lkM W) (p1, p2)).length (.slice V (codeN (pnL L) cells (lkM W) (p1, p2)).length c) (ivals (codeN (pnL L) cells (lkM W) (p1, p2)))) := fun Z V1 V2 V3 k1 k2 k3 hb hr =>
    rcode (pnL L) cells f W V1 V2 V3 VA k1 k2 k3 ca M cells.length (p1, p2) (kp : Int) Z rfl (by omega) HM.out hMl hf (pnL_le hsg.out) HOk HP (by rw [HKp.out]) (Lib.hid hr.1) (Lib.hid hr.2.1) (Lib.hid hr.2.2) (Lib.hid (HC.out.below hb))
  have HFs : Hid (∀ Z, Below w.heap.size w Z → Calls Tryd.prog 73 #[.slice A n cap, netV VA ca cells f VB cb W] Z fun e w' => ∃ V c, e = .returned (.tuple #[.slice V cells.length c, .int .i64 (firstN (pnL L) cells f cells.length)]) ∧ IntsRd w' V (firstL (pnL L) cells f cells.length) ∧ Below Z.heap.size Z w') := fun Z hb => by
    refine (rfirst A _ cap L VA VB ca cb cells f W Z hn (Lib.hid (HL.out.below hb)) hsg.out (Lib.hid (HC.out.below hb)) hc5 hf).mono ?_
    rintro e w2 ⟨Vf, cf, rfl, hfr⟩
    have hfl : (firstL (pnL L) cells f cells.length).length = cells.length := firstL_len _ _ _ _
    exact ⟨Vf, cf, rfl, Row.ints (cap := cf) (by rw [hfl]; exact hfr.1), hfr.2.2⟩
  obtain ⟨code, hcode⟩ : ∃ code, codeN (pnL L) cells (lkM W) (p1, p2) = code := ⟨_, rfl⟩
  rw [hcode] at HCo ⊢
  clear hcode hn
  go_enter Tryd.func44, Tryd.ntmps44
  go_upto_region 1 with fail
  refine absW (fun X => Below w.heap.size w X ∧ NBox X w.heap.size VA cells.length ca (f : Int) VB W.length cb ∧ PtBx X (w.heap.size + 1) (p1, p2)) ⟨by (repeat (first | exact Below.refl _ _ | (with_reducible refine Below.drew ?_) | (with_reducible refine Below.alloc ?_ (by (try simp); (try omega)) _) | (with_reducible refine Below.setCell ?_ (by (try simp); (try omega)) _) | (with_reducible refine Below.trans ?_ (Below.mono (by assumption) (by (try simp); (try omega)))))), ⟨by simp <;> omega, by go_simp, by go_simp, by go_simp⟩, ?_⟩ ?_
  · have := heap_alloc_new (w.alloc (.cells #[.slice VA cells.length ca, .int .i64 (f : Int), .slice VB W.length cb] 64)) (.cells #[.int .i64 p1, .int .i64 p2] 83)
    rw [World.size_alloc] at this
    exact this
  rintro X ⟨hbx, hnb, hpb⟩
  have HX := Lib.hid (And.intro hbx (And.intro hnb hpb))
  have c0 := (HX.out.2.1).c0
  have c1 := (HX.out.2.1).c1
  have c2 := (HX.out.2.1).c2
  have clt := (HX.out.2.1).lt
  obtain ⟨x0, x1, hxl⟩ := (HX.out.2.2).cells
  dsimp only at x0 x1
  clear hbx hnb hpb
  go_wp2_with fail
  refine (HF11.out _ HX.out.1).mono ?_
  rintro e w1 ⟨Vw, cw, rfl, hb1⟩
  have HX := Lib.hid (And.intro (HX.out.1.trans (hb1.mono HX.out.1.size)) (And.intro (HX.out.2.1.below hb1) (HX.out.2.2.below hb1)))
  clear c0 c1 c2 clt x0 x1 hxl
  have c0 := (HX.out.2.1).c0
  have c1 := (HX.out.2.1).c1
  have c2 := (HX.out.2.1).c2
  have clt := (HX.out.2.1).lt
  obtain ⟨x0, x1, hxl⟩ := (HX.out.2.2).cells
  dsimp only at x0 x1
  clear hb1
  simp only []
  go_wp2_with fail
  refine (HFs.out _ HX.out.1).mono ?_
  rintro e w2 ⟨Vf, cf, rfl, hif, hb2⟩
  have HX := Lib.hid (And.intro (HX.out.1.trans (hb2.mono HX.out.1.size)) (And.intro (HX.out.2.1.below hb2) (HX.out.2.2.below hb2)))
  clear c0 c1 c2 clt x0 x1 hxl
  have c0 := (HX.out.2.1).c0
  have c1 := (HX.out.2.1).c1
  have c2 := (HX.out.2.1).c2
  have clt := (HX.out.2.1).lt
  obtain ⟨x0, x1, hxl⟩ := (HX.out.2.2).cells
  dsimp only at x0 x1
  have HIF := Lib.hid hif
  clear hb2 hif
  simp only []
  go_upto_region 5 with fail
  refine absW (fun Y => Below w2.heap.size w2 Y) (by first | exact Below.refl _ _ | exact below_drewN (Below.refl _ _) _) ?_
  intro Y hY
  have HIY := Lib.hid (HIF.out.below hY)
  have HX := Lib.hid (And.intro (HX.out.1.trans (hY.mono HX.out.1.size)) (And.intro (HX.out.2.1.below hY) (HX.out.2.2.below hY)))
  clear c0 c1 c2 clt x0 x1 hxl
  have c0 := (HX.out.2.1).c0
  have c1 := (HX.out.2.1).c1
  have c2 := (HX.out.2.1).c2
  have clt := (HX.out.2.1).lt
  obtain ⟨x0, x1, hxl⟩ := (HX.out.2.2).cells
  dsimp only at x0 x1
  have HKP : Hid (∀ Z, Below Y.heap.size Y Z → Z.cell? ⟨w.heap.size, 0, none⟩ = some (.slice VA cells.length ca) ∧ Z.cell? ⟨w.heap.size, 1, none⟩ = some (.int .i64 (f : Int)) ∧ Z.cell? ⟨w.heap.size, 2, none⟩ = some (.slice VB W.length cb) ∧ Z.cell? ⟨w.heap.size + 1, 0, none⟩ = some (.int .i64 p1) ∧ Z.cell? ⟨w.heap.size + 1, 1, none⟩ = some (.int .i64 p2)) := fun Z hb => by
    have hh := HX.out.2.1.below hb
    obtain ⟨y0, y1, _⟩ := (HX.out.2.2.below hb).cells
    exact ⟨hh.c0, hh.c1, hh.c2, y0, y1⟩
  have HBw : Hid (∀ Z, Below Y.heap.size Y Z → Below w.heap.size w Z) := fun Z hb => HX.out.1.trans (hb.mono HX.out.1.size)
  have hk0 := HKP.out Y (Below.refl _ _)
  clear hY c0 c1 c2 x0 x1
  have HBz : Hid (Below Y.heap.size Y Y) := Below.refl _ _
  go_region_held3 (fun Z => Z.cell? ⟨w.heap.size, 0, none⟩ = some (.slice VA cells.length ca) ∧ Z.cell? ⟨w.heap.size, 1, none⟩ = some (.int .i64 (f : Int)) ∧ Z.cell? ⟨w.heap.size, 2, none⟩ = some (.slice VB W.length cb) ∧ Z.cell? ⟨w.heap.size + 1, 0, none⟩ = some (.int .i64 p1) ∧ Z.cell? ⟨w.heap.size + 1, 1, none⟩ = some (.int .i64 p2))
    (first | exact HKP.out _ HBz.out | exact HKP.out _ (HBz.out.trans (Below.mono (by (repeat (first | exact Below.refl _ _ | (with_reducible refine Below.drew ?_) | (with_reducible refine Below.alloc ?_ (by (try simp); (try omega)) _) | (with_reducible refine Below.setCell ?_ (by (try simp); (try omega)) _) | (with_reducible refine Below.trans ?_ (Below.mono (by assumption) (by (try simp); (try omega))))))) HBz.out.size)))
    (first
      | ((with_reducible refine (HLk.out _ (HBw.out _ (HBz.out.trans (Below.mono (by (repeat (first | exact Below.refl _ _ | (with_reducible refine Below.drew ?_) | (with_reducible refine Below.alloc ?_ (by (try simp); (try omega)) _) | (with_reducible refine Below.setCell ?_ (by (try simp); (try omega)) _) | (with_reducible refine Below.trans ?_ (Below.mono (by assumption) (by (try simp); (try omega))))))) HBz.out.size)))).mono ?_); rintro e w4 ⟨V1, k1, V2, k2, V3, k3, rfl, hr4, hb4⟩; dsimp only
         have HBz : Hid (Below Y.heap.size Y w4) := HBz.out.trans (Below.mono (Below.trans (by (repeat (first | exact Below.refl _ _ | (with_reducible refine Below.drew ?_) | (with_reducible refine Below.alloc ?_ (by (try simp); (try omega)) _) | (with_reducible refine Below.setCell ?_ (by (try simp); (try omega)) _) | (with_reducible refine Below.trans ?_ (Below.mono (by assumption) (by (try simp); (try omega))))))) hb4) HBz.out.size)
         have hs4 : Y.heap.size ≤ w4.heap.size := HBz.out.size
         have HR4 := Lib.hid hr4
         clear hr4 hb4)
      | ((with_reducible refine (HRp.out _ _ _ (HBw.out _ (HBz.out.trans (Below.mono (by (repeat (first | exact Below.refl _ _ | (with_reducible refine Below.drew ?_) | (with_reducible refine Below.alloc ?_ (by (try simp); (try omega)) _) | (with_reducible refine Below.setCell ?_ (by (try simp); (try omega)) _) | (with_reducible refine Below.trans ?_ (Below.mono (by assumption) (by (try simp); (try omega))))))) HBz.out.size))) (HIY.out.below (HBz.out.trans (Below.mono (by (repeat (first | exact Below.refl _ _ | (with_reducible refine Below.drew ?_) | (with_reducible refine Below.alloc ?_ (by (try simp); (try omega)) _) | (with_reducible refine Below.setCell ?_ (by (try simp); (try omega)) _) | (with_reducible refine Below.trans ?_ (Below.mono (by assumption) (by (try simp); (try omega))))))) HBz.out.size)))).mono ?_); rintro e w5 ⟨rfl, hb5⟩; dsimp only
         have HR5 := Lib.hid (And.intro (HR4.out.1.below (Below.trans (by (repeat (first | exact Below.refl _ _ | (with_reducible refine Below.drew ?_) | (with_reducible refine Below.alloc ?_ (by (try simp); (try omega)) _) | (with_reducible refine Below.setCell ?_ (by (try simp); (try omega)) _) | (with_reducible refine Below.trans ?_ (Below.mono (by assumption) (by (try simp); (try omega))))))) hb5)) (And.intro (HR4.out.2.1.below (Below.trans (by (repeat (first | exact Below.refl _ _ | (with_reducible refine Below.drew ?_) | (with_reducible refine Below.alloc ?_ (by (try simp); (try omega)) _) | (with_reducible refine Below.setCell ?_ (by (try simp); (try omega)) _) | (with_reducible refine Below.trans ?_ (Below.mono (by assumption) (by (try simp); (try omega))))))) hb5)) (HR4.out.2.2.below (Below.trans (by (repeat (first | exact Below.refl _ _ | (with_reducible refine Below.drew ?_) | (with_reducible refine Below.alloc ?_ (by (try simp); (try omega)) _) | (with_reducible refine Below.setCell ?_ (by (try simp); (try omega)) _) | (with_reducible refine Below.trans ?_ (Below.mono (by assumption) (by (try simp); (try omega))))))) hb5))))
         have HBz : Hid (Below Y.heap.size Y w5) := HBz.out.trans (Below.mono (Below.trans (by (repeat (first | exact Below.refl _ _ | (with_reducible refine Below.drew ?_) | (with_reducible refine Below.alloc ?_ (by (try simp); (try omega)) _) | (with_reducible refine Below.setCell ?_ (by (try simp); (try omega)) _) | (with_reducible refine Below.trans ?_ (Below.mono (by assumption) (by (try simp); (try omega))))))) hb5) HBz.out.size)
         have hs5 : Y.heap.size ≤ w5.heap.size := HBz.out.size
         clear hb5)
      | ((with_reducible refine (HCo.out _ _ _ _ _ _ _ (HBw.out _ HBz.out) HR5.out).mono ?_); rintro e w6 ⟨V, c, rfl, hf6⟩; dsimp only
         have HF6 := Lib.hid (hf6.from (HBw.out _ HBz.out))
         have HBz : Hid (Below Y.heap.size Y w6) := HBz.out.trans (hf6.2.2.mono HBz.out.size)
         have hs6 : Y.heap.size ≤ w6.heap.size := HBz.out.size
         clear hf6))
  go_wp2_with fail
  go_ret2
  exact ⟨V, c, rfl, HF6.out⟩
end
end Go.Proofs.YtkonfogebepccaaDoor
