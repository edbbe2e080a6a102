/-
  code.From and code.Least where the net may not be, the port is none, a cell is none.
-/
import Derived.Test.YtkonfogebepccaaDoorCodeFrom
import Derived.Test.YtkonfogebepccaaDoorCodeLeast
namespace Go.Proofs.YtkonfogebepccaaDoor
open Go.RowKit
attribute [local go_sem] cell_set
set_option maxRecDepth 100000
set_option linter.unusedVariables false

section
variable (A : Option Addr) (n cap : Nat) (L : List (ByteArray × Int)) (VA VB : Option Addr) (ca cb : Nat) (cells : List Int) (free : Int) (W : List (Pt × Pt)) (w : World)
set_option maxHeartbeats 1000000 in
theorem code_from_bad (p : Pt) (hn : n = L.length) (hcap : L.length ≤ cap) (HL : Hid (AgRd w A L)) (hl : L.length ≤ maxLen) (HC : Hid (IntsRd w VA cells)) (HW : Hid (WrRd w VB W)) (hc : cells.length ≤ 10000) (hw : W.length ≤ 40000) (k : Int)
    (hk : (netChk (pnL L) L.length (chk L) cells free W).1 = k) (hk0 : k ≠ 0) :
    Calls Tryd.prog 43 #[.slice A n cap, netV VA ca cells free VB cb W, .agg #[.int .i64 p.1, .int .i64 p.2]] w fun e w' => e = .returned (.tuple #[.slice none 0 0, .int .i64 k]) ∧ Below w.heap.size w w' := by
  subst hn
  have HK := Lib.hid hk
  have f0 : (k != 0) = true := by simpa using hk0
  clear hk hk0
  go_enter Tryd.func43, Tryd.ntmps43
  go_upto_region 1 with fail
  refine absW (fun X => Below w.heap.size w X ∧ NBox X w.heap.size VA cells.length ca free VB W.length cb ∧ PtBx X (w.heap.size + 1) p) ⟨by (repeat (first | exact Below.refl _ _ | (with_reducible refine Below.drew ?_) | (with_reducible refine Below.alloc ?_ (by (try simp); (try omega)) _) | (with_reducible refine Below.setCell ?_ (by (try simp); (try omega)) _) | (with_reducible refine Below.trans ?_ (Below.mono (by assumption) (by (try simp); (try omega)))))), ⟨by simp <;> omega, by go_simp, by go_simp, by go_simp⟩, ?_⟩ ?_
  · have := heap_alloc_new (w.alloc (.cells #[.slice VA cells.length ca, .int .i64 free, .slice VB W.length cb] 64)) (.cells #[.int .i64 p.1, .int .i64 p.2] 83)
    rw [World.size_alloc] at this
    exact this
  rintro X ⟨hbx, hnb, hpb⟩
  have n0 := hnb.c0
  have n1 := hnb.c1
  have n2 := hnb.c2
  have hzy := hnb.lt
  have HX := Lib.hid (And.intro hbx (And.intro hnb hpb))
  clear hbx hnb hpb
  go_wp2_with (go_at_call 23
               refine (net_check A _ cap L VA VB ca cb cells free W _ rfl hcap (Lib.hid (HL.out.below HX.out.1)) hl (Lib.hid (HC.out.below HX.out.1)) (Lib.hid (HW.out.below HX.out.1)) hc hw).mono ?_
               rintro e w1 ⟨rfl, hb1⟩
               rw [HK.out]
               have HB1 := Lib.hid (HX.out.1.trans (hb1.mono HX.out.1.size))
               clear hb1)
  exact bodyPost_ret (v := .tuple #[.slice none 0 0, .int .i64 k]) (by simp only [results, Tryd.results43]; go_simp) rfl ⟨rfl, HB1.out⟩
set_option maxHeartbeats 2000000 in
theorem code_from_port0 (f : Nat) (p1 p2 : Int) (hn : n = L.length) (hcap : L.length ≤ cap) (HL : Hid (AgRd w A L)) (hl : L.length ≤ maxLen) (HC : Hid (IntsRd w VA cells)) (HW : Hid (WrRd w VB W)) (hc : cells.length ≤ 10000) (hw : W.length ≤ 40000)
    (hk : (netChk (pnL L) L.length (chk L) cells (f : Int) W).1 = 0) (hq : p1 = -1 ∧ p2 < 0) :
    Calls Tryd.prog 43 #[.slice A n cap, netV VA ca cells (f : Int) VB cb W, .agg #[.int .i64 p1, .int .i64 p2]] w fun e w' => e = .returned (.tuple #[.slice none 0 0, .int .i64 30]) ∧ Below w.heap.size w w' := by
  subst hn
  obtain ⟨p, hp⟩ : ∃ p : Pt, (p1, p2) = p := ⟨_, rfl⟩
  have e1 : p1 = p.1 := congrArg Prod.fst hp
  have e2 : p2 = p.2 := congrArg Prod.snd hp
  rw [e1, e2]
  (try simp only [e1] at hq)
  (try simp only [e2] at hq)
  clear hp e1 e2
  obtain ⟨hz, hc4, hf0, hf64, hag, hok⟩ := netChk_ok hk
  have hs := chk_sig hz
  have hp7 := pnL_le hs
  have HK := Lib.hid hk
  have HOk : Hid (NetOk (pnL L) cells f W) := hok
  have HAg := Lib.hid hag
  have HS := Lib.hid hs
  clear hk hok hz hag hs
  have HQ := Lib.hid hq
  clear hq
  go_enter Tryd.func43, Tryd.ntmps43
  go_upto_region 1 with fail
  refine absW (fun X => Below w.heap.size w X ∧ NBox X w.heap.size VA cells.length ca (f : Int) VB W.length cb ∧ PtBx X (w.heap.size + 1) p) ⟨by (repeat (first | exact Below.refl _ _ | (with_reducible refine Below.drew ?_) | (with_reducible refine Below.alloc ?_ (by (try simp); (try omega)) _) | (with_reducible refine Below.setCell ?_ (by (try simp); (try omega)) _) | (with_reducible refine Below.trans ?_ (Below.mono (by assumption) (by (try simp); (try omega)))))), ⟨by simp <;> omega, by go_simp, by go_simp, by go_simp⟩, ?_⟩ ?_
  · have := heap_alloc_new (w.alloc (.cells #[.slice VA cells.length ca, .int .i64 (f : Int), .slice VB W.length cb] 64)) (.cells #[.int .i64 p.1, .int .i64 p.2] 83)
    rw [World.size_alloc] at this
    exact this
  rintro X ⟨hbx, hnb, hpb⟩
  have n0 := hnb.c0
  have n1 := hnb.c1
  have n2 := hnb.c2
  have hzy := hnb.lt
  have HX := Lib.hid (And.intro hbx (And.intro hnb hpb))
  clear hbx hnb hpb
  go_upto_region 6 with (first
    | (go_at_call 23
       refine (net_check A _ cap L VA VB ca cb cells f W _ rfl hcap (Lib.hid (HL.out.below HX.out.1)) hl (Lib.hid (HC.out.below HX.out.1)) (Lib.hid (HW.out.below HX.out.1)) hc hw).mono ?_
       rintro e w1 ⟨rfl, hb1⟩
       rw [HK.out]
       have hnb := HX.out.2.1.below hb1
       have n0 := hnb.c0
       have n1 := hnb.c1
       have n2 := hnb.c2
       have hz1 := hnb.lt
       have HB1 := Lib.hid (HX.out.1.trans (hb1.mono HX.out.1.size))
       have HN1 := Lib.hid (And.intro hnb (HX.out.2.2.below hb1))
       clear hb1 hnb)
    | (go_at_call 88
       refine (code_look A _ cap L VA VB ca cb cells f W _ rfl (Lib.hid (HL.out.below HB1.out)) HS.out (Lib.hid (HC.out.below HB1.out)) (Lib.hid (HW.out.below HB1.out)) (by omega) (by omega) hw HAg HOk).mono ?_
       rintro e w2 ⟨P, fb, G, vC, vD, rfl, hwb, hd, hb2, hlo, hloD⟩
       have HWb := Lib.hid (hwb.congr rfl fun q hq => (lkM_eq HOk.out hq).1)
       have hnb := HN1.out.1.below hb2
       have hpb := (HN1.out.2.below hb2).cells
       have n0 := hnb.c0
       have n1 := hnb.c1
       have hz2 := hnb.lt
       have HB2 := Lib.hid (HB1.out.trans (hb2.mono HB1.out.size))
       obtain ⟨x0, x1, hx⟩ := hpb
       clear hwb hd hnb hb2 hlo hloD))
  obtain ⟨p1, p2⟩ := p
  dsimp only at x0 x1 HQ
  obtain ⟨VC, cC, rfl, _⟩ := HWb.out.rc.len
  obtain ⟨c0, c1, c2, c3, hPl⟩ := HWb.out.cells
  obtain ⟨h1, h2⟩ := HQ.out
  subst h1
  clear c0 c2 c3
  go_wp2_with fail
  go_quiet (fail)
  go_wp2_with fail
  exact bodyPost_ret (v := .tuple #[.slice none 0 0, .int .i64 30]) (by simp only [results, Tryd.results43]; go_simp) rfl ⟨rfl, HB2.out.trans (Below.mono (by first | exact Below.refl _ _ | exact below_drewN (Below.refl _ _) _) HB2.out.size)⟩
set_option maxHeartbeats 2000000 in
theorem code_from_port1 (f : Nat) (p1 p2 : Int) (hn : n = L.length) (hcap : L.length ≤ cap) (HL : Hid (AgRd w A L)) (hl : L.length ≤ maxLen) (HC : Hid (IntsRd w VA cells)) (HW : Hid (WrRd w VB W)) (hc : cells.length ≤ 10000) (hw : W.length ≤ 40000)
    (hk : (netChk (pnL L) L.length (chk L) cells (f : Int) W).1 = 0) (hq : p1 = -1 ∧ 0 ≤ p2 ∧ (f : Int) ≤ p2) :
    Calls Tryd.prog 43 #[.slice A n cap, netV VA ca cells (f : Int) VB cb W, .agg #[.int .i64 p1, .int .i64 p2]] w fun e w' => e = .returned (.tuple #[.slice none 0 0, .int .i64 30]) ∧ Below w.heap.size w w' := by
  subst hn
  obtain ⟨p, hp⟩ : ∃ p : Pt, (p1, p2) = p := ⟨_, rfl⟩
  have e1 : p1 = p.1 := congrArg Prod.fst hp
  have e2 : p2 = p.2 := congrArg Prod.snd hp
  rw [e1, e2]
  (try simp only [e1] at hq)
  (try simp only [e2] at hq)
  clear hp e1 e2
  obtain ⟨hz, hc4, hf0, hf64, hag, hok⟩ := netChk_ok hk
  have hs := chk_sig hz
  have hp7 := pnL_le hs
  have HK := Lib.hid hk
  have HOk : Hid (NetOk (pnL L) cells f W) := hok
  have HAg := Lib.hid hag
  have HS := Lib.hid hs
  clear hk hok hz hag hs
  have HQ := Lib.hid hq
  clear hq
  go_enter Tryd.func43, Tryd.ntmps43
  go_upto_region 1 with fail
  refine absW (fun X => Below w.heap.size w X ∧ NBox X w.heap.size VA cells.length ca (f : Int) VB W.length cb ∧ PtBx X (w.heap.size + 1) p) ⟨by (repeat (first | exact Below.refl _ _ | (with_reducible refine Below.drew ?_) | (with_reducible refine Below.alloc ?_ (by (try simp); (try omega)) _) | (with_reducible refine Below.setCell ?_ (by (try simp); (try omega)) _) | (with_reducible refine Below.trans ?_ (Below.mono (by assumption) (by (try simp); (try omega)))))), ⟨by simp <;> omega, by go_simp, by go_simp, by go_simp⟩, ?_⟩ ?_
  · have := heap_alloc_new (w.alloc (.cells #[.slice VA cells.length ca, .int .i64 (f : Int), .slice VB W.length cb] 64)) (.cells #[.int .i64 p.1, .int .i64 p.2] 83)
    rw [World.size_alloc] at this
    exact this
  rintro X ⟨hbx, hnb, hpb⟩
  have n0 := hnb.c0
  have n1 := hnb.c1
  have n2 := hnb.c2
  have hzy := hnb.lt
  have HX := Lib.hid (And.intro hbx (And.intro hnb hpb))
  clear hbx hnb hpb
  go_upto_region 6 with (first
    | (go_at_call 23
       refine (net_check A _ cap L VA VB ca cb cells f W _ rfl hcap (Lib.hid (HL.out.below HX.out.1)) hl (Lib.hid (HC.out.below HX.out.1)) (Lib.hid (HW.out.below HX.out.1)) hc hw).mono ?_
       rintro e w1 ⟨rfl, hb1⟩
       rw [HK.out]
       have hnb := HX.out.2.1.below hb1
       have n0 := hnb.c0
       have n1 := hnb.c1
       have n2 := hnb.c2
       have hz1 := hnb.lt
       have HB1 := Lib.hid (HX.out.1.trans (hb1.mono HX.out.1.size))
       have HN1 := Lib.hid (And.intro hnb (HX.out.2.2.below hb1))
       clear hb1 hnb)
    | (go_at_call 88
       refine (code_look A _ cap L VA VB ca cb cells f W _ rfl (Lib.hid (HL.out.below HB1.out)) HS.out (Lib.hid (HC.out.below HB1.out)) (Lib.hid (HW.out.below HB1.out)) (by omega) (by omega) hw HAg HOk).mono ?_
       rintro e w2 ⟨P, fb, G, vC, vD, rfl, hwb, hd, hb2, hlo, hloD⟩
       have HWb := Lib.hid (hwb.congr rfl fun q hq => (lkM_eq HOk.out hq).1)
       have hnb := HN1.out.1.below hb2
       have hpb := (HN1.out.2.below hb2).cells
       have n0 := hnb.c0
       have n1 := hnb.c1
       have hz2 := hnb.lt
       have HB2 := Lib.hid (HB1.out.trans (hb2.mono HB1.out.size))
       obtain ⟨x0, x1, hx⟩ := hpb
       clear hwb hd hnb hb2 hlo hloD))
  obtain ⟨p1, p2⟩ := p
  dsimp only at x0 x1 HQ
  obtain ⟨VC, cC, rfl, _⟩ := HWb.out.rc.len
  obtain ⟨c0, c1, c2, c3, hPl⟩ := HWb.out.cells
  obtain ⟨h1, h2, h3⟩ := HQ.out
  subst h1
  clear c0 c2 c3
  go_wp2_with fail
  go_quiet (fail)
  go_wp2_with fail
  exact bodyPost_ret (v := .tuple #[.slice none 0 0, .int .i64 30]) (by simp only [results, Tryd.results43]; go_simp) rfl ⟨rfl, HB2.out.trans (Below.mono (by first | exact Below.refl _ _ | exact below_drewN (Below.refl _ _) _) HB2.out.size)⟩
set_option maxHeartbeats 2000000 in
theorem code_from_port2 (f : Nat) (p1 p2 : Int) (hn : n = L.length) (hcap : L.length ≤ cap) (HL : Hid (AgRd w A L)) (hl : L.length ≤ maxLen) (HC : Hid (IntsRd w VA cells)) (HW : Hid (WrRd w VB W)) (hc : cells.length ≤ 10000) (hw : W.length ≤ 40000)
    (hk : (netChk (pnL L) L.length (chk L) cells (f : Int) W).1 = 0) (hq : p1 ≠ -1 ∧ p1 < 0) :
    Calls Tryd.prog 43 #[.slice A n cap, netV VA ca cells (f : Int) VB cb W, .agg #[.int .i64 p1, .int .i64 p2]] w fun e w' => e = .returned (.tuple #[.slice none 0 0, .int .i64 30]) ∧ Below w.heap.size w w' := by
  subst hn
  obtain ⟨p, hp⟩ : ∃ p : Pt, (p1, p2) = p := ⟨_, rfl⟩
  have e1 : p1 = p.1 := congrArg Prod.fst hp
  have e2 : p2 = p.2 := congrArg Prod.snd hp
  rw [e1, e2]
  (try simp only [e1] at hq)
  (try simp only [e2] at hq)
  clear hp e1 e2
  obtain ⟨hz, hc4, hf0, hf64, hag, hok⟩ := netChk_ok hk
  have hs := chk_sig hz
  have hp7 := pnL_le hs
  have HK := Lib.hid hk
  have HOk : Hid (NetOk (pnL L) cells f W) := hok
  have HAg := Lib.hid hag
  have HS := Lib.hid hs
  clear hk hok hz hag hs
  have HQ := Lib.hid hq
  clear hq
  go_enter Tryd.func43, Tryd.ntmps43
  go_upto_region 1 with fail
  refine absW (fun X => Below w.heap.size w X ∧ NBox X w.heap.size VA cells.length ca (f : Int) VB W.length cb ∧ PtBx X (w.heap.size + 1) p) ⟨by (repeat (first | exact Below.refl _ _ | (with_reducible refine Below.drew ?_) | (with_reducible refine Below.alloc ?_ (by (try simp); (try omega)) _) | (with_reducible refine Below.setCell ?_ (by (try simp); (try omega)) _) | (with_reducible refine Below.trans ?_ (Below.mono (by assumption) (by (try simp); (try omega)))))), ⟨by simp <;> omega, by go_simp, by go_simp, by go_simp⟩, ?_⟩ ?_
  · have := heap_alloc_new (w.alloc (.cells #[.slice VA cells.length ca, .int .i64 (f : Int), .slice VB W.length cb] 64)) (.cells #[.int .i64 p.1, .int .i64 p.2] 83)
    rw [World.size_alloc] at this
    exact this
  rintro X ⟨hbx, hnb, hpb⟩
  have n0 := hnb.c0
  have n1 := hnb.c1
  have n2 := hnb.c2
  have hzy := hnb.lt
  have HX := Lib.hid (And.intro hbx (And.intro hnb hpb))
  clear hbx hnb hpb
  go_upto_region 6 with (first
    | (go_at_call 23
       refine (net_check A _ cap L VA VB ca cb cells f W _ rfl hcap (Lib.hid (HL.out.below HX.out.1)) hl (Lib.hid (HC.out.below HX.out.1)) (Lib.hid (HW.out.below HX.out.1)) hc hw).mono ?_
       rintro e w1 ⟨rfl, hb1⟩
       rw [HK.out]
       have hnb := HX.out.2.1.below hb1
       have n0 := hnb.c0
       have n1 := hnb.c1
       have n2 := hnb.c2
       have hz1 := hnb.lt
       have HB1 := Lib.hid (HX.out.1.trans (hb1.mono HX.out.1.size))
       have HN1 := Lib.hid (And.intro hnb (HX.out.2.2.below hb1))
       clear hb1 hnb)
    | (go_at_call 88
       refine (code_look A _ cap L VA VB ca cb cells f W _ rfl (Lib.hid (HL.out.below HB1.out)) HS.out (Lib.hid (HC.out.below HB1.out)) (Lib.hid (HW.out.below HB1.out)) (by omega) (by omega) hw HAg HOk).mono ?_
       rintro e w2 ⟨P, fb, G, vC, vD, rfl, hwb, hd, hb2, hlo, hloD⟩
       have HWb := Lib.hid (hwb.congr rfl fun q hq => (lkM_eq HOk.out hq).1)
       have hnb := HN1.out.1.below hb2
       have hpb := (HN1.out.2.below hb2).cells
       have n0 := hnb.c0
       have n1 := hnb.c1
       have hz2 := hnb.lt
       have HB2 := Lib.hid (HB1.out.trans (hb2.mono HB1.out.size))
       obtain ⟨x0, x1, hx⟩ := hpb
       clear hwb hd hnb hb2 hlo hloD))
  obtain ⟨p1, p2⟩ := p
  dsimp only at x0 x1 HQ
  obtain ⟨VC, cC, rfl, _⟩ := HWb.out.rc.len
  obtain ⟨c0, c1, c2, c3, hPl⟩ := HWb.out.cells
  obtain ⟨h1, h2⟩ := HQ.out
  have g1 : ¬ (0 ≤ p1) := by omega
  have g2 : ¬ (p1 ≥ 0) := by omega
  have g3 : decide (0 ≤ p1) = false := decide_eq_false g1
  clear c0 c2 c3
  go_wp2_with fail
  go_quiet (fail)
  go_wp2_with fail
  exact bodyPost_ret (v := .tuple #[.slice none 0 0, .int .i64 30]) (by simp only [results, Tryd.results43]; go_simp) rfl ⟨rfl, HB2.out.trans (Below.mono (by first | exact Below.refl _ _ | exact below_drewN (Below.refl _ _) _) HB2.out.size)⟩
set_option maxHeartbeats 2000000 in
theorem code_from_port3 (f : Nat) (p1 p2 : Int) (hn : n = L.length) (hcap : L.length ≤ cap) (HL : Hid (AgRd w A L)) (hl : L.length ≤ maxLen) (HC : Hid (IntsRd w VA cells)) (HW : Hid (WrRd w VB W)) (hc : cells.length ≤ 10000) (hw : W.length ≤ 40000)
    (hk : (netChk (pnL L) L.length (chk L) cells (f : Int) W).1 = 0) (hq : p1 ≠ -1 ∧ 0 ≤ p1 ∧ (cells.length : Int) ≤ p1) :
    Calls Tryd.prog 43 #[.slice A n cap, netV VA ca cells (f : Int) VB cb W, .agg #[.int .i64 p1, .int .i64 p2]] w fun e w' => e = .returned (.tuple #[.slice none 0 0, .int .i64 30]) ∧ Below w.heap.size w w' := by
  subst hn
  obtain ⟨p, hp⟩ : ∃ p : Pt, (p1, p2) = p := ⟨_, rfl⟩
  have e1 : p1 = p.1 := congrArg Prod.fst hp
  have e2 : p2 = p.2 := congrArg Prod.snd hp
  rw [e1, e2]
  (try simp only [e1] at hq)
  (try simp only [e2] at hq)
  clear hp e1 e2
  obtain ⟨hz, hc4, hf0, hf64, hag, hok⟩ := netChk_ok hk
  have hs := chk_sig hz
  have hp7 := pnL_le hs
  have HK := Lib.hid hk
  have HOk : Hid (NetOk (pnL L) cells f W) := hok
  have HAg := Lib.hid hag
  have HS := Lib.hid hs
  clear hk hok hz hag hs
  have HQ := Lib.hid hq
  clear hq
  go_enter Tryd.func43, Tryd.ntmps43
  go_upto_region 1 with fail
  refine absW (fun X => Below w.heap.size w X ∧ NBox X w.heap.size VA cells.length ca (f : Int) VB W.length cb ∧ PtBx X (w.heap.size + 1) p) ⟨by (repeat (first | exact Below.refl _ _ | (with_reducible refine Below.drew ?_) | (with_reducible refine Below.alloc ?_ (by (try simp); (try omega)) _) | (with_reducible refine Below.setCell ?_ (by (try simp); (try omega)) _) | (with_reducible refine Below.trans ?_ (Below.mono (by assumption) (by (try simp); (try omega)))))), ⟨by simp <;> omega, by go_simp, by go_simp, by go_simp⟩, ?_⟩ ?_
  · have := heap_alloc_new (w.alloc (.cells #[.slice VA cells.length ca, .int .i64 (f : Int), .slice VB W.length cb] 64)) (.cells #[.int .i64 p.1, .int .i64 p.2] 83)
    rw [World.size_alloc] at this
    exact this
  rintro X ⟨hbx, hnb, hpb⟩
  have n0 := hnb.c0
  have n1 := hnb.c1
  have n2 := hnb.c2
  have hzy := hnb.lt
  have HX := Lib.hid (And.intro hbx (And.intro hnb hpb))
  clear hbx hnb hpb
  go_upto_region 6 with (first
    | (go_at_call 23
       refine (net_check A _ cap L VA VB ca cb cells f W _ rfl hcap (Lib.hid (HL.out.below HX.out.1)) hl (Lib.hid (HC.out.below HX.out.1)) (Lib.hid (HW.out.below HX.out.1)) hc hw).mono ?_
       rintro e w1 ⟨rfl, hb1⟩
       rw [HK.out]
       have hnb := HX.out.2.1.below hb1
       have n0 := hnb.c0
       have n1 := hnb.c1
       have n2 := hnb.c2
       have hz1 := hnb.lt
       have HB1 := Lib.hid (HX.out.1.trans (hb1.mono HX.out.1.size))
       have HN1 := Lib.hid (And.intro hnb (HX.out.2.2.below hb1))
       clear hb1 hnb)
    | (go_at_call 88
       refine (code_look A _ cap L VA VB ca cb cells f W _ rfl (Lib.hid (HL.out.below HB1.out)) HS.out (Lib.hid (HC.out.below HB1.out)) (Lib.hid (HW.out.below HB1.out)) (by omega) (by omega) hw HAg HOk).mono ?_
       rintro e w2 ⟨P, fb, G, vC, vD, rfl, hwb, hd, hb2, hlo, hloD⟩
       have HWb := Lib.hid (hwb.congr rfl fun q hq => (lkM_eq HOk.out hq).1)
       have hnb := HN1.out.1.below hb2
       have hpb := (HN1.out.2.below hb2).cells
       have n0 := hnb.c0
       have n1 := hnb.c1
       have hz2 := hnb.lt
       have HB2 := Lib.hid (HB1.out.trans (hb2.mono HB1.out.size))
       obtain ⟨x0, x1, hx⟩ := hpb
       clear hwb hd hnb hb2 hlo hloD))
  obtain ⟨p1, p2⟩ := p
  dsimp only at x0 x1 HQ
  obtain ⟨VC, cC, rfl, _⟩ := HWb.out.rc.len
  obtain ⟨c0, c1, c2, c3, hPl⟩ := HWb.out.cells
  obtain ⟨h1, h2, h3⟩ := HQ.out
  have g1 : ¬ (p1 < (cells.length : Int)) := by omega
  have g3 : decide (p1 < (cells.length : Int)) = false := decide_eq_false g1
  have g4 : decide (0 ≤ p1) = true := decide_eq_true h2
  clear c0 c2 c3
  go_wp2_with fail
  go_quiet (fail)
  go_wp2_with fail
  exact bodyPost_ret (v := .tuple #[.slice none 0 0, .int .i64 30]) (by simp only [results, Tryd.results43]; go_simp) rfl ⟨rfl, HB2.out.trans (Below.mono (by first | exact Below.refl _ _ | exact below_drewN (Below.refl _ _) _) HB2.out.size)⟩
set_option maxHeartbeats 2000000 in
theorem code_from_port4 (f : Nat) (p1 p2 : Int) (hn : n = L.length) (hcap : L.length ≤ cap) (HL : Hid (AgRd w A L)) (hl : L.length ≤ maxLen) (HC : Hid (IntsRd w VA cells)) (HW : Hid (WrRd w VB W)) (hc : cells.length ≤ 10000) (hw : W.length ≤ 40000)
    (hk : (netChk (pnL L) L.length (chk L) cells (f : Int) W).1 = 0) (hq : p1 ≠ -1 ∧ 0 ≤ p1 ∧ p1 < cells.length ∧ p2 < 0) :
    Calls Tryd.prog 43 #[.slice A n cap, netV VA ca cells (f : Int) VB cb W, .agg #[.int .i64 p1, .int .i64 p2]] w fun e w' => e = .returned (.tuple #[.slice none 0 0, .int .i64 30]) ∧ Below w.heap.size w w' := by
  subst hn
  obtain ⟨p, hp⟩ : ∃ p : Pt, (p1, p2) = p := ⟨_, rfl⟩
  have e1 : p1 = p.1 := congrArg Prod.fst hp
  have e2 : p2 = p.2 := congrArg Prod.snd hp
  rw [e1, e2]
  (try simp only [e1] at hq)
  (try simp only [e2] at hq)
  clear hp e1 e2
  obtain ⟨hz, hc4, hf0, hf64, hag, hok⟩ := netChk_ok hk
  have hs := chk_sig hz
  have hp7 := pnL_le hs
  have HK := Lib.hid hk
  have HOk : Hid (NetOk (pnL L) cells f W) := hok
  have HAg := Lib.hid hag
  have HS := Lib.hid hs
  clear hk hok hz hag hs
  have HQ := Lib.hid hq
  clear hq
  go_enter Tryd.func43, Tryd.ntmps43
  go_upto_region 1 with fail
  refine absW (fun X => Below w.heap.size w X ∧ NBox X w.heap.size VA cells.length ca (f : Int) VB W.length cb ∧ PtBx X (w.heap.size + 1) p) ⟨by (repeat (first | exact Below.refl _ _ | (with_reducible refine Below.drew ?_) | (with_reducible refine Below.alloc ?_ (by (try simp); (try omega)) _) | (with_reducible refine Below.setCell ?_ (by (try simp); (try omega)) _) | (with_reducible refine Below.trans ?_ (Below.mono (by assumption) (by (try simp); (try omega)))))), ⟨by simp <;> omega, by go_simp, by go_simp, by go_simp⟩, ?_⟩ ?_
  · have := heap_alloc_new (w.alloc (.cells #[.slice VA cells.length ca, .int .i64 (f : Int), .slice VB W.length cb] 64)) (.cells #[.int .i64 p.1, .int .i64 p.2] 83)
    rw [World.size_alloc] at this
    exact this
  rintro X ⟨hbx, hnb, hpb⟩
  have n0 := hnb.c0
  have n1 := hnb.c1
  have n2 := hnb.c2
  have hzy := hnb.lt
  have HX := Lib.hid (And.intro hbx (And.intro hnb hpb))
  clear hbx hnb hpb
  go_upto_region 6 with (first
    | (go_at_call 23
       refine (net_check A _ cap L VA VB ca cb cells f W _ rfl hcap (Lib.hid (HL.out.below HX.out.1)) hl (Lib.hid (HC.out.below HX.out.1)) (Lib.hid (HW.out.below HX.out.1)) hc hw).mono ?_
       rintro e w1 ⟨rfl, hb1⟩
       rw [HK.out]
       have hnb := HX.out.2.1.below hb1
       have n0 := hnb.c0
       have n1 := hnb.c1
       have n2 := hnb.c2
       have hz1 := hnb.lt
       have HB1 := Lib.hid (HX.out.1.trans (hb1.mono HX.out.1.size))
       have HN1 := Lib.hid (And.intro hnb (HX.out.2.2.below hb1))
       clear hb1 hnb)
    | (go_at_call 88
       refine (code_look A _ cap L VA VB ca cb cells f W _ rfl (Lib.hid (HL.out.below HB1.out)) HS.out (Lib.hid (HC.out.below HB1.out)) (Lib.hid (HW.out.below HB1.out)) (by omega) (by omega) hw HAg HOk).mono ?_
       rintro e w2 ⟨P, fb, G, vC, vD, rfl, hwb, hd, hb2, hlo, hloD⟩
       have HWb := Lib.hid (hwb.congr rfl fun q hq => (lkM_eq HOk.out hq).1)
       have hnb := HN1.out.1.below hb2
       have hpb := (HN1.out.2.below hb2).cells
       have n0 := hnb.c0
       have n1 := hnb.c1
       have hz2 := hnb.lt
       have HB2 := Lib.hid (HB1.out.trans (hb2.mono HB1.out.size))
       obtain ⟨x0, x1, hx⟩ := hpb
       clear hwb hd hnb hb2 hlo hloD))
  obtain ⟨p1, p2⟩ := p
  dsimp only at x0 x1 HQ
  obtain ⟨VC, cC, rfl, _⟩ := HWb.out.rc.len
  obtain ⟨c0, c1, c2, c3, hPl⟩ := HWb.out.cells
  obtain ⟨h1, h2, h3, h4⟩ := HQ.out
  obtain ⟨c, rfl⟩ := Int.eq_ofNat_of_zero_le h2
  have g1 : ¬ (0 ≤ p2) := by omega
  have g3 : decide (0 ≤ p2) = false := decide_eq_false g1
  have g4 : decide ((c : Int) < (cells.length : Int)) = true := decide_eq_true h3
  have g5 : decide (0 ≤ (c : Int)) = true := decide_eq_true h2
  clear c0 c2 c3
  go_wp2_with fail
  go_quiet (fail)
  go_wp2_with fail
  exact bodyPost_ret (v := .tuple #[.slice none 0 0, .int .i64 30]) (by simp only [results, Tryd.results43]; go_simp) rfl ⟨rfl, HB2.out.trans (Below.mono (by first | exact Below.refl _ _ | exact below_drewN (Below.refl _ _) _) HB2.out.size)⟩
set_option maxHeartbeats 2000000 in
theorem code_from_port5 (f : Nat) (p1 p2 : Int) (hn : n = L.length) (hcap : L.length ≤ cap) (HL : Hid (AgRd w A L)) (hl : L.length ≤ maxLen) (HC : Hid (IntsRd w VA cells)) (HW : Hid (WrRd w VB W)) (hc : cells.length ≤ 10000) (hw : W.length ≤ 40000)
    (hk : (netChk (pnL L) L.length (chk L) cells (f : Int) W).1 = 0) (hq : p1 ≠ -1 ∧ 0 ≤ p1 ∧ p1 < cells.length ∧ 0 ≤ p2 ∧ (pnL L (cells.getD p1.toNat 0) : Int) ≤ p2) :
    Calls Tryd.prog 43 #[.slice A n cap, netV VA ca cells (f : Int) VB cb W, .agg #[.int .i64 p1, .int .i64 p2]] w fun e w' => e = .returned (.tuple #[.slice none 0 0, .int .i64 30]) ∧ Below w.heap.size w w' := by
  subst hn
  obtain ⟨p, hp⟩ : ∃ p : Pt, (p1, p2) = p := ⟨_, rfl⟩
  have e1 : p1 = p.1 := congrArg Prod.fst hp
  have e2 : p2 = p.2 := congrArg Prod.snd hp
  rw [e1, e2]
  (try simp only [e1] at hq)
  (try simp only [e2] at hq)
  clear hp e1 e2
  obtain ⟨hz, hc4, hf0, hf64, hag, hok⟩ := netChk_ok hk
  have hs := chk_sig hz
  have hp7 := pnL_le hs
  have HK := Lib.hid hk
  have HOk : Hid (NetOk (pnL L) cells f W) := hok
  have HAg := Lib.hid hag
  have HS := Lib.hid hs
  clear hk hok hz hag hs
  have HQ := Lib.hid hq
  clear hq
  go_enter Tryd.func43, Tryd.ntmps43
  go_upto_region 1 with fail
  refine absW (fun X => Below w.heap.size w X ∧ NBox X w.heap.size VA cells.length ca (f : Int) VB W.length cb ∧ PtBx X (w.heap.size + 1) p) ⟨by (repeat (first | exact Below.refl _ _ | (with_reducible refine Below.drew ?_) | (with_reducible refine Below.alloc ?_ (by (try simp); (try omega)) _) | (with_reducible refine Below.setCell ?_ (by (try simp); (try omega)) _) | (with_reducible refine Below.trans ?_ (Below.mono (by assumption) (by (try simp); (try omega)))))), ⟨by simp <;> omega, by go_simp, by go_simp, by go_simp⟩, ?_⟩ ?_
  · have := heap_alloc_new (w.alloc (.cells #[.slice VA cells.length ca, .int .i64 (f : Int), .slice VB W.length cb] 64)) (.cells #[.int .i64 p.1, .int .i64 p.2] 83)
    rw [World.size_alloc] at this
    exact this
  rintro X ⟨hbx, hnb, hpb⟩
  have n0 := hnb.c0
  have n1 := hnb.c1
  have n2 := hnb.c2
  have hzy := hnb.lt
  have HX := Lib.hid (And.intro hbx (And.intro hnb hpb))
  clear hbx hnb hpb
  go_upto_region 6 with (first
    | (go_at_call 23
       refine (net_check A _ cap L VA VB ca cb cells f W _ rfl hcap (Lib.hid (HL.out.below HX.out.1)) hl (Lib.hid (HC.out.below HX.out.1)) (Lib.hid (HW.out.below HX.out.1)) hc hw).mono ?_
       rintro e w1 ⟨rfl, hb1⟩
       rw [HK.out]
       have hnb := HX.out.2.1.below hb1
       have n0 := hnb.c0
       have n1 := hnb.c1
       have n2 := hnb.c2
       have hz1 := hnb.lt
       have HB1 := Lib.hid (HX.out.1.trans (hb1.mono HX.out.1.size))
       have HN1 := Lib.hid (And.intro hnb (HX.out.2.2.below hb1))
       clear hb1 hnb)
    | (go_at_call 88
       refine (code_look A _ cap L VA VB ca cb cells f W _ rfl (Lib.hid (HL.out.below HB1.out)) HS.out (Lib.hid (HC.out.below HB1.out)) (Lib.hid (HW.out.below HB1.out)) (by omega) (by omega) hw HAg HOk).mono ?_
       rintro e w2 ⟨P, fb, G, vC, vD, rfl, hwb, hd, hb2, hlo, hloD⟩
       have HWb := Lib.hid (hwb.congr rfl fun q hq => (lkM_eq HOk.out hq).1)
       have hnb := HN1.out.1.below hb2
       have hpb := (HN1.out.2.below hb2).cells
       have n0 := hnb.c0
       have n1 := hnb.c1
       have hz2 := hnb.lt
       have HB2 := Lib.hid (HB1.out.trans (hb2.mono HB1.out.size))
       obtain ⟨x0, x1, hx⟩ := hpb
       clear hwb hd hnb hb2 hlo hloD))
  obtain ⟨p1, p2⟩ := p
  dsimp only at x0 x1 HQ
  obtain ⟨VC, cC, rfl, _⟩ := HWb.out.rc.len
  obtain ⟨c0, c1, c2, c3, hPl⟩ := HWb.out.cells
  obtain ⟨h1, h2, h3, h4, h5⟩ := HQ.out
  obtain ⟨c, rfl⟩ := Int.eq_ofNat_of_zero_le h2
  rw [Int.toNat_natCast] at h5
  obtain ⟨g2, cc, hVC, hgl2, r0⟩ := HWb.out.rowAt (show c < cells.length by omega)
  simp only [Value.slice.injEq, true_and] at hVC
  obtain ⟨rfl, rfl⟩ := hVC
  unfold rowV at r0
  generalize G c = gc at r0
  generalize pnL L (cells.getD c 0) = M at r0 h5
  clear c0 c2 c3
  go_wp2_with fail
  go_quiet (fail)
  go_wp2_with fail
  exact bodyPost_ret (v := .tuple #[.slice none 0 0, .int .i64 30]) (by simp only [results, Tryd.results43]; go_simp) rfl ⟨rfl, HB2.out.trans (Below.mono (by first | exact Below.refl _ _ | exact below_drewN (Below.refl _ _) _) HB2.out.size)⟩
theorem code_from_port (f : Nat) (p : Pt) (hn : n = L.length) (hcap : L.length ≤ cap) (HL : Hid (AgRd w A L)) (hl : L.length ≤ maxLen) (HC : Hid (IntsRd w VA cells)) (HW : Hid (WrRd w VB W)) (hc : cells.length ≤ 10000) (hw : W.length ≤ 40000)
    (hk : (netChk (pnL L) L.length (chk L) cells (f : Int) W).1 = 0) (hp : isPt (pnL L) cells f p = false) :
    Calls Tryd.prog 43 #[.slice A n cap, netV VA ca cells (f : Int) VB cb W, .agg #[.int .i64 p.1, .int .i64 p.2]] w fun e w' => e = .returned (.tuple #[.slice none 0 0, .int .i64 30]) ∧ Below w.heap.size w w' := by
  obtain ⟨p1, p2⟩ := p
  unfold isPt at hp
  by_cases h : p1 = -1
  · rw [if_pos h, decide_eq_false_iff_not] at hp
    dsimp only at hp
    by_cases h2 : p2 < 0
    · exact code_from_port0 A n cap L VA VB ca cb cells W w f p1 p2 hn hcap HL hl HC HW hc hw hk ⟨h, h2⟩
    · exact code_from_port1 A n cap L VA VB ca cb cells W w f p1 p2 hn hcap HL hl HC HW hc hw hk ⟨h, by omega, by omega⟩
  · rw [if_neg h, decide_eq_false_iff_not] at hp
    dsimp only at hp
    by_cases h1 : p1 < 0
    · exact code_from_port2 A n cap L VA VB ca cb cells W w f p1 p2 hn hcap HL hl HC HW hc hw hk ⟨h, h1⟩
    · by_cases h2 : (cells.length : Int) ≤ p1
      · exact code_from_port3 A n cap L VA VB ca cb cells W w f p1 p2 hn hcap HL hl HC HW hc hw hk ⟨h, by omega, h2⟩
      · by_cases h3 : p2 < 0
        · exact code_from_port4 A n cap L VA VB ca cb cells W w f p1 p2 hn hcap HL hl HC HW hc hw hk ⟨h, by omega, by omega, h3⟩
        · exact code_from_port5 A n cap L VA VB ca cb cells W w f p1 p2 hn hcap HL hl HC HW hc hw hk ⟨h, by omega, by omega, by omega, by omega⟩
end
end Go.Proofs.YtkonfogebepccaaDoor
