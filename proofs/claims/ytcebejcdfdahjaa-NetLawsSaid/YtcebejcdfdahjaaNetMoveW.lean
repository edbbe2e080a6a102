/-
  Contract of net.Move.
-/
import Derived.Test.YtcebejcdfdahjaaNetMove
namespace Go.Proofs.Ytcebejcdfdahjaa
open Go.RowKit Go.Shelf
attribute [local go_sem] cell_set
set_option maxRecDepth 100000
set_option linter.unusedVariables false

/-- The boxes of Move. -/
structure MvB (b : Nat) (VA : Option Addr) (n1 ca : Nat) (free : Int) (VB : Option Addr) (n2 cb : Nat) (VC : Option Addr) (nc cc : Nat) (VF : Option Addr) (nf cf : Nat) (X : World) : Prop where
  n : NBox X b VA n1 ca free VB n2 cb
  c : X.cell? ⟨b + 1, 0, none⟩ = some (.slice VC nc cc)
  f : X.cell? ⟨b + 2, 0, none⟩ = some (.slice VF nf cf)
  r0 : X.cell? ⟨b + 3, 0, none⟩ = some (.slice none 0 0)
  r1 : X.cell? ⟨b + 3, 1, none⟩ = some (.int .i64 0)
  r2 : X.cell? ⟨b + 3, 2, none⟩ = some (.slice none 0 0)
  g0 : X.frozen? ⟨b + 3, 0, none⟩ = false
  g1 : X.frozen? ⟨b + 3, 1, none⟩ = false
  g2 : X.frozen? ⟨b + 3, 2, none⟩ = false
  lt : b + 3 < X.heap.size
theorem MvB.below {b : Nat} {VA : Option Addr} {n1 ca : Nat} {free : Int} {VB : Option Addr} {n2 cb : Nat} {VC : Option Addr} {nc cc : Nat} {VF : Option Addr} {nf cf : Nat} {X X' : World} (h : MvB b VA n1 ca free VB n2 cb VC nc cc VF nf cf X) (hb : Below X.heap.size X X') : MvB b VA n1 ca free VB n2 cb VC nc cc VF nf cf X' := by
  have hl := h.lt
  exact ⟨h.n.below hb, (hb.cell (p := ⟨b + 1, 0, none⟩) (by show b + 1 < _; omega)).trans h.c, (hb.cell (p := ⟨b + 2, 0, none⟩) (by show b + 2 < _; omega)).trans h.f,
    (hb.cell (p := ⟨b + 3, 0, none⟩) hl).trans h.r0, (hb.cell (p := ⟨b + 3, 1, none⟩) hl).trans h.r1, (hb.cell (p := ⟨b + 3, 2, none⟩) hl).trans h.r2,
    (hb.frozen (p := ⟨b + 3, 0, none⟩) hl).trans h.g0, (hb.frozen (p := ⟨b + 3, 1, none⟩) hl).trans h.g1, (hb.frozen (p := ⟨b + 3, 2, none⟩) hl).trans h.g2, Nat.lt_of_lt_of_le hl hb.size⟩
theorem keep4 {w w' : World} {b : Nat} {x y z u : Value} (h : Below w.heap.size w w') (hb : b < w.heap.size) (hc : w.cell? ⟨b, 0, none⟩ = some x ∧ w.cell? ⟨b, 1, none⟩ = some y ∧ w.cell? ⟨b, 2, none⟩ = some z ∧ w.cell? ⟨b, 3, none⟩ = some u) :
    w'.cell? ⟨b, 0, none⟩ = some x ∧ w'.cell? ⟨b, 1, none⟩ = some y ∧ w'.cell? ⟨b, 2, none⟩ = some z ∧ w'.cell? ⟨b, 3, none⟩ = some u :=
  ⟨(h.cell (p := ⟨b, 0, none⟩) hb).trans hc.1, (h.cell (p := ⟨b, 1, none⟩) hb).trans hc.2.1, (h.cell (p := ⟨b, 2, none⟩) hb).trans hc.2.2.1, (h.cell (p := ⟨b, 3, none⟩) hb).trans hc.2.2.2⟩
section
variable (A : Option Addr) (n cap : Nat) (L : List (ByteArray × Int)) (VA VB : Option Addr) (ca cb : Nat) (cells : List Int) (free : Int) (W : List (Pt × Pt)) (VC : Option Addr) (nc cc : Nat) (cs : List Int) (VF : Option Addr) (nf cf : Nat) (fs : List Int) (w : World)
set_option maxHeartbeats 400000 in
theorem net_move_bad (hn : n = L.length) (hcap : L.length ≤ cap) (HL : Hid (AgRd w A L)) (hl : L.length ≤ maxLen) (HC : Hid (IntsRd w VA cells)) (HW : Hid (WrRd w VB W)) (hc : cells.length ≤ 10000) (hw : W.length ≤ 40000) (hnc : nc = cs.length) (hnf : nf = fs.length)
    (hk : (netChk (pnL L) L.length (chk L) cells free W).1 ≠ 0) :
    Calls Try.prog 13 #[.slice A n cap, netV VA ca cells free VB cb W, .slice VC nc cc, .slice VF nf cf] w fun e w' => e = .returned (.tuple #[netV none 0 [] 0 none 0 [], .int .i64 (netChk (pnL L) L.length (chk L) cells free W).1]) ∧ Below w.heap.size w w' := by
  subst hn hnc hnf
  have hbA : Below w.heap.size w ((((w.alloc (.cells #[.slice VA cells.length ca, .int .i64 free, .slice VB W.length cb] 26)).alloc (.cells #[.slice VC cs.length cc] 23)).alloc (.cells #[.slice VF fs.length cf] 23)).alloc (.cells #[.slice none 0 0, .int .i64 0, .slice none 0 0] 26)) := by (repeat (first | exact Below.refl _ _ | (with_reducible refine Below.drew ?_) | (with_reducible refine Below.alloc ?_ (by (try simp); (try omega)) _) | (with_reducible refine Below.setCell ?_ (by (try simp); (try omega)) _) | (with_reducible refine Below.trans ?_ (Below.mono (by assumption) (by (try simp); (try omega))))))
  have hM0 : MvB w.heap.size VA cells.length ca free VB W.length cb VC cs.length cc VF fs.length cf ((((w.alloc (.cells #[.slice VA cells.length ca, .int .i64 free, .slice VB W.length cb] 26)).alloc (.cells #[.slice VC cs.length cc] 23)).alloc (.cells #[.slice VF fs.length cf] 23)).alloc (.cells #[.slice none 0 0, .int .i64 0, .slice none 0 0] 26)) := ⟨⟨by simp <;> omega, by go_simp, by go_simp, by go_simp⟩, by go_simp, by go_simp, by go_simp, by go_simp, by go_simp, by go_simp, by go_simp, by go_simp, by simp⟩
  generalize hK : netChk (pnL L) L.length (chk L) cells free W = K at hk
  have hkb : (K.1 != 0) = true := by simpa using hk
  have HK := Lib.hid hK
  clear hK hk
  go_enter Try.func13, Try.ntmps13
  go_wp2_with (go_at_call 61; go_loud (refine (net_fine A _ cap L VA VB ca cb cells free W _ rfl hcap (Lib.hid (HL.out.below hbA)) hl (Lib.hid (HC.out.below hbA)) (Lib.hid (HW.out.below hbA)) hc hw).mono ?_); go_loud (rintro e w1 ⟨rfl, hb1⟩; rw [HK.out])
               go_loud (have HB1 : Hid (Below w.heap.size w w1) := hbA.trans (hb1.mono (by simp <;> omega)))
               go_loud (have M1 : Hid (MvB w.heap.size VA cells.length ca free VB W.length cb VC cs.length cc VF fs.length cf w1) := hM0.below hb1)
               have n0 := M1.out.n.c0
               have n1 := M1.out.n.c1
               have bc := M1.out.c
               have bf := M1.out.f
               have r0 := M1.out.r0
               have r1 := M1.out.r1
               have r2 := M1.out.r2
               have g0 := M1.out.g0
               have g1 := M1.out.g1
               have g2 := M1.out.g2
               have lz := M1.out.lt
               clear hb1)
  exact bodyPost_ret (v := .tuple #[netV none 0 [] 0 none 0 [], .int .i64 K.1]) (by simp only [results, Try.results13]; go_simp) rfl ⟨rfl, by have := HB1.out; (repeat (first | exact Below.refl _ _ | (with_reducible refine Below.drew ?_) | (with_reducible refine Below.alloc ?_ (by (try simp); (try omega)) _) | (with_reducible refine Below.setCell ?_ (by (try simp); (try omega)) _) | (with_reducible refine Below.trans ?_ (Below.mono (by assumption) (by (try simp); (try omega))))))⟩
set_option maxHeartbeats 800000 in
theorem net_move_arg (hn : n = L.length) (hcap : L.length ≤ cap) (HL : Hid (AgRd w A L)) (hl : L.length ≤ maxLen) (HC : Hid (IntsRd w VA cells)) (HW : Hid (WrRd w VB W)) (hc : cells.length ≤ 10000) (hw : W.length ≤ 40000) (hnc : nc = cs.length) (hnf : nf = fs.length)
    (HCs : Hid (IntsRd w VC cs)) (HFs : Hid (IntsRd w VF fs)) (hcs : cs.length ≤ 100000) (hfs : fs.length ≤ 100000)
    (hk : (netChk (pnL L) L.length (chk L) cells free W).1 = 0) (hne : ¬ (eachN cs cells.length ∧ eachN fs free.toNat)) :
    Calls Try.prog 13 #[.slice A n cap, netV VA ca cells free VB cb W, .slice VC nc cc, .slice VF nf cf] w fun e w' => e = .returned (.tuple #[netV none 0 [] 0 none 0 [], .int .i64 1]) ∧ Below w.heap.size w w' := by
  subst hn hnc hnf
  obtain ⟨hz, hc4, hf0, hf64, hag, hok⟩ := netChk_ok hk
  obtain ⟨f, rfl⟩ := Int.eq_ofNat_of_zero_le hf0
  rw [show ((f : Int)).toNat = f from rfl] at hne
  clear hz hag hok
  have hbA : Below w.heap.size w ((((w.alloc (.cells #[.slice VA cells.length ca, .int .i64 (f : Int), .slice VB W.length cb] 26)).alloc (.cells #[.slice VC cs.length cc] 23)).alloc (.cells #[.slice VF fs.length cf] 23)).alloc (.cells #[.slice none 0 0, .int .i64 0, .slice none 0 0] 26)) := by (repeat (first | exact Below.refl _ _ | (with_reducible refine Below.drew ?_) | (with_reducible refine Below.alloc ?_ (by (try simp); (try omega)) _) | (with_reducible refine Below.setCell ?_ (by (try simp); (try omega)) _) | (with_reducible refine Below.trans ?_ (Below.mono (by assumption) (by (try simp); (try omega))))))
  have hM0 : MvB w.heap.size VA cells.length ca f VB W.length cb VC cs.length cc VF fs.length cf ((((w.alloc (.cells #[.slice VA cells.length ca, .int .i64 (f : Int), .slice VB W.length cb] 26)).alloc (.cells #[.slice VC cs.length cc] 23)).alloc (.cells #[.slice VF fs.length cf] 23)).alloc (.cells #[.slice none 0 0, .int .i64 0, .slice none 0 0] 26)) := ⟨⟨by simp <;> omega, by go_simp, by go_simp, by go_simp⟩, by go_simp, by go_simp, by go_simp, by go_simp, by go_simp, by go_simp, by go_simp, by go_simp, by simp⟩
  have HK := Lib.hid hk
  clear hk
  have HNum : Hid (∀ (V : Option Addr) (k c : Nat) (l : List Int) (most : Nat) (Z : World), Below w.heap.size w Z → k = l.length → l.length ≤ 100000 → most ≤ 100000 → IntsRd w V l → Calls Try.prog 62 #[.slice V k c, .int .i64 (most : Int)] Z fun e w' => e = .returned (.bool (decide (eachN l most))) ∧ Below Z.heap.size Z w') :=
    fun V k c l most Z hb h1 h2 h3 h4 => (numbers_is V k c l most Z h1 h2 h3 (Lib.hid (h4.below hb))).mono fun e w' ⟨⟨r, h, hr⟩, hb⟩ => ⟨by rw [h]; congr 2; by_cases he : eachN l most <;> simp_all, hb⟩
  by_cases h1 : eachN cs cells.length
  · have h2 : ¬ eachN fs f := fun h => hne ⟨h1, h⟩
    have H1 : Hid (decide (eachN cs cells.length) = true) := decide_eq_true h1
    have H2 : Hid (decide (eachN fs f) = false) := decide_eq_false h2
    clear h1 h2 hne
    go_enter Try.func13, Try.ntmps13
    go_upto_region 4 with (go_at_call 61; go_loud (refine (net_fine A _ cap L VA VB ca cb cells f W _ rfl hcap (Lib.hid (HL.out.below hbA)) hl (Lib.hid (HC.out.below hbA)) (Lib.hid (HW.out.below hbA)) hc hw).mono ?_); go_loud (rintro e w1 ⟨rfl, hb1⟩; rw [HK.out])
                           go_loud (have HB1 : Hid (Below w.heap.size w w1) := hbA.trans (hb1.mono (by simp <;> omega)))
                           go_loud (have M1 : Hid (MvB w.heap.size VA cells.length ca f VB W.length cb VC cs.length cc VF fs.length cf w1) := hM0.below hb1)
                           have n0 := M1.out.n.c0
                           have n1 := M1.out.n.c1
                           have bc := M1.out.c
                           have bf := M1.out.f
                           have r0 := M1.out.r0
                           have r1 := M1.out.r1
                           have r2 := M1.out.r2
                           have g0 := M1.out.g0
                           have g1 := M1.out.g1
                           have g2 := M1.out.g2
                           have lz := M1.out.lt
                           clear hb1)
    go_wp2_with fail
    refine (HNum.out VC _ _ cs cells.length _ HB1.out rfl hcs (by omega) HCs.out).mono ?_
    rintro e w2 ⟨rfl, hb2⟩
    rw [H1.out]
    have HB2 : Hid (Below w.heap.size w w2) := HB1.out.trans (hb2.mono HB1.out.size)
    have M2 := Lib.hid (M1.out.below hb2)
    clear n0 n1 bc bf r0 r1 r2 g0 g1 g2 hb2
    have n1 := M2.out.n.c1
    have bf := M2.out.f
    go_wp2_with fail
    refine (HNum.out VF _ _ fs f _ HB2.out rfl hfs (by omega) HFs.out).mono ?_
    rintro e w3 ⟨rfl, hb3⟩
    rw [H2.out]
    have HB3 : Hid (Below w.heap.size w w3) := HB2.out.trans (hb3.mono HB2.out.size)
    have M3 := Lib.hid (M2.out.below hb3)
    clear n1 bf hb3
    have r0 := M3.out.r0
    have r1 := M3.out.r1
    have r2 := M3.out.r2
    have g0 := M3.out.g0
    have g1 := M3.out.g1
    have g2 := M3.out.g2
    go_wp2
    exact bodyPost_ret (v := .tuple #[netV none 0 [] 0 none 0 [], .int .i64 1]) (by simp only [results, Try.results13]; go_simp) rfl ⟨rfl, by have := HB3.out; (repeat (first | exact Below.refl _ _ | (with_reducible refine Below.drew ?_) | (with_reducible refine Below.alloc ?_ (by (try simp); (try omega)) _) | (with_reducible refine Below.setCell ?_ (by (try simp); (try omega)) _) | (with_reducible refine Below.trans ?_ (Below.mono (by assumption) (by (try simp); (try omega))))))⟩
  · have H1 : Hid (decide (eachN cs cells.length) = false) := decide_eq_false h1
    clear h1 hne
    go_enter Try.func13, Try.ntmps13
    go_upto_region 4 with (go_at_call 61; go_loud (refine (net_fine A _ cap L VA VB ca cb cells f W _ rfl hcap (Lib.hid (HL.out.below hbA)) hl (Lib.hid (HC.out.below hbA)) (Lib.hid (HW.out.below hbA)) hc hw).mono ?_); go_loud (rintro e w1 ⟨rfl, hb1⟩; rw [HK.out])
                           go_loud (have HB1 : Hid (Below w.heap.size w w1) := hbA.trans (hb1.mono (by simp <;> omega)))
                           go_loud (have M1 : Hid (MvB w.heap.size VA cells.length ca f VB W.length cb VC cs.length cc VF fs.length cf w1) := hM0.below hb1)
                           have n0 := M1.out.n.c0
                           have n1 := M1.out.n.c1
                           have bc := M1.out.c
                           have bf := M1.out.f
                           have r0 := M1.out.r0
                           have r1 := M1.out.r1
                           have r2 := M1.out.r2
                           have g0 := M1.out.g0
                           have g1 := M1.out.g1
                           have g2 := M1.out.g2
                           have lz := M1.out.lt
                           clear hb1)
    go_wp2_with fail
    refine (HNum.out VC _ _ cs cells.length _ HB1.out rfl hcs (by omega) HCs.out).mono ?_
    rintro e w2 ⟨rfl, hb2⟩
    rw [H1.out]
    have HB2 : Hid (Below w.heap.size w w2) := HB1.out.trans (hb2.mono HB1.out.size)
    have M2 := Lib.hid (M1.out.below hb2)
    clear n0 n1 bc bf r0 r1 r2 g0 g1 g2 hb2
    have r0 := M2.out.r0
    have r1 := M2.out.r1
    have r2 := M2.out.r2
    have g0 := M2.out.g0
    have g1 := M2.out.g1
    have g2 := M2.out.g2
    go_wp2
    exact bodyPost_ret (v := .tuple #[netV none 0 [] 0 none 0 [], .int .i64 1]) (by simp only [results, Try.results13]; go_simp) rfl ⟨rfl, by have := HB2.out; (repeat (first | exact Below.refl _ _ | (with_reducible refine Below.drew ?_) | (with_reducible refine Below.alloc ?_ (by (try simp); (try omega)) _) | (with_reducible refine Below.setCell ?_ (by (try simp); (try omega)) _) | (with_reducible refine Below.trans ?_ (Below.mono (by assumption) (by (try simp); (try omega))))))⟩
set_option maxHeartbeats 4000000 in
theorem net_move_ok (hn : n = L.length) (hcap : L.length ≤ cap) (HL : Hid (AgRd w A L)) (hl : L.length ≤ maxLen) (HC : Hid (IntsRd w VA cells)) (HW : Hid (WrRd w VB W)) (hc : cells.length ≤ 10000) (hw : W.length ≤ 40000) (hnc : nc = cs.length) (hnf : nf = fs.length)
    (HCs : Hid (IntsRd w VC cs)) (HFs : Hid (IntsRd w VF fs)) (hcs : cs.length ≤ 100000) (hfs : fs.length ≤ 100000)
    (hk : (netChk (pnL L) L.length (chk L) cells free W).1 = 0) (h1 : eachN cs cells.length) (h2 : eachN fs free.toNat) :
    Calls Try.prog 13 #[.slice A n cap, netV VA ca cells free VB cb W, .slice VC nc cc, .slice VF nf cf] w fun e w' => ∃ V1 c1 V2 c2, e = .returned (.tuple #[netV V1 c1 (outK cells cs cells.length) free V2 c2 (tidyW (allPs (pnL L) (outK cells cs cells.length) free.toNat) (moveW cs fs W)), .int .i64 0]) ∧
      NetFresh w w' V1 c1 (outK cells cs cells.length) V2 c2 (tidyW (allPs (pnL L) (outK cells cs cells.length) free.toNat) (moveW cs fs W)) := by
  subst hn hnc hnf
  obtain ⟨hz, hc4, hf0, hf64, hag, hok⟩ := netChk_ok hk
  obtain ⟨f, rfl⟩ := Int.eq_ofNat_of_zero_le hf0
  rw [show ((f : Int)).toNat = f from rfl] at h2 hok ⊢
  have hs := chk_sig hz
  have hpos := chk_pos hz
  have HS := Lib.hid hs
  have hmv := moves_of (cells := cells) h1 h2
  have hok2 := hok.move hmv
  have HLN : Hid (cs.length = cells.length ∧ fs.length = f) := ⟨h1.1, h2.1⟩
  have HOk := Lib.hid hok
  have HOk2 := Lib.hid hok2
  have HLk : Hid (∀ p ∈ allPs (pnL L) (outK cells cs cells.length) f, ∃ q, lnk (moveW cs fs W) p = some q) := fun p hp => by obtain ⟨q, h1, _⟩ := hok2.lnk (allPs_is _ hp); exact ⟨q, h1⟩
  have HLf : Hid (linkF (moveW cs fs W) W.length = fun p => (lnk (moveW cs fs W) p).map encPt) := by
    have := linkF_lnk hok2.nodup (Nat.le_refl _)
    rw [List.take_length, moveW_len] at this
    exact this
  have HEa : Hid (∀ k, k < cells.length → 0 ≤ cs.getD k 0 ∧ cs.getD k 0 < cells.length) := fun k hk => each_at h1 hk
  have hbA : Below w.heap.size w ((((w.alloc (.cells #[.slice VA cells.length ca, .int .i64 (f : Int), .slice VB W.length cb] 26)).alloc (.cells #[.slice VC cs.length cc] 23)).alloc (.cells #[.slice VF fs.length cf] 23)).alloc (.cells #[.slice none 0 0, .int .i64 0, .slice none 0 0] 26)) := by (repeat (first | exact Below.refl _ _ | (with_reducible refine Below.drew ?_) | (with_reducible refine Below.alloc ?_ (by (try simp); (try omega)) _) | (with_reducible refine Below.setCell ?_ (by (try simp); (try omega)) _) | (with_reducible refine Below.trans ?_ (Below.mono (by assumption) (by (try simp); (try omega))))))
  have hM0 : MvB w.heap.size VA cells.length ca f VB W.length cb VC cs.length cc VF fs.length cf ((((w.alloc (.cells #[.slice VA cells.length ca, .int .i64 (f : Int), .slice VB W.length cb] 26)).alloc (.cells #[.slice VC cs.length cc] 23)).alloc (.cells #[.slice VF fs.length cf] 23)).alloc (.cells #[.slice none 0 0, .int .i64 0, .slice none 0 0] 26)) := ⟨⟨by simp <;> omega, by go_simp, by go_simp, by go_simp⟩, by go_simp, by go_simp, by go_simp, by go_simp, by go_simp, by go_simp, by go_simp, by go_simp, by simp⟩
  have HK := Lib.hid hk
  have HNum : Hid (∀ (V : Option Addr) (k c : Nat) (l : List Int) (most : Nat) (Z : World), Below w.heap.size w Z → k = l.length → l.length ≤ 100000 → most ≤ 100000 → IntsRd w V l → Calls Try.prog 62 #[.slice V k c, .int .i64 (most : Int)] Z fun e w' => e = .returned (.bool (decide (eachN l most))) ∧ Below Z.heap.size Z w') :=
    fun V k c l most Z hb h1 h2 h3 h4 => (numbers_is V k c l most Z h1 h2 h3 (Lib.hid (h4.below hb))).mono fun e w' ⟨⟨r, h, hr⟩, hb⟩ => ⟨by rw [h]; congr 2; by_cases he : eachN l most <;> simp_all, hb⟩
  have H1 : Hid (decide (eachN cs cells.length) = true) := decide_eq_true h1
  have H2 : Hid (decide (eachN fs f) = true) := decide_eq_true h2
  clear hk h1 h2 hok hok2 hs hz hag hmv
  go_enter Try.func13, Try.ntmps13
  go_upto_region 4 with (go_at_call 61; go_loud (refine (net_fine A _ cap L VA VB ca cb cells f W _ rfl hcap (Lib.hid (HL.out.below hbA)) hl (Lib.hid (HC.out.below hbA)) (Lib.hid (HW.out.below hbA)) hc hw).mono ?_); go_loud (rintro e w1 ⟨rfl, hb1⟩; rw [HK.out])
                         go_loud (have HB1 : Hid (Below w.heap.size w w1) := hbA.trans (hb1.mono (by simp <;> omega)))
                         go_loud (have M1 : Hid (MvB w.heap.size VA cells.length ca f VB W.length cb VC cs.length cc VF fs.length cf w1) := hM0.below hb1)
                         have n0 := M1.out.n.c0
                         have n1 := M1.out.n.c1
                         have bc := M1.out.c
                         have bf := M1.out.f
                         have r0 := M1.out.r0
                         have r1 := M1.out.r1
                         have r2 := M1.out.r2
                         have g0 := M1.out.g0
                         have g1 := M1.out.g1
                         have g2 := M1.out.g2
                         have lz := M1.out.lt
                         clear hb1)
  go_wp2_with fail
  refine (HNum.out VC _ _ cs cells.length _ HB1.out rfl hcs (by omega) HCs.out).mono ?_
  rintro e w2 ⟨rfl, hb2⟩
  rw [H1.out]
  have HB2 : Hid (Below w.heap.size w w2) := HB1.out.trans (hb2.mono HB1.out.size)
  have M2 := Lib.hid (M1.out.below hb2)
  clear n0 n1 bc bf r0 r1 r2 g0 g1 g2 hb2
  have n1 := M2.out.n.c1
  have bf := M2.out.f
  go_wp2_with fail
  refine (HNum.out VF _ _ fs f _ HB2.out rfl hfs (by omega) HFs.out).mono ?_
  rintro e w3 ⟨rfl, hb3⟩
  rw [H2.out]
  have HB3 : Hid (Below w.heap.size w w3) := HB2.out.trans (hb3.mono HB2.out.size)
  have M3 := Lib.hid (M2.out.below hb3)
  clear n1 bf hb3
  have n0 := M3.out.n.c0
  obtain ⟨i0, hi0, hi1, hi2, hi3⟩ := info_parts int_info
  go_upto_region 8 with (at_make; refine wpList_make_row _ rfl _ _ _ rfl _ i0 _ (by rfl) hi0 hi1 hi2 (by rfl) .i64 .i64 cells.length (by rfl) (by rfl) (by rw [hi3]; omega) (by omega) ?_)
  refine absW (fun X => Row X 3 1 (.slice (some ⟨w3.heap.size, 0, none⟩) cells.length cells.length) cells.length (ivals (outK cells cs 0)) ∧ Below w3.heap.size w3 X)
    ⟨by rw [outK, ivals_replicate]; exact Row.made w3 _ _ cells.length (by unfold maxLen; omega), (Below.refl _ _).alloc (Nat.le_refl _) _⟩ ?_
  rintro X ⟨hrx, hbx⟩
  have HX := Lib.hid (And.intro hrx hbx)
  have MX := Lib.hid (M3.out.below hbx)
  clear n0 hrx hbx
  have n0 := MX.out.n.c0
  go_wp2_with fail
  clear n0
  have hmm := @run_makeMap Try.prog
  go_loopw [13, 14, 47] (fun _ _ i wr => ∃ k : Nat, i = .int .i64 k ∧ k ≤ cells.length ∧ Hid (Row wr 3 1 (.slice (some ⟨w3.heap.size, 0, none⟩) cells.length cells.length) cells.length (ivals (outK cells cs k)) ∧ Below w3.heap.size w3 wr)) (fun _ _ i _ => cells.length - (intOf i).toNat)
  case atStart => exact ⟨0, rfl, by omega, HX⟩
  case round =>
    obtain ⟨k, rfl, hk, HR⟩ := hrel
    clear HX MX
    have MR := Lib.hid (M3.out.below HR.out.2)
    have HBr : Hid (Below w.heap.size w wr) := HB3.out.trans (HR.out.2.mono HB3.out.size)
    by_cases hlt : k < cells.length
    · clear hmm
      obtain ⟨b, off, rfl, hb, e0⟩ := HC.out k hlt
      obtain ⟨b2, off2, rfl, hb2, e2⟩ := HCs.out k (by have := HLN.out.1; omega)
      have d0 := (HBr.out.cell (p := ⟨b, off + k, none⟩) hb).trans e0
      have d2 := (HBr.out.cell (p := ⟨b2, off2 + k, none⟩) hb2).trans e2
      have hkc : k < cs.length := by have := HLN.out.1; omega
      have hea := HEa.out k hlt
      have hnx : outK cells cs (k + 1) = (outK cells cs k).set (cs.getD k 0).toNat (cells.getD k 0) := rfl
      clear e0 e2
      generalize cells.getD k 0 = a at d0 hnx
      generalize cs.getD k 0 = c at d2 hnx hea
      obtain ⟨h1, h2⟩ := hea
      obtain ⟨m, rfl⟩ := Int.eq_ofNat_of_zero_le h1
      have HNX : Hid (outK cells cs (k + 1) = (outK cells cs k).set m a) := hnx
      clear hnx
      have hm : m < cells.length := by omega
      have s0 : wr.frozen? ⟨w3.heap.size, m, none⟩ = false := HR.out.1.frozenAt m
      obtain ⟨u1, s2⟩ : ∃ u, wr.cell? ⟨w3.heap.size, m, none⟩ = some u := ⟨_, (HR.out.1.cellAt m (by omega)).trans (List.getElem?_eq_getElem (by rw [HR.out.1.1]; omega))⟩
      have bc := MR.out.c
      go_wp2
      go_roundw
      case rel =>
        have hR8 := HR.out.1.set m (.int .i64 a)
        have hB8 := HR.out.2.setCell (p := ⟨w3.heap.size, m, none⟩) (Nat.le_refl _) (.int .i64 a)
        rw [ivals_set, ← HNX.out] at hR8
        exact ⟨k + 1, by go_num, by omega, hR8, hB8⟩
      case measure => simp [intOf]; omega
    · obtain rfl : k = cells.length := by omega
      obtain ⟨wo, hwo⟩ : ∃ wo, wo = wr := ⟨_, rfl⟩
      subst hwo
      have hzo := HR.out.2.size
      have HOut : Hid (IntsRd wo (some ⟨w3.heap.size, 0, none⟩) (outK cells cs cells.length)) := Row.ints (cap := cells.length) (by rw [outK_len]; exact HR.out.1)
      clear HR
      go_upto_region 14 with (fail)
      clear hmm
      refine absW (fun X => MP encPt X wo.heap.size (linkF (moveW cs fs W) 0) ∧ Below wo.heap.size wo X) ⟨MP.made wo, (Below.refl _ _).alloc (Nat.le_refl _) _⟩ ?_
      rintro X ⟨hmx, hbx⟩
      have HX := Lib.hid (And.intro hmx hbx)
      have n2 := (MR.out.below hbx).n.c2
      clear hmx hbx
      go_wp2_with fail
      clear n2
      go_loopw [17, 64] (fun _ i wr => ∃ k : Nat, i = .int .i64 k ∧ k ≤ W.length ∧ Hid (MP encPt wr wo.heap.size (linkF (moveW cs fs W) k) ∧ Below wo.heap.size wo wr)) (fun _ i _ => W.length - (intOf i).toNat)
      case atStart => exact ⟨0, rfl, by omega, HX⟩
      case round =>
        obtain ⟨k, rfl, hk2, HR⟩ := hrel
        clear HX
        have MR2 := Lib.hid (MR.out.below HR.out.2)
        have HBr2 : Hid (Below w.heap.size w wr) := HBr.out.trans (HR.out.2.mono HBr.out.size)
        by_cases hlt2 : k < W.length
        · obtain ⟨b, off, rfl, hb, e0, e1, e2, e3⟩ := HW.out k hlt2
          have d0 := (HBr2.out.cell (p := ⟨b, off + k * 4, none⟩) hb).trans e0
          have d1 := (HBr2.out.cell (p := ⟨b, off + k * 4 + 1, none⟩) hb).trans e1
          have d2 := (HBr2.out.cell (p := ⟨b, off + k * 4 + 2, none⟩) hb).trans e2
          have d3 := (HBr2.out.cell (p := ⟨b, off + k * 4 + 3, none⟩) hb).trans e3
          clear e0 e1 e2 e3
          have hm := ends_at hlt2
          have HP1 := Lib.hid (HOk.out.is _ hm.1)
          have HP2 := Lib.hid (HOk.out.is _ hm.2)
          have hnx : linkF (moveW cs fs W) (k + 1) = upd (upd (linkF (moveW cs fs W) k) ((moveW cs fs W).getD k default).1 (encPt ((moveW cs fs W).getD k default).2)) ((moveW cs fs W).getD k default).2 (encPt ((moveW cs fs W).getD k default).1) := rfl
          have hno : linkF (moveW cs fs W) k ((moveW cs fs W).getD k default).1 = none := by
            rw [linkF_lnk HOk2.out.nodup (by rw [moveW_len]; omega)]
            show Option.map encPt _ = none
            rw [lnk_none (fun hp => (ends_new HOk2.out.nodup (by rw [moveW_len]; exact hlt2) hp).1 rfl)]; rfl
          rw [moveW_at hlt2] at hnx hno
          generalize W.getD k default = x at d0 d1 d2 d3 hnx hno HP1 HP2
          obtain ⟨⟨x0, x1⟩, x2, x3⟩ := x
          have HNX : Hid (linkF (moveW cs fs W) (k + 1) = upd (upd (linkF (moveW cs fs W) k) (toPt cs fs (x0, x1)) (encPt (toPt cs fs (x2, x3)))) (toPt cs fs (x2, x3)) (encPt (toPt cs fs (x0, x1)))) := hnx
          have HNo : Hid (linkF (moveW cs fs W) k (toPt cs fs (x0, x1)) = none) := hno
          clear hnx hno hm
          have HTo : Hid (∀ (c s : Int) (Z : World), Below wr.heap.size wr Z → isPt (pnL L) cells f (c, s) = true → Calls Try.prog 63 #[.agg #[.int .i64 c, .int .i64 s], .pointer (some ⟨w.heap.size + 2, 0, none⟩), .pointer (some ⟨w.heap.size + 1, 0, none⟩)] Z fun e w' => e = .returned (encPt (toPt cs fs (c, s))) ∧ Below Z.heap.size Z w') := fun c s Z hbz hp => by
            have MZ := MR2.out.below hbz
            have hlz := MZ.lt
            have hbw := HBr2.out.trans (hbz.mono HBr2.out.size)
            exact move_to2 (c, s) MZ.f MZ.c (by omega) (by omega) (HFs.out.below hbw) (HCs.out.below hbw) hfs hcs hp HLN.out.2 HLN.out.1
          go_wp2_with fail
          refine absW (fun X => Below wr.heap.size wr X ∧ wr.heap.size < X.heap.size ∧ X.cell? ⟨wr.heap.size, 0, none⟩ = some (.int .i64 x0) ∧ X.cell? ⟨wr.heap.size, 1, none⟩ = some (.int .i64 x1) ∧ X.cell? ⟨wr.heap.size, 2, none⟩ = some (.int .i64 x2) ∧ X.cell? ⟨wr.heap.size, 3, none⟩ = some (.int .i64 x3))
            ⟨(Below.refl _ _).alloc (Nat.le_refl _) _, by simp, by go_simp, by go_simp, by go_simp, by go_simp⟩ ?_
          rintro X ⟨hbx, hzx, hSx⟩
          have HBz : Hid (Below wr.heap.size wr X.drew) := hbx.drew
          have SZ := hSx
          have hzz : wr.heap.size < X.drew.heap.size := hzx
          have hml := HR.out.1.lt
          have hmn : wr.heap.size ≠ wo.heap.size := by omega
          clear hbx hSx d0 d1 d2 d3
          go_region_held3 (fun w' => w'.cell? ⟨wr.heap.size, 0, none⟩ = some (.int .i64 x0) ∧ w'.cell? ⟨wr.heap.size, 1, none⟩ = some (.int .i64 x1) ∧ w'.cell? ⟨wr.heap.size, 2, none⟩ = some (.int .i64 x2) ∧ w'.cell? ⟨wr.heap.size, 3, none⟩ = some (.int .i64 x3))
            (exact SZ)
            (first
              | (go_at_call 63
                 refine (HTo.out _ _ _ HBz.out (by first | exact HP1.out | exact HP2.out)).mono ?_
                 rintro e v6 ⟨rfl, hb6⟩
                 have SZ := keep4 hb6 hzz SZ
                 have HBz := Lib.hid (HBz.out.trans (hb6.mono HBz.out.size))
                 have hzz := Nat.lt_of_lt_of_le hzz hb6.size
                 clear hb6)
              | (refine up_map_entry (k := toPt cs fs (x0, x1)) (HR.out.1.keep (HBz.out.block _ hml)) kport Try.underlying102 zport HNo.out ?_; intro s1 v1 m1 k1 z1
                 have SZ := lk_S k1 hzz hmn SZ
                 have hzz := Nat.lt_of_lt_of_le hzz k1.size)
              | (refine up_map_store m1 ?_; intro v2 m2 k2 z2
                 have SZ := lk_S k2 hzz hmn SZ
                 have hzz := Nat.lt_of_lt_of_le hzz k2.size)
              | (refine up_map_update (k := toPt cs fs (x2, x3)) m2 kport Try.underlying102 ?_; intro v3 m3 k3 z3
                 have SZ := lk_S k3 hzz hmn SZ))
          have K9 : Kp [wo.heap.size] wr v3 := ((((Kp.of_below (F := [wo.heap.size]) HBz.out).trans k1 (by simp)).trans k2 (by simp)).trans k3 (by simp))
          have HR9 : Hid (MP encPt v3 wo.heap.size (linkF (moveW cs fs W) (k + 1)) ∧ Below wo.heap.size wo v3) := ⟨by rw [HNX.out, ← upd_same (linkF (moveW cs fs W) k) (toPt cs fs (x0, x1)) (encPt (0, 0))]; exact m3, HR.out.2.trans (K9.below HR.out.2.size (by simp))⟩
          clear SZ k1 k2 k3 z1 z2 z3 m1 m2 m3 K9
          go_wp2
          go_roundw
          case rel => exact ⟨k + 1, by go_num, by omega, HR9⟩
          case measure => simp [intOf]; omega
        · obtain rfl : k = W.length := by omega
          have n1 := MR2.out.n.c1
          have r0 := MR2.out.r0
          have r1 := MR2.out.r1
          have r2 := MR2.out.r2
          have g0 := MR2.out.g0
          have g1 := MR2.out.g1
          have g2 := MR2.out.g2
          have lz2 := MR2.out.lt
          have HMP : Hid (MP encPt wr wo.heap.size fun p => (lnk (moveW cs fs W) p).map encPt) := by have := HR.out.1; rw [HLf.out] at this; exact this
          have hol := outK_len cells cs cells.length
          have HOL := Lib.hid hol
          clear hol
          go_wp2_with (go_at_call 64; go_loud (refine (net_build A _ cap L (some ⟨w3.heap.size, 0, none⟩) cells.length cells.length (outK cells cs cells.length) f wo.heap.size (lnk (moveW cs fs W)) _ rfl HOL.out.symm (Lib.hid (HL.out.below HBr2.out)) HS.out hpos (Lib.hid (HOut.out.below HR.out.2)) (by rw [HOL.out]; omega) (by omega) HMP HLk.out).mono ?_)
                       rintro e w9 ⟨V1, c1, V2, c2, rfl, hnf⟩
                       have hb9 := hnf.1.2.2
                       have t0 := (hb9.cell (p := ⟨w.heap.size + 3, 0, none⟩) lz2).trans r0
                       have t1 := (hb9.cell (p := ⟨w.heap.size + 3, 1, none⟩) lz2).trans r1
                       have t2 := (hb9.cell (p := ⟨w.heap.size + 3, 2, none⟩) lz2).trans r2
                       have u0 := (hb9.frozen (p := ⟨w.heap.size + 3, 0, none⟩) lz2).trans g0
                       have u1 := (hb9.frozen (p := ⟨w.heap.size + 3, 1, none⟩) lz2).trans g1
                       have u2 := (hb9.frozen (p := ⟨w.heap.size + 3, 2, none⟩) lz2).trans g2
                       have HNF := Lib.hid hnf
                       clear hnf hb9)
          exact bodyPost_ret (v := .tuple #[netV V1 c1 (outK cells cs cells.length) f V2 c2 (tidyF (allPs (pnL L) (outK cells cs cells.length) f) (lnk (moveW cs fs W))), .int .i64 0]) (by simp only [results, Try.results13]; go_simp) rfl ⟨V1, c1, V2, c2, rfl, HNF.out.set3 (b := w.heap.size + 3) HBr2.out (by omega) (by omega) _ _ _⟩
end
end Go.Proofs.Ytcebejcdfdahjaa
