/-
  The statement WalkTells: the parts are the document's.
-/
import Derived.Test.YtkonfogebepccaaGreatDoorPartsDoc
import Derived.Test.YtkonfogebepccaaGreatDoorRAllA
import Derived.Test.YtkonfogebepccaaGreatDoorRWalkC
import Derived.Test.YtkonfogebepccaaGreatDoorRef03C
import Derived.Test.YtkonfogebepccaaGreatDoorNetPlainK
import Derived.Test.YtkonfogebepccaaGreatDoorRAllC
import Derived.Test.YtkonfogebepccaaGreatDoorNetMuch
import Derived.Test.YtkonfogebepccaaGreatDoorEqN
import Derived.Deep.RegionHeld3
/-
  The parts that walk.Parts answers, in memory of their own.
-/
namespace Go.Proofs.YtkonfogebepccaaGreatDoor
open Go.RowKit
set_option maxRecDepth 100000
set_option linter.unusedVariables false
def paW (q : PV) : Pa := (q.xs, q.ys)
structure PaS (w X : World) (v : Value) (qs : List PV) : Prop where
  bel : Below w.heap.size w X
  lr : Row X 65 2 v qs.length (pvCells qs)
  q1 : ∀ q ∈ qs, Row X 3 1 q.a q.xs.length (ivals q.xs) ∧ Row X 3 1 q.b q.ys.length (ivals q.ys)
  dj : (pvCells qs).Pairwise fun u u' => ∀ b ∈ ownB u, b ∉ ownB u'
  lo : ∀ u ∈ pvCells qs, ∀ b ∈ ownB u, w.heap.size ≤ b
section
variable {w X Y : World} {v : Value} {qs : List PV}
theorem PaS.below (h : PaS w X v qs) (hb : Below X.heap.size X Y) : PaS w Y v qs :=
  ⟨h.bel.trans (hb.mono h.bel.size), h.lr.keep fun b hm => hb.block b (h.lr.lt b hm), fun q hq => ⟨(h.q1 q hq).1.keep fun b hm => hb.block b ((h.q1 q hq).1.lt b hm), (h.q1 q hq).2.keep fun b hm => hb.block b ((h.q1 q hq).2.lt b hm)⟩, h.dj, h.lo⟩
theorem PaS.from {w0 : World} (h : PaS w X v qs) (hb : Below w0.heap.size w0 w) : PaS w0 X v qs := ⟨hb.trans (h.bel.mono hb.size), h.lr, h.q1, h.dj, fun u hu b hm => Nat.le_trans hb.size (h.lo u hu b hm)⟩
theorem PaS.hi (h : PaS w X v qs) {u : Value} (hu : u ∈ pvCells qs) {b : Nat} (hb : b ∈ ownB u) : b < X.heap.size := by
  obtain ⟨q, hq, rfl | rfl⟩ := pv_mem hu
  · exact (h.q1 q hq).1.lt b hb
  · exact (h.q1 q hq).2.lt b hb
theorem PaS.none (hb : Below w.heap.size w X) : PaS w X (.slice none 0 0) [] := ⟨hb, Row.nil _ _ _, by simp, List.Pairwise.nil, by simp [pvCells]⟩
theorem PtS.pa {w1 : World} {bl bw bo bf P go gf n f : Nat} {ofs frs : List Int} (h : PtS w1 X bl bw bo bf P go gf n f ofs frs v qs) (hb : Below w.heap.size w w1) : PaS w X v qs :=
  ⟨hb.trans (h.bel.mono hb.size), h.lr, h.q1, h.dj, fun u hu b hm => Nat.le_trans hb.size (h.lo.2 u hu b hm)⟩
/-- The parts' lists are short. -/
def LenP (Q : List Pa) : Prop := Q.length ≤ 100000 ∧ ∀ x ∈ Q, x.1.length ≤ 100000 ∧ x.2.length ≤ 100000
theorem LenP.nil : LenP [] := ⟨by simp, by simp⟩
theorem pnL_pos {L : List (ByteArray × Int)} {cells : List Int} (hs : SigOk L) (hag : ∀ i, i < cells.length → 0 ≤ cells.getD i 0 ∧ cells.getD i 0 < L.length) (j : Nat) (hj : j < cells.length) : 0 < pnL L (cells.getD j 0) := by
  obtain ⟨h0, h1⟩ := hag j hj
  have h2 := pnL_in hs h0 h1
  have h3 := (hs.ar (cells.getD j 0).toNat (by omega)).1
  omega
theorem parts_len {L : List (ByteArray × Int)} {cells : List Int} {f : Nat} {W : List (Pt × Pt)} (hs : SigOk L) (hok : NetOk (pnL L) cells f W) (hc : cells.length ≤ 5000) (hf : f ≤ 100) : LenP (partsK (pnL L) cells f (lkM W) [] (allPs (pnL L) cells f)) := by
  obtain ⟨h1, _, _⟩ := PaOk.all hok (allPs (pnL L) cells f) [] ⟨by simp, List.Pairwise.nil⟩ fun p hp => allPs_is _ hp
  refine ⟨?_, fun x hx => ?_⟩
  · have h2 := partsK_len (pn := pnL L) (cs := cells) (f := f) (Lk := lkM W) (allPs (pnL L) cells f) (l := [])
    have h3 := firstN_le (pnL_le hs) cells f cells.length
    rw [allPs_len, List.length_nil] at h2
    omega
  · obtain ⟨p, hp, rfl⟩ := h1.of x hx
    have h2 := srtC_len cells.length (wlk (pnL L) cells (lkM W) p)
    have h3 := frL_len f (lkM W) p (wlk (pnL L) cells (lkM W) p)
    constructor
    · show (srtC cells.length (wlk (pnL L) cells (lkM W) p)).length ≤ _; omega
    · show (frL f (lkM W) p (wlk (pnL L) cells (lkM W) p)).length ≤ _; omega
end
/-- What is read of a signature and a net. -/
structure Rd (w : World) (A VA VB : Option Addr) (L : List (ByteArray × Int)) (cells : List Int) (W : List (Pt × Pt)) : Prop where
  a : AgRd w A L
  c : IntsRd w VA cells
  w : WrRd w VB W
theorem Rd.below {w w' : World} {A VA VB : Option Addr} {L : List (ByteArray × Int)} {cells : List Int} {W : List (Pt × Pt)} (h : Rd w A VA VB L cells W) (hb : Below w.heap.size w w') : Rd w' A VA VB L cells W := ⟨h.a.below hb, h.c.below hb, h.w.below hb⟩
def AnsF (w : World) (k : Int) (code : List Int) : Ending → World → Prop := fun e w' => ∃ V c, e = .returned (.tuple #[.slice V code.length c, .int .i64 k]) ∧ Fresh w w' 3 1 code.length (.slice V code.length c) (ivals code)
theorem AnsF.none {w w' : World} {k : Int} {e : Ending} (h : e = .returned (.tuple #[.slice none 0 0, .int .i64 k]) ∧ Below w.heap.size w w') : AnsF w k [] e w' := ⟨Option.none, 0, h.1, (Fresh.nil w _ _).later h.2⟩
def AnsP (w : World) (k : Int) (Q : List Pa) : Ending → World → Prop := fun e w' => ∃ V c qs, e = .returned (.tuple #[.slice V Q.length c, .int .i64 k]) ∧ PaS w w' (.slice V Q.length c) qs ∧ qs.map paW = Q
theorem AnsP.none {w w' : World} {k : Int} {e : Ending} (h : e = .returned (.tuple #[.slice none 0 0, .int .i64 k]) ∧ Below w.heap.size w w') : AnsP w k [] e w' := ⟨Option.none, 0, [], h.1, PaS.none h.2, rfl⟩
theorem AnsP.of {w w' : World} {k : Int} {Q : List Pa} {e : Ending} {v : Value} {qs : List PV} (he : e = .returned (.tuple #[v, .int .i64 k])) (h : PaS w w' v qs) (hQ : qs.map paW = Q) : AnsP w k Q e w' := by
  have hl : qs.length = Q.length := by rw [← hQ, List.length_map]
  obtain ⟨V, c, rfl, _⟩ := h.lr.len
  rw [hl] at he h
  exact ⟨V, c, qs, he, h, hQ⟩
end Go.Proofs.YtkonfogebepccaaGreatDoor
/-
  Contracts of skeinref11.From: of no net; of no port; of a port of a net that may be.
-/
namespace Go.Proofs.YtkonfogebepccaaGreatDoor
open Go.RowKit
attribute [local go_sem] cell_set
set_option maxRecDepth 100000
set_option linter.unusedVariables false

section
variable (A : Option Addr) (n cap : Nat) (L : List (ByteArray × Int)) (VA VB : Option Addr) (ca cb : Nat) (cells : List Int) (free : Int) (W : List (Pt × Pt)) (p1 p2 : Int) (w : World)
set_option maxHeartbeats 1000000 in
theorem rfrom_bad (hn : n = L.length) (hcap : L.length ≤ cap) (HL : Hid (AgRd w A L)) (hl : L.length ≤ maxLen) (HC : Hid (IntsRd w VA cells)) (HW : Hid (WrRd w VB W)) (hc : cells.length ≤ 10000) (hw : W.length ≤ 40000) (k : Int)
    (hk : (netChk (pnL L) L.length (chk L) cells free W).1 = k) (hk0 : k ≠ 0) :
    Calls Tryz.prog 9 #[.slice A n cap, netV VA ca cells free VB cb W, .agg #[.int .i64 p1, .int .i64 p2]] w fun e w' => e = .returned (.tuple #[.slice none 0 0, .int .i64 k]) ∧ Below w.heap.size w w' := by
  have HK := Lib.hid hk
  have f0 : (k != 0) = true := by simpa using hk0
  clear hk hk0
  subst hn
  go_enter Tryz.func9, Tryz.ntmps9
  go_upto_region 1 with fail
  refine absW (fun X => Below w.heap.size w X ∧ NBox X w.heap.size VA cells.length ca free VB W.length cb ∧ PtBx X (w.heap.size + 1) (p1, p2)) ⟨by (repeat (first | exact Below.refl _ _ | (with_reducible refine Below.drew ?_) | (with_reducible refine Below.alloc ?_ (by (try simp); (try omega)) _) | (with_reducible refine Below.setCell ?_ (by (try simp); (try omega)) _) | (with_reducible refine Below.trans ?_ (Below.mono (by assumption) (by (try simp); (try omega)))))), ⟨by simp <;> omega, by go_simp, by go_simp, by go_simp⟩, ?_⟩ ?_
  · have := heap_alloc_new (w.alloc (.cells #[.slice VA cells.length ca, .int .i64 free, .slice VB W.length cb] 26)) (.cells #[.int .i64 p1, .int .i64 p2] 28)
    rw [World.size_alloc] at this
    exact this
  rintro X ⟨hbx, hnb, hpb⟩
  have HX := Lib.hid (And.intro hbx (And.intro hnb hpb))
  have c0 := (HX.out.2.1).c0
  have c1 := (HX.out.2.1).c1
  have c2 := (HX.out.2.1).c2
  have clt := (HX.out.2.1).lt
  obtain ⟨x0, x1, hxl⟩ := (HX.out.2.2).cells
  dsimp only at x0 x1
  clear hbx hnb hpb
  go_wp2_with fail
  refine (rcheck3 A _ cap L VA VB ca cb cells free W _ rfl hcap (Lib.hid (HL.out.below HX.out.1)) hl (Lib.hid (HC.out.below HX.out.1)) (Lib.hid (HW.out.below HX.out.1)) hc hw).mono ?_
  rintro e w1 ⟨rfl, hb1⟩
  rw [HK.out]
  have HB := Lib.hid (HX.out.1.trans (hb1.mono HX.out.1.size))
  clear hb1 c0 c1 c2 clt x0 x1 hxl
  simp only []
  go_wp2_with fail
  go_ret2
  exact ⟨rfl, HB.out⟩
set_option maxHeartbeats 1000000 in
theorem rfrom_port (f : Nat) (hn : n = L.length) (hcap : L.length ≤ cap) (HL : Hid (AgRd w A L)) (hl : L.length ≤ maxLen) (HC : Hid (IntsRd w VA cells)) (HW : Hid (WrRd w VB W)) (hc : cells.length ≤ 10000) (hw : W.length ≤ 40000)
    (hk : (netChk (pnL L) L.length (chk L) cells (f : Int) W).1 = 0) (hp : isPt (pnL L) cells f (p1, p2) = false) :
    Calls Tryz.prog 9 #[.slice A n cap, netV VA ca cells (f : Int) VB cb W, .agg #[.int .i64 p1, .int .i64 p2]] w fun e w' => e = .returned (.tuple #[.slice none 0 0, .int .i64 30]) ∧ Below w.heap.size w w' := by
  obtain ⟨hz, hc4, hf0, hf64, hag, hok⟩ := netChk_ok hk
  have hsg := Lib.hid (chk_sig hz)
  have HK := Lib.hid hk
  have HPl : Hid (plcR (pnL L) cells f (p1, p2) = -1) := by show _ = _; unfold plcR; rw [hp]; rfl
  have hc5 : cells.length ≤ 5000 := by omega
  have hf : f ≤ 100 := by omega
  clear hk hp hz hag hok hf0 hf64 hc4
  subst hn
  go_enter Tryz.func9, Tryz.ntmps9
  go_upto_region 1 with fail
  refine absW (fun X => Below w.heap.size w X ∧ NBox X w.heap.size VA cells.length ca (f : Int) VB W.length cb ∧ PtBx X (w.heap.size + 1) (p1, p2)) ⟨by (repeat (first | exact Below.refl _ _ | (with_reducible refine Below.drew ?_) | (with_reducible refine Below.alloc ?_ (by (try simp); (try omega)) _) | (with_reducible refine Below.setCell ?_ (by (try simp); (try omega)) _) | (with_reducible refine Below.trans ?_ (Below.mono (by assumption) (by (try simp); (try omega)))))), ⟨by simp <;> omega, by go_simp, by go_simp, by go_simp⟩, ?_⟩ ?_
  · have := heap_alloc_new (w.alloc (.cells #[.slice VA cells.length ca, .int .i64 (f : Int), .slice VB W.length cb] 26)) (.cells #[.int .i64 p1, .int .i64 p2] 28)
    rw [World.size_alloc] at this
    exact this
  rintro X ⟨hbx, hnb, hpb⟩
  have HX := Lib.hid (And.intro hbx (And.intro hnb hpb))
  have c0 := (HX.out.2.1).c0
  have c1 := (HX.out.2.1).c1
  have c2 := (HX.out.2.1).c2
  have clt := (HX.out.2.1).lt
  obtain ⟨x0, x1, hxl⟩ := (HX.out.2.2).cells
  dsimp only at x0 x1
  clear hbx hnb hpb
  go_wp2_with fail
  refine (rcheck3 A _ cap L VA VB ca cb cells (f : Int) W _ rfl hcap (Lib.hid (HL.out.below HX.out.1)) hl (Lib.hid (HC.out.below HX.out.1)) (Lib.hid (HW.out.below HX.out.1)) hc hw).mono ?_
  rintro e w1 ⟨rfl, hb1⟩
  rw [HK.out]
  have HX := Lib.hid (And.intro (HX.out.1.trans (hb1.mono HX.out.1.size)) (And.intro (HX.out.2.1.below hb1) (HX.out.2.2.below hb1)))
  clear c0 c1 c2 clt x0 x1 hxl
  have c0 := (HX.out.2.1).c0
  have c1 := (HX.out.2.1).c1
  have c2 := (HX.out.2.1).c2
  have clt := (HX.out.2.1).lt
  obtain ⟨x0, x1, hxl⟩ := (HX.out.2.2).cells
  dsimp only at x0 x1
  clear hb1
  simp only []
  go_wp2_with fail
  refine (rfirst A _ cap L VA VB ca cb cells f W _ rfl (Lib.hid (HL.out.below HX.out.1)) hsg.out (Lib.hid (HC.out.below HX.out.1)) hc5 hf).mono ?_
  rintro e w2 ⟨Vf, cf, rfl, hfr⟩
  have hfl : (firstL (pnL L) cells f cells.length).length = cells.length := firstL_len _ _ _ _
  have HF : Hid (IntsRd w2 Vf (firstL (pnL L) cells f cells.length)) := Row.ints (cap := cf) (by rw [hfl]; exact hfr.1)
  have HX := Lib.hid (And.intro (HX.out.1.trans (hfr.2.2.mono HX.out.1.size)) (And.intro (HX.out.2.1.below hfr.2.2) (HX.out.2.2.below hfr.2.2)))
  clear c0 c1 c2 clt x0 x1 hxl
  have c0 := (HX.out.2.1).c0
  have c1 := (HX.out.2.1).c1
  have c2 := (HX.out.2.1).c2
  have clt := (HX.out.2.1).lt
  obtain ⟨x0, x1, hxl⟩ := (HX.out.2.2).cells
  dsimp only at x0 x1
  clear hfr hfl
  simp only []
  go_wp2_with fail
  refine (rplace A _ cap L VA VB Vf ca cb cf _ cells f W p1 p2 _ rfl (Lib.hid (HL.out.below HX.out.1)) hsg.out (Lib.hid (HC.out.below HX.out.1)) hc5 hf rfl HF).mono ?_
  rintro e w3 ⟨rfl, hb3⟩
  rw [HPl.out]
  have HX := Lib.hid (And.intro (HX.out.1.trans (hb3.mono HX.out.1.size)) (And.intro (HX.out.2.1.below hb3) (HX.out.2.2.below hb3)))
  clear c0 c1 c2 clt x0 x1 hxl
  have c0 := (HX.out.2.1).c0
  have c1 := (HX.out.2.1).c1
  have c2 := (HX.out.2.1).c2
  have clt := (HX.out.2.1).lt
  obtain ⟨x0, x1, hxl⟩ := (HX.out.2.2).cells
  dsimp only at x0 x1
  clear hb3
  simp only []
  go_wp2_with fail
  go_ret2
  exact ⟨rfl, HX.out.1⟩
set_option maxHeartbeats 1000000 in
theorem rfrom_ok (f : Nat) (hn : n = L.length) (hcap : L.length ≤ cap) (HL : Hid (AgRd w A L)) (hl : L.length ≤ maxLen) (HC : Hid (IntsRd w VA cells)) (HW : Hid (WrRd w VB W)) (hc : cells.length ≤ 10000) (hw : W.length ≤ 40000)
    (hk : (netChk (pnL L) L.length (chk L) cells (f : Int) W).1 = 0) (hp : isPt (pnL L) cells f (p1, p2) = true) :
    Calls Tryz.prog 9 #[.slice A n cap, netV VA ca cells (f : Int) VB cb W, .agg #[.int .i64 p1, .int .i64 p2]] w fun e w' => ∃ V c, e = .returned (.tuple #[.slice V (wlk (pnL L) cells (lkM W) (p1, p2)).length c, .int .i64 0]) ∧ Fresh w w' 3 1 (wlk (pnL L) cells (lkM W) (p1, p2)).length (.slice V (wlk (pnL L) cells (lkM W) (p1, p2)).length c) (ivals (wlk (pnL L) cells (lkM W) (p1, p2))) := by
  obtain ⟨hz, hc4, hf0, hf64, hag, hok⟩ := netChk_ok hk
  have hsg := Lib.hid (chk_sig hz)
  have HK := Lib.hid hk
  have HPl : Hid (plcR (pnL L) cells f (p1, p2) = (plc (pnL L) cells f (p1, p2) : Int)) := plcR_is hp
  have HOk : Hid (NetOk (pnL L) cells f W) := hok
  have HP : Hid (isPt (pnL L) cells f (p1, p2) = true) := hp
  have hc5 : cells.length ≤ 5000 := by omega
  have hf : f ≤ 100 := by omega
  clear hk hp hz hag hok hf0 hf64 hc4
  obtain ⟨M, hM⟩ : ∃ M, firstN (pnL L) cells f cells.length = M := ⟨_, rfl⟩
  have HM := Lib.hid hM
  have hMl : M ≤ 100000 := by
    have := firstN_le (pnL_le hsg.out) cells f cells.length
    omega
  clear hM
  subst hn
  go_enter Tryz.func9, Tryz.ntmps9
  go_upto_region 1 with fail
  refine absW (fun X => Below w.heap.size w X ∧ NBox X w.heap.size VA cells.length ca (f : Int) VB W.length cb ∧ PtBx X (w.heap.size + 1) (p1, p2)) ⟨by (repeat (first | exact Below.refl _ _ | (with_reducible refine Below.drew ?_) | (with_reducible refine Below.alloc ?_ (by (try simp); (try omega)) _) | (with_reducible refine Below.setCell ?_ (by (try simp); (try omega)) _) | (with_reducible refine Below.trans ?_ (Below.mono (by assumption) (by (try simp); (try omega)))))), ⟨by simp <;> omega, by go_simp, by go_simp, by go_simp⟩, ?_⟩ ?_
  · have := heap_alloc_new (w.alloc (.cells #[.slice VA cells.length ca, .int .i64 (f : Int), .slice VB W.length cb] 26)) (.cells #[.int .i64 p1, .int .i64 p2] 28)
    rw [World.size_alloc] at this
    exact this
  rintro X ⟨hbx, hnb, hpb⟩
  have HX := Lib.hid (And.intro hbx (And.intro hnb hpb))
  have c0 := (HX.out.2.1).c0
  have c1 := (HX.out.2.1).c1
  have c2 := (HX.out.2.1).c2
  have clt := (HX.out.2.1).lt
  obtain ⟨x0, x1, hxl⟩ := (HX.out.2.2).cells
  dsimp only at x0 x1
  clear hbx hnb hpb
  go_wp2_with fail
  refine (rcheck3 A _ cap L VA VB ca cb cells (f : Int) W _ rfl hcap (Lib.hid (HL.out.below HX.out.1)) hl (Lib.hid (HC.out.below HX.out.1)) (Lib.hid (HW.out.below HX.out.1)) hc hw).mono ?_
  rintro e w1 ⟨rfl, hb1⟩
  rw [HK.out]
  have HX := Lib.hid (And.intro (HX.out.1.trans (hb1.mono HX.out.1.size)) (And.intro (HX.out.2.1.below hb1) (HX.out.2.2.below hb1)))
  clear c0 c1 c2 clt x0 x1 hxl
  have c0 := (HX.out.2.1).c0
  have c1 := (HX.out.2.1).c1
  have c2 := (HX.out.2.1).c2
  have clt := (HX.out.2.1).lt
  obtain ⟨x0, x1, hxl⟩ := (HX.out.2.2).cells
  dsimp only at x0 x1
  clear hb1
  simp only []
  go_wp2_with fail
  refine (rfirst A _ cap L VA VB ca cb cells f W _ rfl (Lib.hid (HL.out.below HX.out.1)) hsg.out (Lib.hid (HC.out.below HX.out.1)) hc5 hf).mono ?_
  rintro e w2 ⟨Vf, cf, rfl, hfr⟩
  have hfl : (firstL (pnL L) cells f cells.length).length = cells.length := firstL_len _ _ _ _
  have HF : Hid (IntsRd w2 Vf (firstL (pnL L) cells f cells.length)) := Row.ints (cap := cf) (by rw [hfl]; exact hfr.1)
  have HX := Lib.hid (And.intro (HX.out.1.trans (hfr.2.2.mono HX.out.1.size)) (And.intro (HX.out.2.1.below hfr.2.2) (HX.out.2.2.below hfr.2.2)))
  clear c0 c1 c2 clt x0 x1 hxl
  have c0 := (HX.out.2.1).c0
  have c1 := (HX.out.2.1).c1
  have c2 := (HX.out.2.1).c2
  have clt := (HX.out.2.1).lt
  obtain ⟨x0, x1, hxl⟩ := (HX.out.2.2).cells
  dsimp only at x0 x1
  clear hfr hfl
  simp only []
  go_wp2_with fail
  refine (rplace A _ cap L VA VB Vf ca cb cf _ cells f W p1 p2 _ rfl (Lib.hid (HL.out.below HX.out.1)) hsg.out (Lib.hid (HC.out.below HX.out.1)) hc5 hf rfl HF).mono ?_
  rintro e w3 ⟨rfl, hb3⟩
  rw [HPl.out]
  have HX := Lib.hid (And.intro (HX.out.1.trans (hb3.mono HX.out.1.size)) (And.intro (HX.out.2.1.below hb3) (HX.out.2.2.below hb3)))
  clear c0 c1 c2 clt x0 x1 hxl
  have c0 := (HX.out.2.1).c0
  have c1 := (HX.out.2.1).c1
  have c2 := (HX.out.2.1).c2
  have clt := (HX.out.2.1).lt
  obtain ⟨x0, x1, hxl⟩ := (HX.out.2.2).cells
  dsimp only at x0 x1
  clear hb3
  simp only []
  obtain ⟨kp, hkp⟩ : ∃ k, plc (pnL L) cells f (p1, p2) = k := ⟨_, rfl⟩
  rw [hkp]
  have HKP := Lib.hid hkp
  clear hkp
  go_wp2_with fail
  refine (rlook A _ cap L VA VB ca cb cells f W _ rfl (Lib.hid (HL.out.below HX.out.1)) hsg.out (Lib.hid (HC.out.below HX.out.1)) (Lib.hid (HW.out.below HX.out.1)) hc5 hf hw HOk).mono ?_
  rintro e w4 ⟨V1, k1, V2, k2, V3, k3, rfl, h1, h2, h3, hb4⟩
  have hal : (allPs (pnL L) cells f).length = M := by rw [allPs_len, HM.out]
  rw [hal, HM.out]
  have HL4 := Lib.hid (And.intro h1 (And.intro h2 h3))
  have HB4 := Lib.hid (HX.out.1.trans (hb4.mono HX.out.1.size))
  clear h1 h2 h3 hb4 c0 c1 c2 clt x0 x1 hxl hal
  simp only []
  go_wp2_with fail
  refine (rwalk (pnL L) cells f W V1 V2 V3 k1 k2 k3 M cells.length (p1, p2) (kp : Int) _ rfl (by omega) HM.out hMl HOk HP.out (by rw [HKP.out]) (Lib.hid HL4.out.1) (Lib.hid HL4.out.2.1) (Lib.hid HL4.out.2.2)).mono ?_
  rintro e w5 ⟨V, c, rfl, hf5⟩
  have HF5 := Lib.hid (hf5.from HB4.out)
  clear hf5
  simp only []
  go_wp2_with fail
  go_ret2
  exact ⟨V, c, rfl, HF5.out⟩
end
end Go.Proofs.YtkonfogebepccaaGreatDoor
/-
  The statement WalkTells: what the program and the document answer, of any net and port; how much it goes through.
-/
namespace Go.Proofs.YtkonfogebepccaaGreatDoor
open Go.RowKit
attribute [local go_sem] cell_set
set_option maxRecDepth 100000
set_option linter.unusedVariables false
def AnsR (w : World) (k : Int) (Q : List Pa) : Ending → World → Prop := fun e w' => ∃ V c qs, e = .returned (.tuple #[.slice V Q.length c, .int .i64 k]) ∧ PdS w w' (.slice V Q.length c) qs ∧ qs.map paQ = Q
theorem AnsR.none {w w' : World} {k : Int} {e : Ending} (h : e = .returned (.tuple #[.slice none 0 0, .int .i64 k]) ∧ Below w.heap.size w w') : AnsR w k [] e w' := ⟨Option.none, 0, [], h.1, (PdS.start w).below h.2, rfl⟩
theorem AnsR.of {w w' : World} {k : Int} {Q : List Pa} {e : Ending} {v : Value} {qs : List PV} (he : e = .returned (.tuple #[v, .int .i64 k])) (h : PdS w w' v qs) (hQ : qs.map paQ = Q) : AnsR w k Q e w' := by
  have hl : qs.length = Q.length := by rw [← hQ, List.length_map]
  obtain ⟨V, c, rfl, _⟩ := h.lr.len
  rw [hl] at he h
  exact ⟨V, c, qs, he, h, hQ⟩
section
variable (L : List (ByteArray × Int)) (cells : List Int) (free : Int) (W : List (Pt × Pt)) (hl : L.length ≤ maxLen) (hc : cells.length ≤ 10000) (hw : W.length ≤ 40000)
include hl hc hw
theorem wt_from (p : Pt) : ∃ (k : Int) (l : List Int), l.length ≤ 100000 ∧
    (∀ A cap VA VB ca cb w, L.length ≤ cap → Rd w A VA VB L cells W → Calls Tryz.prog 8 #[.slice A L.length cap, netV VA ca cells free VB cb W, .agg #[.int .i64 p.1, .int .i64 p.2]] w (AnsF w k l)) ∧
    (∀ A cap VA VB ca cb w, L.length ≤ cap → Rd w A VA VB L cells W → Calls Tryz.prog 9 #[.slice A L.length cap, netV VA ca cells free VB cb W, .agg #[.int .i64 p.1, .int .i64 p.2]] w (AnsF w k l)) := by
  by_cases hk : (netChk (pnL L) L.length (chk L) cells free W).1 = 0
  · obtain ⟨hz, hc4, hf0, hf64, hag, hok⟩ := netChk_ok hk
    obtain ⟨f, rfl⟩ := Int.eq_ofNat_of_zero_le hf0
    cases hp : isPt (pnL L) cells f p with
    | true =>
      refine ⟨0, wlk (pnL L) cells (lkM W) p, ?_, fun A cap VA VB ca cb w hcap h => ?_, fun A cap VA VB ca cb w hcap h => ?_⟩
      · have := (wlk_fd hok hp).len
        omega
      · exact wfrom_ok A _ cap L VA VB ca cb cells W p.1 p.2 w f rfl hcap (Lib.hid h.a) hl (Lib.hid h.c) (Lib.hid h.w) hc hw hk hp
      · exact rfrom_ok A _ cap L VA VB ca cb cells W p.1 p.2 w f rfl hcap (Lib.hid h.a) hl (Lib.hid h.c) (Lib.hid h.w) hc hw hk hp
    | false =>
      refine ⟨30, [], by simp, fun A cap VA VB ca cb w hcap h => ?_, fun A cap VA VB ca cb w hcap h => ?_⟩
      · exact (wfrom_port A _ cap L VA VB ca cb cells W p.1 p.2 w f rfl hcap (Lib.hid h.a) hl (Lib.hid h.c) (Lib.hid h.w) hc hw hk hp).mono fun e w' h => AnsF.none h
      · exact (rfrom_port A _ cap L VA VB ca cb cells W p.1 p.2 w f rfl hcap (Lib.hid h.a) hl (Lib.hid h.c) (Lib.hid h.w) hc hw hk hp).mono fun e w' h => AnsF.none h
  · refine ⟨(netChk (pnL L) L.length (chk L) cells free W).1, [], by simp, fun A cap VA VB ca cb w hcap h => ?_, fun A cap VA VB ca cb w hcap h => ?_⟩
    · exact (wfrom_bad A _ cap L VA VB ca cb cells free W p.1 p.2 w rfl hcap (Lib.hid h.a) hl (Lib.hid h.c) (Lib.hid h.w) hc hw _ rfl hk).mono fun e w' h => AnsF.none h
    · exact (rfrom_bad A _ cap L VA VB ca cb cells free W p.1 p.2 w rfl hcap (Lib.hid h.a) hl (Lib.hid h.c) (Lib.hid h.w) hc hw _ rfl hk).mono fun e w' h => AnsF.none h
theorem wt_parts : ∃ (k : Int) (Q : List Pa), LenP Q ∧
    (∀ A cap VA VB ca cb w, L.length ≤ cap → Rd w A VA VB L cells W → Calls Tryz.prog 10 #[.slice A L.length cap, netV VA ca cells free VB cb W] w (AnsP w k Q)) ∧
    (∀ A cap VA VB ca cb w, L.length ≤ cap → Rd w A VA VB L cells W → Calls Tryz.prog 11 #[.slice A L.length cap, netV VA ca cells free VB cb W] w (AnsR w k Q)) := by
  by_cases hk : (netChk (pnL L) L.length (chk L) cells free W).1 = 0
  · obtain ⟨hz, hc4, hf0, hf64, hag, hok⟩ := netChk_ok hk
    obtain ⟨f, rfl⟩ := Int.eq_ofNat_of_zero_le hf0
    rw [Int.toNat_natCast] at hok
    have hsg := chk_sig hz
    refine ⟨0, partsK (pnL L) cells f (lkM W) [] (allPs (pnL L) cells f), parts_len hsg hok (by omega) (by omega), fun A cap VA VB ca cb w hcap h => ?_, fun A cap VA VB ca cb w hcap h => ?_⟩
    · refine (parts_ok A _ cap L VA VB ca cb cells W w f rfl hcap (Lib.hid h.a) hl (Lib.hid h.c) (Lib.hid h.w) hc hw hk).mono ?_
      rintro e w' ⟨w1, P, bl, bw, bo, bf, go, gf, ofs, frs, v, qs, he, h1, h2, h3⟩
      exact AnsP.of he (h2.pa h1) (by rw [partsK_all hok (pnL_pos hsg hag)]; exact h3)
    · refine (rparts_ok A _ cap L VA VB ca cb cells W w f rfl hcap (Lib.hid h.a) hl (Lib.hid h.c) (Lib.hid h.w) hc hw hk).mono ?_
      rintro e w' ⟨v, qs, he, h1, h2, h3⟩
      exact AnsR.of he h1 h3
  · refine ⟨(netChk (pnL L) L.length (chk L) cells free W).1, [], LenP.nil, fun A cap VA VB ca cb w hcap h => ?_, fun A cap VA VB ca cb w hcap h => ?_⟩
    · exact (parts_bad A _ cap L VA VB ca cb cells free W w rfl hcap (Lib.hid h.a) hl (Lib.hid h.c) (Lib.hid h.w) hc hw _ rfl hk).mono fun e w' h => AnsP.none h
    · exact (rparts_bad A _ cap L VA VB ca cb cells W w free rfl hcap (Lib.hid h.a) hl (Lib.hid h.c) (Lib.hid h.w) hc hw _ rfl hk).mono fun e w' h => AnsR.none h
end
theorem size_net_is (VA VB : Option Addr) (n1 n2 ca cb : Nat) (free : Int) (w : World) (h1 : n1 ≤ 1000000000000000000) (h2 : n2 ≤ 1000000000000000000) : Calls Tryz.prog 21 #[.agg #[.slice VA n1 ca, .int .i64 free, .slice VB n2 cb]] w fun e w' => e = .returned (.int .i64 ((n1 : Int) + n2)) ∧ Below w.heap.size w w' := by
  have hs : IntKind.i64.wrap ((n1 : Int) + n2) = (n1 : Int) + n2 := IntWalk.i64_in _ (by omega)
  go_enter Tryz.func21, Tryz.ntmps21
  go_wp2
  go_ret
  exact ⟨rfl, by (repeat (first | exact Below.refl _ _ | (with_reducible refine Below.drew ?_) | (with_reducible refine Below.alloc ?_ (by (try simp); (try omega)) _) | (with_reducible refine Below.setCell ?_ (by (try simp); (try omega)) _) | (with_reducible refine Below.trans ?_ (Below.mono (by assumption) (by (try simp); (try omega))))))⟩
set_option maxHeartbeats 1000000 in
theorem heavy_11 (A : Option Addr) (n cap : Nat) (L : List (ByteArray × Int)) (VA VB : Option Addr) (n1 n2 ca cb : Nat) (free : Int) (w : World) (hn : n = L.length) (hl : L.length ≤ maxLen) (HL : Hid (AgRd w A L)) (h1 : n1 ≤ 1000000000000000000) (h2 : n2 ≤ 1000000000000000000) :
    Calls Tryz.prog 4 #[.slice A n cap, .agg #[.slice VA n1 ca, .int .i64 free, .slice VB n2 cb]] w fun e w' => ∃ r : Bool, e = .returned (.bool r) ∧ (r = false → n1 + n2 ≤ 2048) ∧ Below w.heap.size w w' := by
  subst hn
  have hbA : ∀ o : Obj, Below w.heap.size w (w.alloc o) := fun o => (Below.refl _ _).alloc (Nat.le_refl _) o
  have HSz : Hid (∀ Z, Below w.heap.size w Z → Calls Tryz.prog 20 #[.slice A L.length cap] Z (SomeI Z)) := fun Z hz => size_agents A _ cap L Z rfl hl (Lib.hid (HL.out.below hz))
  have HSn : Hid (∀ Z, Calls Tryz.prog 21 #[.agg #[.slice VA n1 ca, .int .i64 free, .slice VB n2 cb]] Z fun e w' => e = .returned (.int .i64 ((n1 : Int) + n2)) ∧ Below Z.heap.size Z w') := fun Z => size_net_is VA VB n1 n2 ca cb free Z h1 h2
  clear hl h1 h2
  obtain ⟨s, hs⟩ : ∃ s : Int, (n1 : Int) + n2 = s := ⟨_, rfl⟩
  rw [hs] at HSn
  have HS := Lib.hid hs
  clear hs
  go_enter Tryz.func4, Tryz.ntmps4
  go_wp2_with fail
  refine (HSz.out _ (hbA _)).mono ?_
  rintro e w1 ⟨m, rfl, rfl⟩
  by_cases c2 : m > 65536
  · go_wp2
    go_ret
    exact ⟨true, rfl, fun h => (by cases h), hbA _⟩
  · by_cases c3 : s > 2048
    · go_wp2_with (go_at_call 21; refine (HSn.out _).mono ?_; rintro e w2 ⟨rfl, hb2⟩)
      go_ret
      exact ⟨true, rfl, fun h => (by cases h), (hbA _).trans (hb2.mono (by simp))⟩
    · go_wp2_with (go_at_call 21; refine (HSn.out _).mono ?_; rintro e w2 ⟨rfl, hb2⟩)
      go_ret
      exact ⟨_, rfl, fun _ => (by have := HS.out; omega), (hbA _).trans (hb2.mono (by simp))⟩
end Go.Proofs.YtkonfogebepccaaGreatDoor
namespace Go.Proofs.YtkonfogebepccaaGreatDoor
open Go.RowKit
attribute [local go_sem] cell_set
set_option maxRecDepth 100000
set_option linter.unusedVariables false
theorem eq_same (V V' : Option Addr) (c c' : Nat) (l : List Int) (w : World) (hl : l.length ≤ 100000) (h : IntsRd w V l) (h' : IntsRd w V' l) : Calls Tryz.prog 12 #[.slice V l.length c, .slice V' l.length c'] w fun e w' => e = .returned (.bool true) ∧ Below w.heap.size w w' := by
  refine (eq_ints V V' _ _ c c' l l w rfl rfl hl hl (Lib.hid h) (Lib.hid h')).mono ?_
  rintro e w1 ⟨rfl, hb⟩
  exact ⟨by simp, hb⟩
set_option maxHeartbeats 4000000 in
theorem parts_same (V V' : Option Addr) (n c c' : Nat) (Q : List Pa) (qs rs : List PV) (w0 w1 w : World) (hn : Q.length = n) (hQ : LenP Q) (h : Hid (PaS w0 w (.slice V n c) qs)) (h' : Hid (PdS w1 w (.slice V' n c') rs)) (e1 : Hid (qs.map paW = Q)) (e2 : Hid (rs.map paQ = Q)) :
    Calls Tryz.prog 13 #[.slice V n c, .slice V' n c'] w fun e w' => e = .returned (.bool true) ∧ Below w.heap.size w w' := by
  have hl1 : qs.length = n := by rw [← hn, ← e1.out, List.length_map]
  have hl2 : rs.length = n := by rw [← hn, ← e2.out, List.length_map]
  have hnl : n ≤ 100000 := by rw [← hn]; exact hQ.1
  have HN := Lib.hid (And.intro hn (And.intro hl1 hl2))
  have HQ := Lib.hid hQ
  clear hn hl1 hl2 hQ
  go_enter Tryz.func13, Tryz.ntmps13
  go_wp2
  go_loopw [5] (fun i wr => ∃ j : Nat, i = .int .i64 j ∧ j ≤ n ∧ Hid (Below w.heap.size w wr)) (fun i _ => n - (intOf i).toNat)
  case atStart => exact ⟨0, rfl, by omega, Lib.hid (Below.refl _ _)⟩
  case round =>
    obtain ⟨j, rfl, hj, HB⟩ := hrel
    by_cases hlt : j < n
    · have hjn : (j : Int) < (n : Int) := by omega
      have hj1 : j < qs.length := by rw [HN.out.2.1]; exact hlt
      have hj2 : j < rs.length := by rw [HN.out.2.2]; exact hlt
      have hj3 : j < Q.length := by rw [HN.out.1]; exact hlt
      have hw := h.out.below HB.out
      have hw' := h'.out.below HB.out
      obtain ⟨g, rfl⟩ : ∃ g, V = some ⟨g, 0, none⟩ := by
        rcases hw.lr.2 with ⟨e, h0⟩ | ⟨gv, cap', cur, e, _⟩
        · omega
        · injection e with e1; exact ⟨gv, e1⟩
      obtain ⟨g', rfl⟩ : ∃ g, V' = some ⟨g, 0, none⟩ := by
        rcases hw'.lr.2 with ⟨e, h0⟩ | ⟨gv, cap', cur, e, _⟩
        · omega
        · injection e with e1; exact ⟨gv, e1⟩
      have lr := hw.lr
      have lr' := hw'.lr
      rw [HN.out.2.1] at lr
      rw [HN.out.2.2] at lr'
      have x0 : wr.cell? ⟨g, j * 2, none⟩ = some qs[j].a := by rw [lr.cellAt (j * 2) (by omega), (pvCells_at hj1).1]
      have x1 : wr.cell? ⟨g, j * 2 + 1, none⟩ = some qs[j].b := by rw [lr.cellAt (j * 2 + 1) (by omega), (pvCells_at hj1).2]
      have y0 : wr.cell? ⟨g', j * 2, none⟩ = some rs[j].a := by rw [lr'.cellAt (j * 2) (by omega), (pvCells_at hj2).1]
      have y1 : wr.cell? ⟨g', j * 2 + 1, none⟩ = some rs[j].b := by rw [lr'.cellAt (j * 2 + 1) (by omega), (pvCells_at hj2).2]
      have m1 : paW qs[j] = Q[j] := by
        have := e1.out
        simp only [← this, List.getElem_map]
      have m2 : paQ rs[j] = Q[j] := by
        have := e2.out
        simp only [← this, List.getElem_map]
      obtain ⟨ra, rb⟩ := hw.q1 _ (List.getElem_mem hj1)
      obtain ⟨sa, sb⟩ := hw'.q1 _ (List.getElem_mem hj2)
      obtain ⟨lx, ly⟩ := HQ.out.2 _ (List.getElem_mem hj3)
      generalize hq : qs[j] = q at *
      generalize hr : rs[j] = r at *
      obtain ⟨qa, qb, xs, ys⟩ := q
      obtain ⟨ra', rb', xs', ys'⟩ := r
      rw [← m1] at m2 lx ly
      have ex : xs' = xs := congrArg Prod.fst m2
      have ey : ys' = ys := congrArg Prod.snd m2
      subst ex ey
      dsimp only [paW] at lx ly
      dsimp only at x0 x1 y0 y1 ra rb sa sb
      obtain ⟨Va, ca, rfl, _⟩ := ra.len
      obtain ⟨Vb, cb, rfl, _⟩ := rb.len
      obtain ⟨Vc, cc, rfl, _⟩ := sa.len
      obtain ⟨Vd, cd, rfl, _⟩ := sb.len
      have C1 : Hid (∀ Z, Below wr.heap.size wr Z → Calls Tryz.prog 12 #[.slice Va xs'.length ca, .slice Vc xs'.length cc] Z fun e w' => e = .returned (.bool true) ∧ Below Z.heap.size Z w') := fun Z hz => eq_same Va Vc ca cc xs' Z lx (ra.ints.below hz) (sa.ints.below hz)
      have C2 : Hid (∀ Z, Below wr.heap.size wr Z → Calls Tryz.prog 12 #[.slice Vb ys'.length cb, .slice Vd ys'.length cd] Z fun e w' => e = .returned (.bool true) ∧ Below Z.heap.size Z w') := fun Z hz => eq_same Vb Vd cb cd ys' Z ly (rb.ints.below hz) (sb.ints.below hz)
      have hgl := lr.lt g (by simp [ownB])
      have hgl' := lr'.lt g' (by simp [ownB])
      have HKP : Hid (∀ Z, Below wr.heap.size wr Z → Z.cell? ⟨g, j * 2, none⟩ = some (.slice Va xs'.length ca) ∧ Z.cell? ⟨g, j * 2 + 1, none⟩ = some (.slice Vb ys'.length cb) ∧ Z.cell? ⟨g', j * 2, none⟩ = some (.slice Vc xs'.length cc) ∧ Z.cell? ⟨g', j * 2 + 1, none⟩ = some (.slice Vd ys'.length cd)) := fun Z hz =>
        ⟨(hz.cell (p := ⟨g, j * 2, none⟩) hgl).trans x0, (hz.cell (p := ⟨g, j * 2 + 1, none⟩) hgl).trans x1, (hz.cell (p := ⟨g', j * 2, none⟩) hgl').trans y0, (hz.cell (p := ⟨g', j * 2 + 1, none⟩) hgl').trans y1⟩
      have HBz : Hid (Below wr.heap.size wr wr.drew) := (Below.refl _ _).drew
      generalize xs'.length = l1 at *
      generalize ys'.length = l2 at *
      clear x0 x1 y0 y1 m1 m2 ra rb sa sb lx ly hq hr lr lr' hw hw' hj1 hj2 hj3 hgl hgl'
      go_wp2_with fail
      go_region_held3 (fun Z => Z.cell? ⟨g, j * 2, none⟩ = some (.slice Va l1 ca) ∧ Z.cell? ⟨g, j * 2 + 1, none⟩ = some (.slice Vb l2 cb) ∧ Z.cell? ⟨g', j * 2, none⟩ = some (.slice Vc l1 cc) ∧ Z.cell? ⟨g', j * 2 + 1, none⟩ = some (.slice Vd l2 cd)) (exact HKP.out _ HBz.out)
        (first
          | (go_at_call 12; with_reducible refine (C1.out _ HBz.out).mono ?_; rintro e w1 ⟨rfl, hb1⟩; have HBz := Lib.hid (HBz.out.trans (hb1.mono HBz.out.size)); dsimp only)
          | (go_at_call 12; with_reducible refine (C2.out _ HBz.out).mono ?_; rintro e w2 ⟨rfl, hb2⟩; have HBz := Lib.hid (HBz.out.trans (hb2.mono HBz.out.size)); dsimp only))
      all_goals
        go_wp2
        go_roundw
        case rel => exact ⟨j + 1, by go_num, by omega, Lib.hid (HB.out.trans (HBz.out.mono HB.out.size))⟩
        case measure => simp [intOf]; omega
    · obtain rfl : j = n := by omega
      clear hlt
      go_wp2
      go_ret
      exact ⟨rfl, HB.out⟩
end Go.Proofs.YtkonfogebepccaaGreatDoor
