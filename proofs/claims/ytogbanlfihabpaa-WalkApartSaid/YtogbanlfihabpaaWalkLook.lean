/-
  Contract of walk.look.
-/
import Derived.Test.YtogbanlfihabpaaWalkSeq
import Derived.Test.YtogbanlfihabpaaNetBuild
import Derived.Test.YtogbanlfihabpaaRegionHS
import Derived.Deep.Cut
namespace Go.Proofs.Ytogbanlfihabpaa
open Go.RowKit
attribute [local go_sem] cell_set
set_option maxRecDepth 100000
set_option linter.unusedVariables false

theorem updP_updP {f : Pt → Option Value} {x : Pt} {v u : Value} : upd (upd f x v) x u = upd f x u := by
  funext k; unfold upd; split <;> simp_all
theorem updP_out {f : Pt → Option Value} {x y : Pt} {v : Value} (h : x ≠ y) (hf : f y = none) : upd f x v y = none := by
  unfold upd; rw [if_neg (Ne.symm h)]; exact hf
theorem make_sized (k : Int) (wx : World) : (Instr.makeMap 64 (some (.int .i64 k))).run Try.prog wx = .ok (.map (some wx.heap.size)) (wx.alloc (.map #[] 0)) := by
  simp only [Instr.makeMap, Sem.run_bind, run_underlying Try.underlying64, Result.andThen_ok]
  rfl
section
variable (A : Option Addr) (n cap : Nat) (L : List (ByteArray × Int)) (VA VB : Option Addr) (ca cb : Nat) (cells : List Int) (free : Int) (W : List (Pt × Pt)) (w : World)
/-- What the loop keeps. -/
structure WLkS (X0 X : World) (P m : Nat) (f k : Nat) : Prop where
  bel : Below X0.heap.size X0 X
  blk : X.heap[P]? = some (.cells #[.slice VA cells.length ca, .int .i64 (f : Int), .slice VB W.length cb, .slice A L.length cap, .map (some m)] 66 (0, 0))
  mp : MP encPt X m (linkF W k)
  lo : X0.heap.size ≤ P ∧ X0.heap.size ≤ m
set_option maxHeartbeats 2000000 in
theorem wlook_ok (f : Nat) (hn : n = L.length) (hcap : L.length ≤ cap) (HL : Hid (AgRd w A L)) (hl : L.length ≤ maxLen) (HC : Hid (IntsRd w VA cells)) (HW : Hid (WrRd w VB W)) (hc : cells.length ≤ 10000) (hw : W.length ≤ 40000)
    (hk : (netChk (pnL L) L.length (chk L) cells (f : Int) W).1 = 0) :
    Calls Try.prog 21 #[.slice A n cap, netV VA ca cells (f : Int) VB cb W] w fun e w' => ∃ P m, e = .returned (.tuple #[.pointer (some ⟨P, 0, none⟩), .int .i64 0]) ∧ WebS w' P m A cap L VA VB ca cb cells f W ∧ w.heap.size ≤ P ∧ w.heap.size ≤ m ∧ Below w.heap.size w w' := by
  obtain ⟨hz, hc4, hf0, hf64, hag, hok⟩ := netChk_ok hk
  rw [Int.toNat_natCast] at hok
  have hnd := hok.nodup
  have HLF := Lib.hid (fun k (h : k ≤ W.length) => linkF_lnk (W := W) hnd h)
  have HND := Lib.hid hnd
  have HK := Lib.hid hk
  clear hk hz hag hok hnd hf0 hf64 hc4
  subst hn
  go_enter Try.func21, Try.ntmps21
  go_upto_region 1 with fail
  refine absW (fun X => Below w.heap.size w X ∧ NBox X w.heap.size VA cells.length ca (f : Int) VB W.length cb) ⟨by (repeat (first | exact Below.refl _ _ | (with_reducible refine Below.drew ?_) | (with_reducible refine Below.alloc ?_ (by (try simp); (try omega)) _) | (with_reducible refine Below.setCell ?_ (by (try simp); (try omega)) _) | (with_reducible refine Below.trans ?_ (Below.mono (by assumption) (by (try simp); (try omega)))))), ⟨by simp <;> omega, by go_simp, by go_simp, by go_simp⟩⟩ ?_
  rintro X ⟨hbx, hnb⟩
  have HX := Lib.hid (And.intro hbx hnb)
  have c0 := HX.out.2.c0
  have c1 := HX.out.2.c1
  have c2 := HX.out.2.c2
  have clt := HX.out.2.lt
  clear hbx hnb
  go_wp2_with fail
  refine (net_check A _ cap L VA VB ca cb cells (f : Int) W _ rfl hcap (Lib.hid (HL.out.below HX.out.1)) hl (Lib.hid (HC.out.below HX.out.1)) (Lib.hid (HW.out.below HX.out.1)) hc hw).mono ?_
  rintro e w1 ⟨rfl, hb1⟩
  rw [HK.out]
  have HX1 := Lib.hid (And.intro (HX.out.1.trans (hb1.mono HX.out.1.size)) (HX.out.2.below hb1))
  clear hb1 c0 c1 c2 clt
  have c0 := HX1.out.2.c0
  have c1 := HX1.out.2.c1
  have c2 := HX1.out.2.c2
  have clt := HX1.out.2.lt
  simp only []
  go_upto_region 4 with fail
  have hmm := make_sized
  have hml : IntKind.i64.wrap (2 * (W.length : Int)) = ((2 * W.length : Nat) : Int) := by rw [IntWalk.i64_in _ (by omega)]; omega
  refine region_hs 6 9 (fun Y => Y.cell? ⟨w.heap.size, 0, none⟩ = some (.slice VA cells.length ca) ∧ Y.cell? ⟨w.heap.size, 1, none⟩ = some (.int .i64 (f : Int)) ∧ Y.cell? ⟨w.heap.size, 2, none⟩ = some (.slice VB W.length cb)) (by kernel_rfl) (by kernel_rfl) (fun _ _ d _ _ h => by cases d <;> exact h) ⟨c0, c1, c2⟩ ?_
  simp only [List.take_succ_cons, List.take_zero, List.drop_succ_cons, List.drop_zero]
  iterate 6 (refine wpHead_step (v := ?_) (by rfl) ?_ ?_; rotate_left; (· intro W9 hSw; (try dsimp only at hSw); go_simp; try with_reducible rfl); (try simp only [Act.put, List.setIfInBounds_toArray, List.set_cons_zero, List.set_cons_succ]))
  refine wpHead_nil ?_
  refine wpMid_step (by rfl) (fun K9 hK9 => ?_)
  unfold Oper.wp
  go_simp
  refine hK9 _ _ (⟨by go_simp, by go_simp, by go_simp⟩) ?_
  (try simp only [Act.put, List.setIfInBounds_toArray, List.set_cons_zero, List.set_cons_succ])
  refine wpMid_step (by rfl) (fun K9 hK9 => ?_)
  unfold Oper.wp
  go_simp
  refine hK9 _ _ (⟨by go_simp, by go_simp, by go_simp⟩) ?_
  (try simp only [Act.put, List.setIfInBounds_toArray, List.set_cons_zero, List.set_cons_succ])
  refine wpMid_step (by rfl) (fun K9 hK9 => ?_)
  unfold Oper.wp
  go_simp
  refine hK9 _ _ (⟨by go_simp, by go_simp, by go_simp⟩) ?_
  (try simp only [Act.put, List.setIfInBounds_toArray, List.set_cons_zero, List.set_cons_succ])
  refine wpMid_nil ?_
  go_upto_region 5 with fail
  refine absW (fun Y => WLkS A cap L VA VB ca cb cells W w1 Y (w1.heap.size + 1) w1.heap.size f 0) ?_ ?_
  · have e1 := heap_alloc_new (w1.alloc (.map #[] 0)) (.cells #[.slice VA cells.length ca, .int .i64 (f : Int), .slice VB W.length cb, .slice A L.length cap, .map (some w1.heap.size)] 66)
    rw [World.size_alloc] at e1
    refine ⟨(((Below.refl _ w1).alloc (Nat.le_refl _) _).alloc (by simp) _).drew, e1, ?_, ⟨Nat.le_succ _, Nat.le_refl _⟩⟩
    have h := MP.made (enc := encPt) w1
    exact (h.keep (w' := (w1.alloc (.map #[] 0)).alloc (.cells #[.slice VA cells.length ca, .int .i64 (f : Int), .slice VB W.length cb, .slice A L.length cap, .map (some w1.heap.size)] 66)) (Below.heap_alloc _ _ _ (by simp))).drew
  intro Y hY
  obtain ⟨P, hP⟩ : ∃ P, P = w1.heap.size + 1 := ⟨_, rfl⟩
  obtain ⟨m, hm⟩ : ∃ m, m = w1.heap.size := ⟨_, rfl⟩
  rw [← hP, ← hm] at hY
  have e0 := hP
  rw [← hP]
  have HY := Lib.hid hY
  have c2' := (hY.bel.cell (p := ⟨w.heap.size, 2, none⟩) clt).trans c2
  have clt' : w.heap.size < Y.heap.size := Nat.lt_of_lt_of_le clt hY.bel.size
  have HWy := Lib.hid (HW.out.below (HX1.out.1.trans (hY.bel.mono HX1.out.1.size)))
  clear hmm hml c0 c1 c2 clt hY hP hm e0
  go_wp2_with fail
  go_loopw [32] (fun i wr => ∃ k : Nat, i = .int .i64 (k : Int) ∧ k ≤ W.length ∧ Hid (WLkS A cap L VA VB ca cb cells W w1 wr P m f k)) (fun i _ => W.length - (intOf i).toNat)
  case atStart => exact ⟨0, rfl, Nat.zero_le _, HY⟩
  case round =>
    obtain ⟨k, rfl, hk, HR⟩ := hrel
    by_cases hlt : k < W.length
    · have HWr := Lib.hid (HW.out.below (HX1.out.1.trans (HR.out.bel.mono HX1.out.1.size)))
      obtain ⟨b, off, rfl, hb, e0, e1, e2, e3⟩ := HWr.out k hlt
      have hnx : linkF W (k + 1) = upd (upd (linkF W k) (W.getD k default).1 (encPt (W.getD k default).2)) (W.getD k default).2 (encPt (W.getD k default).1) := rfl
      have hne := ends_ne HND.out hlt
      have hna : linkF W k (W.getD k default).1 = none := by
        rw [HLF.out k (by omega)]; show Option.map encPt (lnk (W.take k) (W.getD k default).1) = none; rw [lnk_none (fun hp => (ends_new HND.out hlt hp).1 rfl)]; rfl
      have hnb : linkF W k (W.getD k default).2 = none := by
        rw [HLF.out k (by omega)]; show Option.map encPt (lnk (W.take k) (W.getD k default).2) = none; rw [lnk_none (fun hp => (ends_new HND.out hlt hp).2 rfl)]; rfl
      generalize W.getD k default = x at e0 e1 e2 e3 hnx hne hna hnb
      obtain ⟨⟨x0, x1⟩, x2, x3⟩ := x
      have HNX := Lib.hid (And.intro hnx (And.intro hne (And.intro hna hnb)))
      have hkk : (k : Int) < (W.length : Int) := by omega
      clear hnx hne hna hnb
      go_upto_region 8 with fail
      refine absW (fun Z => Kp [] wr Z ∧ Z.heap[wr.heap.size]? = some (.cells #[.int .i64 x0, .int .i64 x1, .int .i64 x2, .int .i64 x3] 43 (0, 0))) ⟨(Kp.refl _ _).alloc _, heap_alloc_new wr _⟩ ?_
      rintro Z ⟨hkz, hzb⟩
      have hbk := HR.out.blk
      have hPl := heap_lt hbk
      have hml := HR.out.mp.lt
      have hzl := heap_lt hzb
      have hPm : P ≠ m := fun e => by
        obtain ⟨E, c, h, _⟩ := HR.out.mp
        rw [← e, hbk] at h; cases h
      have hZP : Z.heap[P]? = some (.cells #[.slice VA cells.length ca, .int .i64 (f : Int), .slice (some ⟨b, off, none⟩) W.length cb, .slice A L.length cap, .map (some m)] 66 (0, 0)) := (hkz.block P hPl (by simp)).trans hbk
      have HM : Hid (MP encPt Z m (linkF W k)) := HR.out.mp.keep (hkz.block m hml (by simp))
      have hwm : wr.heap.size ≠ m := by omega
      have HS : Hid (∀ Y, Kp [m] Z Y → Y.cell? ⟨P, 4, none⟩ = some (.map (some m)) ∧ Y.cell? ⟨wr.heap.size, 0, none⟩ = some (.int .i64 x0) ∧ Y.cell? ⟨wr.heap.size, 1, none⟩ = some (.int .i64 x1) ∧ Y.cell? ⟨wr.heap.size, 2, none⟩ = some (.int .i64 x2) ∧ Y.cell? ⟨wr.heap.size, 3, none⟩ = some (.int .i64 x3)) := fun Y hY => by
        have h1 := (hY.block P (heap_lt hZP) (by simpa using hPm)).trans hZP
        have h2 := (hY.block wr.heap.size hzl (by simpa using hwm)).trans hzb
        exact ⟨by simp [World.cell?, h1], by simp [World.cell?, h2], by simp [World.cell?, h2], by simp [World.cell?, h2], by simp [World.cell?, h2]⟩
      obtain ⟨s4, s0, s1, s2, s3⟩ := HS.out Z (Kp.refl _ _)
      have hPZ : P < Z.heap.size := heap_lt hZP
      have SZ := Lib.hid (HS.out Z.drew ((Kp.refl _ _).drew))
      have HK0 : Hid (Kp [m] Z Z.drew) := (Kp.refl _ _).drew
      have HKZ := Lib.hid hkz
      clear e0 e1 e2 e3 hbk hPl hml hZP hkz hzb hPm hwm
      go_region_held3 (fun Y => Y.cell? ⟨P, 4, none⟩ = some (.map (some m)) ∧ Y.cell? ⟨wr.heap.size, 0, none⟩ = some (.int .i64 x0) ∧ Y.cell? ⟨wr.heap.size, 1, none⟩ = some (.int .i64 x1) ∧ Y.cell? ⟨wr.heap.size, 2, none⟩ = some (.int .i64 x2) ∧ Y.cell? ⟨wr.heap.size, 3, none⟩ = some (.int .i64 x3)) (exact SZ.out)
        (first
          | (refine up_map_entry (k := (x0, x1)) (HM.out.drew) kport Try.underlying64 zport HNX.out.2.2.1 ?_; intro s8 w8 m8 k8 z8; have HK1 := Lib.hid (HK0.out.trans k8 (by simp)); have SZ := Lib.hid (HS.out w8 HK1.out))
          | (refine up_map_store (v := encPt (x2, x3)) m8 ?_; intro w9 m9 k9 z9; have HK2 := Lib.hid (HK1.out.trans k9 (by simp)); have SZ := Lib.hid (HS.out w9 HK2.out))
          | (refine up_map_entry (k := (x2, x3)) m9 kport Try.underlying64 zport (updP_out HNX.out.2.1 (updP_out HNX.out.2.1 HNX.out.2.2.2)) ?_; intro s6 w6 m6 k6 z6; have HK3 := Lib.hid (HK2.out.trans k6 (by simp)); have SZ := Lib.hid (HS.out w6 HK3.out))
          | (refine up_map_store (v := encPt (x0, x1)) m6 ?_; intro w7 m7 k7 z7; have HK4 := Lib.hid (HK3.out.trans k7 (by simp)); have SZ := Lib.hid (HS.out w7 HK4.out)))
      have KW : Kp [m] wr w7 := (HKZ.out.mono (by simp)).trans HK4.out (by simp)
      have HR9 : Hid (WLkS A cap L VA (some ⟨b, off, none⟩) ca cb cells W w1 w7 P m f (k + 1)) := by
        refine ⟨HR.out.bel.trans (KW.below HR.out.bel.size (by simpa using HR.out.lo.2)), ?_, ?_, HR.out.lo⟩
        · have hPm : P ≠ m := fun e => by
            obtain ⟨E, c, h, _⟩ := HR.out.mp
            rw [← e, HR.out.blk] at h; cases h
          exact (KW.block P (heap_lt HR.out.blk) (by simpa using hPm)).trans HR.out.blk
        · have := m7
          rw [updP_updP, updP_updP] at this
          rw [HNX.out.1]; exact this
      clear m8 k8 z8 m9 k9 z9 m6 k6 z6 m7 k7 z7 KW s4 s0 s1 s2 s3 HK0 HK1 HK2 HK3 HK4 SZ hPZ hzl
      go_wp2_with fail
      go_roundw
      case measure => simp [intOf]; omega
      case rel => exact ⟨k + 1, by go_num, by omega, HR9⟩
    · obtain rfl : k = W.length := by omega
      have HFin : Hid (WebS wr P m A cap L VA VB ca cb cells f W) := by
        have hbw := HX1.out.1.trans (HR.out.bel.mono HX1.out.1.size)
        refine ⟨HR.out.blk, ?_, HC.out.below hbw, HL.out.below hbw⟩
        have := HR.out.mp
        rw [HLF.out W.length (Nat.le_refl _), List.take_length] at this
        exact this
      go_wp2_with fail
      go_ret2
      have h1 := HX1.out.1.size
      have h2 := HR.out.lo
      exact ⟨P, m, rfl, HFin.out, by omega, by omega, HX1.out.1.trans (HR.out.bel.mono HX1.out.1.size)⟩
end
end Go.Proofs.Ytogbanlfihabpaa
