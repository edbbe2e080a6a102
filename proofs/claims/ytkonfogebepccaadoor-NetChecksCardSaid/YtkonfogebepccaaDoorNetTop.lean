/-
  Contracts of net.fine, net.Tidy.
-/
import Derived.Test.YtkonfogebepccaaDoorNetBuild
namespace Go.Proofs.YtkonfogebepccaaDoor
open Go.RowKit Go.Shelf
attribute [local go_sem] cell_set
set_option maxRecDepth 100000
set_option linter.unusedVariables false

theorem keep3 {w w' : World} {b : Nat} {x y z : Value} (h : Below w.heap.size w w') (hb : b < w.heap.size) (hc : w.cell? ⟨b, 0, none⟩ = some x ∧ w.cell? ⟨b, 1, none⟩ = some y ∧ w.cell? ⟨b, 2, none⟩ = some z) :
    w'.cell? ⟨b, 0, none⟩ = some x ∧ w'.cell? ⟨b, 1, none⟩ = some y ∧ w'.cell? ⟨b, 2, none⟩ = some z :=
  ⟨(h.cell (p := ⟨b, 0, none⟩) hb).trans hc.1, (h.cell (p := ⟨b, 1, none⟩) hb).trans hc.2.1, (h.cell (p := ⟨b, 2, none⟩) hb).trans hc.2.2⟩
theorem keep3s {w : World} {b b' : Nat} {x y z u1 u2 u3 : Value} (hc : w.cell? ⟨b, 0, none⟩ = some x ∧ w.cell? ⟨b, 1, none⟩ = some y ∧ w.cell? ⟨b, 2, none⟩ = some z) (hne : b' ≠ b) :
    (((w.setCell ⟨b', 0, none⟩ u1).setCell ⟨b', 1, none⟩ u2).setCell ⟨b', 2, none⟩ u3).cell? ⟨b, 0, none⟩ = some x ∧ (((w.setCell ⟨b', 0, none⟩ u1).setCell ⟨b', 1, none⟩ u2).setCell ⟨b', 2, none⟩ u3).cell? ⟨b, 1, none⟩ = some y ∧ (((w.setCell ⟨b', 0, none⟩ u1).setCell ⟨b', 1, none⟩ u2).setCell ⟨b', 2, none⟩ u3).cell? ⟨b, 2, none⟩ = some z := by
  have e : (((w.setCell ⟨b', 0, none⟩ u1).setCell ⟨b', 1, none⟩ u2).setCell ⟨b', 2, none⟩ u3).heap[b]? = w.heap[b]? :=
    (Below.heap_setCell _ _ _ b (fun e => hne e.symm)).trans ((Below.heap_setCell _ _ _ b (fun e => hne e.symm)).trans (Below.heap_setCell _ _ _ b (fun e => hne e.symm)))
  exact ⟨(World.cell?_of_block e).trans hc.1, (World.cell?_of_block e).trans hc.2.1, (World.cell?_of_block e).trans hc.2.2⟩
theorem Fresh.mv {w0 w w' w'' : World} {e : TypeId} {size n : Nat} {v : Value} {xs : List Value} (h : Fresh w w' e size n v xs) (h0 : Below w0.heap.size w0 w) (hk : ∀ b, w.heap.size ≤ b → b < w'.heap.size → w''.heap[b]? = w'.heap[b]?) (hb : Below w0.heap.size w0 w'') : Fresh w0 w'' e size n v xs :=
  ⟨h.1.keep fun b hb => hk b (h.2.1 b hb) (h.1.lt b hb), fun b hb => Nat.le_trans h0.size (h.2.1 b hb), hb⟩
theorem NetFresh.mv {w0 w w' w'' : World} {V1 V2 : Option Addr} {c1 c2 : Nat} {cells : List Int} {W : List (Pt × Pt)} (h : NetFresh w w' V1 c1 cells V2 c2 W) (h0 : Below w0.heap.size w0 w) (hk : ∀ b, w.heap.size ≤ b → b < w'.heap.size → w''.heap[b]? = w'.heap[b]?) (hb : Below w0.heap.size w0 w'') : NetFresh w0 w'' V1 c1 cells V2 c2 W :=
  ⟨h.1.mv h0 hk hb, h.2.mv h0 hk hb⟩
theorem NetFresh.set3 {w0 w w' : World} {V1 V2 : Option Addr} {c1 c2 : Nat} {cells : List Int} {W : List (Pt × Pt)} (h : NetFresh w w' V1 c1 cells V2 c2 W) (h0 : Below w0.heap.size w0 w) {b : Nat} (hb : w0.heap.size ≤ b) (hb2 : b < w.heap.size) (u1 u2 u3 : Value) :
    NetFresh w0 (((w'.setCell ⟨b, 0, none⟩ u1).setCell ⟨b, 1, none⟩ u2).setCell ⟨b, 2, none⟩ u3) V1 c1 cells V2 c2 W :=
  h.mv h0 (fun c hc _ => (Below.heap_setCell _ _ _ c (by show c ≠ b; omega)).trans ((Below.heap_setCell _ _ _ c (by show c ≠ b; omega)).trans (Below.heap_setCell _ _ _ c (by show c ≠ b; omega))))
    ((((h0.trans (h.1.2.2.mono h0.size)).setCell (p := ⟨b, 0, none⟩) hb _).setCell (p := ⟨b, 1, none⟩) hb _).setCell (p := ⟨b, 2, none⟩) hb _)
section
variable (A : Option Addr) (n cap : Nat) (L : List (ByteArray × Int)) (VA VB : Option Addr) (ca cb : Nat) (cells : List Int) (free : Int) (W : List (Pt × Pt)) (w : World)
set_option maxHeartbeats 400000 in
theorem net_fine (hn : n = L.length) (hcap : L.length ≤ cap) (HL : Hid (AgRd w A L)) (hl : L.length ≤ maxLen) (HC : Hid (IntsRd w VA cells)) (HW : Hid (WrRd w VB W)) (hc : cells.length ≤ 10000) (hw : W.length ≤ 40000) :
    Calls Tryd.prog 75 #[.slice A n cap, netV VA ca cells free VB cb W] w fun e w' => e = .returned (.int .i64 (netChk (pnL L) L.length (chk L) cells free W).1) ∧ Below w.heap.size w w' := by
  subst hn
  have hbA : ∀ o : Obj, Below w.heap.size w (w.alloc o) := fun o => (Below.refl _ _).alloc (Nat.le_refl _) o
  generalize hK : netChk (pnL L) L.length (chk L) cells free W = K
  have HK := Lib.hid hK
  clear hK
  go_enter Tryd.func75, Tryd.ntmps75
  go_wp2_with (go_at_call 23; refine (net_check A _ cap L VA VB ca cb cells free W _ rfl hcap (Lib.hid (HL.out.below (hbA _))) hl (Lib.hid (HC.out.below (hbA _))) (Lib.hid (HW.out.below (hbA _))) hc hw).mono ?_; rintro e w1 ⟨rfl, hb1⟩; rw [HK.out])
  go_ret
  exact ⟨rfl, (hbA _).trans (hb1.mono (by simp))⟩
set_option maxHeartbeats 400000 in
theorem net_tidy_bad (hn : n = L.length) (hcap : L.length ≤ cap) (HL : Hid (AgRd w A L)) (hl : L.length ≤ maxLen) (HC : Hid (IntsRd w VA cells)) (HW : Hid (WrRd w VB W)) (hc : cells.length ≤ 10000) (hw : W.length ≤ 40000)
    (hk : (netChk (pnL L) L.length (chk L) cells free W).1 ≠ 0) :
    Calls Tryd.prog 27 #[.slice A n cap, netV VA ca cells free VB cb W] w fun e w' => e = .returned (.tuple #[netV none 0 [] 0 none 0 [], .int .i64 (netChk (pnL L) L.length (chk L) cells free W).1]) ∧ Below w.heap.size w w' := by
  subst hn
  have hbA : Below w.heap.size w ((w.alloc (.cells #[.slice VA cells.length ca, .int .i64 free, .slice VB W.length cb] 64)).alloc (.cells #[.slice none 0 0, .int .i64 0, .slice none 0 0] 64)) := by (repeat (first | exact Below.refl _ _ | (with_reducible refine Below.drew ?_) | (with_reducible refine Below.alloc ?_ (by (try simp); (try omega)) _) | (with_reducible refine Below.setCell ?_ (by (try simp); (try omega)) _) | (with_reducible refine Below.trans ?_ (Below.mono (by assumption) (by (try simp); (try omega))))))
  generalize hK : netChk (pnL L) L.length (chk L) cells free W = K at hk
  have hkb : (K.1 != 0) = true := by simpa using hk
  have HK := Lib.hid hK
  clear hK hk
  go_enter Tryd.func27, Tryd.ntmps27
  go_wp2_with (go_at_call 75; refine (net_fine A _ cap L VA VB ca cb cells free W _ rfl hcap (Lib.hid (HL.out.below hbA)) hl (Lib.hid (HC.out.below hbA)) (Lib.hid (HW.out.below hbA)) hc hw).mono ?_; rintro e w1 ⟨rfl, hb1⟩; rw [HK.out]
               have r0 := (hb1.cell (p := ⟨w.heap.size + 1, 0, none⟩) (by simp)).trans (show _ = some (.slice none 0 0) by go_simp)
               have r1 := (hb1.cell (p := ⟨w.heap.size + 1, 1, none⟩) (by simp)).trans (show _ = some (.int .i64 0) by go_simp)
               have r2 := (hb1.cell (p := ⟨w.heap.size + 1, 2, none⟩) (by simp)).trans (show _ = some (.slice none 0 0) by go_simp)
               have g0 := (hb1.frozen (p := ⟨w.heap.size + 1, 0, none⟩) (by simp)).trans (show _ = false by go_simp)
               have g1 := (hb1.frozen (p := ⟨w.heap.size + 1, 1, none⟩) (by simp)).trans (show _ = false by go_simp)
               have g2 := (hb1.frozen (p := ⟨w.heap.size + 1, 2, none⟩) (by simp)).trans (show _ = false by go_simp)
               have HB1 : Hid (Below w.heap.size w w1) := hbA.trans (hb1.mono (by simp <;> omega))
               clear hb1)
  exact bodyPost_ret (v := .tuple #[netV none 0 [] 0 none 0 [], .int .i64 K.1]) (by simp only [results, Tryd.results27]; go_simp) rfl ⟨rfl, by have := HB1.out; (repeat (first | exact Below.refl _ _ | (with_reducible refine Below.drew ?_) | (with_reducible refine Below.alloc ?_ (by (try simp); (try omega)) _) | (with_reducible refine Below.setCell ?_ (by (try simp); (try omega)) _) | (with_reducible refine Below.trans ?_ (Below.mono (by assumption) (by (try simp); (try omega))))))⟩
set_option maxHeartbeats 1000000 in
theorem net_tidy_ok (hn : n = L.length) (hcap : L.length ≤ cap) (HL : Hid (AgRd w A L)) (hl : L.length ≤ maxLen) (HC : Hid (IntsRd w VA cells)) (HW : Hid (WrRd w VB W)) (hc : cells.length ≤ 10000) (hw : W.length ≤ 40000)
    (hk : (netChk (pnL L) L.length (chk L) cells free W).1 = 0) :
    Calls Tryd.prog 27 #[.slice A n cap, netV VA ca cells free VB cb W] w fun e w' => ∃ V1 c1 V2 c2, e = .returned (.tuple #[netV V1 c1 cells free V2 c2 (tidyW (allPs (pnL L) cells free.toNat) W), .int .i64 0]) ∧ NetFresh w w' V1 c1 cells V2 c2 (tidyW (allPs (pnL L) cells free.toNat) W) := by
  subst hn
  obtain ⟨hz, hc4, hf0, hf64, hag, hok⟩ := netChk_ok hk
  obtain ⟨f, rfl⟩ := Int.eq_ofNat_of_zero_le hf0
  have hs := chk_sig hz
  have hpos := chk_pos hz
  have hll := hs.len
  have hbA : Below w.heap.size w ((w.alloc (.cells #[.slice VA cells.length ca, .int .i64 (f : Int), .slice VB W.length cb] 64)).alloc (.cells #[.slice none 0 0, .int .i64 0, .slice none 0 0] 64)) := by (repeat (first | exact Below.refl _ _ | (with_reducible refine Below.drew ?_) | (with_reducible refine Below.alloc ?_ (by (try simp); (try omega)) _) | (with_reducible refine Below.setCell ?_ (by (try simp); (try omega)) _) | (with_reducible refine Below.trans ?_ (Below.mono (by assumption) (by (try simp); (try omega))))))
  have HK := Lib.hid hk
  have HOk : Hid (NetOk (pnL L) cells f W) := hok
  have HT : Hid (tidyF (allPs (pnL L) cells f) (lnk W) = tidyW (allPs (pnL L) cells f) W) := rfl
  have HLk : Hid (∀ p ∈ allPs (pnL L) cells f, ∃ q, lnk W p = some q) := fun p hp => by obtain ⟨q, h1, _⟩ := hok.lnk (allPs_is _ hp); exact ⟨q, h1⟩
  have HLf : Hid (linkF W W.length = fun p => (lnk W p).map encPt) := by show _ = _; rw [linkF_lnk hok.nodup (Nat.le_refl _), List.take_length]
  have HS := Lib.hid hs
  rw [show ((f : Int)).toNat = f from rfl]
  clear hk hok hz hag hs
  go_enter Tryd.func27, Tryd.ntmps27
  go_wp2_with (go_at_call 75; refine (net_fine A _ cap L VA VB ca cb cells f W _ rfl hcap (Lib.hid (HL.out.below hbA)) hl (Lib.hid (HC.out.below hbA)) (Lib.hid (HW.out.below hbA)) hc hw).mono ?_; rintro e w1 ⟨rfl, hb1⟩; rw [HK.out]
               have r0 := (hb1.cell (p := ⟨w.heap.size + 1, 0, none⟩) (by simp)).trans (show _ = some (.slice none 0 0) by go_simp)
               have r1 := (hb1.cell (p := ⟨w.heap.size + 1, 1, none⟩) (by simp)).trans (show _ = some (.int .i64 0) by go_simp)
               have r2 := (hb1.cell (p := ⟨w.heap.size + 1, 2, none⟩) (by simp)).trans (show _ = some (.slice none 0 0) by go_simp)
               have g0 := (hb1.frozen (p := ⟨w.heap.size + 1, 0, none⟩) (by simp)).trans (show _ = false by go_simp)
               have g1 := (hb1.frozen (p := ⟨w.heap.size + 1, 1, none⟩) (by simp)).trans (show _ = false by go_simp)
               have g2 := (hb1.frozen (p := ⟨w.heap.size + 1, 2, none⟩) (by simp)).trans (show _ = false by go_simp)
               have HB1 : Hid (Below w.heap.size w w1) := hbA.trans (hb1.mono (by simp <;> omega))
               have n0 := (hb1.cell (p := ⟨w.heap.size, 0, none⟩) (by simp <;> omega)).trans (show _ = some (.slice VA cells.length ca) by go_simp)
               have n1 := (hb1.cell (p := ⟨w.heap.size, 1, none⟩) (by simp <;> omega)).trans (show _ = some (.int .i64 (f : Int)) by go_simp)
               have n2 := (hb1.cell (p := ⟨w.heap.size, 2, none⟩) (by simp <;> omega)).trans (show _ = some (.slice VB W.length cb) by go_simp)
               have hz1 := hb1.size
               clear hb1)
  simp only [World.size_alloc] at hz1
  go_region_held3 (fun X => X.cell? ⟨w.heap.size, 0, none⟩ = some (.slice VA cells.length ca) ∧ X.cell? ⟨w.heap.size, 1, none⟩ = some (.int .i64 (f : Int)) ∧ X.cell? ⟨w.heap.size, 2, none⟩ = some (.slice VB W.length cb))
    (first | exact S3 | exact keep3s S3 (by omega) | exact S2 | exact ⟨n0, n1, n2⟩)
    (first
      | (go_at_call 76; go_loud (refine (net_links VA VB ca cb cells f W _ (Lib.hid (HW.out.below HB1.out.drew)) hw).mono ?_); go_loud (rintro e w2 ⟨m, rfl, hm2, hm2l, hb2⟩)
         go_loud (have S2 := keep3 hb2 (by show w.heap.size < w1.drew.heap.size; exact (by omega : w.heap.size < w1.heap.size)) ⟨n0, n1, n2⟩)
         have HM2 : Hid (MP encPt w2 m fun p => (lnk W p).map encPt) := by have := hm2; rw [HLf.out] at this; exact this
         go_loud (have HB2 : Hid (Below w.heap.size w w2) := HB1.out.drew.trans (hb2.mono HB1.out.drew.size))
         go_loud (have HB12 : Hid (Below w1.heap.size w1 w2) := ((Below.refl _ w1).drew).trans hb2)
         clear hm2 hm2l hb2)
      | (go_at_call 77; refine (net_build A _ cap L VA ca _ cells f m (lnk W) _ rfl rfl (Lib.hid (HL.out.below HB2.out)) HS.out hpos (Lib.hid (HC.out.below HB2.out)) (by omega) (by omega) HM2 HLk.out).mono ?_; rintro e w3 ⟨V1, c1, V2, c2, rfl, hnf⟩
         have S3 := keep3 hnf.1.2.2 (by have := HB12.out.size; omega) S2
         have HNF := Lib.hid hnf
         have HB13 : Hid (Below w1.heap.size w1 w3) := HB12.out.trans (hnf.1.2.2.mono HB12.out.size)
         have t0 := (HB13.out.cell (p := ⟨w.heap.size + 1, 0, none⟩) hz1).trans r0
         have t1 := (HB13.out.cell (p := ⟨w.heap.size + 1, 1, none⟩) hz1).trans r1
         have t2 := (HB13.out.cell (p := ⟨w.heap.size + 1, 2, none⟩) hz1).trans r2
         have u0 := (HB13.out.frozen (p := ⟨w.heap.size + 1, 0, none⟩) hz1).trans g0
         have u1 := (HB13.out.frozen (p := ⟨w.heap.size + 1, 1, none⟩) hz1).trans g1
         have u2 := (HB13.out.frozen (p := ⟨w.heap.size + 1, 2, none⟩) hz1).trans g2
         clear hnf))
  go_wp2
  exact bodyPost_ret (v := .tuple #[netV V1 c1 cells f V2 c2 (tidyF (allPs (pnL L) cells f) (lnk W)), .int .i64 0]) (by simp only [results, Tryd.results27]; go_simp) rfl ⟨V1, c1, V2, c2, by rw [← HT.out], by rw [← HT.out]; exact HNF.out.set3 HB2.out (by simp) (by have := HB12.out.size; omega) _ _ _⟩
end
end Go.Proofs.YtkonfogebepccaaDoor
