/-
  The statement LoadBack: its walk.
-/
import Derived.Test.YthbobooiedcofaaLoadMuch
namespace Go.Proofs.Ythbobooiedcofaa
open Go.RowKit
attribute [local go_sem] cell_set
set_option maxRecDepth 100000
set_option linter.unusedVariables false

theorem nbox_new (X : World) (V1 : Option Addr) (n1 c1 : Nat) (f : Int) (V2 : Option Addr) (n2 c2 : Nat) : NBox (X.alloc (.cells #[.slice V1 n1 c1, .int .i64 f, .slice V2 n2 c2] 67)) X.heap.size V1 n1 c1 f V2 n2 c2 := ⟨by simp, by go_simp, by go_simp, by go_simp⟩
theorem loadE_net {L : List (ByteArray × Int)} {cells : List Int} {fr : Int} {W : List (Pt × Pt)} : loadE L cells fr W 4096 = (netChk (pnL L) L.length (chk L) cells fr W).1 := by
  unfold loadE
  by_cases h : (netChk (pnL L) L.length (chk L) cells fr W).1 ≠ 0
  · rw [if_pos h]
  · have h0 : (netChk (pnL L) L.length (chk L) cells fr W).1 = 0 := by simpa using h
    have := (netChk_ok h0).2.1
    rw [if_neg h, if_neg (by omega), if_neg (by omega), h0]
set_option maxHeartbeats 4000000 in
theorem back_law (A : Option Addr) (n cap : Nat) (L : List (ByteArray × Int)) (VA VB : Option Addr) (ca cb : Nat) (cells : List Int) (fr : Int) (W : List (Pt × Pt)) (w : World)
    (hn : n = L.length) (hcap : L.length ≤ cap) (HL : Hid (AgRd w A L)) (hl : L.length ≤ maxLen) (HC : Hid (IntsRd w VA cells)) (HW : Hid (WrRd w VB W)) (hc : cells.length ≤ maxLen) (hw : W.length ≤ maxLen) :
    Calls Try.prog 5 #[.slice A n cap, netV VA ca cells fr VB cb W] w fun e w' => e = .returned (.bool true) ∧ Below w.heap.size w w' := by
  subst hn
  unfold netV
  obtain ⟨k, hk⟩ : ∃ k, (netChk (pnL L) L.length (chk L) cells fr W).1 = k := ⟨_, rfl⟩
  have HK := Lib.hid hk
  clear hk
  have hbA : ∀ o : Obj, Below w.heap.size w (w.alloc o) := fun o => (Below.refl _ _).alloc (Nat.le_refl _) o
  go_enter Try.func5, Try.ntmps5
  go_wp2_with fail
  refine (much09 A _ cap L VA VB cells.length W.length ca cb fr _ rfl hl (Lib.hid (HL.out.below (hbA _))) hc hw).mono ?_
  rintro e w1 ⟨r, rfl, hr, hb1⟩
  have HB1 := Lib.hid ((hbA _).trans (hb1.mono (hbA _).size))
  have HN1 := Lib.hid ((nbox_new w VA cells.length ca fr VB W.length cb).below hb1)
  clear hb1
  cases r with
  | true =>
    clear hr
    go_wp2_with fail
    refine (works09 w1).mono ?_
    rintro e w2 ⟨rfl, hb2⟩
    have HB2 := Lib.hid (HB1.out.trans (hb2.mono HB1.out.size))
    clear hb2
    go_wp2_with fail
    go_ret
    exact ⟨rfl, HB2.out⟩
  | false =>
    obtain ⟨l1, l2, l3⟩ := hr rfl
    clear hr
    obtain ⟨hnl, n0, n1, n2⟩ := HN1.out
    by_cases h0 : k = 0
    · subst h0
      have hk := HK.out
      obtain ⟨hz, hc4, hf0, hf64, hag, hok⟩ := netChk_ok hk
      obtain ⟨f, rfl⟩ := Int.eq_ofNat_of_zero_le hf0
      have hs := chk_sig hz
      have hok' : NetOk (pnL L) cells f W := hok
      have hokT := hok'.tidy
      have hTT := hok'.tidy_tidy
      have htl : (tidyW (allPs (pnL L) cells f) W).length ≤ 40000 := by
        have h1 : (tidyW (allPs (pnL L) cells f) W).length ≤ (allPs (pnL L) cells f).length := List.length_filterMap_le _ _
        have h2 := firstN_le (pnL_le hs) cells f cells.length
        rw [allPs_len] at h1
        omega
      have hld := loaded (m := 4096) hs hag hokT (by decide) (by decide) hc4 (by omega)
      have hTk : (netChk (pnL L) L.length (chk L) cells (f : Int) (tidyW (allPs (pnL L) cells f) W)).1 = 0 := by rw [netChk_of hz hc4 (by omega) hag hokT]
      obtain ⟨T, hT⟩ : ∃ T, tidyW (allPs (pnL L) cells f) W = T := ⟨_, rfl⟩
      rw [hT] at hokT hTT htl hld hTk
      have hlds := loaded_leads hokT hld.2.1 hld.2.2
      have HP := Lib.hid (And.intro hz (And.intro hag (And.intro hld.1 (And.intro hlds (And.intro hT (And.intro hTT hTk))))))
      clear hk hz hag hok hok' hokT hTT hld hlds hT hTk hs
      -- Tidy
      go_wp2_with fail
      refine (net_tidy_ok A _ cap L VA VB ca cb cells (f : Int) W w1 rfl hcap (Lib.hid (HL.out.below HB1.out)) hl (Lib.hid (HC.out.below HB1.out)) (Lib.hid (HW.out.below HB1.out)) (by omega) (by omega) HK.out).mono ?_
      rintro e w2 ⟨V1, c1, V2, c2, rfl, hnf⟩
      rw [show ((f : Int)).toNat = f from rfl, HP.out.2.2.2.2.1] at hnf ⊢
      unfold netV
      have H2 : Hid (Below w.heap.size w w2 ∧ NBox w2 w.heap.size VA cells.length ca (f : Int) VB W.length cb ∧ IntsRd w2 V1 cells ∧ WrRd w2 V2 T) := ⟨HB1.out.trans (hnf.1.2.2.mono HB1.out.size), HN1.out.below hnf.1.2.2, hnf.1.1.ints, hnf.2.1.wires⟩
      clear hnf n0 n1 n2 hnl
      simp only []
      go_upto_region 4 with fail
      refine absW (fun X => Below w2.heap.size w2 X ∧ NBox X w2.heap.size V1 cells.length c1 (f : Int) V2 T.length c2) ⟨by (repeat (first | exact Below.refl _ _ | (with_reducible refine Below.drew ?_) | (with_reducible refine Below.alloc ?_ (by (try simp); (try omega)) _) | (with_reducible refine Below.setCell ?_ (by (try simp); (try omega)) _) | (with_reducible refine Below.trans ?_ (Below.mono (by assumption) (by (try simp); (try omega)))))), nbox_new w2 _ _ _ _ _ _ _⟩ ?_
      rintro X2 ⟨hb2, ht2⟩
      have H3 : Hid (Below w.heap.size w X2 ∧ NBox X2 w.heap.size VA cells.length ca (f : Int) VB W.length cb ∧ NBox X2 w2.heap.size V1 cells.length c1 (f : Int) V2 T.length c2 ∧ IntsRd X2 V1 cells ∧ WrRd X2 V2 T) := ⟨H2.out.1.trans (hb2.mono H2.out.1.size), H2.out.2.1.below hb2, ht2, H2.out.2.2.1.below hb2, H2.out.2.2.2.below hb2⟩
      generalize w2.heap.size = bt at H3 ⊢
      clear hb2 ht2 H2
      obtain ⟨hnl, n0, n1, n2⟩ := H3.out.2.1
      -- Load
      go_wp2_with fail
      refine (load_is A _ cap L VA VB ca cb cells (f : Int) W 4096 X2 rfl hcap (Lib.hid (HL.out.below H3.out.1)) hl (Lib.hid (HC.out.below H3.out.1)) (Lib.hid (HW.out.below H3.out.1)) (by omega) (by omega)).mono ?_
      rintro e w3 (⟨he, _⟩ | ⟨_, B, A', rfl, ho⟩)
      · exact absurd (loadE_net.trans HK.out) he
      rw [show ((f : Int)).toNat = f from rfl, show (4096 : Int).toNat = 4096 from rfl, HP.out.2.2.2.2.1] at ho
      have HO : Hid (OW X2 B A' ((Wir.new (tookA 4096 (arL L) cells) f).linkAll T) w3) := ho
      have H4 : Hid (Below w.heap.size w w3 ∧ NBox w3 w.heap.size VA cells.length ca (f : Int) VB W.length cb ∧ NBox w3 bt V1 cells.length c1 (f : Int) V2 T.length c2 ∧ IntsRd w3 V1 cells ∧ WrRd w3 V2 T) := ⟨H3.out.1.trans (ho.b.mono H3.out.1.size), H3.out.2.1.below ho.b, H3.out.2.2.1.below ho.b, H3.out.2.2.2.1.below ho.b, H3.out.2.2.2.2.below ho.b⟩
      clear ho n0 n1 n2 hnl
      simp only []
      -- Store
      go_wp2_with fail
      obtain ⟨⟨FA, hg, _⟩, _⟩ := HO.out
      refine (store_is A _ cap L B A' _ FA cells f T w3 rfl hcap (Lib.hid (HL.out.below H4.out.1)) hl (Lib.hid HP.out.1) (Lib.hid hg) (Lib.hid HP.out.2.2.1) (Lib.hid HP.out.2.1) hc4 (by omega) (Lib.hid HP.out.2.2.2.1)).mono ?_
      rintro e w4 ⟨V3, c3, V4, c4, V5, c5, rfl, hnf, hfr⟩
      rw [HP.out.2.2.2.2.2.1] at hnf ⊢
      unfold netV
      have H5 : Hid (Below w.heap.size w w4 ∧ NBox w4 w.heap.size VA cells.length ca (f : Int) VB W.length cb ∧ NBox w4 bt V1 cells.length c1 (f : Int) V2 T.length c2 ∧ (IntsRd w4 V1 cells ∧ WrRd w4 V2 T) ∧ (IntsRd w4 V3 cells ∧ WrRd w4 V4 T) ∧ IntsRd w4 V5 ((List.range cells.length).map fun (i : Nat) => (i : Int))) :=
        ⟨H4.out.1.trans (hfr.2.2.mono H4.out.1.size), H4.out.2.1.below hfr.2.2, H4.out.2.2.1.below hfr.2.2, ⟨H4.out.2.2.2.1.below hfr.2.2, H4.out.2.2.2.2.below hfr.2.2⟩, ⟨hnf.1.1.ints, hnf.2.1.wires⟩, Row.ints (by simpa using hfr.1)⟩
      clear hnf hfr hg HO H4 H3
      simp only []
      go_upto_region 10 with fail
      refine absW (fun X => Below w4.heap.size w4 X ∧ NBox X w4.heap.size V3 cells.length c3 (f : Int) V4 T.length c4) ⟨by (repeat (first | exact Below.refl _ _ | (with_reducible refine Below.drew ?_) | (with_reducible refine Below.alloc ?_ (by (try simp); (try omega)) _) | (with_reducible refine Below.setCell ?_ (by (try simp); (try omega)) _) | (with_reducible refine Below.trans ?_ (Below.mono (by assumption) (by (try simp); (try omega)))))), nbox_new w4 _ _ _ _ _ _ _⟩ ?_
      rintro X5 ⟨hb5, hm5⟩
      have H6 : Hid (Below w.heap.size w X5 ∧ NBox X5 w.heap.size VA cells.length ca (f : Int) VB W.length cb ∧ NBox X5 bt V1 cells.length c1 (f : Int) V2 T.length c2 ∧ NBox X5 w4.heap.size V3 cells.length c3 (f : Int) V4 T.length c4 ∧ (IntsRd X5 V1 cells ∧ WrRd X5 V2 T) ∧ (IntsRd X5 V3 cells ∧ WrRd X5 V4 T) ∧ IntsRd X5 V5 ((List.range cells.length).map fun (i : Nat) => (i : Int))) :=
        ⟨H5.out.1.trans (hb5.mono H5.out.1.size), H5.out.2.1.below hb5, H5.out.2.2.1.below hb5, hm5, ⟨H5.out.2.2.2.1.1.below hb5, H5.out.2.2.2.1.2.below hb5⟩, ⟨H5.out.2.2.2.2.1.1.below hb5, H5.out.2.2.2.2.1.2.below hb5⟩, H5.out.2.2.2.2.2.below hb5⟩
      generalize w4.heap.size = bm at H6 ⊢
      clear hb5 hm5 H5
      obtain ⟨⟨hnl, n0, n1, n2⟩, ⟨htl2, t0, t1, t2⟩, ⟨hml, m0, m1, m2⟩, _⟩ := H6.out.2
      go_wp2_with fail
      refine (eq_net V3 V4 V1 V2 c3 c4 c1 c2 cells cells (f : Int) (f : Int) T T X5 (by omega) (by omega) (by omega) (by omega) (Lib.hid H6.out.2.2.2.2.2.1.1) (Lib.hid H6.out.2.2.2.2.2.1.2) (Lib.hid H6.out.2.2.2.2.1.1) (Lib.hid H6.out.2.2.2.2.1.2)).mono ?_
      rintro e w5 ⟨rfl, hb5⟩
      rw [show (decide (cells = cells ∧ (f : Int) = (f : Int) ∧ T = T)) = true by simp]
      have H7 : Hid (Below w.heap.size w w5 ∧ NBox w5 w.heap.size VA cells.length ca (f : Int) VB W.length cb ∧ NBox w5 bt V1 cells.length c1 (f : Int) V2 T.length c2 ∧ NBox w5 bm V3 cells.length c3 (f : Int) V4 T.length c4 ∧ (IntsRd w5 V1 cells ∧ WrRd w5 V2 T) ∧ (IntsRd w5 V3 cells ∧ WrRd w5 V4 T) ∧ IntsRd w5 V5 ((List.range cells.length).map fun (i : Nat) => (i : Int))) :=
        ⟨H6.out.1.trans (hb5.mono H6.out.1.size), H6.out.2.1.below hb5, H6.out.2.2.1.below hb5, H6.out.2.2.2.1.below hb5, ⟨H6.out.2.2.2.2.1.1.below hb5, H6.out.2.2.2.2.1.2.below hb5⟩, ⟨H6.out.2.2.2.2.2.1.1.below hb5, H6.out.2.2.2.2.2.1.2.below hb5⟩, H6.out.2.2.2.2.2.2.below hb5⟩
      clear n0 n1 n2 t0 t1 t2 m0 m1 m2 hnl htl2 hml hb5 H6
      obtain ⟨⟨hnl, n0, n1, n2⟩, ⟨htl2, t0, t1, t2⟩, ⟨hml, m0, m1, m2⟩, _⟩ := H7.out.2
      simp only []
      go_wp2_with fail
      clear n0 n1 n2 t0 t1 t2 m0 m1 m2 hnl htl2 hml
      go_loop [11] (fun i => ∃ k : Nat, i = .int .i64 k ∧ k ≤ cells.length) (fun i => cells.length - (intOf i).toNat)
      case atStart => exact ⟨0, rfl, Nat.zero_le _⟩
      case round =>
        obtain ⟨k, rfl, hk⟩ := hrel
        by_cases hlt : k < cells.length
        · obtain ⟨b, off, rfl, hb, e0⟩ := H7.out.2.2.2.2.2.2 k (by simpa using hlt)
          have hgk : ((List.range cells.length).map fun (i : Nat) => (i : Int)).getD k 0 = (k : Int) := by simp [List.getD_eq_getElem?_getD, hlt]
          rw [hgk] at e0
          clear hgk
          go_wp2_with fail
          go_round
          case rel => exact ⟨k + 1, by go_num, by omega⟩
          case measure => simp [intOf]; omega
        · obtain rfl : k = cells.length := by omega
          obtain ⟨⟨hnl, n0, n1, n2⟩, ⟨htl2, t0, t1, t2⟩, ⟨hml, m0, m1, m2⟩, _⟩ := H7.out.2
          go_wp2_with fail
          refine (load_is A _ cap L V3 V4 c3 c4 cells (f : Int) T 4096 w5 rfl hcap (Lib.hid (HL.out.below H7.out.1)) hl (Lib.hid H7.out.2.2.2.2.2.1.1) (Lib.hid H7.out.2.2.2.2.2.1.2) (by omega) (by omega)).mono ?_
          rintro e w6 (⟨he, _⟩ | ⟨_, B2, A2, rfl, ho⟩)
          · exact absurd (loadE_net.trans HP.out.2.2.2.2.2.2) he
          rw [show ((f : Int)).toNat = f from rfl, show (4096 : Int).toNat = 4096 from rfl, HP.out.2.2.2.2.2.1] at ho
          have HO : Hid (OW w5 B2 A2 ((Wir.new (tookA 4096 (arL L) cells) f).linkAll T) w6) := ho
          have H8 : Hid (Below w.heap.size w w6 ∧ NBox w6 bt V1 cells.length c1 (f : Int) V2 T.length c2 ∧ (IntsRd w6 V1 cells ∧ WrRd w6 V2 T)) := ⟨H7.out.1.trans (ho.b.mono H7.out.1.size), H7.out.2.2.1.below ho.b, H7.out.2.2.2.2.1.1.below ho.b, H7.out.2.2.2.2.1.2.below ho.b⟩
          clear ho n0 n1 n2 t0 t1 t2 m0 m1 m2 hnl htl2 hml
          simp only []
          go_wp2_with fail
          obtain ⟨⟨FA, hg, _⟩, _⟩ := HO.out
          refine (store_is A _ cap L B2 A2 _ FA cells f T w6 rfl hcap (Lib.hid (HL.out.below H8.out.1)) hl (Lib.hid HP.out.1) (Lib.hid hg) (Lib.hid HP.out.2.2.1) (Lib.hid HP.out.2.1) hc4 (by omega) (Lib.hid HP.out.2.2.2.1)).mono ?_
          rintro e w7 ⟨V6, c6, V7, c7, V8, c8, rfl, hnf, hfr⟩
          rw [HP.out.2.2.2.2.2.1] at hnf ⊢
          unfold netV
          have H9 : Hid (Below w.heap.size w w7 ∧ NBox w7 bt V1 cells.length c1 (f : Int) V2 T.length c2 ∧ (IntsRd w7 V1 cells ∧ WrRd w7 V2 T) ∧ (IntsRd w7 V6 cells ∧ WrRd w7 V7 T)) :=
            ⟨H8.out.1.trans (hfr.2.2.mono H8.out.1.size), H8.out.2.1.below hfr.2.2, ⟨H8.out.2.2.1.below hfr.2.2, H8.out.2.2.2.below hfr.2.2⟩, ⟨hnf.1.1.ints, hnf.2.1.wires⟩⟩
          clear hnf hfr hg HO H8
          simp only []
          go_upto_region 19 with fail
          refine absW (fun X => Below w7.heap.size w7 X ∧ NBox X w7.heap.size V6 cells.length c6 (f : Int) V7 T.length c7) ⟨by (repeat (first | exact Below.refl _ _ | (with_reducible refine Below.drew ?_) | (with_reducible refine Below.alloc ?_ (by (try simp); (try omega)) _) | (with_reducible refine Below.setCell ?_ (by (try simp); (try omega)) _) | (with_reducible refine Below.trans ?_ (Below.mono (by assumption) (by (try simp); (try omega)))))), nbox_new w7 _ _ _ _ _ _ _⟩ ?_
          rintro X8 ⟨hb8, hm8⟩
          have H10 : Hid (Below w.heap.size w X8 ∧ NBox X8 bt V1 cells.length c1 (f : Int) V2 T.length c2 ∧ NBox X8 w7.heap.size V6 cells.length c6 (f : Int) V7 T.length c7 ∧ (IntsRd X8 V1 cells ∧ WrRd X8 V2 T) ∧ (IntsRd X8 V6 cells ∧ WrRd X8 V7 T)) :=
            ⟨H9.out.1.trans (hb8.mono H9.out.1.size), H9.out.2.1.below hb8, hm8, ⟨H9.out.2.2.1.1.below hb8, H9.out.2.2.1.2.below hb8⟩, ⟨H9.out.2.2.2.1.below hb8, H9.out.2.2.2.2.below hb8⟩⟩
          generalize w7.heap.size = bk at H10 ⊢
          clear hb8 hm8 H9
          obtain ⟨⟨htl2, t0, t1, t2⟩, ⟨hml, m0, m1, m2⟩, _⟩ := H10.out.2
          go_wp2_with fail
          refine (eq_net V6 V7 V1 V2 c6 c7 c1 c2 cells cells (f : Int) (f : Int) T T X8 (by omega) (by omega) (by omega) (by omega) (Lib.hid H10.out.2.2.2.2.1) (Lib.hid H10.out.2.2.2.2.2) (Lib.hid H10.out.2.2.2.1.1) (Lib.hid H10.out.2.2.2.1.2)).mono ?_
          rintro e w9 ⟨rfl, hb9⟩
          rw [show (decide (cells = cells ∧ (f : Int) = (f : Int) ∧ T = T)) = true by simp]
          have HB9 := Lib.hid (H10.out.1.trans (hb9.mono H10.out.1.size))
          clear t0 t1 t2 m0 m1 m2 htl2 hml hb9 H10
          simp only []
          go_wp2_with fail
          refine (works09 w9).mono ?_
          rintro e w10 ⟨rfl, hb10⟩
          have HB10 := Lib.hid (HB9.out.trans (hb10.mono HB9.out.size))
          clear hb10
          simp only []
          go_wp2_with fail
          go_ret
          exact ⟨rfl, HB10.out⟩
    · have hk0 : (netChk (pnL L) L.length (chk L) cells fr W).1 ≠ 0 := by rw [HK.out]; exact h0
      have HK0 := Lib.hid hk0
      have hkb : (k != 0) = true := by simpa using h0
      clear hk0 h0
      go_wp2_with fail
      refine (net_tidy_bad A _ cap L VA VB ca cb cells fr W w1 rfl hcap (Lib.hid (HL.out.below HB1.out)) hl (Lib.hid (HC.out.below HB1.out)) (Lib.hid (HW.out.below HB1.out)) (by omega) (by omega) HK0.out).mono ?_
      rintro e w2 ⟨rfl, hb2⟩
      rw [HK.out]
      have H2 : Hid (Below w.heap.size w w2 ∧ NBox w2 w.heap.size VA cells.length ca fr VB W.length cb) := ⟨HB1.out.trans (hb2.mono HB1.out.size), HN1.out.below hb2⟩
      clear hb2 n0 n1 n2 hnl
      simp only []
      go_upto_region 4 with fail
      refine absW (fun X => Below w2.heap.size w2 X) (by (repeat (first | exact Below.refl _ _ | (with_reducible refine Below.drew ?_) | (with_reducible refine Below.alloc ?_ (by (try simp); (try omega)) _) | (with_reducible refine Below.setCell ?_ (by (try simp); (try omega)) _) | (with_reducible refine Below.trans ?_ (Below.mono (by assumption) (by (try simp); (try omega))))))) ?_
      intro X2 hb2
      have H3 : Hid (Below w.heap.size w X2 ∧ NBox X2 w.heap.size VA cells.length ca fr VB W.length cb) := ⟨H2.out.1.trans (hb2.mono H2.out.1.size), H2.out.2.below hb2⟩
      generalize w2.heap.size = bt at ⊢
      clear hb2 H2
      obtain ⟨hnl, n0, n1, n2⟩ := H3.out.2
      go_wp2_with fail
      refine (load_is A _ cap L VA VB ca cb cells fr W 4096 X2 rfl hcap (Lib.hid (HL.out.below H3.out.1)) hl (Lib.hid (HC.out.below H3.out.1)) (Lib.hid (HW.out.below H3.out.1)) (by omega) (by omega)).mono ?_
      rintro e w3 (⟨_, rfl, hb3⟩ | ⟨he, _⟩)
      · rw [loadE_net, HK.out]
        have HB3 := Lib.hid (H3.out.1.trans (hb3.mono H3.out.1.size))
        clear hb3 n0 n1 n2 hnl
        simp only []
        go_wp2_with fail
        refine (works09 w3).mono ?_
        rintro e w4 ⟨rfl, hb4⟩
        have HB4 := Lib.hid (HB3.out.trans (hb4.mono HB3.out.size))
        clear hb4
        simp only []
        go_wp2_with fail
        go_ret
        exact ⟨rfl, HB4.out⟩
      · exact absurd (loadE_net.symm.trans he) HK0.out
end Go.Proofs.Ythbobooiedcofaa
