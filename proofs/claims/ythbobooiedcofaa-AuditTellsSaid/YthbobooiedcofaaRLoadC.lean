/-
  skeinref08.Load.
-/
import Derived.Test.YthbobooiedcofaaRWirNew
import Derived.Test.YthbobooiedcofaaRWirNew
import Derived.Test.YthbobooiedcofaaRWirMem
import Derived.Test.YthbobooiedcofaaLoadC
import Derived.Test.YthbobooiedcofaaRef03C
namespace Go.Proofs.Ythbobooiedcofaa
open Go.RowKit
attribute [local go_sem] cell_set
set_option maxRecDepth 100000
set_option linter.unusedVariables false

/-- The document's arena in new memory; its wiring. -/
structure OR (w0 : World) (A : Nat) (S : Ars) (W : World) : Prop where
  f : ∃ FA, RA W A S FA ∧ ∀ b ∈ FA, w0.heap.size ≤ b
  b : Below w0.heap.size w0 W
structure OX (w0 : World) (B A : Nat) (S : Wir) (W : World) : Prop where
  f : ∃ FA, RG W B A S FA ∧ ∀ b ∈ B :: FA, w0.heap.size ≤ b
  b : Below w0.heap.size w0 W
section
variable {w0 W W' : World} {B A : Nat} {S S' : Wir}
theorem OR.kept {S : Ars} (h : OR w0 A S W) (hb : Below W.heap.size W W') : OR w0 A S W' := by
  obtain ⟨⟨FA, hg, hf⟩, hw⟩ := h
  exact ⟨⟨FA, hg.below hb, hf⟩, hw.trans (hb.mono hw.size)⟩
theorem OX.kept (h : OX w0 B A S W) (hb : Below W.heap.size W W') : OX w0 B A S W' := by
  obtain ⟨⟨FA, hg, hf⟩, hw⟩ := h
  exact ⟨⟨FA, hg.below hb, hf⟩, hw.trans (hb.mono hw.size)⟩
theorem OX.step {FA : List Nat} (hw : Below w0.heap.size w0 W) (hf : ∀ b ∈ B :: FA, w0.heap.size ≤ b) (h1 : ∃ FA', RG W' B A S' FA' ∧ ∀ b ∈ FA', b ∈ FA ∨ W.heap.size ≤ b) (h2 : Kp (B :: FA) W W') : OX w0 B A S' W' := by
  obtain ⟨FA', hg, hn⟩ := h1
  refine ⟨⟨FA', hg, fun b hb => ?_⟩, hw.trans (h2.below hw.size hf)⟩
  rcases List.mem_cons.1 hb with rfl | hb
  · exact hf b (by simp)
  · rcases hn b hb with hb | hb
    · exact hf b (by simp [hb])
    · exact Nat.le_trans hw.size hb
theorem or_take {S : Ars} (h : OR w0 A S W) (ag ar : Int) : Calls Try.prog 52 #[.pointer (some ⟨A, 0, none⟩), .int .i64 ag, .int .i64 ar] W fun e w' => e = .returned (.tuple #[.int .i64 (S.takeC ag ar), .int .i64 (S.takeE ag ar)]) ∧ OR w0 A (S.take ag ar) w' := by
  obtain ⟨⟨FA, hg, hf⟩, hw⟩ := h
  refine (rr_take A S FA ag ar W hg).mono fun e w' ⟨he, ⟨F', h1, hn⟩, h2⟩ => ⟨he, ⟨F', h1, fun b hb => ?_⟩, hw.trans (h2.below hw.size hf)⟩
  rcases hn b hb with hb | hb
  · exact hf b hb
  · exact Nat.le_trans hw.size hb
theorem ox_link (h : OX w0 B A S W) (c s d t : Int) : Calls Try.prog 63 #[.pointer (some ⟨B, 0, none⟩), .agg #[.int .i64 c, .int .i64 s], .agg #[.int .i64 d, .int .i64 t]] W fun e w' => e = .returned (.int .i64 (S.linkE (c, s) (d, t))) ∧ OX w0 B A (S.link (c, s) (d, t)) w' := by
  obtain ⟨⟨FA, hg, hf⟩, hw⟩ := h
  exact (rw_link B A S FA W c s d t hg).mono fun e w' ⟨he, h1, h2⟩ => ⟨he, OX.step hw hf ⟨FA, h1, fun b hb => .inl hb⟩ h2⟩
end
theorem nbox_at (X : World) (V1 : Option Addr) (n1 c1 : Nat) (f : Int) (V2 : Option Addr) (n2 c2 : Nat) : NBox (X.alloc (.cells #[.slice V1 n1 c1, .int .i64 f, .slice V2 n2 c2] 67)) X.heap.size V1 n1 c1 f V2 n2 c2 := ⟨by simp, by go_simp, by go_simp, by go_simp⟩
section
variable (A : Option Addr) (n cap : Nat) (L : List (ByteArray × Int)) (VA VB : Option Addr) (ca cb : Nat) (cells : List Int) (free : Int) (W : List (Pt × Pt)) (most : Int) (w : World)
set_option maxHeartbeats 1000000 in
theorem rload_bad1 (hn : n = L.length) (hcap : L.length ≤ cap) (HL : Hid (AgRd w A L)) (hl : L.length ≤ maxLen) (HC : Hid (IntsRd w VA cells)) (HW : Hid (WrRd w VB W)) (hc : cells.length ≤ 10000) (hw : W.length ≤ 40000)
    (hk : (netChk (pnL L) L.length (chk L) cells free W).1 ≠ 0) :
    Calls Try.prog 37 #[.slice A n cap, netV VA ca cells free VB cb W, .int .i64 most] w (LdBad w (netChk (pnL L) L.length (chk L) cells free W).1) := by
  subst hn
  generalize hK : netChk (pnL L) L.length (chk L) cells free W = K at hk
  have hkb : (K.1 != 0) = true := by simpa using hk
  have HK := Lib.hid hK
  clear hK hk
  have HLz : Hid (∀ X, Below w.heap.size w X → AgRd X A L) := fun X h => HL.out.below h
  have HCz : Hid (∀ X, Below w.heap.size w X → IntsRd X VA cells) := fun X h => HC.out.below h
  have HWz : Hid (∀ X, Below w.heap.size w X → WrRd X VB W) := fun X h => HW.out.below h
  unfold netV
  go_enter Try.func37, Try.ntmps37
  go_wp2_with fail
  refine (rcheck3 A _ cap L VA VB ca cb cells free W _ rfl hcap (Lib.hid (HLz.out _ (by (repeat (first | exact Below.refl _ _ | (with_reducible refine Below.drew ?_) | (with_reducible refine Below.alloc ?_ (by (try simp); (try omega)) _) | (with_reducible refine Below.setCell ?_ (by (try simp); (try omega)) _) | (with_reducible refine Below.trans ?_ (Below.mono (by assumption) (by (try simp); (try omega))))))))) hl (Lib.hid (HCz.out _ (by (repeat (first | exact Below.refl _ _ | (with_reducible refine Below.drew ?_) | (with_reducible refine Below.alloc ?_ (by (try simp); (try omega)) _) | (with_reducible refine Below.setCell ?_ (by (try simp); (try omega)) _) | (with_reducible refine Below.trans ?_ (Below.mono (by assumption) (by (try simp); (try omega))))))))) (Lib.hid (HWz.out _ (by (repeat (first | exact Below.refl _ _ | (with_reducible refine Below.drew ?_) | (with_reducible refine Below.alloc ?_ (by (try simp); (try omega)) _) | (with_reducible refine Below.setCell ?_ (by (try simp); (try omega)) _) | (with_reducible refine Below.trans ?_ (Below.mono (by assumption) (by (try simp); (try omega))))))))) hc hw).mono ?_
  rintro e w1 ⟨rfl, hb1⟩
  have HN1 : Hid (NBox w1 w.heap.size VA cells.length ca free VB W.length cb) := (nbox_at w VA cells.length ca free VB W.length cb).below hb1
  have HB1 := Lib.hid (((Below.refl _ w).alloc (Nat.le_refl _) (.cells #[.slice VA cells.length ca, .int .i64 free, .slice VB W.length cb] 67)).trans (hb1.mono (by simp)))
  clear hb1
  rw [HK.out]
  simp only []
  go_wp2_with fail
  go_ret2
  exact ⟨rfl, HB1.out⟩
set_option maxHeartbeats 1000000 in
theorem rload_bad2 (hn : n = L.length) (hcap : L.length ≤ cap) (HL : Hid (AgRd w A L)) (hl : L.length ≤ maxLen) (HC : Hid (IntsRd w VA cells)) (HW : Hid (WrRd w VB W)) (hc : cells.length ≤ 10000) (hw : W.length ≤ 40000)
    (hk : (netChk (pnL L) L.length (chk L) cells free W).1 = 0) (h1 : most < 1 ∨ 4096 < most) :
    Calls Try.prog 37 #[.slice A n cap, netV VA ca cells free VB cb W, .int .i64 most] w (LdBad w 1) := by
  subst hn
  have H1 := Lib.hid h1
  clear h1
  have HK := Lib.hid hk
  clear hk
  have HLz : Hid (∀ X, Below w.heap.size w X → AgRd X A L) := fun X h => HL.out.below h
  have HCz : Hid (∀ X, Below w.heap.size w X → IntsRd X VA cells) := fun X h => HC.out.below h
  have HWz : Hid (∀ X, Below w.heap.size w X → WrRd X VB W) := fun X h => HW.out.below h
  unfold netV
  go_enter Try.func37, Try.ntmps37
  go_wp2_with fail
  refine (rcheck3 A _ cap L VA VB ca cb cells free W _ rfl hcap (Lib.hid (HLz.out _ (by (repeat (first | exact Below.refl _ _ | (with_reducible refine Below.drew ?_) | (with_reducible refine Below.alloc ?_ (by (try simp); (try omega)) _) | (with_reducible refine Below.setCell ?_ (by (try simp); (try omega)) _) | (with_reducible refine Below.trans ?_ (Below.mono (by assumption) (by (try simp); (try omega))))))))) hl (Lib.hid (HCz.out _ (by (repeat (first | exact Below.refl _ _ | (with_reducible refine Below.drew ?_) | (with_reducible refine Below.alloc ?_ (by (try simp); (try omega)) _) | (with_reducible refine Below.setCell ?_ (by (try simp); (try omega)) _) | (with_reducible refine Below.trans ?_ (Below.mono (by assumption) (by (try simp); (try omega))))))))) (Lib.hid (HWz.out _ (by (repeat (first | exact Below.refl _ _ | (with_reducible refine Below.drew ?_) | (with_reducible refine Below.alloc ?_ (by (try simp); (try omega)) _) | (with_reducible refine Below.setCell ?_ (by (try simp); (try omega)) _) | (with_reducible refine Below.trans ?_ (Below.mono (by assumption) (by (try simp); (try omega))))))))) hc hw).mono ?_
  rintro e w1 ⟨rfl, hb1⟩
  have HN1 : Hid (NBox w1 w.heap.size VA cells.length ca free VB W.length cb) := (nbox_at w VA cells.length ca free VB W.length cb).below hb1
  have HB1 := Lib.hid (((Below.refl _ w).alloc (Nat.le_refl _) (.cells #[.slice VA cells.length ca, .int .i64 free, .slice VB W.length cb] 67)).trans (hb1.mono (by simp)))
  clear hb1
  rw [HK.out]
  obtain ⟨hnl, n0, n1, n2⟩ := HN1.out
  simp only []
  go_wp2_with fail
  refine (rr_new_bad most H1.out _).mono ?_
  rintro e w2 ⟨rfl, rfl⟩
  clear n0 n1 n2 hnl
  simp only []
  go_wp2_with fail
  go_ret2
  exact ⟨rfl, HB1.out⟩
set_option maxHeartbeats 1000000 in
theorem rload_full (m : Nat) (hn : n = L.length) (hcap : L.length ≤ cap) (HL : Hid (AgRd w A L)) (hl : L.length ≤ maxLen) (HC : Hid (IntsRd w VA cells)) (HW : Hid (WrRd w VB W)) (hc : cells.length ≤ 10000) (hw : W.length ≤ 40000)
    (hk : (netChk (pnL L) L.length (chk L) cells free W).1 = 0) (h1 : 1 ≤ m) (h2 : m ≤ 4096) (h3 : m < cells.length) :
    Calls Try.prog 37 #[.slice A n cap, netV VA ca cells free VB cb W, .int .i64 (m : Int)] w (LdBad w 40) := by
  subst hn
  have h3' : ((m : Int) < (cells.length : Int)) := by omega
  have HK := Lib.hid hk
  clear hk
  have HLz : Hid (∀ X, Below w.heap.size w X → AgRd X A L) := fun X h => HL.out.below h
  have HCz : Hid (∀ X, Below w.heap.size w X → IntsRd X VA cells) := fun X h => HC.out.below h
  have HWz : Hid (∀ X, Below w.heap.size w X → WrRd X VB W) := fun X h => HW.out.below h
  unfold netV
  go_enter Try.func37, Try.ntmps37
  go_wp2_with fail
  refine (rcheck3 A _ cap L VA VB ca cb cells free W _ rfl hcap (Lib.hid (HLz.out _ (by (repeat (first | exact Below.refl _ _ | (with_reducible refine Below.drew ?_) | (with_reducible refine Below.alloc ?_ (by (try simp); (try omega)) _) | (with_reducible refine Below.setCell ?_ (by (try simp); (try omega)) _) | (with_reducible refine Below.trans ?_ (Below.mono (by assumption) (by (try simp); (try omega))))))))) hl (Lib.hid (HCz.out _ (by (repeat (first | exact Below.refl _ _ | (with_reducible refine Below.drew ?_) | (with_reducible refine Below.alloc ?_ (by (try simp); (try omega)) _) | (with_reducible refine Below.setCell ?_ (by (try simp); (try omega)) _) | (with_reducible refine Below.trans ?_ (Below.mono (by assumption) (by (try simp); (try omega))))))))) (Lib.hid (HWz.out _ (by (repeat (first | exact Below.refl _ _ | (with_reducible refine Below.drew ?_) | (with_reducible refine Below.alloc ?_ (by (try simp); (try omega)) _) | (with_reducible refine Below.setCell ?_ (by (try simp); (try omega)) _) | (with_reducible refine Below.trans ?_ (Below.mono (by assumption) (by (try simp); (try omega))))))))) hc hw).mono ?_
  rintro e w1 ⟨rfl, hb1⟩
  have HN1 : Hid (NBox w1 w.heap.size VA cells.length ca free VB W.length cb) := (nbox_at w VA cells.length ca free VB W.length cb).below hb1
  have HB1 := Lib.hid (((Below.refl _ w).alloc (Nat.le_refl _) (.cells #[.slice VA cells.length ca, .int .i64 free, .slice VB W.length cb] 67)).trans (hb1.mono (by simp)))
  clear hb1
  rw [HK.out]
  obtain ⟨hnl, n0, n1, n2⟩ := HN1.out
  simp only []
  go_wp2_with fail
  refine (rr_new_ok m h1 h2 w1).mono ?_
  rintro e w2 ⟨rfl, hb2, _⟩
  have HB2 := Lib.hid (HB1.out.trans (hb2.mono HB1.out.size))
  have HN2 := Lib.hid (HN1.out.below hb2)
  clear n0 n1 n2 hnl hb2
  obtain ⟨hnl, n0, n1, n2⟩ := HN2.out
  simp only []
  go_wp2_with fail
  go_ret2
  exact ⟨rfl, HB2.out⟩
set_option maxHeartbeats 4000000 in
theorem rload_good (hn : n = L.length) (hcap : L.length ≤ cap) (HL : Hid (AgRd w A L)) (hl : L.length ≤ maxLen) (HC : Hid (IntsRd w VA cells)) (HW : Hid (WrRd w VB W)) (hc : cells.length ≤ 10000) (hw : W.length ≤ 40000)
    (hk : (netChk (pnL L) L.length (chk L) cells free W).1 = 0) (h1 : 1 ≤ most) (h2 : most ≤ 4096) (h3 : (cells.length : Int) ≤ most) :
    Calls Try.prog 37 #[.slice A n cap, netV VA ca cells free VB cb W, .int .i64 most] w fun e w' => ∃ B A', e = .returned (.tuple #[.pointer (some ⟨B, 0, none⟩), .int .i64 0]) ∧ OX w B A' (((Wir.new (tookA most.toNat (arL L) cells) free.toNat)).linkAll W) w' := by
  subst hn
  obtain ⟨hz, hc4, hf0, hf64, hag, hok⟩ := netChk_ok hk
  obtain ⟨f, rfl⟩ := Int.eq_ofNat_of_zero_le hf0
  obtain ⟨m, rfl⟩ := Int.eq_ofNat_of_zero_le (by omega : 0 ≤ most)
  have hs := chk_sig hz
  have HS := Lib.hid hs
  have HAG := Lib.hid hag
  rw [show ((f : Int)).toNat = f from rfl, show ((m : Int)).toNat = m from rfl]
  clear hok hz hag hs hf0 hf64
  have h3' : ¬ ((m : Int) < (cells.length : Int)) := by omega
  have h3n : decide (m < cells.length) = false := by simp; omega
  have hf64 : f ≤ 64 := by have := (netChk_ok hk).2.2.2.1; omega
  have HK := Lib.hid hk
  clear hk
  have HLz : Hid (∀ X, Below w.heap.size w X → AgRd X A L) := fun X h => HL.out.below h
  have HCz : Hid (∀ X, Below w.heap.size w X → IntsRd X VA cells) := fun X h => HC.out.below h
  have HWz : Hid (∀ X, Below w.heap.size w X → WrRd X VB W) := fun X h => HW.out.below h
  unfold netV
  go_enter Try.func37, Try.ntmps37
  go_wp2_with fail
  refine (rcheck3 A _ cap L VA VB ca cb cells (f : Int) W _ rfl hcap (Lib.hid (HLz.out _ (by (repeat (first | exact Below.refl _ _ | (with_reducible refine Below.drew ?_) | (with_reducible refine Below.alloc ?_ (by (try simp); (try omega)) _) | (with_reducible refine Below.setCell ?_ (by (try simp); (try omega)) _) | (with_reducible refine Below.trans ?_ (Below.mono (by assumption) (by (try simp); (try omega))))))))) hl (Lib.hid (HCz.out _ (by (repeat (first | exact Below.refl _ _ | (with_reducible refine Below.drew ?_) | (with_reducible refine Below.alloc ?_ (by (try simp); (try omega)) _) | (with_reducible refine Below.setCell ?_ (by (try simp); (try omega)) _) | (with_reducible refine Below.trans ?_ (Below.mono (by assumption) (by (try simp); (try omega))))))))) (Lib.hid (HWz.out _ (by (repeat (first | exact Below.refl _ _ | (with_reducible refine Below.drew ?_) | (with_reducible refine Below.alloc ?_ (by (try simp); (try omega)) _) | (with_reducible refine Below.setCell ?_ (by (try simp); (try omega)) _) | (with_reducible refine Below.trans ?_ (Below.mono (by assumption) (by (try simp); (try omega))))))))) hc hw).mono ?_
  rintro e w1 ⟨rfl, hb1⟩
  have HN1 : Hid (NBox w1 w.heap.size VA cells.length ca (f : Int) VB W.length cb) := (nbox_at w VA cells.length ca (f : Int) VB W.length cb).below hb1
  have HB1 := Lib.hid (((Below.refl _ w).alloc (Nat.le_refl _) (.cells #[.slice VA cells.length ca, .int .i64 (f : Int), .slice VB W.length cb] 67)).trans (hb1.mono (by simp)))
  clear hb1
  rw [HK.out]
  obtain ⟨hnl, n0, n1, n2⟩ := HN1.out
  simp only []
  go_wp2_with fail
  refine (rr_new_ok m (by omega) (by omega) w1).mono ?_
  rintro e w2 ⟨rfl, hb2, hp2⟩
  have HO : Hid (OR w1 w1.heap.size (tookA m (arL L) (cells.take 0)) w2) := ⟨⟨[w1.heap.size], hp2, fun b hb => by simp at hb; omega⟩, hb2⟩
  have HN2 := Lib.hid (HN1.out.below hb2)
  clear n0 n1 n2 hnl hb2 hp2
  obtain ⟨hnl, n0, n1, n2⟩ := HN2.out
  simp only []
  go_wp2_with fail
  clear n0 n1 n2 hnl
  go_loopw [11] (fun i wr => ∃ k : Nat, i = .int .i64 k ∧ k ≤ cells.length ∧ Hid (OR w1 w1.heap.size (tookA m (arL L) (cells.take k)) wr)) (fun i _ => cells.length - (intOf i).toNat)
  case atStart => exact ⟨0, rfl, Nat.zero_le _, HO⟩
  case round =>
    obtain ⟨k, rfl, hkl, HR⟩ := hrel
    clear HO
    obtain ⟨hnl, n0, n1, n2⟩ := HN1.out.below HR.out.b
    by_cases hlt : k < cells.length
    · obtain ⟨b, off, rfl, hb, e0⟩ := HCz.out _ (HB1.out.trans (HR.out.b.mono HB1.out.size)) k hlt
      obtain ⟨x0, x1⟩ := HAG.out k hlt
      have hsn : cells.take (k + 1) = cells.take k ++ [cells.getD k 0] := by rw [List.take_add_one, List.getElem?_eq_getElem hlt, List.getD_eq_getElem?_getD, List.getElem?_eq_getElem hlt]; rfl
      have HSN := Lib.hid hsn
      clear hsn
      obtain ⟨a, ha⟩ := Int.eq_ofNat_of_zero_le x0
      rw [ha] at e0 x1 HSN
      clear ha x0
      have x2 : a < L.length := by omega
      obtain ⟨ba, oa, rfl, hba, d0, d1⟩ := HLz.out _ (HB1.out.trans (HR.out.b.mono HB1.out.size)) a x2
      obtain ⟨q1, q2, q3, q4⟩ := arL_pn HS.out (a := (a : Int)) (by omega) x1
      have hak : agA L a = arL L (a : Int) := rfl
      rw [hak] at d1
      have htk := tookA_take (most := m) (ar := arL L) (cells := cells.take k) (a := (a : Int)) (by simp; omega) q4
      rw [← HSN.out] at htk
      have HTK := Lib.hid htk
      have y0 : (0 : Int) ≤ (a : Int) := by omega
      have y1 : (0 : Int) ≤ (k : Int) := by omega
      have y2 : (k : Int) < (cells.length : Int) := by omega
      clear htk q1 q2 q3 q4 hak d0
      generalize arL L (a : Int) = r at d1 HTK
      go_wp2_with fail
      (refine region_tail 15 (by kernel_rfl) (by kernel_rfl) ?_; simp only [List.take_succ_cons, List.take_zero, List.drop_succ_cons, List.drop_zero]; repeat still_step; try refine wpStill_nil ?_)
      go_wp2_with (go_at_call 52; refine (or_take (HR.out.kept (Below.refl _ _).drew) (a : Int) r).mono ?_; rintro e w3 ⟨rfl, h5⟩; rw [HTK.out.2.2] at h5; have H5 := Lib.hid h5; clear h5)
      go_roundw
      case measure => simp [intOf]; omega
      case rel => exact ⟨k + 1, by go_num, by omega, H5⟩
    · obtain rfl : k = cells.length := by omega
      obtain ⟨wq, hwq⟩ : ∃ wq, wq = wr := ⟨_, rfl⟩
      subst hwq
      rw [List.take_length] at HR
      obtain ⟨FA, hp, hf⟩ := HR.out.f
      have HP := Lib.hid (And.intro hp hf)
      clear hp hf
      go_wp2_with (go_at_call 14; refine (rw_new_ok w1.heap.size (tookA m (arL L) cells) FA wq f hf64 HP.out.1).mono ?_; rintro e w4 ⟨rfl, ⟨F', hg4, hn4⟩, hb4⟩
                   have hO4 : OX w1 wq.heap.size w1.heap.size ((Wir.new (tookA m (arL L) cells) f).linkAll (W.take 0)) w4 := ⟨⟨F', hg4, fun b hb => by
                     rcases List.mem_cons.1 hb with rfl | hb
                     · exact HR.out.b.size
                     · rcases hn4 b hb with hb | hb
                       · exact HP.out.2 b hb
                       · exact Nat.le_trans HR.out.b.size hb⟩, HR.out.b.trans (hb4.mono HR.out.b.size)⟩
                   have HO4 := Lib.hid hO4
                   obtain ⟨hnl4, m0, m1, m2⟩ := HN1.out.below hO4.b
                   clear hg4 hb4 hO4 n0 n1 n2 hnl hn4)
      clear m0 m1 m2 hnl4
      go_loopw [14] (fun i wr => ∃ k : Nat, i = .int .i64 k ∧ k ≤ W.length ∧ Hid (OX w1 wq.heap.size w1.heap.size ((Wir.new (tookA m (arL L) cells) f).linkAll (W.take k)) wr)) (fun i _ => W.length - (intOf i).toNat)
      case atStart => exact ⟨0, rfl, Nat.zero_le _, HO4⟩
      case round =>
        obtain ⟨k, rfl, hk, HR2⟩ := hrel
        clear HO4
        obtain ⟨hnl, n0, n1, n2⟩ := HN1.out.below HR2.out.b
        by_cases hlt2 : k < W.length
        · obtain ⟨b, off, rfl, hb, e0, e1, e2, e3⟩ := HWz.out _ (HB1.out.trans (HR2.out.b.mono HB1.out.size)) k hlt2
          have hsn : W.take (k + 1) = W.take k ++ [W.getD k default] := by rw [List.take_add_one, List.getElem?_eq_getElem hlt2, List.getD_eq_getElem?_getD, List.getElem?_eq_getElem hlt2]; rfl
          have HSN := Lib.hid hsn
          clear hsn
          generalize W.getD k default = x at e0 e1 e2 e3 HSN
          obtain ⟨⟨x0, x1⟩, x2, x3⟩ := x
          have y1 : (0 : Int) ≤ (k : Int) := by omega
          have y2 : (k : Int) < (W.length : Int) := by omega
          go_wp2_with fail
          (refine region_tail 13 (by kernel_rfl) (by kernel_rfl) ?_; simp only [List.take_succ_cons, List.take_zero, List.drop_succ_cons, List.drop_zero]; repeat still_step; try refine wpStill_nil ?_)
          go_wp2_with (go_at_call 63; refine (ox_link (HR2.out.kept (Below.refl _ _).drew) x0 x1 x2 x3).mono ?_; rintro e w5 ⟨rfl, h5⟩
                       have H5 : Hid (OX w1 wq.heap.size w1.heap.size ((Wir.new (tookA m (arL L) cells) f).linkAll (W.take (k + 1))) w5) := by show OX _ _ _ _ _; rw [HSN.out, Wir.linkAll_snoc]; exact h5
                       clear h5)
          go_roundw
          case measure => simp [intOf]; omega
          case rel => exact ⟨k + 1, by go_num, by omega, H5⟩
        · obtain rfl : k = W.length := by omega
          rw [List.take_length] at HR2
          go_wp2_with fail
          go_ret2
          obtain ⟨FA, h1, h2⟩ := HR2.out.f
          exact ⟨_, _, rfl, ⟨FA, h1, fun b hb => Nat.le_trans HB1.out.size (h2 b hb)⟩, HB1.out.trans (HR2.out.b.mono HB1.out.size)⟩
/-- skeinref08.Load of any net, any size. -/
def RLdPost (w : World) (L : List (ByteArray × Int)) (cells : List Int) (free : Int) (W : List (Pt × Pt)) (most : Int) (e : Ending) (w' : World) : Prop :=
  (loadE L cells free W most ≠ 0 ∧ LdBad w (loadE L cells free W most) e w') ∨ (loadE L cells free W most = 0 ∧ ∃ B A', e = .returned (.tuple #[.pointer (some ⟨B, 0, none⟩), .int .i64 0]) ∧ OX w B A' (((Wir.new (tookA most.toNat (arL L) cells) free.toNat)).linkAll W) w')
theorem rload_is (hn : n = L.length) (hcap : L.length ≤ cap) (HL : Hid (AgRd w A L)) (hl : L.length ≤ maxLen) (HC : Hid (IntsRd w VA cells)) (HW : Hid (WrRd w VB W)) (hc : cells.length ≤ 10000) (hw : W.length ≤ 40000) :
    Calls Try.prog 37 #[.slice A n cap, netV VA ca cells free VB cb W, .int .i64 most] w (RLdPost w L cells free W most) := by
  by_cases hk : (netChk (pnL L) L.length (chk L) cells free W).1 = 0
  · by_cases h1 : most < 1 ∨ 4096 < most
    · have e : loadE L cells free W most = 1 := by unfold loadE; rw [if_neg (fun h => h hk), if_pos h1]
      refine (rload_bad2 A n cap L VA VB ca cb cells free W most w hn hcap HL hl HC HW hc hw hk h1).mono fun e' w' h => .inl ?_
      rw [e]; exact ⟨by decide, h⟩
    · obtain ⟨m, rfl⟩ := Int.eq_ofNat_of_zero_le (by omega : 0 ≤ most)
      by_cases h3 : (m : Int) < cells.length
      · have e : loadE L cells free W m = 40 := by unfold loadE; rw [if_neg (fun h => h hk), if_neg h1, if_pos h3]
        refine (rload_full A n cap L VA VB ca cb cells free W w m hn hcap HL hl HC HW hc hw hk (by omega) (by omega) (by omega)).mono fun e' w' h => .inl ?_
        rw [e]; exact ⟨by decide, h⟩
      · have e : loadE L cells free W m = 0 := by unfold loadE; rw [if_neg (fun h => h hk), if_neg h1, if_neg h3]
        exact (rload_good A n cap L VA VB ca cb cells free W m w hn hcap HL hl HC HW hc hw hk (by omega) (by omega) (by omega)).mono fun e' w' h => .inr ⟨e, h⟩
  · have e : loadE L cells free W most = (netChk (pnL L) L.length (chk L) cells free W).1 := by unfold loadE; rw [if_pos hk]
    refine (rload_bad1 A n cap L VA VB ca cb cells free W most w hn hcap HL hl HC HW hc hw hk).mono fun e' w' h => .inl ?_
    rw [e]; exact ⟨hk, h⟩
end
end Go.Proofs.Ythbobooiedcofaa
