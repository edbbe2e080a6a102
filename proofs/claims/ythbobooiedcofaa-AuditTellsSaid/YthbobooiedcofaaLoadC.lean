/-
  load.Load.
-/
import Derived.Test.YthbobooiedcofaaWirWorks
import Derived.Test.YthbobooiedcofaaLoadPlain
import Derived.Test.YthbobooiedcofaaNetTop
namespace Go.Proofs.Ythbobooiedcofaa
open Go.RowKit
attribute [local go_sem] cell_set
set_option maxRecDepth 100000
set_option linter.unusedVariables false

/-- An arena in new memory. -/
structure OA (w0 : World) (A : Nat) (S : Ars) (W : World) : Prop where
  f : ∃ FA, PA W A S FA ∧ ∀ b ∈ FA, w0.heap.size ≤ b
  b : Below w0.heap.size w0 W
theorem OA.kept {w0 W W' : World} {A : Nat} {S : Ars} (h : OA w0 A S W) (hb : Below W.heap.size W W') : OA w0 A S W' := by
  obtain ⟨⟨FA, hg, hf⟩, hw⟩ := h
  exact ⟨⟨FA, hg.below hb, hf⟩, hw.trans (hb.mono hw.size)⟩
theorem oa_take {w0 W : World} {A : Nat} {S : Ars} (h : OA w0 A S W) (ag ar : Int) : Calls Try.prog 51 #[.pointer (some ⟨A, 0, none⟩), .int .i64 ag, .int .i64 ar] W fun e w' => e = .returned (.tuple #[.int .i64 (S.takeC ag ar), .int .i64 (S.takeE ag ar)]) ∧ OA w0 A (S.take ag ar) w' := by
  obtain ⟨⟨FA, hg, hf⟩, hw⟩ := h
  refine (ar_take A S FA ag ar W hg).mono fun e w' ⟨he, ⟨F', h1, hn⟩, h2⟩ => ⟨he, ⟨F', h1, fun b hb => ?_⟩, hw.trans (h2.below hw.size hf)⟩
  rcases hn b hb with hb | hb
  · exact hf b hb
  · exact Nat.le_trans hw.size hb
structure LdBox (X : World) (b : Nat) (V1 : Option Addr) (n1 c1 : Nat) (f : Nat) (V2 : Option Addr) (n2 c2 : Nat) : Prop where
  c0 : X.cell? ⟨b, 0, none⟩ = some (.slice V1 n1 c1)
  c1 : X.cell? ⟨b, 1, none⟩ = some (.int .i64 (f : Int))
  c2 : X.cell? ⟨b, 2, none⟩ = some (.slice V2 n2 c2)
theorem LdBox.below {X X' : World} {b : Nat} {V1 : Option Addr} {n1 c1 f : Nat} {V2 : Option Addr} {n2 c2 : Nat} (h : LdBox X b V1 n1 c1 f V2 n2 c2) (hb : Below X.heap.size X X') (hl : b < X.heap.size) : LdBox X' b V1 n1 c1 f V2 n2 c2 :=
  ⟨(hb.cell (p := ⟨b, 0, none⟩) hl).trans h.c0, (hb.cell (p := ⟨b, 1, none⟩) hl).trans h.c1, (hb.cell (p := ⟨b, 2, none⟩) hl).trans h.c2⟩
/-- What Load answers. -/
def loadE (L : List (ByteArray × Int)) (cells : List Int) (free : Int) (W : List (Pt × Pt)) (most : Int) : Int :=
  if (netChk (pnL L) L.length (chk L) cells free W).1 ≠ 0 then (netChk (pnL L) L.length (chk L) cells free W).1 else if most < 1 ∨ 4096 < most then 1 else if most < cells.length then 40 else 0
def arL (L : List (ByteArray × Int)) (a : Int) : Int := agA L a.toNat
theorem arL_pn {L : List (ByteArray × Int)} (hs : SigOk L) {a : Int} (h0 : 0 ≤ a) (h1 : a < L.length) : (arL L a).toNat + 1 = pnL L a ∧ 0 ≤ arL L a ∧ arL L a ≤ 6 ∧ ¬ Ars.bad a (arL L a) := by
  have h2 := hs.ar a.toNat (by omega)
  have hl := hs.len
  have e : portsN L a = agA L a.toNat + 1 := by unfold portsN; rw [if_neg (by omega)]
  unfold pnL
  rw [e]
  unfold arL Ars.bad
  omega
section
variable (A : Option Addr) (n cap : Nat) (L : List (ByteArray × Int)) (VA VB : Option Addr) (ca cb : Nat) (cells : List Int) (free : Int) (W : List (Pt × Pt)) (most : Int) (w : World)
def LdBad (w : World) (k : Int) (e : Ending) (w' : World) : Prop := e = .returned (.tuple #[.pointer none, .int .i64 k]) ∧ Below w.heap.size w w'
set_option maxHeartbeats 1000000 in
theorem load_bad1 (hn : n = L.length) (hcap : L.length ≤ cap) (HL : Hid (AgRd w A L)) (hl : L.length ≤ maxLen) (HC : Hid (IntsRd w VA cells)) (HW : Hid (WrRd w VB W)) (hc : cells.length ≤ 10000) (hw : W.length ≤ 40000)
    (hk : (netChk (pnL L) L.length (chk L) cells free W).1 ≠ 0) :
    Calls Try.prog 30 #[.slice A n cap, netV VA ca cells free VB cb W, .int .i64 most] w (LdBad w (netChk (pnL L) L.length (chk L) cells free W).1) := by
  subst hn
  have hbA : ∀ o : Obj, Below w.heap.size w (w.alloc o) := fun o => (Below.refl _ _).alloc (Nat.le_refl _) o
  generalize hK : netChk (pnL L) L.length (chk L) cells free W = K at hk
  have hkb : (K.1 != 0) = true := by simpa using hk
  have HK := Lib.hid hK
  have HK2 := Lib.hid hk
  clear hK hk
  go_enter Try.func30, Try.ntmps30
  go_wp2_with (go_at_call 29; refine (net_tidy_bad A _ cap L VA VB ca cb cells free W _ rfl hcap (Lib.hid (HL.out.below (hbA _))) hl (Lib.hid (HC.out.below (hbA _))) (Lib.hid (HW.out.below (hbA _))) hc hw (by rw [HK.out]; exact HK2.out)).mono ?_; rintro e w1 ⟨rfl, hb1⟩; rw [HK.out]; have hz1 := hb1.size; simp only [World.size_alloc] at hz1)
  go_ret2
  exact ⟨rfl, by (repeat (first | exact Below.refl _ _ | (with_reducible refine Below.drew ?_) | (with_reducible refine Below.alloc ?_ (by (try simp); (try omega)) _) | (with_reducible refine Below.setCell ?_ (by (try simp); (try omega)) _) | (with_reducible refine Below.trans ?_ (Below.mono (by assumption) (by (try simp); (try omega))))))⟩
set_option maxHeartbeats 1000000 in
theorem load_bad2 (hn : n = L.length) (hcap : L.length ≤ cap) (HL : Hid (AgRd w A L)) (hl : L.length ≤ maxLen) (HC : Hid (IntsRd w VA cells)) (HW : Hid (WrRd w VB W)) (hc : cells.length ≤ 10000) (hw : W.length ≤ 40000)
    (hk : (netChk (pnL L) L.length (chk L) cells free W).1 = 0) (h1 : most < 1 ∨ 4096 < most) :
    Calls Try.prog 30 #[.slice A n cap, netV VA ca cells free VB cb W, .int .i64 most] w (LdBad w 1) := by
  subst hn
  obtain ⟨hz, hc4, hf0, hf64, hag, hok⟩ := netChk_ok hk
  obtain ⟨f, rfl⟩ := Int.eq_ofNat_of_zero_le hf0
  have hbA : ∀ o : Obj, Below w.heap.size w (w.alloc o) := fun o => (Below.refl _ _).alloc (Nat.le_refl _) o
  have HK := Lib.hid hk
  obtain ⟨T, hT⟩ : ∃ T, tidyW (allPs (pnL L) cells f) W = T := ⟨_, rfl⟩
  have HT := Lib.hid hT
  clear hk hok hz hag hT
  obtain ⟨m, hm⟩ : ∃ m, most = m := ⟨_, rfl⟩
  subst hm
  go_enter Try.func30, Try.ntmps30
  go_wp2_with (go_at_call 29; refine (net_tidy_ok A _ cap L VA VB ca cb cells f W _ rfl hcap (Lib.hid (HL.out.below (hbA _))) hl (Lib.hid (HC.out.below (hbA _))) (Lib.hid (HW.out.below (hbA _))) hc hw HK.out).mono ?_; rintro e w1 ⟨V1, c1, V2, c2, rfl, hnf⟩; rw [show ((f : Int)).toNat = f from rfl, HT.out] at hnf ⊢; have HNF := Lib.hid hnf; have hz1 := hnf.1.2.2.size; simp only [World.size_alloc] at hz1; clear hnf)
  have hX : Below w.heap.size w (w1.alloc (.cells #[.slice V1 cells.length c1, .int .i64 (f : Int), .slice V2 T.length c2] 67)) := by have := HNF.out.1.2.2; (repeat (first | exact Below.refl _ _ | (with_reducible refine Below.drew ?_) | (with_reducible refine Below.alloc ?_ (by (try simp); (try omega)) _) | (with_reducible refine Below.setCell ?_ (by (try simp); (try omega)) _) | (with_reducible refine Below.trans ?_ (Below.mono (by assumption) (by (try simp); (try omega))))))
  have hx0 : w1.heap.size < (w1.alloc (.cells #[.slice V1 cells.length c1, .int .i64 (f : Int), .slice V2 T.length c2] 67)).heap.size := by simp
  have hx1 : LdBox (w1.alloc (.cells #[.slice V1 cells.length c1, .int .i64 (f : Int), .slice V2 T.length c2] 67)) w1.heap.size V1 cells.length c1 f V2 T.length c2 := ⟨by go_simp, by go_simp, by go_simp⟩
  have hx2 : IntsRd (w1.alloc (.cells #[.slice V1 cells.length c1, .int .i64 (f : Int), .slice V2 T.length c2] 67)) V1 cells := (Row.ints HNF.out.1.1).below ((Below.refl _ _).alloc (Nat.le_refl _) _)
  have hx3 : WrRd (w1.alloc (.cells #[.slice V1 cells.length c1, .int .i64 (f : Int), .slice V2 T.length c2] 67)) V2 T := (Row.wires HNF.out.2.1).below ((Below.refl _ _).alloc (Nat.le_refl _) _)
  generalize (w1.alloc (.cells #[.slice V1 cells.length c1, .int .i64 (f : Int), .slice V2 T.length c2] 67)) = X at hX hx0 hx1 hx2 hx3 ⊢
  have HX := Lib.hid (And.intro hX (And.intro hx2 hx3))
  have HBX := Lib.hid hx1
  clear hX hx1 hx2 hx3 HNF
  refine (ar_new_bad most h1 X).mono ?_
  rintro e w2 ⟨rfl, rfl⟩
  simp only []
  go_wp2_with fail
  go_ret2
  exact ⟨rfl, HX.out.1⟩
set_option maxHeartbeats 1000000 in
theorem load_full (m : Nat) (hn : n = L.length) (hcap : L.length ≤ cap) (HL : Hid (AgRd w A L)) (hl : L.length ≤ maxLen) (HC : Hid (IntsRd w VA cells)) (HW : Hid (WrRd w VB W)) (hc : cells.length ≤ 10000) (hw : W.length ≤ 40000)
    (hk : (netChk (pnL L) L.length (chk L) cells free W).1 = 0) (h1 : 1 ≤ m) (h2 : m ≤ 4096) (h3 : m < cells.length) :
    Calls Try.prog 30 #[.slice A n cap, netV VA ca cells free VB cb W, .int .i64 (m : Int)] w (LdBad w 40) := by
  subst hn
  obtain ⟨hz, hc4, hf0, hf64, hag, hok⟩ := netChk_ok hk
  obtain ⟨f, rfl⟩ := Int.eq_ofNat_of_zero_le hf0
  have hbA : ∀ o : Obj, Below w.heap.size w (w.alloc o) := fun o => (Below.refl _ _).alloc (Nat.le_refl _) o
  have HK := Lib.hid hk
  obtain ⟨T, hT⟩ : ∃ T, tidyW (allPs (pnL L) cells f) W = T := ⟨_, rfl⟩
  have HT := Lib.hid hT
  clear hk hok hz hag hT
  go_enter Try.func30, Try.ntmps30
  go_wp2_with (go_at_call 29; refine (net_tidy_ok A _ cap L VA VB ca cb cells f W _ rfl hcap (Lib.hid (HL.out.below (hbA _))) hl (Lib.hid (HC.out.below (hbA _))) (Lib.hid (HW.out.below (hbA _))) hc hw HK.out).mono ?_; rintro e w1 ⟨V1, c1, V2, c2, rfl, hnf⟩; rw [show ((f : Int)).toNat = f from rfl, HT.out] at hnf ⊢; have HNF := Lib.hid hnf; have hz1 := hnf.1.2.2.size; simp only [World.size_alloc] at hz1; clear hnf)
  have hX : Below w.heap.size w (w1.alloc (.cells #[.slice V1 cells.length c1, .int .i64 (f : Int), .slice V2 T.length c2] 67)) := by have := HNF.out.1.2.2; (repeat (first | exact Below.refl _ _ | (with_reducible refine Below.drew ?_) | (with_reducible refine Below.alloc ?_ (by (try simp); (try omega)) _) | (with_reducible refine Below.setCell ?_ (by (try simp); (try omega)) _) | (with_reducible refine Below.trans ?_ (Below.mono (by assumption) (by (try simp); (try omega))))))
  have hx0 : w1.heap.size < (w1.alloc (.cells #[.slice V1 cells.length c1, .int .i64 (f : Int), .slice V2 T.length c2] 67)).heap.size := by simp
  have hx1 : LdBox (w1.alloc (.cells #[.slice V1 cells.length c1, .int .i64 (f : Int), .slice V2 T.length c2] 67)) w1.heap.size V1 cells.length c1 f V2 T.length c2 := ⟨by go_simp, by go_simp, by go_simp⟩
  have hx2 : IntsRd (w1.alloc (.cells #[.slice V1 cells.length c1, .int .i64 (f : Int), .slice V2 T.length c2] 67)) V1 cells := (Row.ints HNF.out.1.1).below ((Below.refl _ _).alloc (Nat.le_refl _) _)
  have hx3 : WrRd (w1.alloc (.cells #[.slice V1 cells.length c1, .int .i64 (f : Int), .slice V2 T.length c2] 67)) V2 T := (Row.wires HNF.out.2.1).below ((Below.refl _ _).alloc (Nat.le_refl _) _)
  generalize (w1.alloc (.cells #[.slice V1 cells.length c1, .int .i64 (f : Int), .slice V2 T.length c2] 67)) = X at hX hx0 hx1 hx2 hx3 ⊢
  have HX := Lib.hid (And.intro hX (And.intro hx2 hx3))
  have HBX := Lib.hid hx1
  clear hX hx1 hx2 hx3 HNF
  refine (ar_new_ok m (by omega) (by omega) X).mono ?_
  rintro e w2 ⟨rfl, hb2, hp2⟩
  have HB2 := Lib.hid (HX.out.1.trans (hb2.mono HX.out.1.size))
  obtain ⟨b0, b1, b2⟩ := HBX.out.below hb2 hx0
  have h3' : ((m : Int) < (cells.length : Int)) := by omega
  clear hb2 hp2
  simp only []
  go_wp2_with fail
  go_ret2
  exact ⟨rfl, HB2.out⟩
set_option maxHeartbeats 1000000 in
theorem load_good (hn : n = L.length) (hcap : L.length ≤ cap) (HL : Hid (AgRd w A L)) (hl : L.length ≤ maxLen) (HC : Hid (IntsRd w VA cells)) (HW : Hid (WrRd w VB W)) (hc : cells.length ≤ 10000) (hw : W.length ≤ 40000)
    (hk : (netChk (pnL L) L.length (chk L) cells free W).1 = 0) (h1 : 1 ≤ most) (h2 : most ≤ 4096) (h3 : (cells.length : Int) ≤ most) :
    Calls Try.prog 30 #[.slice A n cap, netV VA ca cells free VB cb W, .int .i64 most] w fun e w' => ∃ B A', e = .returned (.tuple #[.pointer (some ⟨B, 0, none⟩), .int .i64 0]) ∧ OW w B A' (((Wir.new (tookA most.toNat (arL L) cells) free.toNat)).linkAll (tidyW (allPs (pnL L) cells free.toNat) W)) w' := by
  subst hn
  obtain ⟨hz, hc4, hf0, hf64, hag, hok⟩ := netChk_ok hk
  obtain ⟨f, rfl⟩ := Int.eq_ofNat_of_zero_le hf0
  obtain ⟨m, rfl⟩ := Int.eq_ofNat_of_zero_le (by omega : 0 ≤ most)
  have hs := chk_sig hz
  have hll := hs.len
  have hbA : ∀ o : Obj, Below w.heap.size w (w.alloc o) := fun o => (Below.refl _ _).alloc (Nat.le_refl _) o
  have HK := Lib.hid hk
  have HOk : Hid (NetOk (pnL L) cells f W) := hok
  have HS := Lib.hid hs
  have HAG := Lib.hid hag
  rw [show ((f : Int)).toNat = f from rfl, show ((m : Int)).toNat = m from rfl]
  have htl : (tidyW (allPs (pnL L) cells f) W).length ≤ 40000 := by
    have h1 : (tidyW (allPs (pnL L) cells f) W).length ≤ (allPs (pnL L) cells f).length := List.length_filterMap_le _ _
    have h2 := firstN_le (pnL_le hs) cells f cells.length
    rw [allPs_len] at h1
    omega
  obtain ⟨T, hT⟩ : ∃ T, tidyW (allPs (pnL L) cells f) W = T := ⟨_, rfl⟩
  rw [hT] at htl ⊢
  have HT := Lib.hid hT
  clear hk hok hz hag hs hT
  go_enter Try.func30, Try.ntmps30
  go_wp2_with (go_at_call 29; refine (net_tidy_ok A _ cap L VA VB ca cb cells f W _ rfl hcap (Lib.hid (HL.out.below (hbA _))) hl (Lib.hid (HC.out.below (hbA _))) (Lib.hid (HW.out.below (hbA _))) hc hw HK.out).mono ?_; rintro e w1 ⟨V1, c1, V2, c2, rfl, hnf⟩; rw [show ((f : Int)).toNat = f from rfl, HT.out] at hnf ⊢; have HNF := Lib.hid hnf; have hz1 := hnf.1.2.2.size; simp only [World.size_alloc] at hz1; clear hnf)
  have hX : Below w.heap.size w (w1.alloc (.cells #[.slice V1 cells.length c1, .int .i64 (f : Int), .slice V2 T.length c2] 67)) := by have := HNF.out.1.2.2; (repeat (first | exact Below.refl _ _ | (with_reducible refine Below.drew ?_) | (with_reducible refine Below.alloc ?_ (by (try simp); (try omega)) _) | (with_reducible refine Below.setCell ?_ (by (try simp); (try omega)) _) | (with_reducible refine Below.trans ?_ (Below.mono (by assumption) (by (try simp); (try omega))))))
  have hx0 : w1.heap.size < (w1.alloc (.cells #[.slice V1 cells.length c1, .int .i64 (f : Int), .slice V2 T.length c2] 67)).heap.size := by simp
  have hx1 : LdBox (w1.alloc (.cells #[.slice V1 cells.length c1, .int .i64 (f : Int), .slice V2 T.length c2] 67)) w1.heap.size V1 cells.length c1 f V2 T.length c2 := ⟨by go_simp, by go_simp, by go_simp⟩
  have hx2 : IntsRd (w1.alloc (.cells #[.slice V1 cells.length c1, .int .i64 (f : Int), .slice V2 T.length c2] 67)) V1 cells := (Row.ints HNF.out.1.1).below ((Below.refl _ _).alloc (Nat.le_refl _) _)
  have hx3 : WrRd (w1.alloc (.cells #[.slice V1 cells.length c1, .int .i64 (f : Int), .slice V2 T.length c2] 67)) V2 T := (Row.wires HNF.out.2.1).below ((Below.refl _ _).alloc (Nat.le_refl _) _)
  generalize (w1.alloc (.cells #[.slice V1 cells.length c1, .int .i64 (f : Int), .slice V2 T.length c2] 67)) = X at hX hx0 hx1 hx2 hx3 ⊢
  have HX := Lib.hid (And.intro hX (And.intro hx2 hx3))
  have HBX := Lib.hid hx1
  clear hX hx1 hx2 hx3 HNF
  refine (ar_new_ok m (by omega) (by omega) X).mono ?_
  rintro e w2 ⟨rfl, hb2, hp2⟩
  have hO : OA X X.heap.size (tookA m (arL L) (cells.take 0)) w2 := ⟨⟨[X.heap.size], hp2, fun b hb => by simp at hb; omega⟩, hb2⟩
  have HO := Lib.hid hO
  obtain ⟨b0, b1, b2⟩ := HBX.out.below hb2 hx0
  have h3' : ¬ ((m : Int) < (cells.length : Int)) := by omega
  clear hb2 hp2 hO
  simp only []
  go_wp2_with fail
  clear b0 b1 b2
  go_loopw [41] (fun i wr => ∃ k : Nat, i = .int .i64 k ∧ k ≤ cells.length ∧ Hid (OA X X.heap.size (tookA m (arL L) (cells.take k)) wr)) (fun i _ => cells.length - (intOf i).toNat)
  case atStart => exact ⟨0, rfl, Nat.zero_le _, HO⟩
  case round =>
    obtain ⟨k, rfl, hkl, HR⟩ := hrel
    clear HO
    by_cases hlt : k < cells.length
    · obtain ⟨b, off, rfl, hb, e0⟩ := HX.out.2.1 k hlt
      have c0 := (HR.out.b.cell (p := ⟨b, off + k, none⟩) hb).trans e0
      clear e0
      obtain ⟨x0, x1⟩ := HAG.out k hlt
      have hsn : cells.take (k + 1) = cells.take k ++ [cells.getD k 0] := by rw [List.take_add_one, List.getElem?_eq_getElem hlt, List.getD_eq_getElem?_getD, List.getElem?_eq_getElem hlt]; rfl
      have HSN := Lib.hid hsn
      clear hsn
      obtain ⟨a, ha⟩ := Int.eq_ofNat_of_zero_le x0
      rw [ha] at c0 x1 HSN
      clear ha x0
      have x2 : a < L.length := by omega
      obtain ⟨ba, oa, rfl, hba, d0, d1⟩ := HL.out a x2
      have d2 := ((HX.out.1.trans (HR.out.b.mono HX.out.1.size)).cell (p := ⟨ba, oa + a * 2 + 1, none⟩) hba).trans d1
      clear d0 d1
      obtain ⟨q1, q2, q3, q4⟩ := arL_pn HS.out (a := (a : Int)) (by omega) x1
      have hak : agA L a = arL L (a : Int) := rfl
      rw [hak] at d2
      have htk := tookA_take (most := m) (ar := arL L) (cells := cells.take k) (a := (a : Int)) (by simp; omega) q4
      rw [← HSN.out] at htk
      have HTK := Lib.hid htk
      clear htk q1 q2 q3 q4 hak x1
      generalize arL L (a : Int) = r at d2 HTK
      go_wp2_with (go_at_call 51; refine (oa_take HR.out (a : Int) r).mono ?_; rintro e w3 ⟨rfl, h5⟩; rw [HTK.out.2.2] at h5; have H5 := Lib.hid h5; clear h5)
      go_roundw
      case measure => simp [intOf]; omega
      case rel => exact ⟨k + 1, by go_num, by omega, H5⟩
    · obtain rfl : k = cells.length := by omega
      obtain ⟨wq, hwq⟩ : ∃ wq, wq = wr := ⟨_, rfl⟩
      subst hwq
      rw [List.take_length] at HR
      obtain ⟨b0, b1, b2⟩ := HBX.out.below HR.out.b hx0
      obtain ⟨FA, hp, hf⟩ := HR.out.f
      have HP := Lib.hid (And.intro hp hf)
      clear hp hf
      go_wp2_with (go_at_call 13; refine (wi_new_ok X.heap.size (tookA m (arL L) cells) FA wq f (by omega) HP.out.1).mono ?_; rintro e w4 ⟨rfl, hg4, hb4⟩
                   have hO4 : OW X wq.heap.size X.heap.size ((Wir.new (tookA m (arL L) cells) f).linkAll (T.take 0)) w4 := ⟨⟨FA, hg4, fun b hb => by
                     rcases List.mem_cons.1 hb with rfl | hb
                     · exact HR.out.b.size
                     · exact HP.out.2 b hb⟩, HR.out.b.trans (hb4.mono HR.out.b.size)⟩
                   have HO4 := Lib.hid hO4
                   obtain ⟨y0, y1, y2⟩ := HBX.out.below hO4.b hx0
                   clear hg4 hb4 hO4 b0 b1 b2)
      clear y0 y1 y2
      go_loopw [67] (fun i wr => ∃ k : Nat, i = .int .i64 k ∧ k ≤ T.length ∧ Hid (OW X wq.heap.size X.heap.size ((Wir.new (tookA m (arL L) cells) f).linkAll (T.take k)) wr)) (fun i _ => T.length - (intOf i).toNat)
      case atStart => exact ⟨0, rfl, Nat.zero_le _, HO4⟩
      case round =>
        obtain ⟨k, rfl, hk, HR2⟩ := hrel
        clear HO4
        by_cases hlt2 : k < T.length
        · obtain ⟨b, off, rfl, hb, e0, e1, e2, e3⟩ := HX.out.2.2 k hlt2
          have d0 := (HR2.out.b.cell (p := ⟨b, off + k * 4, none⟩) hb).trans e0
          have d1 := (HR2.out.b.cell (p := ⟨b, off + k * 4 + 1, none⟩) hb).trans e1
          have d2 := (HR2.out.b.cell (p := ⟨b, off + k * 4 + 2, none⟩) hb).trans e2
          have d3 := (HR2.out.b.cell (p := ⟨b, off + k * 4 + 3, none⟩) hb).trans e3
          clear e0 e1 e2 e3
          have hsn : T.take (k + 1) = T.take k ++ [T.getD k default] := by rw [List.take_add_one, List.getElem?_eq_getElem hlt2, List.getD_eq_getElem?_getD, List.getElem?_eq_getElem hlt2]; rfl
          have HSN := Lib.hid hsn
          clear hsn
          generalize T.getD k default = x at d0 d1 d2 d3 HSN
          obtain ⟨⟨x0, x1⟩, x2, x3⟩ := x
          have hbz : b < wr.heap.size := by have := HR2.out.b.size; omega
          go_wp2_with (go_at_call 20; refine (ow_link (HR2.out.kept ((Below.refl _ _).alloc (Nat.le_refl _) _)) x0 x1 x2 x3).mono ?_; rintro e w5 ⟨rfl, h5⟩
                       have H5 : Hid (OW X wq.heap.size X.heap.size ((Wir.new (tookA m (arL L) cells) f).linkAll (T.take (k + 1))) w5) := by show OW _ _ _ _ _; rw [HSN.out, Wir.linkAll_snoc]; exact h5
                       clear h5)
          go_roundw
          case measure => simp [intOf]; omega
          case rel => exact ⟨k + 1, by go_num, by omega, H5⟩
        · obtain rfl : k = T.length := by omega
          rw [List.take_length] at HR2
          go_wp2_with fail
          go_ret2
          obtain ⟨FA, h1, h2⟩ := HR2.out.f
          exact ⟨_, _, rfl, ⟨FA, h1, fun b hb => Nat.le_trans HX.out.1.size (h2 b hb)⟩, HX.out.1.trans (HR2.out.b.mono HX.out.1.size)⟩
/-- load.Load of any net, any size. -/
def LdPost (w : World) (L : List (ByteArray × Int)) (cells : List Int) (free : Int) (W : List (Pt × Pt)) (most : Int) (e : Ending) (w' : World) : Prop :=
  (loadE L cells free W most ≠ 0 ∧ LdBad w (loadE L cells free W most) e w') ∨ (loadE L cells free W most = 0 ∧ ∃ B A', e = .returned (.tuple #[.pointer (some ⟨B, 0, none⟩), .int .i64 0]) ∧ OW w B A' (((Wir.new (tookA most.toNat (arL L) cells) free.toNat)).linkAll (tidyW (allPs (pnL L) cells free.toNat) W)) w')
theorem load_is (hn : n = L.length) (hcap : L.length ≤ cap) (HL : Hid (AgRd w A L)) (hl : L.length ≤ maxLen) (HC : Hid (IntsRd w VA cells)) (HW : Hid (WrRd w VB W)) (hc : cells.length ≤ 10000) (hw : W.length ≤ 40000) :
    Calls Try.prog 30 #[.slice A n cap, netV VA ca cells free VB cb W, .int .i64 most] w (LdPost w L cells free W most) := by
  by_cases hk : (netChk (pnL L) L.length (chk L) cells free W).1 = 0
  · by_cases h1 : most < 1 ∨ 4096 < most
    · have e : loadE L cells free W most = 1 := by unfold loadE; rw [if_neg (fun h => h hk), if_pos h1]
      refine (load_bad2 A n cap L VA VB ca cb cells free W most w hn hcap HL hl HC HW hc hw hk h1).mono fun e' w' h => .inl ?_
      rw [e]; exact ⟨by decide, h⟩
    · obtain ⟨m, rfl⟩ := Int.eq_ofNat_of_zero_le (by omega : 0 ≤ most)
      by_cases h3 : (m : Int) < cells.length
      · have e : loadE L cells free W m = 40 := by unfold loadE; rw [if_neg (fun h => h hk), if_neg h1, if_pos h3]
        refine (load_full A n cap L VA VB ca cb cells free W w m hn hcap HL hl HC HW hc hw hk (by omega) (by omega) (by omega)).mono fun e' w' h => .inl ?_
        rw [e]; exact ⟨by decide, h⟩
      · have e : loadE L cells free W m = 0 := by unfold loadE; rw [if_neg (fun h => h hk), if_neg h1, if_neg h3]
        exact (load_good A n cap L VA VB ca cb cells free W m w hn hcap HL hl HC HW hc hw hk (by omega) (by omega) (by omega)).mono fun e' w' h => .inr ⟨e, h⟩
  · have e : loadE L cells free W most = (netChk (pnL L) L.length (chk L) cells free W).1 := by unfold loadE; rw [if_pos hk]
    refine (load_bad1 A n cap L VA VB ca cb cells free W most w hn hcap HL hl HC HW hc hw hk).mono fun e' w' h => .inl ?_
    rw [e]; exact ⟨hk, h⟩
end
end Go.Proofs.Ythbobooiedcofaa
