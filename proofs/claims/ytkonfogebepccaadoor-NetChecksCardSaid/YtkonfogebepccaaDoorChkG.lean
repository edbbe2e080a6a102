/-
  The statement NetChecks: its answers are memory of their own; the whole walk.
-/
import Derived.Test.YtkonfogebepccaaDoorChkF
namespace Go.Proofs.YtkonfogebepccaaDoor
open Go.RowKit Go.Shelf
attribute [local go_sem] cell_set
set_option maxRecDepth 100000
set_option linter.unusedVariables false

theorem Fresh.ap {w X Y Z : World} {e e' : TypeId} {s s' n n' : Nat} {v v' : Value} {xs xs' : List Value} (h : Fresh w X e s n v xs) (h' : Fresh X Y e' s' n' v' xs') : ∀ b ∈ ownB v, b ∉ ownB v' := fun b hb hb' => by
  have := h.1.lt b hb; have := h'.2.1 b hb'; omega
section
variable (Q : Exit → Act → World → Prop) (A : Option Addr) (n cap : Nat) (L : List (ByteArray × Int)) (VA VB : Option Addr) (ca cb : Nat) (cells : List Int) (f : Nat) (W : List (Pt × Pt)) (w : World)
set_option maxHeartbeats 4000000 in
theorem nc_24 (a : Act) (X : World) (b6 g1 g2 : Nat) (V5 : Option Addr) (c5 : Nat) (PS ES : List Pt) (T : List (Pt × Pt)) (PR : List Pt) (Vp Ve V1 V2 Vq : Option Addr) (cp ce bt c1 c2 cq : Nat) (hl : L.length ≤ 1024) (h5 : L.length ≤ c5) (hcA : cells.length ≤ 5000) (hwA : W.length ≤ 32768)
    (hk : (netChk (pnL L) L.length (chk L) cells f W).1 = 0) (hPS : allPs (pnL L) cells f = PS) (hT : tidyW PS W = T) (hPl : PS.length ≤ 100000) (hTl : T.length ≤ 100000) (hQl : PR.length ≤ 100000)
    (hret : Hid (∀ a' X, FrN 214 [] [(4, .bool true)] a' → Below w.heap.size w X → Q .ret a' X))
    (ho : Hid (CkO w X b6 g1 g2 VA VB V5 ca cb L cells f W Vp Ve V1 V2 Vq cp ce bt c1 c2 cq PS ES T PR))
    (ha : FrN 214 [] [(0, .slice A n cap), (3, .pointer (some ⟨w.heap.size, 0, none⟩)), (5, .slice V5 L.length c5), (6, .pointer (some ⟨b6, 0, none⟩)), (11, .slice Vp PS.length cp), (13, .slice Ve PS.length ce), (15, .pointer (some ⟨bt, 0, none⟩)), (17, .slice Vq PR.length cq)] a) : (ncT 24).wp Tryd.prog Q a X := by
  obtain ⟨U, rfl, e0, e3, e5, e6, e11, e13, e15, e17, -⟩ := ha.openNC
  have HO := ho
  unfold FrNC
  simp only [e0, e3, e5, e6, e11, e13, e15, e17]
  clear e0 e3 e5 e6 e11 e13 e15 e17 ha ho
  show (Code.seq _ _).wp _ _ _ _
  have H3 : Hid (Calls Tryd.prog 27 #[.slice V5 L.length c5, .agg #[.slice (some ⟨g1, 0, none⟩) cells.length (cells.length + 64), .int .i64 (f : Int), .slice (some ⟨g2, 0, none⟩) W.length (W.length + 64)]] X fun e w' => ∃ V1 c1 V2 c2, e = .returned (.tuple #[netV V1 c1 cells f V2 c2 T, .int .i64 0]) ∧ NetFresh X w' V1 c1 cells V2 c2 T) := by
    have hz := HO.out.s
    have := net_tidy_ok V5 _ c5 L (some ⟨g1, 0, none⟩) (some ⟨g2, 0, none⟩) (cells.length + 64) (W.length + 64) cells f W X rfl h5 (Lib.hid hz.ag) (by unfold maxLen; omega) (Lib.hid hz.wd.ints) (Lib.hid hz.wd.wires) (by omega) (by omega) hk
    rw [Int.toNat_natCast, hPS, hT] at this
    exact this
  clear hk hPS hT
  have d0 := HO.out.s.n6.c0
  have d1 := HO.out.s.n6.c1
  have d2 := HO.out.s.n6.c2
  have dlt := HO.out.s.n6.lt
  go_wp2_with fail
  refine H3.out.mono ?_
  rintro e w1 ⟨V3, c3, V4, c4, rfl, hp⟩
  have HN := Lib.hid hp
  have HO1 := Lib.hid (HO.out.below hp.1.2.2)
  clear hp d0 d1 d2 dlt H3
  simp only []
  go_upto_region 25 with fail
  have hb4 : Below w1.heap.size w1 (w1.alloc (.cells #[.slice V3 cells.length c3, .int .i64 (f : Int), .slice V4 T.length c4] 64)) := (Below.refl _ _).alloc (Nat.le_refl _) _
  refine absW (fun Z => Below w1.heap.size w1 Z ∧ NBox Z w1.heap.size V3 cells.length c3 f V4 T.length c4) ⟨hb4, ⟨by simp, by go_simp, by go_simp, by go_simp⟩⟩ ?_
  clear hb4
  rintro Z ⟨hb4, hz4⟩
  have HZ := Lib.hid (And.intro hb4 hz4)
  have HK : Hid (∀ Y, Below Z.heap.size Z Y → CkO w Y b6 g1 g2 VA VB V5 ca cb L cells f W Vp Ve V1 V2 Vq cp ce bt c1 c2 cq PS ES T PR ∧ NBox Y w1.heap.size V3 cells.length c3 f V4 T.length c4 ∧ NetFresh X Y V3 c3 cells V4 c4 T) := fun Y hY => by
    have h1 := HZ.out.1.trans (hY.mono HZ.out.1.size)
    exact ⟨HO1.out.below h1, HZ.out.2.below hY, HN.out.1.later h1, HN.out.2.later h1⟩
  clear hb4 hz4
  go_upto_region 26 with fail
  refine absW (fun Y => BagA Z Y Z.heap.size [] [] [] []) (BagA.new Z) ?_
  intro Y0 hB0
  have HB0 := Lib.hid hB0
  clear hB0
  have q0 := (HK.out Y0 HB0.out.below).1.tb
  have c0 := q0.c0
  have c1' := q0.c1
  have c2' := q0.c2
  have clt := q0.lt
  have N1 : Hid (Calls Tryd.prog 37 #[.pointer (some ⟨Z.heap.size, 0, none⟩), .agg #[.slice V1 cells.length c1, .int .i64 (f : Int), .slice V2 T.length c2]] Y0 fun e w' => e = .returned (.tuple #[]) ∧ BagA Z w' Z.heap.size [.slice V1 cells.length c1] [] [.slice V2 T.length c2] []) :=
    bag_net V1 V2 c1 c2 cells f T HB0 (by simp) (by simp)
  clear q0
  go_wp2_with fail
  refine N1.out.mono ?_
  rintro e Y1 ⟨rfl, hB1⟩
  have HB1 := Lib.hid hB1
  clear hB1 c0 c1' c2' clt N1
  have q0 := (HK.out Y1 HB1.out.below).2.1
  have c0 := q0.c0
  have c1' := q0.c1
  have c2' := q0.c2
  have clt := q0.lt
  have N1 : Hid (Calls Tryd.prog 37 #[.pointer (some ⟨Z.heap.size, 0, none⟩), .agg #[.slice V3 cells.length c3, .int .i64 (f : Int), .slice V4 T.length c4]] Y1 fun e w' => e = .returned (.tuple #[]) ∧ BagA Z w' Z.heap.size [.slice V1 cells.length c1, .slice V3 cells.length c3] [] [.slice V2 T.length c2, .slice V4 T.length c4] []) :=
    bag_net V3 V4 c3 c4 cells f T HB1 (by simp) (by simp)
  clear q0
  simp only []
  go_wp2_with fail
  refine N1.out.mono ?_
  rintro e Y2 ⟨rfl, hB2⟩
  have HB2 := Lib.hid hB2
  clear hB2 c0 c1' c2' clt N1
  simp only []
  go_wp2_with fail
  refine (bag_ports Vp _ cp HB2 (by simp)).mono ?_
  rintro e Y3 ⟨rfl, hB3, _⟩
  have HB3 := Lib.hid hB3
  clear hB3
  simp only []
  go_wp2_with fail
  refine (bag_ports Ve _ ce HB3 (by simp)).mono ?_
  rintro e Y4 ⟨rfl, hB4, _⟩
  have HB4 := Lib.hid hB4
  clear hB4
  simp only []
  go_wp2_with fail
  refine (bag_pairs Vq _ cq HB4 (by simp)).mono ?_
  rintro e Y5 ⟨rfl, hB5, _⟩
  have HB5 := Lib.hid hB5
  clear hB5
  simp only []
  have HF := Lib.hid (HK.out Y5 HB5.out.below)
  have O1 : Hid (Own Y5 3 1 [.slice V1 cells.length c1, .slice V3 cells.length c3]) :=
    Own.cons (Own.cons (Own.nil _ _ _) HF.out.2.2.1.1 (by simp) (by omega) (by simp)) HF.out.1.t.1.1 (fun u hu => by simp at hu; subst hu; exact Fresh.ap (Z := w) HO.out.t.1 HF.out.2.2.1) (by omega) (by simp)
  have O2 : Hid (Own Y5 83 2 [.slice Vp PS.length cp, .slice Ve PS.length ce]) :=
    Own.cons (Own.cons (Own.nil _ _ _) HF.out.1.e.1 (by simp) (by omega) (by simp)) HF.out.1.p.1 (fun u hu => by simp at hu; subst hu; exact HF.out.1.pe) (by omega) (by simp)
  have O3 : Hid (Own Y5 108 4 [.slice V2 T.length c2, .slice V4 T.length c4]) :=
    Own.cons (Own.cons (Own.nil _ _ _) HF.out.2.2.2.1 (by simp) (by omega) (by simp)) HF.out.1.t.2.1 (fun u hu => by simp at hu; subst hu; exact Fresh.ap (Z := w) HO.out.t.2 HF.out.2.2.2) (by omega) (by simp)
  have O4 : Hid (Own Y5 35 2 [.slice Vq PR.length cq]) :=
    Own.cons (Own.nil _ _ _) HF.out.1.q.1 (by simp) (by omega) (by simp)
  have AP : Hid (Calls Tryd.prog 18 #[.pointer (some ⟨Z.heap.size, 0, none⟩)] Y5 fun e w' => e = .returned (.bool true) ∧ Below w.heap.size w w') :=
    (bag_apartA HB5 O1 O2 O3 O4).mono fun e w' ⟨he, hk⟩ => ⟨he, by
      have hw := HF.out.1.s.bel
      have hX := HO.out.s.bel.size
      refine hw.trans (hk.below hw.size (fun b hb => ?_))
      simp only [ownL, List.cons_append, List.nil_append, List.flatMap_cons, List.flatMap_nil, List.append_nil, List.mem_append, or_assoc] at hb
      rcases hb with hb | hb | hb | hb | hb | hb | hb
      · exact HF.out.1.t.1.2.1 b hb
      · have := HF.out.2.2.1.2.1 b hb; omega
      · exact HF.out.1.p.2.1 b hb
      · exact HF.out.1.e.2.1 b hb
      · exact HF.out.1.t.2.2.1 b hb
      · have := HF.out.2.2.2.2.1 b hb; omega
      · exact HF.out.1.q.2.1 b hb⟩
  clear O1 O2 O3 O4
  go_wp2_with fail
  refine AP.out.mono ?_
  rintro e Y6 ⟨rfl, hb6⟩
  have HB6 := Lib.hid hb6
  clear hb6
  simp only []
  go_wp2_with fail
  refine (works03 _).mono ?_
  rintro e w10 ⟨rfl, hb10⟩
  have HB10 := Lib.hid (HB6.out.trans (hb10.mono HB6.out.size))
  clear hb10
  simp only []
  repeat (first
    | exact hret.out _ _ ⟨rfl, rfl, rfl, trivial⟩ HB10.out
    | go_values | go_skip | go_guarded | go_step | go_upon | go_back)
end
/-- THE WALK. -/
theorem checks_walk (A : Option Addr) (n cap : Nat) (L : List (ByteArray × Int)) (VA VB : Option Addr) (ca cb : Nat) (cells : List Int) (free : Int) (W : List (Pt × Pt)) (w : World) (hn : n = L.length) (hcap : L.length ≤ cap) (HL : AgRd w A L) (hl : L.length ≤ maxLen) (hcA : cells.length ≤ maxLen) (hwA : W.length ≤ maxLen) (HC : IntsRd w VA cells) (HW : WrRd w VB W) :
    Calls Tryd.prog 4 #[.slice A n cap, netV VA ca cells free VB cb W] w fun e w' => e = .returned (.bool true) ∧ Below w.heap.size w w' := by
  go_enter Tryd.func4, Tryd.ntmps4
  refine (show ∀ a, FrN 214 [] [(0, .slice A n cap), (1, netV VA ca cells free VB cb W)] a → (ncT 0).wp Tryd.prog _ a w from ?_) _ ⟨rfl, rfl, rfl, rfl, trivial⟩
  intro a ha
  have hfin : Hid (∀ (a' : Act) (X : World), FrN 214 [] [(4, .bool true)] a' → Below w.heap.size w X → bodyPost Tryd.prog Tryd.f4 (fun e w' => e = .returned (.bool true) ∧ Below w.heap.size w w') .ret a' X) := by
    rintro a' X ⟨hsz, hdf, h4, _⟩ hb
    have g4 : a'.tmps[4]'(by rw [hsz]; omega) = .bool true := (Array.getElem?_eq_some_iff.1 h4).2
    exact bodyPost_ret (v := .bool true) (by simp only [results, Tryd.results4]; go_simp) hdf ⟨rfl, hb⟩
  refine nc_0 _ A n cap L VA VB ca cb cells free W w a hn (Lib.hid HL) hl hcA hwA (Lib.hid HC) (Lib.hid HW) hfin (Lib.hid fun l1 l2 l3 a5 X5 b6 g1 g2 V5 c5 h5 hf5 hs5 => ?_) ha
  refine nc_5 _ A n cap L VA VB ca cb cells free W w a5 X5 b6 g1 g2 V5 c5 hn hcap (Lib.hid HL) l1 l2 l3 (Lib.hid HC) (Lib.hid HW) h5 (Lib.hid fun a7 X7 hf7 hs7 => ?_) (Lib.hid hs5) hf5
  by_cases hk : (netChk (pnL L) L.length (chk L) cells free W).1 = 0
  · obtain ⟨hz, hc4, hf0, hf64, hag, hok⟩ := netChk_ok hk
    obtain ⟨f, rfl⟩ := Int.eq_ofNat_of_zero_le hf0
    rw [Int.toNat_natCast] at hok
    have hsg := chk_sig hz
    have hPl : (allPs (pnL L) cells f).length ≤ 40000 := by
      rw [allPs_len]
      have := firstN_le (pnL_le hsg) cells f cells.length
      omega
    have hTl : (tidyW (allPs (pnL L) cells f) W).length ≤ (allPs (pnL L) cells f).length := List.length_filterMap_le _ _
    have hQl : (pairsOf (tidyW (allPs (pnL L) cells f) W)).length ≤ (tidyW (allPs (pnL L) cells f) W).length := List.length_filterMap_le _ _
    rw [hk] at hf7
    refine nc_7_ok _ A n cap L VA VB ca cb cells f W w a7 X7 b6 g1 g2 V5 c5 _ (allPs (pnL L) cells f) _ _ _ hn hcap (Lib.hid HL) l1 l2 l3 (Lib.hid HC) (Lib.hid HW) h5 hk rfl rfl rfl rfl (Lib.hid fun a15 X15 Vp Ve V1 V2 Vq cp ce bt c1 c2 cq hf15 ho15 => ?_) (Lib.hid hs7) hf7
    refine nc_15 _ A n cap L VA VB ca cb cells f W w a15 X15 b6 g1 g2 V5 c5 _ _ _ _ Vp Ve V1 V2 Vq cp ce bt c1 c2 cq hn (Lib.hid HL) hsg (by omega) (by omega) l3 (Lib.hid HC) (Lib.hid HW) (Lib.hid hok) rfl rfl (by omega) (Lib.hid fun a22 X22 Va Vw cv cw hf22 ho22 hA22 hW22 => ?_) (Lib.hid ho15) hf15
    refine nc_22 _ A n cap L VA VB ca cb cells f W w a22 X22 b6 g1 g2 V5 c5 _ _ _ _ Vp Ve V1 V2 Vq Va Vw cp ce bt c1 c2 cq cv cw hn (Lib.hid HL) hsg (by omega) (by omega) l3 (Lib.hid HC) (Lib.hid HW) (Lib.hid hok) rfl (by rw [List.length_map]) rfl rfl (by omega) (by omega) (by omega) (Lib.hid fun a24 X24 hf24 ho24 => ?_) (Lib.hid ho22) (Lib.hid hA22) (Lib.hid hW22) hf22
    exact nc_24 _ A n cap L VA VB ca cb cells f W w a24 X24 b6 g1 g2 V5 c5 _ _ _ _ Vp Ve V1 V2 Vq cp ce bt c1 c2 cq l1 h5 (by omega) l3 hk rfl rfl (by omega) (by omega) (by omega) hfin (Lib.hid ho24) hf24
  · exact nc_7_bad _ A n cap L VA VB ca cb cells free W w a7 X7 b6 g1 g2 V5 c5 _ _ hn hcap (Lib.hid HL) l1 l2 l3 (Lib.hid HC) (Lib.hid HW) h5 rfl hk hfin (Lib.hid hs7) hf7
end Go.Proofs.YtkonfogebepccaaDoor
