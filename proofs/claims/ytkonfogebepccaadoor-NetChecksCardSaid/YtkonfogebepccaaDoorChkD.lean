/-
  The statement NetChecks: a net that may be: its six calls; what is wanted.
-/
import Derived.Test.YtkonfogebepccaaDoorChkC
namespace Go.Proofs.YtkonfogebepccaaDoor
open Go.RowKit Go.Shelf
attribute [local go_sem] cell_set
set_option maxRecDepth 100000
set_option linter.unusedVariables false

theorem want_at {pn : Int → Nat} {cells : List Int} {f : Nat} {W : List (Pt × Pt)} (hok : NetOk pn cells f W) {i : Nat} (hi : i < (allPs pn cells f).length) :
    ∃ j : Nat, j < (allPs pn cells f).length ∧ (lkK pn cells f W W.length).getD i 0 = (j : Int) ∧ (allPs pn cells f).getD j default = ((allPs pn cells f).map (lkT (lnk W))).getD i default := by
  have hp := allPs_is pn (List.getElem_mem hi)
  have hpl := plc_at pn (List.getElem?_eq_getElem hi)
  obtain ⟨q, hq, hqi⟩ := hok.lnk hp
  have hk := lkK_at hok (Nat.le_refl W.length) hp (by rw [List.take_length]; exact hq)
  rw [hpl] at hk
  have hql := plc_lt pn hqi
  have hqa := allPs_plc pn hqi
  refine ⟨plc pn cells f q, by rw [allPs_len]; exact hql, by rw [List.getD_eq_getElem?_getD, hk]; rfl, ?_⟩
  rw [List.getD_eq_getElem?_getD, hqa, List.getD_eq_getElem?_getD, List.getElem?_map, List.getElem?_eq_getElem hi]
  simp [lkT, hq]
/-- What the six calls gave. -/
structure CkO (w X : World) (b6 g1 g2 : Nat) (VA VB V5 : Option Addr) (ca cb : Nat) (L : List (ByteArray × Int)) (cells : List Int) (f : Nat) (W : List (Pt × Pt)) (Vp Ve V1 V2 Vq : Option Addr) (cp ce bt c1 c2 cq : Nat) (PS ES : List Pt) (T : List (Pt × Pt)) (PR : List Pt) : Prop where
  s : CkS w X w.heap.size b6 g1 g2 VA VB V5 ca cb L cells f W
  p : Fresh w X 83 2 PS.length (.slice Vp PS.length cp) (pvals PS)
  e : Fresh w X 83 2 PS.length (.slice Ve PS.length ce) (pvals ES)
  pe : ∀ b ∈ ownB (.slice Vp PS.length cp), b ∉ ownB (.slice Ve PS.length ce)
  t : NetFresh w X V1 c1 cells V2 c2 T
  tb : NBox X bt V1 cells.length c1 f V2 T.length c2
  q : Fresh w X 35 2 PR.length (.slice Vq PR.length cq) (pvals PR)
theorem CkO.below {w X Y : World} {b6 g1 g2 : Nat} {VA VB V5 : Option Addr} {ca cb : Nat} {L : List (ByteArray × Int)} {cells : List Int} {f : Nat} {W : List (Pt × Pt)} {Vp Ve V1 V2 Vq : Option Addr} {cp ce bt c1 c2 cq : Nat} {PS ES : List Pt} {T : List (Pt × Pt)} {PR : List Pt}
    (h : CkO w X b6 g1 g2 VA VB V5 ca cb L cells f W Vp Ve V1 V2 Vq cp ce bt c1 c2 cq PS ES T PR) (hb : Below X.heap.size X Y) : CkO w Y b6 g1 g2 VA VB V5 ca cb L cells f W Vp Ve V1 V2 Vq cp ce bt c1 c2 cq PS ES T PR :=
  ⟨h.s.below hb, h.p.later hb, h.e.later hb, h.pe, ⟨h.t.1.later hb, h.t.2.later hb⟩, h.tb.below hb, h.q.later hb⟩
section
variable (Q : Exit → Act → World → Prop) (A : Option Addr) (n cap : Nat) (L : List (ByteArray × Int)) (VA VB : Option Addr) (ca cb : Nat) (cells : List Int) (f : Nat) (W : List (Pt × Pt)) (w : World)
set_option maxHeartbeats 4000000 in
theorem nc_7_ok (a : Act) (X : World) (b6 g1 g2 : Nat) (V5 : Option Addr) (c5 : Nat) (k2 : Int) (PS ES : List Pt) (T : List (Pt × Pt)) (PR : List Pt) (hn : n = L.length) (hcap : L.length ≤ cap) (HL : Hid (AgRd w A L)) (hl : L.length ≤ 1024) (hcA : cells.length ≤ 8192) (hwA : W.length ≤ 32768) (HC : Hid (IntsRd w VA cells)) (HW : Hid (WrRd w VB W)) (h5 : L.length ≤ c5)
    (hk : (netChk (pnL L) L.length (chk L) cells f W).1 = 0) (hPS : allPs (pnL L) cells f = PS) (hES : PS.map (lkT (lnk W)) = ES) (hT : tidyW PS W = T) (hPR : pairsOf T = PR)
    (hnext : Hid (∀ a' X' Vp Ve V1 V2 Vq cp ce bt c1 c2 cq, FrN 214 [] [(0, .slice A n cap), (3, .pointer (some ⟨w.heap.size, 0, none⟩)), (5, .slice V5 L.length c5), (6, .pointer (some ⟨b6, 0, none⟩)), (11, .slice Vp PS.length cp), (13, .slice Ve PS.length ce), (15, .pointer (some ⟨bt, 0, none⟩)), (17, .slice Vq PR.length cq)] a' →
      CkO w X' b6 g1 g2 VA VB V5 ca cb L cells f W Vp Ve V1 V2 Vq cp ce bt c1 c2 cq PS ES T PR → (ncT 15).wp Tryd.prog Q a' X'))
    (hs : Hid (CkS w X w.heap.size b6 g1 g2 VA VB V5 ca cb L cells f W))
    (ha : FrN 214 [] [(0, .slice A n cap), (3, .pointer (some ⟨w.heap.size, 0, none⟩)), (5, .slice V5 L.length c5), (6, .pointer (some ⟨b6, 0, none⟩)), (7, .int .i64 0), (8, .int .i64 k2), (9, .int .i64 0), (10, .int .i64 k2)] a) : (ncT 7).wp Tryd.prog Q a X := by
  subst hn
  obtain ⟨U, rfl, e0, e3, e5, e6, e7, e8, e9, e10, -⟩ := ha.openNC
  have HS := hs
  unfold FrNC
  simp only [e0, e3, e5, e6, e7, e8, e9, e10]
  clear e0 e3 e5 e6 e7 e8 e9 e10 ha hs
  show (Code.seq _ _).wp _ _ _ _
  have hlE : ES.length = PS.length := by rw [← hES, List.length_map]
  have H1 : Hid (∀ Z, CkS w Z w.heap.size b6 g1 g2 VA VB V5 ca cb L cells f W → Calls Tryd.prog 25 #[.slice V5 L.length c5, .agg #[.slice (some ⟨g1, 0, none⟩) cells.length (cells.length + 64), .int .i64 (f : Int), .slice (some ⟨g2, 0, none⟩) W.length (W.length + 64)]] Z fun e w' => ∃ V c, e = .returned (.tuple #[.slice V PS.length c, .int .i64 0]) ∧ Fresh Z w' 83 2 PS.length (.slice V PS.length c) (pvals PS)) := fun Z hz => by
    have := ports_ok V5 _ c5 L (some ⟨g1, 0, none⟩) (some ⟨g2, 0, none⟩) (cells.length + 64) (W.length + 64) cells W Z f rfl h5 (Lib.hid hz.ag) (by unfold maxLen; omega) (Lib.hid hz.wd.ints) (Lib.hid hz.wd.wires) (by omega) (by omega) hk
    rw [hPS] at this
    exact this
  have H2 : Hid (∀ Z, CkS w Z w.heap.size b6 g1 g2 VA VB V5 ca cb L cells f W → Calls Tryd.prog 26 #[.slice V5 L.length c5, .agg #[.slice (some ⟨g1, 0, none⟩) cells.length (cells.length + 64), .int .i64 (f : Int), .slice (some ⟨g2, 0, none⟩) W.length (W.length + 64)]] Z fun e w' => ∃ V c, e = .returned (.tuple #[.slice V PS.length c, .int .i64 0]) ∧ Fresh Z w' 83 2 PS.length (.slice V PS.length c) (pvals ES)) := fun Z hz => by
    have := ends_ok V5 _ c5 L (some ⟨g1, 0, none⟩) (some ⟨g2, 0, none⟩) (cells.length + 64) (W.length + 64) cells W Z f rfl h5 (Lib.hid hz.ag) (by unfold maxLen; omega) (Lib.hid hz.wd.ints) (Lib.hid hz.wd.wires) (by omega) (by omega) hk
    rw [hPS, hES] at this
    exact this
  have H3 : Hid (∀ Z, CkS w Z w.heap.size b6 g1 g2 VA VB V5 ca cb L cells f W → Calls Tryd.prog 27 #[.slice V5 L.length c5, .agg #[.slice (some ⟨g1, 0, none⟩) cells.length (cells.length + 64), .int .i64 (f : Int), .slice (some ⟨g2, 0, none⟩) W.length (W.length + 64)]] Z fun e w' => ∃ V1 c1 V2 c2, e = .returned (.tuple #[netV V1 c1 cells f V2 c2 T, .int .i64 0]) ∧ NetFresh Z w' V1 c1 cells V2 c2 T) := fun Z hz => by
    have := net_tidy_ok V5 _ c5 L (some ⟨g1, 0, none⟩) (some ⟨g2, 0, none⟩) (cells.length + 64) (W.length + 64) cells f W Z rfl h5 (Lib.hid hz.ag) (by unfold maxLen; omega) (Lib.hid hz.wd.ints) (Lib.hid hz.wd.wires) (by omega) (by omega) hk
    rw [Int.toNat_natCast, hPS, hT] at this
    exact this
  have H4 : Hid (∀ Z, CkS w Z w.heap.size b6 g1 g2 VA VB V5 ca cb L cells f W → Calls Tryd.prog 28 #[.slice V5 L.length c5, .agg #[.slice (some ⟨g1, 0, none⟩) cells.length (cells.length + 64), .int .i64 (f : Int), .slice (some ⟨g2, 0, none⟩) W.length (W.length + 64)]] Z fun e w' => ∃ V c, e = .returned (.tuple #[.slice V PR.length c, .int .i64 0]) ∧ Fresh Z w' 35 2 PR.length (.slice V PR.length c) (pvals PR)) := fun Z hz => by
    have := net_pairs_ok V5 _ c5 L (some ⟨g1, 0, none⟩) (some ⟨g2, 0, none⟩) (cells.length + 64) (W.length + 64) cells f W Z rfl h5 (Lib.hid hz.ag) (by unfold maxLen; omega) (Lib.hid hz.wd.ints) (Lib.hid hz.wd.wires) (by omega) (by omega) hk
    rw [Int.toNat_natCast, hPS, hT, hPR] at this
    exact this
  have H5 : Hid (∀ Z, CkS w Z w.heap.size b6 g1 g2 VA VB V5 ca cb L cells f W → Calls Tryd.prog 29 #[.agg #[.slice (some ⟨g1, 0, none⟩) cells.length (cells.length + 64), .int .i64 (f : Int), .slice (some ⟨g2, 0, none⟩) W.length (W.length + 64)], .agg #[.slice VA cells.length ca, .int .i64 (f : Int), .slice VB W.length cb]] Z fun e w' => e = .returned (.bool true) ∧ Below Z.heap.size Z w') := fun Z hz => by
    have := eq_net (some ⟨g1, 0, none⟩) (some ⟨g2, 0, none⟩) VA VB (cells.length + 64) (W.length + 64) ca cb cells cells f f W W Z (by omega) (by omega) (by omega) (by omega) (Lib.hid hz.wd.ints) (Lib.hid hz.wd.wires) (Lib.hid (HC.out.below hz.bel)) (Lib.hid (HW.out.below hz.bel))
    simpa using this
  have H6 : Hid (∀ Z, CkS w Z w.heap.size b6 g1 g2 VA VB V5 ca cb L cells f W → Calls Tryd.prog 30 #[.agg #[.slice (some ⟨g1, 0, none⟩) cells.length (cells.length + 64), .int .i64 (f : Int), .slice (some ⟨g2, 0, none⟩) W.length (W.length + 64)]] Z fun e w' => e = .returned (.bool true) ∧ Below Z.heap.size Z w') := fun Z hz =>
    spare_net g1 g2 cells f W Z (by omega) (by omega) (Lib.hid hz.wd)
  have H7 : Hid (∀ Z, CkS w Z w.heap.size b6 g1 g2 VA VB V5 ca cb L cells f W → Calls Tryd.prog 31 #[.slice V5 L.length c5, .slice A L.length cap] Z fun e w' => e = .returned (.bool true) ∧ Below Z.heap.size Z w') := fun Z hz =>
    eq_agents V5 A _ _ c5 cap L Z rfl rfl (by omega) (Lib.hid hz.ag) (Lib.hid (HL.out.below hz.bel))
  have f2 : (k2 != k2) = false := by simp
  clear hk hPS hES hT hPR hlE
  obtain ⟨np, hnp⟩ : ∃ np, PS.length = np := ⟨_, rfl⟩
  obtain ⟨nq, hnq⟩ : ∃ nq, PR.length = nq := ⟨_, rfl⟩
  rw [hnp] at H1 H2 hnext
  rw [hnq] at H4 hnext
  have HNQ := Lib.hid (And.intro hnp hnq)
  clear hnp hnq
  have c0 := HS.out.nb.c0
  have c1' := HS.out.nb.c1
  have c2' := HS.out.nb.c2
  have clt := HS.out.nb.lt
  have d0 := HS.out.n6.c0
  have d1 := HS.out.n6.c1
  have d2 := HS.out.n6.c2
  have dlt := HS.out.n6.lt
  go_wp2_with fail
  refine (H1.out _ HS.out).mono ?_
  rintro e w1 ⟨Vp, cp, rfl, hp⟩
  have B0 := HS.out.bel
  have HS := Lib.hid (HS.out.below hp.2.2)
  clear c0 c1' c2' clt d0 d1 d2 dlt
  have c0 := HS.out.nb.c0
  have c1' := HS.out.nb.c1
  have c2' := HS.out.nb.c2
  have clt := HS.out.nb.lt
  have d0 := HS.out.n6.c0
  have d1 := HS.out.n6.c1
  have d2 := HS.out.n6.c2
  have dlt := HS.out.n6.lt
  have HP := Lib.hid (hp.from B0)
  clear hp B0
  simp only []
  go_wp2_with fail
  refine (H2.out _ HS.out).mono ?_
  rintro e w2 ⟨Ve, ce, rfl, hp⟩
  have B0 := HS.out.bel
  have HS := Lib.hid (HS.out.below hp.2.2)
  clear c0 c1' c2' clt d0 d1 d2 dlt
  have c0 := HS.out.nb.c0
  have c1' := HS.out.nb.c1
  have c2' := HS.out.nb.c2
  have clt := HS.out.nb.lt
  have d0 := HS.out.n6.c0
  have d1 := HS.out.n6.c1
  have d2 := HS.out.n6.c2
  have dlt := HS.out.n6.lt
  have HE := Lib.hid (hp.from B0)
  have HPE : Hid (∀ b ∈ ownB (.slice Vp np cp), b ∉ ownB (.slice Ve np ce)) := fun b hb hb' => by have := HP.out.1.lt b hb; have := hp.2.1 b hb'; omega
  have HP := Lib.hid (HP.out.later hp.2.2)
  clear hp B0
  simp only []
  go_wp2_with fail
  refine (H3.out _ HS.out).mono ?_
  rintro e w3 ⟨V1, c1, V2, c2, rfl, hp⟩
  have B0 := HS.out.bel
  have HS := Lib.hid (HS.out.below hp.1.2.2)
  clear c0 c1' c2' clt d0 d1 d2 dlt
  have c0 := HS.out.nb.c0
  have c1' := HS.out.nb.c1
  have c2' := HS.out.nb.c2
  have clt := HS.out.nb.lt
  have d0 := HS.out.n6.c0
  have d1 := HS.out.n6.c1
  have d2 := HS.out.n6.c2
  have dlt := HS.out.n6.lt
  have HT : Hid (NetFresh w w3 V1 c1 cells V2 c2 T) := ⟨hp.1.from B0, hp.2.from B0⟩
  have HP := Lib.hid (HP.out.later hp.1.2.2)
  have HE := Lib.hid (HE.out.later hp.1.2.2)
  clear hp B0
  simp only []
  go_upto_region 10 with fail
  have hb4 : Below w3.heap.size w3 (w3.alloc (.cells #[.slice V1 cells.length c1, .int .i64 (f : Int), .slice V2 T.length c2] 64)) := (Below.refl _ _).alloc (Nat.le_refl _) _
  refine absW (fun Z => Below w3.heap.size w3 Z ∧ NBox Z w3.heap.size V1 cells.length c1 f V2 T.length c2) ⟨hb4, ⟨by simp, by go_simp, by go_simp, by go_simp⟩⟩ ?_
  clear hb4
  rintro Z ⟨hb4, hz4⟩
  have HS := Lib.hid (HS.out.below hb4)
  clear c0 c1' c2' clt d0 d1 d2 dlt
  have c0 := HS.out.nb.c0
  have c1' := HS.out.nb.c1
  have c2' := HS.out.nb.c2
  have clt := HS.out.nb.lt
  have d0 := HS.out.n6.c0
  have d1 := HS.out.n6.c1
  have d2 := HS.out.n6.c2
  have dlt := HS.out.n6.lt
  have HZ := Lib.hid hz4
  have HP := Lib.hid (HP.out.later hb4)
  have HE := Lib.hid (HE.out.later hb4)
  have HT : Hid (NetFresh w Z V1 c1 cells V2 c2 T) := ⟨HT.out.1.later hb4, HT.out.2.later hb4⟩
  clear hb4 hz4
  go_wp2_with fail
  refine (H4.out _ HS.out).mono ?_
  rintro e w5 ⟨Vq, cq, rfl, hp⟩
  have B0 := HS.out.bel
  have HS := Lib.hid (HS.out.below hp.2.2)
  clear c0 c1' c2' clt d0 d1 d2 dlt
  have c0 := HS.out.nb.c0
  have c1' := HS.out.nb.c1
  have c2' := HS.out.nb.c2
  have clt := HS.out.nb.lt
  have d0 := HS.out.n6.c0
  have d1 := HS.out.n6.c1
  have d2 := HS.out.n6.c2
  have dlt := HS.out.n6.lt
  have HO : Hid (NBox w5 w3.heap.size V1 cells.length c1 f V2 T.length c2 ∧ Fresh w w5 83 2 np (.slice Vp np cp) (pvals PS) ∧ Fresh w w5 83 2 np (.slice Ve np ce) (pvals ES) ∧ NetFresh w w5 V1 c1 cells V2 c2 T ∧ Fresh w w5 35 2 nq (.slice Vq nq cq) (pvals PR)) :=
    ⟨HZ.out.below hp.2.2, HP.out.later hp.2.2, HE.out.later hp.2.2, ⟨HT.out.1.later hp.2.2, HT.out.2.later hp.2.2⟩, hp.from B0⟩
  clear hp B0 HP HE HT HZ
  simp only []
  go_wp2_with fail
  refine (H5.out _ HS.out).mono ?_
  rintro e w6 ⟨rfl, hb6⟩
  have HS := Lib.hid (HS.out.below hb6)
  clear c0 c1' c2' clt d0 d1 d2 dlt
  have c0 := HS.out.nb.c0
  have c1' := HS.out.nb.c1
  have c2' := HS.out.nb.c2
  have clt := HS.out.nb.lt
  have d0 := HS.out.n6.c0
  have d1 := HS.out.n6.c1
  have d2 := HS.out.n6.c2
  have dlt := HS.out.n6.lt
  have HB6 := Lib.hid hb6
  clear hb6
  simp only []
  go_wp2_with fail
  refine (H6.out _ HS.out).mono ?_
  rintro e w7 ⟨rfl, hb7⟩
  have HS := Lib.hid (HS.out.below hb7)
  clear c0 c1' c2' clt d0 d1 d2 dlt
  have c0 := HS.out.nb.c0
  have c1' := HS.out.nb.c1
  have c2' := HS.out.nb.c2
  have clt := HS.out.nb.lt
  have d0 := HS.out.n6.c0
  have d1 := HS.out.n6.c1
  have d2 := HS.out.n6.c2
  have dlt := HS.out.n6.lt
  have HB6 := Lib.hid (HB6.out.trans (hb7.mono HB6.out.size))
  clear hb7
  simp only []
  go_wp2_with fail
  refine (H7.out _ HS.out).mono ?_
  rintro e w8 ⟨rfl, hb8⟩
  have HS := Lib.hid (HS.out.below hb8)
  clear c0 c1' c2' clt d0 d1 d2 dlt
  have c0 := HS.out.nb.c0
  have c1' := HS.out.nb.c1
  have c2' := HS.out.nb.c2
  have clt := HS.out.nb.lt
  have d0 := HS.out.n6.c0
  have d1 := HS.out.n6.c1
  have d2 := HS.out.n6.c2
  have dlt := HS.out.n6.lt
  have HB6 := Lib.hid (HB6.out.trans (hb8.mono HB6.out.size))
  clear hb8
  simp only []
  iterate 80 (first | (with_reducible refine at_seq3 15 ?_) | (with_reducible refine at_seq2 15 ?_) | (with_reducible refine at_seq 15 ?_) | go_values | go_skip | go_guarded | go_step | go_upon | go_back | go_simp)
  refine hnext.out _ _ Vp Ve V1 V2 Vq cp ce w3.heap.size c1 c2 cq ⟨rfl, rfl, rfl, rfl, rfl, rfl, rfl, rfl, rfl, rfl, trivial⟩ ?_
  obtain ⟨e1, e2⟩ := HNQ.out
  subst e1 e2
  exact ⟨HS.out, HO.out.2.1.later HB6.out, HO.out.2.2.1.later HB6.out, HPE.out, ⟨HO.out.2.2.2.1.1.later HB6.out, HO.out.2.2.2.1.2.later HB6.out⟩, HO.out.1.below HB6.out, HO.out.2.2.2.2.later HB6.out⟩
end
end Go.Proofs.YtkonfogebepccaaDoor
