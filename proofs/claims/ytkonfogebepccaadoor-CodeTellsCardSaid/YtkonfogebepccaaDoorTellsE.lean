/-
  The statement CodeTells: its answers are memory of their own; the whole walk.
-/
import Derived.Test.YtkonfogebepccaaDoorTellsC
/-
  The statement CodeTells: its answers are the document's; its arguments stay.
-/
namespace Go.Proofs.YtkonfogebepccaaDoor
open Go.RowKit Go.Shelf
attribute [local go_sem] cell_set
set_option maxRecDepth 100000
set_option linter.unusedVariables false

section
variable (Q : Exit → Act → World → Prop) (A : Option Addr) (n cap : Nat) (L : List (ByteArray × Int)) (VA VB VI : Option Addr) (ca cb ci m : Nat) (cells : List Int) (free : Int) (W : List (Pt × Pt)) (p : Pt) (ids : List Int) (w : World)
theorem eq_same (V V' : Option Addr) (c c' : Nat) (l : List Int) (w : World) (hl : l.length ≤ 100000) (h : IntsRd w V l) (h' : IntsRd w V' l) : Calls Tryd.prog 47 #[.slice V l.length c, .slice V' l.length c'] w fun e w' => e = .returned (.bool true) ∧ Below w.heap.size w w' := by
  refine (eq_ints V V' _ _ c c' l l w rfl rfl hl hl (Lib.hid h) (Lib.hid h')).mono ?_
  rintro e w1 ⟨rfl, hb⟩
  exact ⟨by simp, hb⟩
set_option maxHeartbeats 4000000 in
theorem tl_12 (a : Act) (X : World) (b10 gA g1 g2 gI : Nat) (k kl best : Int) (code least : List Int) (Va Vb Vc Vd Vf Vl : Option Addr) (ka kb kc kd kf kq : Nat) (h1 : code.length ≤ 100000) (h2 : least.length ≤ 100000)
    (hnext : Hid (∀ a' Y, FrN 190 [] [(0, .slice A n cap), (3, .slice VI m ci), (5, .pointer (some ⟨w.heap.size, 0, none⟩)), (6, .pointer (some ⟨w.heap.size + 1, 0, none⟩)), (9, .slice (some ⟨gA, 0, none⟩) n (n + 64)), (10, .pointer (some ⟨b10, 0, none⟩)), (11, .slice (some ⟨gI, 0, none⟩) m (m + 64)), (12, .slice Va code.length ka), (14, .slice Vb code.length kb), (19, .slice Vc least.length kc), (22, .slice Vd least.length kd)] a' → Below X.heap.size X Y → (tlT 14).wp Tryd.prog Q a' Y))
    (HT : Hid (TlA w X Va Vb Vc Vd Vf Vl ka kb kc kd kf kq code least))
    (ha : FrN 190 [] [(0, .slice A n cap), (3, .slice VI m ci), (5, .pointer (some ⟨w.heap.size, 0, none⟩)), (6, .pointer (some ⟨w.heap.size + 1, 0, none⟩)), (9, .slice (some ⟨gA, 0, none⟩) n (n + 64)), (10, .pointer (some ⟨b10, 0, none⟩)), (11, .slice (some ⟨gI, 0, none⟩) m (m + 64)),
      (12, .slice Va code.length ka), (13, .int .i64 k), (14, .slice Vb code.length kb), (15, .int .i64 k), (16, .slice Vf code.length kf), (17, .int .i64 k), (18, .int .i64 best), (19, .slice Vc least.length kc), (20, .int .i64 kl), (21, .int .i64 best), (22, .slice Vd least.length kd), (23, .int .i64 kl), (24, .int .i64 best), (25, .slice Vl least.length kq), (26, .int .i64 kl)] a) : (tlT 12).wp Tryd.prog Q a X := by
  obtain ⟨U, rfl, e0, e3, e5, e6, e9, e10, e11, e12, e13, e14, e15, e16, e17, e18, e19, e20, e21, e22, e23, e24, e25, e26, -⟩ := ha.openTL
  unfold FrTL
  simp only [e0, e3, e5, e6, e9, e10, e11, e12, e13, e14, e15, e16, e17, e18, e19, e20, e21, e22, e23, e24, e25, e26]
  clear e0 e3 e5 e6 e9 e10 e11 e12 e13 e14 e15 e16 e17 e18 e19 e20 e21 e22 e23 e24 e25 e26 ha
  show (Code.seq _ _).wp _ _ _ _
  have E1 : Hid (∀ Z, Below X.heap.size X Z → Calls Tryd.prog 47 #[.slice Va code.length ka, .slice Vf code.length kf] Z fun e w' => e = .returned (.bool true) ∧ Below Z.heap.size Z w') := fun Z hz => eq_same Va Vf ka kf code Z h1 (HT.out.below hz).a.1.ints (HT.out.below hz).f.1.ints
  have E2 : Hid (∀ Z, Below X.heap.size X Z → Calls Tryd.prog 47 #[.slice Vb code.length kb, .slice Vf code.length kf] Z fun e w' => e = .returned (.bool true) ∧ Below Z.heap.size Z w') := fun Z hz => eq_same Vb Vf kb kf code Z h1 (HT.out.below hz).b.1.ints (HT.out.below hz).f.1.ints
  have E3 : Hid (∀ Z, Below X.heap.size X Z → Calls Tryd.prog 47 #[.slice Vc least.length kc, .slice Vl least.length kq] Z fun e w' => e = .returned (.bool true) ∧ Below Z.heap.size Z w') := fun Z hz => eq_same Vc Vl kc kq least Z h2 (HT.out.below hz).c.1.ints (HT.out.below hz).l.1.ints
  have E4 : Hid (∀ Z, Below X.heap.size X Z → Calls Tryd.prog 47 #[.slice Vd least.length kd, .slice Vl least.length kq] Z fun e w' => e = .returned (.bool true) ∧ Below Z.heap.size Z w') := fun Z hz => eq_same Vd Vl kd kq least Z h2 (HT.out.below hz).d.1.ints (HT.out.below hz).l.1.ints
  have HBz : Hid (Below X.heap.size X X) := Below.refl _ _
  clear h1 h2
  go_wp2_with fail
  refine (E1.out _ HBz.out).mono ?_
  rintro e w1 ⟨rfl, hb1⟩
  have HBz := Lib.hid (HBz.out.trans (hb1.mono HBz.out.size))
  clear hb1
  simp only []
  go_wp2_with fail
  refine (E2.out _ HBz.out).mono ?_
  rintro e w2 ⟨rfl, hb1⟩
  have HBz := Lib.hid (HBz.out.trans (hb1.mono HBz.out.size))
  clear hb1
  simp only []
  go_wp2_with fail
  refine (E3.out _ HBz.out).mono ?_
  rintro e w3 ⟨rfl, hb1⟩
  have HBz := Lib.hid (HBz.out.trans (hb1.mono HBz.out.size))
  clear hb1
  simp only []
  go_wp2_with fail
  refine (E4.out _ HBz.out).mono ?_
  rintro e w4 ⟨rfl, hb1⟩
  have HBz := Lib.hid (HBz.out.trans (hb1.mono HBz.out.size))
  clear hb1
  simp only []
  iterate 80 (first | (with_reducible refine at_seq3 14 ?_) | (with_reducible refine at_seq2 14 ?_) | (with_reducible refine at_seq 14 ?_) | go_values | go_skip | go_guarded | go_step | go_upon | go_back | go_simp)
  exact hnext.out _ _ ⟨rfl, rfl, rfl, rfl, rfl, rfl, rfl, rfl, rfl, rfl, rfl, rfl, rfl, trivial⟩ HBz.out
set_option maxHeartbeats 4000000 in
theorem tl_14 (a : Act) (X : World) (b10 gA g1 g2 gI : Nat) (code least : List Int) (Va Vb Vc Vd : Option Addr) (ka kb kc kd : Nat) (hn : n = L.length) (hm : m = ids.length) (HR : Hid (Rd w A VA VB L cells W)) (HI : Hid (IntsRd w VI ids)) (hl : L.length ≤ 6000000000000) (hcw : cells.length + W.length ≤ 512) (hid : ids.length ≤ 512)
    (hnext : Hid (∀ a' Y, FrN 190 [] [(0, .slice A n cap), (3, .slice VI m ci), (5, .pointer (some ⟨w.heap.size, 0, none⟩)), (6, .pointer (some ⟨w.heap.size + 1, 0, none⟩)), (9, .slice (some ⟨gA, 0, none⟩) n (n + 64)), (10, .pointer (some ⟨b10, 0, none⟩)), (11, .slice (some ⟨gI, 0, none⟩) m (m + 64)), (12, .slice Va code.length ka), (14, .slice Vb code.length kb), (19, .slice Vc least.length kc), (22, .slice Vd least.length kd)] a' → Below X.heap.size X Y → (tlT 16).wp Tryd.prog Q a' Y))
    (HS : Hid (TlS w X w.heap.size (w.heap.size + 1) b10 gA g1 g2 gI VA VB ca cb L cells free W p ids))
    (ha : FrN 190 [] [(0, .slice A n cap), (3, .slice VI m ci), (5, .pointer (some ⟨w.heap.size, 0, none⟩)), (6, .pointer (some ⟨w.heap.size + 1, 0, none⟩)), (9, .slice (some ⟨gA, 0, none⟩) n (n + 64)), (10, .pointer (some ⟨b10, 0, none⟩)), (11, .slice (some ⟨gI, 0, none⟩) m (m + 64)), (12, .slice Va code.length ka), (14, .slice Vb code.length kb), (19, .slice Vc least.length kc), (22, .slice Vd least.length kd)] a) : (tlT 14).wp Tryd.prog Q a X := by
  subst hn hm
  obtain ⟨U, rfl, e0, e3, e5, e6, e9, e10, e11, e12, e14, e19, e22, -⟩ := ha.openTL
  unfold FrTL
  simp only [e0, e3, e5, e6, e9, e10, e11, e12, e14, e19, e22]
  clear e0 e3 e5 e6 e9 e10 e11 e12 e14 e19 e22 ha
  show (Code.seq _ _).wp _ _ _ _
  have HW : Hid (∀ Z, Below X.heap.size X Z → Below w.heap.size w Z) := fun Z hz => HS.out.bel.trans (hz.mono HS.out.bel.size)
  have E1 : Hid (∀ Z, Below X.heap.size X Z → Calls Tryd.prog 31 #[.slice (some ⟨gA, 0, none⟩) L.length (L.length + 64), .slice A L.length cap] Z fun e w' => e = .returned (.bool true) ∧ Below Z.heap.size Z w') := fun Z hz => eq_agents _ A _ _ _ cap L Z rfl rfl hl (Lib.hid (HS.out.below hz).rd.a) (Lib.hid (HR.out.a.below (HW.out Z hz)))
  have E2 : Hid (∀ Z, Below X.heap.size X Z → Calls Tryd.prog 48 #[.slice (some ⟨gA, 0, none⟩) L.length (L.length + 64)] Z fun e w' => e = .returned (.bool true) ∧ Below Z.heap.size Z w') := fun Z hz => spare_agents gA _ _ L Z rfl rfl hl (Lib.hid (HS.out.below hz).ag)
  have E3 : Hid (∀ Z, Below X.heap.size X Z → Calls Tryd.prog 29 #[.agg #[.slice (some ⟨g1, 0, none⟩) cells.length (cells.length + 64), .int .i64 free, .slice (some ⟨g2, 0, none⟩) W.length (W.length + 64)], .agg #[.slice VA cells.length ca, .int .i64 free, .slice VB W.length cb]] Z fun e w' => e = .returned (.bool true) ∧ Below Z.heap.size Z w') := fun Z hz => by
    refine (eq_net _ _ VA VB _ _ ca cb cells cells free free W W Z (by omega) (by omega) (by omega) (by omega) (Lib.hid (HS.out.below hz).rd.c) (Lib.hid (HS.out.below hz).rd.w) (Lib.hid (HR.out.c.below (HW.out Z hz))) (Lib.hid (HR.out.w.below (HW.out Z hz)))).mono ?_
    rintro e w1 ⟨rfl, hb⟩
    exact ⟨by simp, hb⟩
  have E4 : Hid (∀ Z, Below X.heap.size X Z → Calls Tryd.prog 30 #[.agg #[.slice (some ⟨g1, 0, none⟩) cells.length (cells.length + 64), .int .i64 free, .slice (some ⟨g2, 0, none⟩) W.length (W.length + 64)]] Z fun e w' => e = .returned (.bool true) ∧ Below Z.heap.size Z w') := fun Z hz => spare_net g1 g2 cells free W Z (by omega) (by omega) (Lib.hid (HS.out.below hz).wd)
  have E5 : Hid (∀ Z, Below X.heap.size X Z → Calls Tryd.prog 47 #[.slice (some ⟨gI, 0, none⟩) ids.length (ids.length + 64), .slice VI ids.length ci] Z fun e w' => e = .returned (.bool true) ∧ Below Z.heap.size Z w') := fun Z hz => eq_same _ VI _ ci ids Z (by omega) (Row.wideIn (HS.out.below hz).wi) (HI.out.below (HW.out Z hz))
  have E6 : Hid (∀ Z, Below X.heap.size X Z → Calls Tryd.prog 49 #[.slice (some ⟨gI, 0, none⟩) ids.length (ids.length + 64)] Z fun e w' => e = .returned (.bool true) ∧ Below Z.heap.size Z w') := fun Z hz => spare_ints gI _ _ ids Z rfl rfl (by omega) (Lib.hid (HS.out.below hz).wi)
  have HBz : Hid (Below X.heap.size X X) := Below.refl _ _
  clear hl hcw hid
  have q0 := (HS.out).nb
  have c0 := q0.c0
  have c1 := q0.c1
  have c2 := q0.c2
  have clt := q0.lt
  have q1 := (HS.out).n10
  have d0 := q1.c0
  have d1 := q1.c1
  have d2 := q1.c2
  have dlt := q1.lt
  clear q0 q1
  go_wp2_with fail
  refine (E1.out _ HBz.out).mono ?_
  rintro e w1 ⟨rfl, hb1⟩
  have HBz := Lib.hid (HBz.out.trans (hb1.mono HBz.out.size))
  clear hb1 c0 c1 c2 clt d0 d1 d2 dlt
  have q0 := (HS.out.below HBz.out).nb
  have c0 := q0.c0
  have c1 := q0.c1
  have c2 := q0.c2
  have clt := q0.lt
  have q1 := (HS.out.below HBz.out).n10
  have d0 := q1.c0
  have d1 := q1.c1
  have d2 := q1.c2
  have dlt := q1.lt
  clear q0 q1
  simp only []
  go_wp2_with fail
  refine (E2.out _ HBz.out).mono ?_
  rintro e w2 ⟨rfl, hb1⟩
  have HBz := Lib.hid (HBz.out.trans (hb1.mono HBz.out.size))
  clear hb1 c0 c1 c2 clt d0 d1 d2 dlt
  have q0 := (HS.out.below HBz.out).nb
  have c0 := q0.c0
  have c1 := q0.c1
  have c2 := q0.c2
  have clt := q0.lt
  have q1 := (HS.out.below HBz.out).n10
  have d0 := q1.c0
  have d1 := q1.c1
  have d2 := q1.c2
  have dlt := q1.lt
  clear q0 q1
  simp only []
  go_wp2_with fail
  refine (E3.out _ HBz.out).mono ?_
  rintro e w3 ⟨rfl, hb1⟩
  have HBz := Lib.hid (HBz.out.trans (hb1.mono HBz.out.size))
  clear hb1 c0 c1 c2 clt d0 d1 d2 dlt
  have q0 := (HS.out.below HBz.out).nb
  have c0 := q0.c0
  have c1 := q0.c1
  have c2 := q0.c2
  have clt := q0.lt
  have q1 := (HS.out.below HBz.out).n10
  have d0 := q1.c0
  have d1 := q1.c1
  have d2 := q1.c2
  have dlt := q1.lt
  clear q0 q1
  simp only []
  go_wp2_with fail
  refine (E4.out _ HBz.out).mono ?_
  rintro e w4 ⟨rfl, hb1⟩
  have HBz := Lib.hid (HBz.out.trans (hb1.mono HBz.out.size))
  clear hb1 c0 c1 c2 clt d0 d1 d2 dlt
  have q0 := (HS.out.below HBz.out).nb
  have c0 := q0.c0
  have c1 := q0.c1
  have c2 := q0.c2
  have clt := q0.lt
  have q1 := (HS.out.below HBz.out).n10
  have d0 := q1.c0
  have d1 := q1.c1
  have d2 := q1.c2
  have dlt := q1.lt
  clear q0 q1
  simp only []
  go_wp2_with fail
  refine (E5.out _ HBz.out).mono ?_
  rintro e w5 ⟨rfl, hb1⟩
  have HBz := Lib.hid (HBz.out.trans (hb1.mono HBz.out.size))
  clear hb1 c0 c1 c2 clt d0 d1 d2 dlt
  have q0 := (HS.out.below HBz.out).nb
  have c0 := q0.c0
  have c1 := q0.c1
  have c2 := q0.c2
  have clt := q0.lt
  have q1 := (HS.out.below HBz.out).n10
  have d0 := q1.c0
  have d1 := q1.c1
  have d2 := q1.c2
  have dlt := q1.lt
  clear q0 q1
  simp only []
  go_wp2_with fail
  refine (E6.out _ HBz.out).mono ?_
  rintro e w6 ⟨rfl, hb1⟩
  have HBz := Lib.hid (HBz.out.trans (hb1.mono HBz.out.size))
  clear hb1 c0 c1 c2 clt d0 d1 d2 dlt
  simp only []
  iterate 80 (first | (with_reducible refine at_seq3 16 ?_) | (with_reducible refine at_seq2 16 ?_) | (with_reducible refine at_seq 16 ?_) | go_values | go_skip | go_guarded | go_step | go_upon | go_back | go_simp)
  exact hnext.out _ _ ⟨rfl, rfl, rfl, rfl, rfl, rfl, rfl, rfl, rfl, rfl, rfl, rfl, rfl, trivial⟩ HBz.out
end
end Go.Proofs.YtkonfogebepccaaDoor
namespace Go.Proofs.YtkonfogebepccaaDoor
open Go.RowKit Go.Shelf
attribute [local go_sem] cell_set
set_option maxRecDepth 100000
set_option linter.unusedVariables false

section
variable (Q : Exit → Act → World → Prop) (A : Option Addr) (n cap : Nat) (VI : Option Addr) (ci m : Nat) (w : World)
set_option maxHeartbeats 4000000 in
theorem tl_16 (a : Act) (X : World) (b10 gA gI : Nat) (code least : List Int) (Va Vb Vc Vd Vf Vl : Option Addr) (ka kb kc kd kf kq : Nat) (h1 : code.length ≤ 100000) (h2 : least.length ≤ 100000)
    (hret : Hid (∀ a' X, FrN 190 [] [(8, .bool true)] a' → Below w.heap.size w X → Q .ret a' X))
    (hbw : Hid (Below w.heap.size w X)) (HT : Hid (TlA w X Va Vb Vc Vd Vf Vl ka kb kc kd kf kq code least))
    (ha : FrN 190 [] [(0, .slice A n cap), (3, .slice VI m ci), (5, .pointer (some ⟨w.heap.size, 0, none⟩)), (6, .pointer (some ⟨w.heap.size + 1, 0, none⟩)), (9, .slice (some ⟨gA, 0, none⟩) n (n + 64)), (10, .pointer (some ⟨b10, 0, none⟩)), (11, .slice (some ⟨gI, 0, none⟩) m (m + 64)), (12, .slice Va code.length ka), (14, .slice Vb code.length kb), (19, .slice Vc least.length kc), (22, .slice Vd least.length kd)] a) : (tlT 16).wp Tryd.prog Q a X := by
  obtain ⟨U, rfl, e0, e3, e5, e6, e9, e10, e11, e12, e14, e19, e22, -⟩ := ha.openTL
  unfold FrTL
  simp only [e0, e3, e5, e6, e9, e10, e11, e12, e14, e19, e22]
  clear e0 e3 e5 e6 e9 e10 e11 e12 e14 e19 e22 ha
  show (Code.seq _ _).wp _ _ _ _
  have H12 := Lib.hid (And.intro h1 h2)
  clear h1 h2
  go_upto_region 17 with fail
  refine absW (fun Y => BagA X Y X.heap.size [] [] [] []) (BagA.new X) ?_
  intro Y0 hB0
  have HB0 := Lib.hid hB0
  clear hB0
  go_wp2_with fail
  refine (bag_ints Va _ ka HB0 (by simp)).mono ?_
  rintro e Y1 ⟨rfl, hB1, _⟩
  have HB1 := Lib.hid hB1
  clear hB1
  simp only []
  go_wp2_with fail
  refine (bag_ints Vb _ kb HB1 (by simp)).mono ?_
  rintro e Y2 ⟨rfl, hB2, _⟩
  have HB2 := Lib.hid hB2
  clear hB2
  simp only []
  go_wp2_with fail
  refine (bag_ints Vc _ kc HB2 (by simp)).mono ?_
  rintro e Y3 ⟨rfl, hB3, _⟩
  have HB3 := Lib.hid hB3
  clear hB3
  simp only []
  go_wp2_with fail
  refine (bag_ints Vd _ kd HB3 (by simp)).mono ?_
  rintro e Y4 ⟨rfl, hB4, _⟩
  have HB4 := Lib.hid hB4
  clear hB4
  simp only []
  have HF := Lib.hid (HT.out.below HB4.out.below)
  have O1 : Hid (Own Y4 3 1 [.slice Va code.length ka, .slice Vb code.length kb, .slice Vc least.length kc, .slice Vd least.length kd]) := by
    have := H12.out
    refine Own.cons (Own.cons (Own.cons (Own.cons (Own.nil _ _ _) HF.out.d.1 (by simp) (by omega) (by simp)) HF.out.c.1 (fun u hu => ?_) (by omega) (by simp)) HF.out.b.1 (fun u hu => ?_) (by omega) (by simp)) HF.out.a.1 (fun u hu => ?_) (by omega) (by simp)
    · simp at hu; subst hu; exact HF.out.cd
    · simp at hu; rcases hu with rfl | rfl
      · exact HF.out.bc
      · exact HF.out.bd
    · simp at hu; rcases hu with rfl | rfl | rfl
      · exact HF.out.ab
      · exact HF.out.ac
      · exact HF.out.ad
  have AP : Hid (Calls Tryd.prog 18 #[.pointer (some ⟨X.heap.size, 0, none⟩)] Y4 fun e w' => e = .returned (.bool true) ∧ Below w.heap.size w w') :=
    (bag_apartA HB4 O1 (Own.nil _ _ _) (Own.nil _ _ _) (Own.nil _ _ _)).mono fun e w' ⟨he, hk⟩ => ⟨he, by
      have hX := hbw.out
      have hk2 : Kp (ownL [.slice Va code.length ka, .slice Vb code.length kb, .slice Vc least.length kc, .slice Vd least.length kd] ++ (ownL [] ++ (ownL [] ++ ownL []))) Y4 w' := hk
      have hw : Below w.heap.size w Y4 := hX.trans (HB4.out.below.mono hX.size)
      refine hw.trans (hk2.below hw.size (fun b hb => ?_))
      simp only [ownL, List.flatMap_cons, List.flatMap_nil, List.append_nil, List.mem_append] at hb
      rcases hb with hb | hb | hb | hb
      · exact HF.out.a.2.1 b hb
      · exact HF.out.b.2.1 b hb
      · exact HF.out.c.2.1 b hb
      · exact HF.out.d.2.1 b hb⟩
  clear O1
  go_wp2_with fail
  refine AP.out.mono ?_
  rintro e Y5 ⟨rfl, hb5⟩
  have HB5 := Lib.hid hb5
  clear hb5
  simp only []
  go_wp2_with fail
  refine (lives12 _).mono ?_
  rintro e w10 ⟨rfl, hb10⟩
  have HB10 := Lib.hid (HB5.out.trans (hb10.mono HB5.out.size))
  clear hb10
  simp only []
  repeat (first
    | exact hret.out _ _ ⟨rfl, rfl, rfl, trivial⟩ HB10.out
    | go_values | go_skip | go_guarded | go_step | go_upon | go_back)
end
/-- THE WALK. -/
theorem tells_walk (A : Option Addr) (n cap : Nat) (L : List (ByteArray × Int)) (VA VB VI : Option Addr) (ca cb ci m : Nat) (cells : List Int) (free : Int) (W : List (Pt × Pt)) (p1 p2 : Int) (ids : List Int) (w : World) (hn : n = L.length) (hm : m = ids.length) (hcap : L.length ≤ cap) (HA : AgRd w A L) (HC : IntsRd w VA cells) (HW : WrRd w VB W) (HI : IntsRd w VI ids)
    (hl : L.length ≤ 6000000000000) (hcA : cells.length ≤ 1000000000000000000) (hwA : W.length ≤ 1000000000000000000) (hiA : ids.length ≤ 1000000000000000000) :
    Calls Tryd.prog 5 #[.slice A n cap, netV VA ca cells free VB cb W, .agg #[.int .i64 p1, .int .i64 p2], .slice VI m ci] w fun e w' => e = .returned (.bool true) ∧ Below w.heap.size w w' := by
  go_enter Tryd.func5, Tryd.ntmps5
  refine (show ∀ a, FrN 190 [] [(0, .slice A n cap), (1, netV VA ca cells free VB cb W), (2, .agg #[.int .i64 p1, .int .i64 p2]), (3, .slice VI m ci)] a → (tlT 0).wp Tryd.prog _ a w from ?_) _ ⟨rfl, rfl, rfl, rfl, rfl, rfl, trivial⟩
  intro a ha
  have hfin : Hid (∀ (a' : Act) (X : World), FrN 190 [] [(8, .bool true)] a' → Below w.heap.size w X → bodyPost Tryd.prog Tryd.f5 (fun e w' => e = .returned (.bool true) ∧ Below w.heap.size w w') .ret a' X) := by
    rintro a' X ⟨hsz, hdf, h4, _⟩ hb
    have g4 : a'.tmps[8]'(by rw [hsz]; omega) = .bool true := (Array.getElem?_eq_some_iff.1 h4).2
    exact bodyPost_ret (v := .bool true) (by simp only [results, Tryd.results5]; go_simp) hdf ⟨rfl, hb⟩
  have HR : Hid (Rd w A VA VB L cells W) := ⟨HA, HC, HW⟩
  refine tl_0 _ A n cap L VA VB VI ca cb ci m cells free W (p1, p2) ids w a hn hm HR (Lib.hid HI) hl hcA hwA hiA hfin (Lib.hid fun hcw hid a6 X6 b10 gA g1 g2 gI hf6 hs6 => ?_) ha
  have hlm : L.length ≤ maxLen := by unfold maxLen; omega
  obtain ⟨k, code, hcl, hp1, hp2⟩ := from_any L cells free W hlm (by omega) (by omega) (p1, p2)
  obtain ⟨kl, best, least, hll, hq1, hq2⟩ := least_any L cells free W hlm (by omega) (by omega) ids (by omega)
  refine tl_6 _ A n cap L VA VB VI ca cb ci m cells free W (p1, p2) ids w a6 X6 b10 gA g1 g2 gI k kl best code least hn hm hcap HR (Lib.hid HI) (Lib.hid hp1) (Lib.hid hp2) (Lib.hid hq1) (Lib.hid hq2) (Lib.hid fun a12 Y12 Va Vb Vc Vd Vf Vl ka kb kc kd kf kq hf12 hs12 ht12 => ?_) (Lib.hid hs6) hf6
  refine tl_12 _ A n cap VI ci m w a12 Y12 b10 gA g1 g2 gI k kl best code least Va Vb Vc Vd Vf Vl ka kb kc kd kf kq hcl hll (Lib.hid fun a14 Y14 hf14 hb14 => ?_) (Lib.hid ht12) hf12
  refine tl_14 _ A n cap L VA VB VI ca cb ci m cells free W (p1, p2) ids w a14 Y14 b10 gA g1 g2 gI code least Va Vb Vc Vd ka kb kc kd hn hm HR (Lib.hid HI) hl hcw hid (Lib.hid fun a16 Y16 hf16 hb16 => ?_) (Lib.hid (hs12.below hb14)) hf14
  have hs16 := (hs12.below hb14).below hb16
  exact tl_16 _ A n cap VI ci m w a16 Y16 b10 gA gI code least Va Vb Vc Vd Vf Vl ka kb kc kd kf kq hcl hll hfin (Lib.hid hs16.bel) (Lib.hid ((ht12.below hb14).below hb16)) hf16
end Go.Proofs.YtkonfogebepccaaDoor
