/-
  The statement CodeTells: its six calls.
-/
import Derived.Test.YtkonfogebepccaaDoorTellsA
/-
  The statement CodeTells: its beginning.
-/
namespace Go.Proofs.YtkonfogebepccaaDoor
open Go.RowKit Go.Shelf
attribute [local go_sem] cell_set
set_option maxRecDepth 100000
set_option linter.unusedVariables false

noncomputable def tlT (n : Nat) : Code := ((Tryd.f5.body).bind (tailQ n)).getD .skip
def FrTL (ds : List Deferred) (U : Nat → Value) : Act := { tmps := (U 0 :: U 1 :: U 2 :: U 3 :: U 4 :: U 5 :: U 6 :: U 7 :: U 8 :: U 9 :: U 10 :: U 11 :: U 12 :: U 13 :: U 14 :: U 15 :: U 16 :: U 17 :: U 18 :: U 19 :: U 20 :: U 21 :: U 22 :: U 23 :: U 24 :: U 25 :: U 26 :: U 27 :: U 28 :: U 29 :: U 30 :: U 31 :: U 32 :: U 33 :: U 34 :: U 35 :: U 36 :: U 37 :: U 38 :: U 39 :: U 40 :: U 41 :: U 42 :: U 43 :: U 44 :: U 45 :: U 46 :: U 47 :: U 48 :: U 49 :: U 50 :: U 51 :: U 52 :: U 53 :: U 54 :: U 55 :: U 56 :: U 57 :: U 58 :: U 59 :: U 60 :: U 61 :: U 62 :: U 63 :: U 64 :: U 65 :: U 66 :: U 67 :: U 68 :: U 69 :: U 70 :: U 71 :: U 72 :: U 73 :: U 74 :: U 75 :: U 76 :: U 77 :: U 78 :: U 79 :: U 80 :: U 81 :: U 82 :: U 83 :: U 84 :: U 85 :: U 86 :: U 87 :: U 88 :: U 89 :: U 90 :: U 91 :: U 92 :: U 93 :: U 94 :: U 95 :: U 96 :: U 97 :: U 98 :: U 99 :: U 100 :: U 101 :: U 102 :: U 103 :: U 104 :: U 105 :: U 106 :: U 107 :: U 108 :: U 109 :: U 110 :: U 111 :: U 112 :: U 113 :: U 114 :: U 115 :: U 116 :: U 117 :: U 118 :: U 119 :: U 120 :: U 121 :: U 122 :: U 123 :: U 124 :: U 125 :: U 126 :: U 127 :: U 128 :: U 129 :: U 130 :: U 131 :: U 132 :: U 133 :: U 134 :: U 135 :: U 136 :: U 137 :: U 138 :: U 139 :: U 140 :: U 141 :: U 142 :: U 143 :: U 144 :: U 145 :: U 146 :: U 147 :: U 148 :: U 149 :: U 150 :: U 151 :: U 152 :: U 153 :: U 154 :: U 155 :: U 156 :: U 157 :: U 158 :: U 159 :: U 160 :: U 161 :: U 162 :: U 163 :: U 164 :: U 165 :: U 166 :: U 167 :: U 168 :: U 169 :: U 170 :: U 171 :: U 172 :: U 173 :: U 174 :: U 175 :: U 176 :: U 177 :: U 178 :: U 179 :: U 180 :: U 181 :: U 182 :: U 183 :: U 184 :: U 185 :: U 186 :: U 187 :: U 188 :: U 189 :: []).toArray, defers := ds }
theorem FrN.openTL {ds : List Deferred} {L : List (Nat × Value)} {a : Act} (h : FrN 190 ds L a) : ∃ U, a = FrTL ds U ∧ Us U L := h.open_
/-- What the statement keeps. -/
structure TlS (w X : World) (bx bp b10 gA g1 g2 gI : Nat) (VA VB : Option Addr) (ca cb : Nat) (L : List (ByteArray × Int)) (cells : List Int) (free : Int) (W : List (Pt × Pt)) (p : Pt) (ids : List Int) : Prop where
  bel : Below w.heap.size w X
  nb : NBox X bx VA cells.length ca free VB W.length cb
  pb : PtBx X bp p
  n10 : NBox X b10 (some ⟨g1, 0, none⟩) cells.length (cells.length + 64) free (some ⟨g2, 0, none⟩) W.length (W.length + 64)
  ag : Row X 106 2 (.slice (some ⟨gA, 0, none⟩) (L.length + 64) (L.length + 64)) (L.length + 64) (agvals (wideA L))
  wd : WideN X g1 g2 cells W
  wi : Row X 3 1 (.slice (some ⟨gI, 0, none⟩) (ids.length + 64) (ids.length + 64)) (ids.length + 64) (ivals (wideL ids))
theorem TlS.below {w X Y : World} {bx bp b10 gA g1 g2 gI : Nat} {VA VB : Option Addr} {ca cb : Nat} {L : List (ByteArray × Int)} {cells : List Int} {free : Int} {W : List (Pt × Pt)} {p : Pt} {ids : List Int} (h : TlS w X bx bp b10 gA g1 g2 gI VA VB ca cb L cells free W p ids) (hb : Below X.heap.size X Y) : TlS w Y bx bp b10 gA g1 g2 gI VA VB ca cb L cells free W p ids :=
  ⟨h.bel.trans (hb.mono h.bel.size), h.nb.below hb, h.pb.below hb, h.n10.below hb, h.ag.keep fun b hm => hb.block b (h.ag.lt b hm), h.wd.below hb, h.wi.keep fun b hm => hb.block b (h.wi.lt b hm)⟩
theorem TlS.rd {w X : World} {bx bp b10 gA g1 g2 gI : Nat} {VA VB : Option Addr} {ca cb : Nat} {L : List (ByteArray × Int)} {cells : List Int} {free : Int} {W : List (Pt × Pt)} {p : Pt} {ids : List Int} (h : TlS w X bx bp b10 gA g1 g2 gI VA VB ca cb L cells free W p ids) : Rd X (some ⟨gA, 0, none⟩) (some ⟨g1, 0, none⟩) (some ⟨g2, 0, none⟩) L cells W := ⟨Row.wideRd h.ag, h.wd.ints, h.wd.wires⟩
theorem Row.wideIn {w : World} {g : Nat} {l : List Int} (h : Row w 3 1 (.slice (some ⟨g, 0, none⟩) (l.length + 64) (l.length + 64)) (l.length + 64) (ivals (wideL l))) : IntsRd w (some ⟨g, 0, none⟩) l := fun i hi => by
  refine ⟨g, 0, rfl, h.lt g (by simp [ownB]), ?_⟩
  rw [Nat.zero_add, h.cellAt i (by omega)]
  have h2 := wideL_lo hi
  have h3 : i < (wideL l).length := by rw [wideL_len]; omega
  simp only [List.getD_eq_getElem?_getD, List.getElem?_eq_getElem h3, Option.getD_some] at h2
  simp [ivals, h3, h2, List.getD_eq_getElem?_getD]
section
variable (Q : Exit → Act → World → Prop) (A : Option Addr) (n cap : Nat) (L : List (ByteArray × Int)) (VA VB VI : Option Addr) (ca cb ci m : Nat) (cells : List Int) (free : Int) (W : List (Pt × Pt)) (p : Pt) (ids : List Int) (w : World)
set_option maxHeartbeats 4000000 in
theorem tl_0 (a : Act) (hn : n = L.length) (hm : m = ids.length) (HR : Hid (Rd w A VA VB L cells W)) (HI : Hid (IntsRd w VI ids)) (hl : L.length ≤ 6000000000000) (hcA : cells.length ≤ 1000000000000000000) (hwA : W.length ≤ 1000000000000000000) (hiA : ids.length ≤ 1000000000000000000)
    (hret : Hid (∀ a' X, FrN 190 [] [(8, .bool true)] a' → Below w.heap.size w X → Q .ret a' X))
    (hnext : Hid (cells.length + W.length ≤ 512 → ids.length ≤ 512 → ∀ a' X b10 gA g1 g2 gI, FrN 190 [] [(0, .slice A n cap), (3, .slice VI m ci), (5, .pointer (some ⟨w.heap.size, 0, none⟩)), (6, .pointer (some ⟨w.heap.size + 1, 0, none⟩)), (9, .slice (some ⟨gA, 0, none⟩) n (n + 64)), (10, .pointer (some ⟨b10, 0, none⟩)), (11, .slice (some ⟨gI, 0, none⟩) m (m + 64))] a' →
      TlS w X w.heap.size (w.heap.size + 1) b10 gA g1 g2 gI VA VB ca cb L cells free W p ids → (tlT 6).wp Tryd.prog Q a' X))
    (ha : FrN 190 [] [(0, .slice A n cap), (1, netV VA ca cells free VB cb W), (2, .agg #[.int .i64 p.1, .int .i64 p.2]), (3, .slice VI m ci)] a) : (tlT 0).wp Tryd.prog Q a w := by
  subst hn hm
  obtain ⟨U, rfl, e0, e1, e2, e3, -⟩ := ha.openTL
  have HM : Hid (∀ Z, Below w.heap.size w Z → Calls Tryd.prog 39 #[.slice A L.length cap, .agg #[.slice VA cells.length ca, .int .i64 free, .slice VB W.length cb]] Z fun e w' => ∃ r : Bool, e = .returned (.bool r) ∧ (r = false → cells.length + W.length ≤ 512) ∧ Below Z.heap.size Z w') := fun Z hz =>
    heavy_lt A _ cap L VA VB cells.length W.length ca cb free Z rfl (by unfold maxLen; omega) (Lib.hid (HR.out.a.below hz)) hcA hwA
  have HI2 := Lib.hid (And.intro hl hiA)
  unfold FrTL
  simp only [e0, e1, e2, e3]
  clear e0 e1 e2 e3 ha hl hcA hwA
  show (Code.seq _ _).wp _ _ _ _
  go_upto_region 1 with fail
  refine absW (fun X => Below w.heap.size w X ∧ NBox X w.heap.size VA cells.length ca free VB W.length cb ∧ PtBx X (w.heap.size + 1) p) ⟨by (repeat (first | exact Below.refl _ _ | (with_reducible refine Below.drew ?_) | (with_reducible refine Below.alloc ?_ (by (try simp); (try omega)) _) | (with_reducible refine Below.setCell ?_ (by (try simp); (try omega)) _) | (with_reducible refine Below.trans ?_ (Below.mono (by assumption) (by (try simp); (try omega)))))), ⟨by simp <;> omega, by go_simp, by go_simp, by go_simp⟩, ?_⟩ ?_
  · have := heap_alloc_new (w.alloc (.cells #[.slice VA cells.length ca, .int .i64 free, .slice VB W.length cb] 64)) (.cells #[.int .i64 p.1, .int .i64 p.2] 83)
    rw [World.size_alloc] at this
    exact this
  rintro X ⟨hbX, hnb, hpb⟩
  have HX := Lib.hid (And.intro hbX (And.intro hnb hpb))
  have c0 := hnb.c0
  have c1 := hnb.c1
  have c2 := hnb.c2
  have clt := hnb.lt
  clear hbX hnb hpb
  have hi1 : (ids.length : Int) ≤ 1000000000000000000 := by omega
  go_wp2_with fail
  refine (HM.out _ HX.out.1).mono ?_
  rintro e w1 ⟨r, rfl, hr, hb1⟩
  have HX := Lib.hid (And.intro (HX.out.1.trans (hb1.mono HX.out.1.size)) (And.intro (HX.out.2.1.below hb1) (HX.out.2.2.below hb1)))
  clear hb1 c0 c1 c2 clt
  have c0 := HX.out.2.1.c0
  have c1 := HX.out.2.1.c1
  have c2 := HX.out.2.1.c2
  have clt := HX.out.2.1.lt
  simp only []
  cases r with
  | true =>
    go_wp2_with (go_at_call 40; refine (lives12 _).mono ?_; rintro e w9 ⟨rfl, hb9⟩
                 have HB9 := Lib.hid hb9
                 clear hb9)
    exact hret.out _ _ ⟨rfl, rfl, rfl, trivial⟩ (HX.out.1.trans (HB9.out.mono HX.out.1.size))
  | false =>
    have HR1 := Lib.hid (hr rfl)
    clear hr
    by_cases hid : ids.length ≤ 512
    · have hid1 : (ids.length : Int) ≤ 512 := by omega
      have hid2 : ¬ ((512 : Int) < (ids.length : Int)) := by omega
      have HN := Lib.hid (hnext.out HR1.out hid)
      have HRw := Lib.hid (HR.out.below HX.out.1)
      have HIw := Lib.hid (HI.out.below HX.out.1)
      have HWA : Hid (Calls Tryd.prog 41 #[.slice A L.length cap] w1 fun e w' => ∃ g, e = .returned (.slice (some ⟨g, 0, none⟩) L.length (L.length + 64)) ∧ Row w' 106 2 (.slice (some ⟨g, 0, none⟩) (L.length + 64) (L.length + 64)) (L.length + 64) (agvals (wideA L)) ∧ Below w1.heap.size w1 w') :=
        (wide_agents A _ cap L w1 rfl HI2.out.1 (Lib.hid HRw.out.a)).mono fun e w' h => by obtain ⟨g, e1, _, e2, e3⟩ := h; exact ⟨g, e1, e2, e3⟩
      go_upto_region 4 with (first
        | (go_at_call 41
           refine HWA.out.mono ?_
           rintro e w2 ⟨gA, rfl, hrA, hb2⟩
           have HA2 := Lib.hid hrA
           have HX2 := Lib.hid (And.intro (HX.out.1.trans (hb2.mono HX.out.1.size)) (And.intro (HX.out.2.1.below hb2) (HX.out.2.2.below hb2)))
           have HRw2 := Lib.hid (HRw.out.below hb2)
           have HIw2 := Lib.hid (HIw.out.below hb2)
           clear hrA hb2 c0 c1 c2 clt))
      have c0 := HX2.out.2.1.c0
      have c1 := HX2.out.2.1.c1
      have c2 := HX2.out.2.1.c2
      have clt := HX2.out.2.1.lt
      go_wp2_with fail
      refine (wide_net VA VB ca cb cells free W _ (by have := HR1.out; omega) (by have := HR1.out; omega) (Lib.hid HRw2.out.c) (Lib.hid HRw2.out.w)).mono ?_
      rintro e w3 ⟨g1, g2, rfl, hg1, hg2, hwd, hb3⟩
      have HX3 := Lib.hid (And.intro (HX2.out.1.trans (hb3.mono HX2.out.1.size)) (And.intro (HX2.out.2.1.below hb3) (And.intro (HX2.out.2.2.below hb3) (And.intro (HA2.out.keep fun b hb => hb3.block b (HA2.out.lt b hb)) hwd))))
      have HIw3 := Lib.hid (HIw2.out.below hb3)
      clear hg1 hg2 hwd hb3 c0 c1 c2 clt
      simp only []
      go_upto_region 5 with fail
      have hO : ∀ o : Obj, Below w3.heap.size w3 (w3.alloc o) := fun o => (Below.refl _ _).alloc (Nat.le_refl _) o
      refine absW (fun Z => Below w3.heap.size w3 Z ∧ NBox Z w3.heap.size (some ⟨g1, 0, none⟩) cells.length (cells.length + 64) free (some ⟨g2, 0, none⟩) W.length (W.length + 64)) ⟨hO _, ⟨by simp, by go_simp, by go_simp, by go_simp⟩⟩ ?_
      clear hO
      rintro Z ⟨hZ, hz10⟩
      have HZ := Lib.hid (And.intro hZ hz10)
      have HIz := Lib.hid (HIw3.out.below hZ)
      clear hZ hz10
      go_wp2_with fail
      refine (wide_ints VI _ ci ids _ rfl (by omega) HIz).mono ?_
      rintro e w4 ⟨gI, rfl, hgI, hri, hb4⟩
      have HT : Hid (TlS w w4 w.heap.size (w.heap.size + 1) w3.heap.size gA g1 g2 gI VA VB ca cb L cells free W p ids) := by
        obtain ⟨x1, x2, x3, x4, x5⟩ := HX3.out
        obtain ⟨z1, z2⟩ := HZ.out
        have hb := z1.trans (hb4.mono z1.size)
        exact ⟨x1.trans (hb.mono x1.size), x2.below hb, x3.below hb, z2.below hb4, x4.keep fun b hm => hb.block b (x4.lt b hm), x5.below hb, hri⟩
      clear hgI hri hb4
      iterate 80 (first | (with_reducible refine at_seq3 6 ?_) | (with_reducible refine at_seq2 6 ?_) | (with_reducible refine at_seq 6 ?_) | go_values | go_skip | go_guarded | go_step | go_upon | go_back | go_simp)
      exact HN.out _ _ w3.heap.size gA g1 g2 gI ⟨rfl, rfl, rfl, rfl, rfl, rfl, rfl, rfl, rfl, trivial⟩ HT.out
    · have hid1 : (512 : Int) < (ids.length : Int) := by omega
      go_wp2_with (go_at_call 40; refine (lives12 _).mono ?_; rintro e w9 ⟨rfl, hb9⟩
                   have HB9 := Lib.hid hb9
                   clear hb9)
      exact hret.out _ _ ⟨rfl, rfl, rfl, trivial⟩ (HX.out.1.trans (HB9.out.mono HX.out.1.size))
end
end Go.Proofs.YtkonfogebepccaaDoor
namespace Go.Proofs.YtkonfogebepccaaDoor
open Go.RowKit Go.Shelf
attribute [local go_sem] cell_set
set_option maxRecDepth 100000
set_option linter.unusedVariables false

/-- The six answers: a, b, c, d of the program, f, l of the document. -/
structure TlA (w X : World) (Va Vb Vc Vd Vf Vl : Option Addr) (ca cb cc cd cf cl : Nat) (code least : List Int) : Prop where
  a : Fresh w X 3 1 code.length (.slice Va code.length ca) (ivals code)
  b : Fresh w X 3 1 code.length (.slice Vb code.length cb) (ivals code)
  f : Fresh w X 3 1 code.length (.slice Vf code.length cf) (ivals code)
  c : Fresh w X 3 1 least.length (.slice Vc least.length cc) (ivals least)
  d : Fresh w X 3 1 least.length (.slice Vd least.length cd) (ivals least)
  l : Fresh w X 3 1 least.length (.slice Vl least.length cl) (ivals least)
  ab : ∀ t ∈ ownB (.slice Va code.length ca), t ∉ ownB (.slice Vb code.length cb)
  ac : ∀ t ∈ ownB (.slice Va code.length ca), t ∉ ownB (.slice Vc least.length cc)
  ad : ∀ t ∈ ownB (.slice Va code.length ca), t ∉ ownB (.slice Vd least.length cd)
  bc : ∀ t ∈ ownB (.slice Vb code.length cb), t ∉ ownB (.slice Vc least.length cc)
  bd : ∀ t ∈ ownB (.slice Vb code.length cb), t ∉ ownB (.slice Vd least.length cd)
  cd : ∀ t ∈ ownB (.slice Vc least.length cc), t ∉ ownB (.slice Vd least.length cd)
theorem TlA.below {w X Y : World} {Va Vb Vc Vd Vf Vl : Option Addr} {ca cb cc cd cf cl : Nat} {code least : List Int} (h : TlA w X Va Vb Vc Vd Vf Vl ca cb cc cd cf cl code least) (hb : Below X.heap.size X Y) : TlA w Y Va Vb Vc Vd Vf Vl ca cb cc cd cf cl code least :=
  ⟨h.a.later hb, h.b.later hb, h.f.later hb, h.c.later hb, h.d.later hb, h.l.later hb, h.ab, h.ac, h.ad, h.bc, h.bd, h.cd⟩
theorem Fresh.apart {w X Y : World} {e e' : TypeId} {s s' n n' : Nat} {v v' : Value} {xs xs' : List Value} (h : Fresh w X e s n v xs) (h' : Fresh X Y e' s' n' v' xs') : ∀ b ∈ ownB v, b ∉ ownB v' := fun b hb hb' => by
  have := h.1.lt b hb; have := h'.2.1 b hb'; omega
section
variable (Q : Exit → Act → World → Prop) (A : Option Addr) (n cap : Nat) (L : List (ByteArray × Int)) (VA VB VI : Option Addr) (ca cb ci m : Nat) (cells : List Int) (free : Int) (W : List (Pt × Pt)) (p : Pt) (ids : List Int) (w : World)
set_option maxHeartbeats 4000000 in
theorem tl_6 (a : Act) (X : World) (b10 gA g1 g2 gI : Nat) (k kl best : Int) (code least : List Int) (hn : n = L.length) (hm : m = ids.length) (hcap : L.length ≤ cap) (HR : Hid (Rd w A VA VB L cells W)) (HI : Hid (IntsRd w VI ids))
    (HP1 : Hid (∀ A cap VA VB ca cb w, L.length ≤ cap → Rd w A VA VB L cells W → Calls Tryd.prog 43 #[.slice A L.length cap, netV VA ca cells free VB cb W, .agg #[.int .i64 p.1, .int .i64 p.2]] w (AnsF w k code)))
    (HP2 : Hid (∀ A cap VA VB ca cb w, L.length ≤ cap → Rd w A VA VB L cells W → Calls Tryd.prog 44 #[.slice A L.length cap, netV VA ca cells free VB cb W, .agg #[.int .i64 p.1, .int .i64 p.2]] w (AnsF w k code)))
    (HL1 : Hid (∀ A cap VA VB VI ca cb ci w, L.length ≤ cap → Rd w A VA VB L cells W → IntsRd w VI ids → Calls Tryd.prog 45 #[.slice A L.length cap, netV VA ca cells free VB cb W, .slice VI ids.length ci] w (AnsL w kl best least)))
    (HL2 : Hid (∀ A cap VA VB VI ca cb ci w, L.length ≤ cap → Rd w A VA VB L cells W → IntsRd w VI ids → Calls Tryd.prog 46 #[.slice A L.length cap, netV VA ca cells free VB cb W, .slice VI ids.length ci] w (AnsL w kl best least)))
    (hnext : Hid (∀ a' Y Va Vb Vc Vd Vf Vl ka kb kc kd kf kq, FrN 190 [] [(0, .slice A n cap), (3, .slice VI m ci), (5, .pointer (some ⟨w.heap.size, 0, none⟩)), (6, .pointer (some ⟨w.heap.size + 1, 0, none⟩)), (9, .slice (some ⟨gA, 0, none⟩) n (n + 64)), (10, .pointer (some ⟨b10, 0, none⟩)), (11, .slice (some ⟨gI, 0, none⟩) m (m + 64)),
      (12, .slice Va code.length ka), (13, .int .i64 k), (14, .slice Vb code.length kb), (15, .int .i64 k), (16, .slice Vf code.length kf), (17, .int .i64 k), (18, .int .i64 best), (19, .slice Vc least.length kc), (20, .int .i64 kl), (21, .int .i64 best), (22, .slice Vd least.length kd), (23, .int .i64 kl), (24, .int .i64 best), (25, .slice Vl least.length kq), (26, .int .i64 kl)] a' →
      TlS w Y w.heap.size (w.heap.size + 1) b10 gA g1 g2 gI VA VB ca cb L cells free W p ids → TlA w Y Va Vb Vc Vd Vf Vl ka kb kc kd kf kq code least → (tlT 12).wp Tryd.prog Q a' Y))
    (hs : Hid (TlS w X w.heap.size (w.heap.size + 1) b10 gA g1 g2 gI VA VB ca cb L cells free W p ids))
    (ha : FrN 190 [] [(0, .slice A n cap), (3, .slice VI m ci), (5, .pointer (some ⟨w.heap.size, 0, none⟩)), (6, .pointer (some ⟨w.heap.size + 1, 0, none⟩)), (9, .slice (some ⟨gA, 0, none⟩) n (n + 64)), (10, .pointer (some ⟨b10, 0, none⟩)), (11, .slice (some ⟨gI, 0, none⟩) m (m + 64))] a) : (tlT 6).wp Tryd.prog Q a X := by
  subst hn hm
  obtain ⟨U, rfl, e0, e3, e5, e6, e9, e10, e11, -⟩ := ha.openTL
  have HS0 := hs
  have h64 : L.length ≤ L.length + 64 := by omega
  have HCap := Lib.hid (And.intro hcap h64)
  unfold FrTL
  simp only [e0, e3, e5, e6, e9, e10, e11]
  clear e0 e3 e5 e6 e9 e10 e11 ha hs hcap h64
  show (Code.seq _ _).wp _ _ _ _
  have HRW : Hid (∀ Y, Below w.heap.size w Y → Rd Y A VA VB L cells W ∧ IntsRd Y VI ids) := fun Y h => ⟨HR.out.below h, HI.out.below h⟩
  have q0 := (HS0.out).nb
  have c0 := q0.c0
  have c1 := q0.c1
  have c2 := q0.c2
  have clt := q0.lt
  have q1 := (HS0.out).n10
  have d0 := q1.c0
  have d1 := q1.c1
  have d2 := q1.c2
  have dlt := q1.lt
  obtain ⟨x0, x1, xlt⟩ := (HS0.out).pb.cells
  clear q0 q1
  go_wp2_with fail
  refine (HP1.out _ _ _ _ _ _ _ HCap.out.2 HS0.out.rd).mono ?_
  rintro e w1 ⟨Va, ka, rfl, hf1⟩
  have HS1 := Lib.hid (HS0.out.below hf1.2.2)
  have HF1 := Lib.hid hf1
  clear hf1 c0 c1 c2 clt d0 d1 d2 dlt x0 x1 xlt
  have q0 := (HS1.out).nb
  have c0 := q0.c0
  have c1 := q0.c1
  have c2 := q0.c2
  have clt := q0.lt
  have q1 := (HS1.out).n10
  have d0 := q1.c0
  have d1 := q1.c1
  have d2 := q1.c2
  have dlt := q1.lt
  obtain ⟨x0, x1, xlt⟩ := (HS1.out).pb.cells
  clear q0 q1
  simp only []
  go_wp2_with fail
  refine (HP1.out _ _ _ _ _ _ _ HCap.out.2 HS1.out.rd).mono ?_
  rintro e w2 ⟨Vb, kb, rfl, hf2⟩
  have HS2 := Lib.hid (HS1.out.below hf2.2.2)
  have HF2 := Lib.hid hf2
  clear hf2 c0 c1 c2 clt d0 d1 d2 dlt x0 x1 xlt
  have q0 := (HS2.out).nb
  have c0 := q0.c0
  have c1 := q0.c1
  have c2 := q0.c2
  have clt := q0.lt
  have q1 := (HS2.out).n10
  have d0 := q1.c0
  have d1 := q1.c1
  have d2 := q1.c2
  have dlt := q1.lt
  obtain ⟨x0, x1, xlt⟩ := (HS2.out).pb.cells
  clear q0 q1
  simp only []
  go_wp2_with fail
  refine (HP2.out _ _ _ _ _ _ _ HCap.out.1 (HRW.out _ HS2.out.bel).1).mono ?_
  rintro e w3 ⟨Vf, kf, rfl, hf3⟩
  have HS3 := Lib.hid (HS2.out.below hf3.2.2)
  have HF3 := Lib.hid hf3
  clear hf3 c0 c1 c2 clt d0 d1 d2 dlt x0 x1 xlt
  have q0 := (HS3.out).nb
  have c0 := q0.c0
  have c1 := q0.c1
  have c2 := q0.c2
  have clt := q0.lt
  have q1 := (HS3.out).n10
  have d0 := q1.c0
  have d1 := q1.c1
  have d2 := q1.c2
  have dlt := q1.lt
  obtain ⟨x0, x1, xlt⟩ := (HS3.out).pb.cells
  clear q0 q1
  simp only []
  go_wp2_with fail
  refine (HL1.out _ _ _ _ _ _ _ _ _ HCap.out.2 HS3.out.rd (Row.wideIn HS3.out.wi)).mono ?_
  rintro e w4 ⟨Vc, kc, rfl, hf4⟩
  have HS4 := Lib.hid (HS3.out.below hf4.2.2)
  have HF4 := Lib.hid hf4
  clear hf4 c0 c1 c2 clt d0 d1 d2 dlt x0 x1 xlt
  have q0 := (HS4.out).nb
  have c0 := q0.c0
  have c1 := q0.c1
  have c2 := q0.c2
  have clt := q0.lt
  have q1 := (HS4.out).n10
  have d0 := q1.c0
  have d1 := q1.c1
  have d2 := q1.c2
  have dlt := q1.lt
  obtain ⟨x0, x1, xlt⟩ := (HS4.out).pb.cells
  clear q0 q1
  simp only []
  go_wp2_with fail
  refine (HL1.out _ _ _ _ _ _ _ _ _ HCap.out.2 HS4.out.rd (Row.wideIn HS4.out.wi)).mono ?_
  rintro e w5 ⟨Vd, kd, rfl, hf5⟩
  have HS5 := Lib.hid (HS4.out.below hf5.2.2)
  have HF5 := Lib.hid hf5
  clear hf5 c0 c1 c2 clt d0 d1 d2 dlt x0 x1 xlt
  have q0 := (HS5.out).nb
  have c0 := q0.c0
  have c1 := q0.c1
  have c2 := q0.c2
  have clt := q0.lt
  have q1 := (HS5.out).n10
  have d0 := q1.c0
  have d1 := q1.c1
  have d2 := q1.c2
  have dlt := q1.lt
  obtain ⟨x0, x1, xlt⟩ := (HS5.out).pb.cells
  clear q0 q1
  simp only []
  go_wp2_with fail
  refine (HL2.out _ _ _ _ _ _ _ _ _ HCap.out.1 (HRW.out _ HS5.out.bel).1 (HRW.out _ HS5.out.bel).2).mono ?_
  rintro e w6 ⟨Vl, kq, rfl, hf6⟩
  have HS6 := Lib.hid (HS5.out.below hf6.2.2)
  have HF6 := Lib.hid hf6
  clear hf6 c0 c1 c2 clt d0 d1 d2 dlt x0 x1 xlt
  have q0 := (HS6.out).nb
  have c0 := q0.c0
  have c1 := q0.c1
  have c2 := q0.c2
  have clt := q0.lt
  have q1 := (HS6.out).n10
  have d0 := q1.c0
  have d1 := q1.c1
  have d2 := q1.c2
  have dlt := q1.lt
  obtain ⟨x0, x1, xlt⟩ := (HS6.out).pb.cells
  clear q0 q1
  simp only []
  have HT : Hid (TlA w w6 Va Vb Vc Vd Vf Vl ka kb kc kd kf kq code least) := by
    have b6 := HF6.out.2.2
    have b5 := HF5.out.2.2.trans (b6.mono HF5.out.2.2.size)
    have b4 := HF4.out.2.2.trans (b5.mono HF4.out.2.2.size)
    have b3 := HF3.out.2.2.trans (b4.mono HF3.out.2.2.size)
    have b2 := HF2.out.2.2.trans (b3.mono HF2.out.2.2.size)
    have n1 := HS0.out.bel
    have n2 := HS1.out.bel
    have n3 := HS2.out.bel
    have n4 := HS3.out.bel
    have n5 := HS4.out.bel
    have n6 := HS5.out.bel
    refine ⟨(HF1.out.later b2).from n1, (HF2.out.later b3).from n2, (HF3.out.later b4).from n3, (HF4.out.later b5).from n4, (HF5.out.later b6).from n5, HF6.out.from n6, ?_, ?_, ?_, ?_, ?_, ?_⟩
    · exact Fresh.apart HF1.out HF2.out
    · exact Fresh.apart (HF1.out.later (HF2.out.2.2.trans (HF3.out.2.2.mono HF2.out.2.2.size))) HF4.out
    · exact Fresh.apart (HF1.out.later (HF2.out.2.2.trans ((HF3.out.2.2.trans (HF4.out.2.2.mono HF3.out.2.2.size)).mono HF2.out.2.2.size))) HF5.out
    · exact Fresh.apart (HF2.out.later HF3.out.2.2) HF4.out
    · exact Fresh.apart (HF2.out.later (HF3.out.2.2.trans (HF4.out.2.2.mono HF3.out.2.2.size))) HF5.out
    · exact Fresh.apart HF4.out HF5.out
  iterate 80 (first | (with_reducible refine at_seq3 12 ?_) | (with_reducible refine at_seq2 12 ?_) | (with_reducible refine at_seq 12 ?_) | go_values | go_skip | go_guarded | go_step | go_upon | go_back | go_simp)
  exact hnext.out _ _ Va Vb Vc Vd Vf Vl ka kb kc kd kf kq ⟨rfl, rfl, rfl, rfl, rfl, rfl, rfl, rfl, rfl, rfl, rfl, rfl, rfl, rfl, rfl, rfl, rfl, rfl, rfl, rfl, rfl, rfl, rfl, rfl, trivial⟩ HS6.out HT.out
end
end Go.Proofs.YtkonfogebepccaaDoor
