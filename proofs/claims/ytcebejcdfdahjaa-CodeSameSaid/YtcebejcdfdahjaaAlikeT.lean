/-
  skeinlaw12.alike: a round of its loop behind the queue's head, part by part.
-/
import Derived.Test.YtcebejcdfdahjaaAlikeZip
import Derived.Test.YtcebejcdfdahjaaAlike18
import Derived.Test.YtcebejcdfdahjaaRegionHS
import Derived.Deep.DeepCutAuto
import Derived.Deep.LoopGhost
namespace Go.Proofs.Ytcebejcdfdahjaa
open Go.RowKit
attribute [local go_sem] cell_set
attribute [local go_sem high] run_neq_port
set_option maxRecDepth 100000
set_option linter.unusedVariables false

def leadR : Code → Option Nat
  | .region id _ _ => some id
  | .seq a _ => leadR a
  | _ => none
/-- What is left of a code from region n on. -/
def tailR (n : Nat) : Code → Option Code
  | .seq a b => if leadR a = some n then some (.seq a b) else (tailR n a).or (tailR n b)
  | .cond _ a b => (tailR n a).or (tailR n b)
  | .block _ a => tailR n a
  | .loop a => tailR n a
  | _ => none
noncomputable def alkT15 : Code := ((Try.f44.body).bind (tailR 15)).getD .skip
noncomputable def alkT18 : Code := ((Try.f44.body).bind (tailR 18)).getD .skip
noncomputable def alkT20 : Code := ((Try.f44.body).bind (tailR 20)).getD .skip
/-- A frame of the loop: the slots that have a meaning. -/
structure KpV (ka kd : List Value) (k8 k9 : Value) (U : Nat → Value) : Prop where
  a : (List.range 6).map U = ka
  b : U 8 = k8
  c : U 9 = k9
  d : (List.range 42).map (fun i => U (19 + i)) = kd
structure FrA (ka kd : List Value) (k8 k9 : Value) (b6 b7 B C z nA nB : Nat) (v15 : Value) (a : Act) : Prop where
  sz : a.tmps.size = 217
  df : a.defers = []
  t6 : a.tmps[6]? = some (.pointer (some ⟨b6, 0, none⟩))
  t7 : a.tmps[7]? = some (.pointer (some ⟨b7, 0, none⟩))
  t11 : a.tmps[11]? = some (.pointer (some ⟨B, 0, none⟩))
  t12 : a.tmps[12]? = some (.pointer (some ⟨C, 0, none⟩))
  t13 : a.tmps[13]? = some (.slice (some ⟨z, 0, none⟩) nA nA)
  t14 : a.tmps[14]? = some (.slice (some ⟨z + 1, 0, none⟩) nB nB)
  t15 : a.tmps[15]? = some v15
  ka : a.tmps.toList.take 6 = ka
  k8 : a.tmps[8]? = some k8
  k9 : a.tmps[9]? = some k9
  kd : (a.tmps.toList.drop 19).take 42 = kd
def alkL (b6 b7 B C z nA nB : Nat) (v15 v16 v17 : Value) (U : Nat → Value) : Act := { tmps := (U 0 :: U 1 :: U 2 :: U 3 :: U 4 :: U 5 :: .pointer (some ⟨b6, 0, none⟩) :: .pointer (some ⟨b7, 0, none⟩) :: U 8 :: U 9 :: U 10 :: .pointer (some ⟨B, 0, none⟩) :: .pointer (some ⟨C, 0, none⟩) :: .slice (some ⟨z, 0, none⟩) nA nA :: .slice (some ⟨z + 1, 0, none⟩) nB nB :: v15 :: v16 :: v17 :: U 18 :: U 19 :: U 20 :: U 21 :: U 22 :: U 23 :: U 24 :: U 25 :: U 26 :: U 27 :: U 28 :: U 29 :: U 30 :: U 31 :: U 32 :: U 33 :: U 34 :: U 35 :: U 36 :: U 37 :: U 38 :: U 39 :: U 40 :: U 41 :: U 42 :: U 43 :: U 44 :: U 45 :: U 46 :: U 47 :: U 48 :: U 49 :: U 50 :: U 51 :: U 52 :: U 53 :: U 54 :: U 55 :: U 56 :: U 57 :: U 58 :: U 59 :: U 60 :: U 61 :: U 62 :: U 63 :: U 64 :: U 65 :: U 66 :: U 67 :: U 68 :: U 69 :: U 70 :: U 71 :: U 72 :: U 73 :: U 74 :: U 75 :: U 76 :: U 77 :: U 78 :: U 79 :: U 80 :: U 81 :: U 82 :: U 83 :: U 84 :: U 85 :: U 86 :: U 87 :: U 88 :: U 89 :: U 90 :: U 91 :: U 92 :: U 93 :: U 94 :: U 95 :: U 96 :: U 97 :: U 98 :: U 99 :: U 100 :: U 101 :: U 102 :: U 103 :: U 104 :: U 105 :: U 106 :: U 107 :: U 108 :: U 109 :: U 110 :: U 111 :: U 112 :: U 113 :: U 114 :: U 115 :: U 116 :: U 117 :: U 118 :: U 119 :: U 120 :: U 121 :: U 122 :: U 123 :: U 124 :: U 125 :: U 126 :: U 127 :: U 128 :: U 129 :: U 130 :: U 131 :: U 132 :: U 133 :: U 134 :: U 135 :: U 136 :: U 137 :: U 138 :: U 139 :: U 140 :: U 141 :: U 142 :: U 143 :: U 144 :: U 145 :: U 146 :: U 147 :: U 148 :: U 149 :: U 150 :: U 151 :: U 152 :: U 153 :: U 154 :: U 155 :: U 156 :: U 157 :: U 158 :: U 159 :: U 160 :: U 161 :: U 162 :: U 163 :: U 164 :: U 165 :: U 166 :: U 167 :: U 168 :: U 169 :: U 170 :: U 171 :: U 172 :: U 173 :: U 174 :: U 175 :: U 176 :: U 177 :: U 178 :: U 179 :: U 180 :: U 181 :: U 182 :: U 183 :: U 184 :: U 185 :: U 186 :: U 187 :: U 188 :: U 189 :: U 190 :: U 191 :: U 192 :: U 193 :: U 194 :: U 195 :: U 196 :: U 197 :: U 198 :: U 199 :: U 200 :: U 201 :: U 202 :: U 203 :: U 204 :: U 205 :: U 206 :: U 207 :: U 208 :: U 209 :: U 210 :: U 211 :: U 212 :: U 213 :: U 214 :: U 215 :: U 216 :: []).toArray, defers := [] }
theorem list_of_range (l : List Value) (d : Value) : l = (List.range l.length).map fun i => (l[i]?).getD d := by
  refine List.ext_getElem (by simp) fun i h1 h2 => ?_
  simp [h1]
theorem FrA.lit {ka kd : List Value} {k8 k9 : Value} {b6 b7 B C z nA nB : Nat} {v15 v16 v17 : Value} {a : Act} (h : FrA ka kd k8 k9 b6 b7 B C z nA nB v15 a) (h16 : a.tmps[16]? = some v16) (h17 : a.tmps[17]? = some v17) : ∃ U, a = alkL b6 b7 B C z nA nB v15 v16 v17 U ∧ KpV ka kd k8 k9 U := by
  obtain ⟨⟨l⟩, df⟩ := a
  obtain ⟨sz, rfl, t6, t7, t11, t12, t13, t14, t15, hka, t8, t9, hkd⟩ := h
  simp only [List.size_toArray, List.getElem?_toArray] at sz t6 t7 t8 t9 t11 t12 t13 t14 t15 h16 h17 hka hkd
  have e := list_of_range l undef
  rw [sz] at e
  obtain ⟨U, hU⟩ : ∃ U : Nat → Value, (fun i => (l[i]?).getD undef) = U := ⟨_, rfl⟩
  have g : ∀ i v, l[i]? = some v → U i = v := fun i v h => by rw [← hU]; simp [h]
  have g6 := g _ _ t6
  have g7 := g _ _ t7
  have g8 := g _ _ t8
  have g9 := g _ _ t9
  have g11 := g _ _ t11
  have g12 := g _ _ t12
  have g13 := g _ _ t13
  have g14 := g _ _ t14
  have g15 := g _ _ t15
  have g16 := g _ _ h16
  have g17 := g _ _ h17
  rw [hU] at e
  clear hU g t6 t7 t8 t9 t11 t12 t13 t14 t15 h16 h17 sz
  refine ⟨U, ?_, ⟨by rw [← hka, e]; rfl, g8, g9, by rw [← hkd, e]; rfl⟩⟩
  rw [e]
  unfold alkL
  rw [← g6, ← g7, ← g11, ← g12, ← g13, ← g14, ← g15, ← g16, ← g17]
  rfl
theorem ivals_rep0 (n : Nat) : ivals (List.replicate n 0) = List.replicate n (.int .i64 0) := by simp [ivals]
/-- What lies in memory when both nets are looked at. -/
structure Al0 (w : World) (pn : Int → Nat) (csA csB : List Int) (fA fB : Nat) (WA WB : List (Pt × Pt)) (VA VB UA UB : Option Addr) (ca cb da db : Nat) (X1 X2 X3 Y1 Y2 Y3 : Option Addr) (c1 c2 c3 M B d1 d2 d3 N C : Nat) (X : World) : Prop where
  bl : Below w.heap.size w X
  na : NBox X w.heap.size VA csA.length ca fA VB WA.length cb
  nb : NBox X (w.heap.size + 1) UA csB.length da fB UB WB.length db
  la : NLk pn csA fA WA X1 X2 X3 c1 c2 c3 M B X
  lb : NLk pn csB fB WB Y1 Y2 Y3 d1 d2 d3 N C X
theorem Al0.below {w : World} {pn : Int → Nat} {csA csB : List Int} {fA fB : Nat} {WA WB : List (Pt × Pt)} {VA VB UA UB : Option Addr} {ca cb da db : Nat} {X1 X2 X3 Y1 Y2 Y3 : Option Addr} {c1 c2 c3 M B d1 d2 d3 N C : Nat} {X X' : World}
    (h : Al0 w pn csA csB fA fB WA WB VA VB UA UB ca cb da db X1 X2 X3 Y1 Y2 Y3 c1 c2 c3 M B d1 d2 d3 N C X) (hb : Below X.heap.size X X') : Al0 w pn csA csB fA fB WA WB VA VB UA UB ca cb da db X1 X2 X3 Y1 Y2 Y3 c1 c2 c3 M B d1 d2 d3 N C X' :=
  ⟨h.bl.trans (hb.mono h.bl.size), h.na.below hb, h.nb.below hb, h.la.below hb, h.lb.below hb⟩
section
variable (L : List (ByteArray × Int)) (VA VB UA UB : Option Addr) (ca cb da db : Nat) (csA csB : List Int) (fA fB : Nat) (WA WB : List (Pt × Pt)) (w : World)
variable (ka kd : List Value) (k8 k9 : Value) (p1 o1 p2 o2 p3 o3 p4 o4 p5 o5 p6 o6 c1 c2 c3 M B d1 d2 d3 N C : Nat) (Z : World) (r : Bool) (k : Nat) (Qp : Exit → Act → World → Prop)
/-- What is the same all through the loop. -/
structure AlC : Prop where
  hs : SigOk L
  HCA : IntsRd w VA csA
  HCB : IntsRd w UA csB
  hcA : csA.length ≤ 5000
  hcB : csB.length ≤ 5000
  hfA : fA ≤ 100
  hfB : fB ≤ 100
  okA : NetOk (pnL L) csA fA WA
  okB : NetOk (pnL L) csB fB WB
  HZ : Al0 w (pnL L) csA csB fA fB WA WB VA VB UA UB ca cb da db (some ⟨p1, o1, none⟩) (some ⟨p3, o3, none⟩) (some ⟨p5, o5, none⟩) (some ⟨p2, o2, none⟩) (some ⟨p4, o4, none⟩) (some ⟨p6, o6, none⟩) c1 c2 c3 M B d1 d2 d3 N C Z
/-- The state at the loop's head when k rounds at most are to come. -/
def AlI (k : Nat) (v : Value) (X : World) : Prop := ∃ Q dA dB, AlS (pnL L) csA csB fA fB Z Q dA dB v X ∧ (Q.length + 8 * (csA.length - dA.length) ≤ k ∧ k ≤ 100000) ∧ alk (labC csA) (labC csB) (rowP (pnL L) csA (lkM WA)) (rowP (pnL L) csB (lkM WB)) k Q dA dB = r
/-- What a round may come to. -/
structure AlQ : Prop where
  ret : ∀ a' w', a'.tmps[10]? = some (.bool r) → a'.defers = [] → Below w.heap.size w w' → Qp .ret a' w'
  nxt : ∀ a' w' v, FrA ka kd k8 k9 w.heap.size (w.heap.size + 1) B C Z.heap.size csA.length csB.length v a' → AlI L csA csB fA fB WA WB Z r k v w' → Qp .normal a' w'
  pan : ∀ c a' d v w', Qp (.panic c) (Act.put a' d v) w' → Qp (.panic c) a' w'
  ex : ∀ a' w' v, FrA ka kd k8 k9 w.heap.size (w.heap.size + 1) B C Z.heap.size csA.length csB.length v a' → AlI L csA csB fA fB WA WB Z r k v w' → Qp (.exit 1) a' w'

section
variable (Q : List (Pt × Pt)) (dA dB : List Int) (vq : Value) (wc : World) (t1 t2 c d : Nat) (u2 v2 x1 tc : Int)
set_option maxHeartbeats 8000000 in
theorem alk_T20 (H : Hid (AlC L VA VB UA UB ca cb da db csA csB fA fB WA WB w p1 o1 p2 o2 p3 o3 p4 o4 p5 o5 p6 o6 c1 c2 c3 M B d1 d2 d3 N C Z)) (HQp : Hid (AlQ L csA csB fA fB WA WB w ka kd k8 k9 B C Z r k Qp))
    (HS3 : Hid (AlS (pnL L) csA csB fA fB Z Q dA dB vq wc)) (HX1 : Hid (PtBx wc t1 ((c : Int), u2))) (HX2 : Hid (PtBx wc t2 ((d : Int), v2))) (hc : c < csA.length) (hd : d < csB.length)
    (HM2 : Hid (Q.length + 8 * (csA.length - dA.length) ≤ k ∧ k ≤ 100000)) (HXa : Hid (csA.getD c 0 = x1)) (HXb : Hid (csB.getD d 0 = x1)) (Htc : Hid ((toL csA.length dA dB).getD c 0 = tc))
    (HK : Hid (alk (labC csA) (labC csB) (rowP (pnL L) csA (lkM WA)) (rowP (pnL L) csB (lkM WB)) (k + 1) ((((c : Int), u2), ((d : Int), v2)) :: Q) dA dB = r))
    (HNb : Hid (¬ (u2 ≠ v2 ∨ labC csA (c : Int) ≠ labC csB (d : Int) ∨ dA.idxOf (c : Int) ≠ dB.idxOf (d : Int)))) (U : Nat → Value) (HV : Hid (KpV ka kd k8 k9 U)) :
    alkT20.wp Try.prog Qp (alkL w.heap.size (w.heap.size + 1) B C Z.heap.size csA.length csB.length vq (.pointer (some ⟨t1, 0, none⟩)) (.pointer (some ⟨t2, 0, none⟩)) U) wc := by
  obtain ⟨i2, hi0, hi1, hi2, hi3⟩ := info_parts arr2_info
  have hs := Lib.hid H.out.hs
  have hcA := H.out.hcA
  have hcB := H.out.hcB
  have hfA := H.out.hfA
  have hfB := H.out.hfB
  have HFr : Hid (¬ ((c : Int) < 0 ∨ (d : Int) < 0)) := by rintro (h | h) <;> omega
  have HZc := Lib.hid (H.out.HZ.below HS3.out.bl)
  obtain ⟨z0, z1, zl⟩ := HX1.out.cells
  obtain ⟨y0, y1, yl⟩ := HX2.out.cells
  dsimp only at z0 z1 y0 y1
  obtain ⟨r0, r1, r2⟩ := HS3.out.toAt hc
  obtain ⟨w0, w1', w2'⟩ := HS3.out.fromAt hd
  have HTm := Lib.hid (HS3.out.par.to_ne hc)
  have HTr := HS3.out.par.rng hc
  rw [Htc.out] at r0 HTr
  generalize (toL csB.length dB dA).getD d 0 = fd at w0
  have s1 : IntKind.i64.wrap ((c : Int) + 1) = (c : Int) + 1 := IntWalk.i64_in _ (by omega)
  have s2 : IntKind.i64.wrap ((d : Int) + 1) = (d : Int) + 1 := IntWalk.i64_in _ (by omega)
  unfold alkL
  show (Code.seq _ _).wp _ _ _ _
  by_cases htc : tc = 0
  · have hm : (c : Int) ∉ dA := fun h => HTm.out.2 h (by rw [Htc.out]; exact htc)
    have hm2 : (d : Int) ∉ dB := HS3.out.par.both (fun h => HNb.out (.inr (.inr h))) hm
    have HKn := Lib.hid ((alk_new HFr.out HNb.out hm).symm.trans HK.out)
    dsimp only at HKn
    have hS4 := HS3.out.pair hc hd hm hm2
    have hXn : ∀ t p, PtBx wc t p → t ≠ Z.heap.size ∧ t ≠ Z.heap.size + 1 := fun t p ht => by
      obtain ⟨cu1, hu1⟩ := HS3.out.rt.type Z.heap.size (by simp [ownB])
      obtain ⟨cu2, hu2⟩ := HS3.out.rf.type (Z.heap.size + 1) (by simp [ownB])
      exact ⟨type_ne ht hu1 (by decide), type_ne ht hu2 (by decide)⟩
    have hX4 : ∀ t p, PtBx wc t p → PtBx ((wc.setCell ⟨Z.heap.size, c, none⟩ (.int .i64 ((d : Int) + 1))).setCell ⟨Z.heap.size + 1, d, none⟩ (.int .i64 ((c : Int) + 1))) t p := fun t p ht => by
      obtain ⟨g1, g2⟩ := hXn t p ht
      exact ((Below.heap_setCell _ _ _ t g2).trans (Below.heap_setCell _ _ _ t g1)).trans ht
    obtain ⟨e1, e2⟩ := hXn _ _ HX1.out
    obtain ⟨e3, e4⟩ := hXn _ _ HX2.out
    have hXn' := And.intro e1.symm (And.intro e2.symm (And.intro e3.symm e4.symm))
    obtain ⟨e5, e6, e7, e8⟩ := hXn'
    clear hXn
    have HS4 := Lib.hid hS4
    have HX4 := Lib.hid (And.intro (hX4 _ _ HX1.out) (hX4 _ _ HX2.out))
    have hcapn := HS4.out.par.cap
    have HCap := Lib.hid hcapn
    clear hS4 hX4 hcapn hm hm2 HNb HFr HTm HTr HK Htc
    go_upto_region 23 with fail
    refine absW (fun Y3 => AlS (pnL L) csA csB fA fB Z Q (dA ++ [(c : Int)]) (dB ++ [(d : Int)]) vq Y3 ∧ PtBx Y3 t1 ((c : Int), u2) ∧ PtBx Y3 t2 ((d : Int), v2)) ⟨HS4.out, HX4.out⟩ ?_
    rintro Y3 ⟨hS5, hx3, hx4⟩
    have HS5 := Lib.hid (And.intro hS5 (And.intro hx3 hx4))
    clear hS5 hx3 hx4 HS4 HX4 z0 z1 y0 y1 r0 r1 r2 w0 w1' w2' zl yl HX1 HX2 HZc HS3 e1 e2 e3 e4 e5 e6 e7 e8
    obtain ⟨np, hnp⟩ : ∃ n, pnL L x1 = n := ⟨_, rfl⟩
    have hnp7 : np ≤ 7 := by rw [← hnp]; exact pnL_le hs.out _
    have HEq : Hid (csA.getD c 0 = csB.getD d 0) := Lib.hid (by rw [HXa.out, HXb.out])
    have HNp1 : Hid (pnL L (csA.getD c 0) = np) := Lib.hid (by rw [HXa.out, hnp])
    have HNp2 : Hid (pnL L (csB.getD d 0) = np) := Lib.hid (by rw [HXb.out, hnp])
    clear hnp
    obtain ⟨F, hF⟩ : ∃ n, firstN (pnL L) csA fA c = n := ⟨_, rfl⟩
    obtain ⟨G, hG⟩ : ∃ n, firstN (pnL L) csB fB d = n := ⟨_, rfl⟩
    have HF := Lib.hid hF
    have HG := Lib.hid hG
    have HF1 : Hid (firstN (pnL L) csA fA (c + 1) = F + np) := Lib.hid (by rw [firstN_succ hc, hF, HNp1.out])
    have hFle : F ≤ 50000 := by
      have := firstN_le (pnL_le hs.out) csA fA c
      rw [hF] at this
      omega
    have hGle : G ≤ 50000 := by
      have := firstN_le (pnL_le hs.out) csB fB d
      rw [hG] at this
      omega
    have HHm := Lib.hid (And.intro HM2.out HCap.out)
    clear hF hG HM2 HCap
    go_wp2_with fail
    go_loopw [15, 18] (fun q i wr => ∃ j : Nat, i = .int .i64 j ∧ j ≤ np ∧ Hid (AlS (pnL L) csA csB fA fB Z (Q ++ (zipP (pnL L) csA csB (lkM WA) (lkM WB) c d).take j) (dA ++ [(c : Int)]) (dB ++ [(d : Int)]) q wr ∧ PtBx wr t1 ((c : Int), u2) ∧ PtBx wr t2 ((d : Int), v2))) (fun _ i _ => np - (intOf i).toNat)
    case atStart => exact ⟨0, rfl, Nat.zero_le _, Lib.hid (by rw [List.take_zero, List.append_nil]; exact HS5.out)⟩
    case round =>
      obtain ⟨j, rfl, hj, HQ⟩ := hrel
      clear HS5
      have HZr := Lib.hid (H.out.HZ.below HQ.out.1.bl)
      obtain ⟨a1, a2, a3, a4, a5⟩ := HZr.out.la.cells
      obtain ⟨b1, b2, b3, b4, b5⟩ := HZr.out.lb.cells
      clear a1 a4 b1 b4
      obtain ⟨z0, z1, zl⟩ := HQ.out.2.1.cells
      obtain ⟨y0, y1, yl⟩ := HQ.out.2.2.cells
      dsimp only at z0 y0
      clear z1 y1
      obtain ⟨fl5, f0c⟩ := HZr.out.la.first2 (c := c) (by omega)
      obtain ⟨_, f1c⟩ := HZr.out.la.first2 (c := c + 1) (by omega)
      obtain ⟨fl6, g0c⟩ := HZr.out.lb.first2 (c := d) (by omega)
      rw [HF.out] at f0c
      rw [HF1.out] at f1c
      rw [HG.out] at g0c
      have hb1 : (c : Int) < (csA.length : Int) + 1 := by omega
      have hb2 : (c : Int) < (csA.length : Int) := by omega
      have hb3 : ¬ (c : Int) < 0 := by omega
      have hb4 : 0 ≤ (c : Int) + 1 := by omega
      have sF : IntKind.i64.wrap ((F : Int) + (j : Int)) = (F : Int) + (j : Int) := IntWalk.i64_in _ (by omega)
      have sN : IntKind.i64.wrap ((F : Int) + (np : Int)) = (F : Int) + (np : Int) := IntWalk.i64_in _ (by omega)
      go_upto_region 24 with fail
      refine region_still (by kernel_rfl) (by kernel_rfl) ?_
      repeat still_step
      refine wpStill_nil ?_
      by_cases hjn : j < np
      · have hpA : isPt (pnL L) csA fA ((c : Int), (j : Int)) = true := isPt_cell fA hc (by rw [HNp1.out]; exact hjn)
        have hpB : isPt (pnL L) csB fB ((d : Int), (j : Int)) = true := isPt_cell fB hd (by rw [HNp2.out]; exact hjn)
        obtain ⟨lA, mA, l0⟩ := HZr.out.la.link2 H.out.okA hpA
        obtain ⟨lB, mB, m0⟩ := HZr.out.lb.link2 H.out.okB hpB
        rw [plc_cell, HF.out] at mA l0
        rw [plc_cell, HG.out] at mB m0
        have HqA := Lib.hid (lkM_eq H.out.okA hpA).2
        have HqB := Lib.hid (lkM_eq H.out.okB hpB).2
        clear hpA hpB
        have HTk := Lib.hid (zipP_take (pn := pnL L) (LA := lkM WA) (LB := lkM WB) HEq.out (j := j) (by rw [HNp1.out]; exact hjn))
        obtain ⟨qA, hqA⟩ : ∃ x, lkM WA ((c : Int), (j : Int)) = x := ⟨_, rfl⟩
        obtain ⟨qB, hqB⟩ : ∃ x, lkM WB ((d : Int), (j : Int)) = x := ⟨_, rfl⟩
        rw [hqA] at l0 HqA HTk
        rw [hqB] at m0 HqB HTk
        clear hqA hqB
        obtain ⟨iA, hiA⟩ : ∃ x, plc (pnL L) csA fA qA = x := ⟨_, rfl⟩
        obtain ⟨iB, hiB⟩ : ∃ x, plc (pnL L) csB fB qB = x := ⟨_, rfl⟩
        rw [hiA] at l0
        rw [hiB] at m0
        have HiA := Lib.hid hiA
        have HiB := Lib.hid hiB
        clear hiA hiB
        have hb5 : (F : Int) + (j : Int) < (M : Int) := by omega
        have hb6 : (G : Int) + (j : Int) < (N : Int) := by omega
        have hb7 : 0 ≤ (F : Int) + (j : Int) := by omega
        have hb8 : 0 ≤ (G : Int) + (j : Int) := by omega
        have hb9 : (d : Int) < (csB.length : Int) + 1 := by omega
        have sG : IntKind.i64.wrap ((G : Int) + (j : Int)) = (G : Int) + (j : Int) := IntWalk.i64_in _ (by omega)
        have eF : ((F : Int) + (j : Int)).toNat = F + j := by omega
        have eG : ((G : Int) + (j : Int)).toNat = G + j := by omega
        rw [← eF] at l0
        rw [← eG] at m0
        clear f1c sN eF eG
        go_upto_region 26 with fail
        refine region_hs 26 28 (fun X' => X'.cell? ⟨B, 1, none⟩ = some (.slice (some ⟨p3, o3, none⟩) M c2) ∧ X'.cell? ⟨B, 2, none⟩ = some (.slice (some ⟨p5, o5, none⟩) (csA.length + 1) c3) ∧ X'.cell? ⟨t1, 0, none⟩ = some (.int .i64 (c : Int)) ∧ X'.cell? ⟨p5, o5 + c, none⟩ = some (.int .i64 (F : Int)) ∧ X'.cell? ⟨p3, o3 + ((F : Int) + (j : Int)).toNat, none⟩ = some (.int .i64 (iA : Int)) ∧ X'.cell? ⟨C, 1, none⟩ = some (.slice (some ⟨p4, o4, none⟩) N d2) ∧ X'.cell? ⟨C, 2, none⟩ = some (.slice (some ⟨p6, o6, none⟩) (csB.length + 1) d3) ∧ X'.cell? ⟨t2, 0, none⟩ = some (.int .i64 (d : Int)) ∧ X'.cell? ⟨p6, o6 + d, none⟩ = some (.int .i64 (G : Int)) ∧ X'.cell? ⟨p4, o4 + ((G : Int) + (j : Int)).toNat, none⟩ = some (.int .i64 (iB : Int))) (by kernel_rfl) (by kernel_rfl) (fun _ _ _ _ _ h => HQp.out.pan _ _ _ _ _ h) ⟨a2, a3, z0, f0c, l0, b2, b3, y0, g0c, m0⟩ ?_
        simp only [List.take_succ_cons, List.take_zero, List.drop_succ_cons, List.drop_zero]
        iterate 26 (refine wpHead_step (v := ?_) (by rfl) ?_ ?_; rotate_left; (· intro W9 hSw; (try dsimp only at hSw); go_simp; try with_reducible rfl); (try simp only [Act.put, List.setIfInBounds_toArray, List.set_cons_zero, List.set_cons_succ]))
        refine wpHead_nil ?_
        refine wpMid_step (by rfl) (fun K9 hK9 => ?_)
        unfold Oper.wp
        go_simp
        refine hK9 _ _ (⟨by go_simp, by go_simp, by go_simp, by go_simp, by go_simp, by go_simp, by go_simp, by go_simp, by go_simp, by go_simp⟩) ?_
        (try simp only [Act.put, List.setIfInBounds_toArray, List.set_cons_zero, List.set_cons_succ])
        refine wpMid_step (by rfl) (fun K9 hK9 => ?_)
        obtain ⟨TT, hTT⟩ : ∃ x, (zipP (pnL L) csA csB (lkM WA) (lkM WB) c d).take j = x := ⟨_, rfl⟩
        rw [hTT] at HQ HTk
        have hTl : TT.length ≤ 7 := by rw [← hTT, List.length_take]; omega
        have HWn : Hid (Win (wr.alloc (.cells #[.int .i64 (iA : Int), .int .i64 (iB : Int)] 66)).drew.drew 66 u15 (placesQ (pnL L) csA csB fA fB (Q ++ TT))) := Lib.hid (HQ.out.1.wn.below (by (repeat (first | exact Below.refl _ _ | (with_reducible refine Below.drew ?_) | (with_reducible refine Below.alloc ?_ (by (try simp); (try omega)) _) | (with_reducible refine Below.setCell ?_ (by (try simp); (try omega)) _) | (with_reducible refine Below.trans ?_ (Below.mono (by assumption) (by (try simp); (try omega))))))))
        refine wpo_win_push _ _ _ (by rfl) i2 _ Try.underlying62 hi0 hi1 hi2 hi3 (by rfl) (by rfl) HWn.out wr.heap.size 1 (iA : Int) (iB : Int) (by rfl) (heap_alloc_new wr _) (by rw [placesQ_len, List.length_append]; have := HHm.out; omega) ?_
        intro sv5 w5 r5 k5 o5
        have k6 : Kp (ownB u15) (wr.alloc (.cells #[.int .i64 (iA : Int), .int .i64 (iB : Int)] 66)) w5 := ((Kp.refl (ownB u15) (wr.alloc (.cells #[.int .i64 (iA : Int), .int .i64 (iB : Int)] 66))).drew.drew).trans k5 fun b hb => .inl hb
        have hS6 := HQ.out.1.push (x := (qA, qB)) ⟨HqA.out, HqB.out⟩ (by rw [HiA.out, HiB.out]; exact r5) k6 o5
        rw [List.append_assoc, ← HTk.out] at hS6
        have hx5 := HQ.out.2.1.push HQ.out.1.wn k6 (by decide)
        have hx6 := HQ.out.2.2.push HQ.out.1.wn k6 (by decide)
        have hkp : ∀ b o, b < Z.heap.size → w5.cell? ⟨b, o, none⟩ = wr.cell? ⟨b, o, none⟩ := fun b o hb => by
          have hl : b < wr.heap.size := Nat.lt_of_lt_of_le hb HQ.out.1.bl.size
          exact (k6.cell (p := ⟨b, o, none⟩) (by simp; omega) fun hm => by have := HQ.out.1.lv b hm; omega).trans (((Below.refl _ wr).alloc (Nat.le_refl _) _).cell (p := ⟨b, o, none⟩) hl)
        have hZ1 := H.out.HZ.la.cells.2.2.2.2
        have hZ2 := H.out.HZ.lb.cells.2.2.2.2
        have hZ3 := (H.out.HZ.la.link2 H.out.okA (isPt_cell fA hc (by rw [HNp1.out]; exact hjn))).1
        have hZ4 := (H.out.HZ.lb.link2 H.out.okB (isPt_cell fB hd (by rw [HNp2.out]; exact hjn))).1
        have hZ5 := (H.out.HZ.la.first2 (c := c) (by omega)).1
        have hZ6 := (H.out.HZ.lb.first2 (c := d) (by omega)).1
        refine hK9 _ _ ⟨(hkp _ _ hZ1).trans a2, (hkp _ _ hZ1).trans a3, hx5.cells.1, (hkp _ _ hZ5).trans f0c, (hkp _ _ hZ3).trans l0, (hkp _ _ hZ2).trans b2, (hkp _ _ hZ2).trans b3, hx6.cells.1, (hkp _ _ hZ6).trans g0c, (hkp _ _ hZ4).trans m0⟩ ?_
        refine wpMid_nil ?_
        have HS6 := Lib.hid (And.intro hS6 (And.intro hx5 hx6))
        clear r5 k5 k6 o5 hS6 hx5 hx6 hkp hZ1 hZ2 hZ3 hZ4 hZ5 hZ6 a2 a3 a5 b2 b3 b5 z0 zl y0 yl fl5 f0c fl6 g0c lA mA l0 lB mB m0 HWn HQ HTk hTT hTl
        go_wp2_with fail
        go_roundw
        case rel => exact ⟨j + 1, by go_num, by omega, HS6⟩
        case measure => simp [intOf]; omega
      · obtain rfl : j = np := by omega
        have hfin := HQ.out.1.grow (Below.refl _ wr).drew
        rw [← HNp1.out, zipP_all HEq.out] at hfin
        have HFin := Lib.hid hfin
        have hzl := zipP_len (pn := pnL L) (LA := lkM WA) (LB := lkM WB) HEq.out
        rw [HNp1.out] at hzl
        have HZl := Lib.hid hzl
        clear hfin hzl a2 a3 a5 b2 b3 b5 z0 zl y0 yl fl5 f0c f1c fl6 g0c
        go_wp2_with fail
        refine HQp.out.nxt _ _ _ (⟨rfl, rfl, rfl, rfl, rfl, rfl, rfl, rfl, rfl, HV.out.a, congrArg some HV.out.b, congrArg some HV.out.c, HV.out.d⟩) ⟨_, _, _, HFin.out, ?_, HKn.out⟩
        have h1 := HHm.out
        simp only [List.length_append, HZl.out, List.length_singleton] at h1 ⊢
        omega
  · have hm : (c : Int) ∈ dA := HTm.out.1 (by rw [Htc.out]; exact htc)
    have HKn := Lib.hid ((alk_old HFr.out HNb.out hm).symm.trans HK.out)
    clear hm HNb HFr HTm HTr HK Htc
    go_wp2_with fail
    exact HQp.out.ex _ _ _ (⟨rfl, rfl, rfl, rfl, rfl, rfl, rfl, rfl, rfl, HV.out.a, congrArg some HV.out.b, congrArg some HV.out.c, HV.out.d⟩) ⟨Q, dA, dB, HS3.out, HM2.out, HKn.out⟩
end
end
end Go.Proofs.Ytcebejcdfdahjaa
