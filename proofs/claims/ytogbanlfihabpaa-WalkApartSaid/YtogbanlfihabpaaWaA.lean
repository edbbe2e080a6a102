/-
  The statement WalkApart: its loops over the parts and over the wires.
-/
import Derived.Test.YtogbanlfihabpaaWhose
import Derived.Deep.LoopGhost
namespace Go.Proofs.Ytogbanlfihabpaa
open Go.RowKit
attribute [local go_sem] cell_set
attribute [local go_sem] Oper.semAt_some
set_option maxRecDepth 100000
set_option linter.unusedVariables false
noncomputable def waT (n : Nat) : Code := ((Try.f3.body).bind (tailQ n)).getD .skip
def FrWA (ds : List Deferred) (U : Nat → Value) : Act := { tmps := (U 0 :: U 1 :: U 2 :: U 3 :: U 4 :: U 5 :: U 6 :: U 7 :: U 8 :: U 9 :: U 10 :: U 11 :: U 12 :: U 13 :: U 14 :: U 15 :: U 16 :: U 17 :: U 18 :: U 19 :: U 20 :: U 21 :: U 22 :: U 23 :: U 24 :: U 25 :: U 26 :: U 27 :: U 28 :: U 29 :: U 30 :: U 31 :: U 32 :: U 33 :: U 34 :: U 35 :: U 36 :: U 37 :: U 38 :: U 39 :: U 40 :: U 41 :: U 42 :: U 43 :: U 44 :: U 45 :: U 46 :: U 47 :: U 48 :: U 49 :: U 50 :: U 51 :: U 52 :: U 53 :: U 54 :: U 55 :: U 56 :: U 57 :: U 58 :: U 59 :: U 60 :: U 61 :: U 62 :: U 63 :: U 64 :: U 65 :: U 66 :: U 67 :: U 68 :: U 69 :: U 70 :: U 71 :: U 72 :: U 73 :: U 74 :: U 75 :: U 76 :: U 77 :: U 78 :: U 79 :: U 80 :: U 81 :: U 82 :: U 83 :: U 84 :: U 85 :: U 86 :: U 87 :: U 88 :: U 89 :: U 90 :: U 91 :: U 92 :: U 93 :: U 94 :: U 95 :: U 96 :: U 97 :: U 98 :: U 99 :: U 100 :: U 101 :: U 102 :: U 103 :: U 104 :: U 105 :: U 106 :: U 107 :: U 108 :: U 109 :: U 110 :: U 111 :: U 112 :: U 113 :: U 114 :: U 115 :: U 116 :: U 117 :: U 118 :: U 119 :: U 120 :: U 121 :: U 122 :: U 123 :: U 124 :: U 125 :: U 126 :: U 127 :: U 128 :: U 129 :: U 130 :: U 131 :: U 132 :: U 133 :: U 134 :: U 135 :: U 136 :: U 137 :: U 138 :: U 139 :: U 140 :: U 141 :: U 142 :: U 143 :: U 144 :: U 145 :: U 146 :: U 147 :: U 148 :: U 149 :: U 150 :: U 151 :: U 152 :: U 153 :: U 154 :: U 155 :: U 156 :: U 157 :: U 158 :: U 159 :: U 160 :: U 161 :: U 162 :: U 163 :: U 164 :: U 165 :: U 166 :: U 167 :: U 168 :: U 169 :: U 170 :: U 171 :: U 172 :: U 173 :: U 174 :: U 175 :: U 176 :: U 177 :: U 178 :: U 179 :: U 180 :: U 181 :: U 182 :: U 183 :: U 184 :: U 185 :: U 186 :: U 187 :: U 188 :: U 189 :: U 190 :: U 191 :: U 192 :: U 193 :: U 194 :: U 195 :: U 196 :: U 197 :: []).toArray, defers := ds }
theorem FrN.openWA {ds : List Deferred} {L : List (Nat × Value)} {a : Act} (h : FrN 198 ds L a) : ∃ U, a = FrWA ds U ∧ Us U L := h.open_
/-- What the statement keeps: its arguments, the net's box, the parts. -/
structure WaK (w X : World) (b3 : Nat) (A VA VB V : Option Addr) (L : List (ByteArray × Int)) (ca cb kp N : Nat) (cells : List Int) (f : Nat) (W : List (Pt × Pt)) (qs : List PV) : Prop where
  bel : Below w.heap.size w X
  rd : Rd X A VA VB L cells W
  nb : NBox X b3 VA cells.length ca (f : Int) VB W.length cb
  pa : PaS w X (.slice V N kp) qs
theorem WaK.below {w X Y : World} {b3 : Nat} {A VA VB V : Option Addr} {L : List (ByteArray × Int)} {ca cb kp N : Nat} {cells : List Int} {f : Nat} {W : List (Pt × Pt)} {qs : List PV} (h : WaK w X b3 A VA VB V L ca cb kp N cells f W qs) (hb : Below X.heap.size X Y) : WaK w Y b3 A VA VB V L ca cb kp N cells f W qs :=
  ⟨h.bel.trans (hb.mono h.bel.size), h.rd.below hb, h.nb.below hb, h.pa.below hb⟩
/-- What is known of the parts. -/
structure WaP (pn : Int → Nat) (cells : List Int) (f : Nat) (W : List (Pt × Pt)) (N : Nat) (qs : List PV) (Q : List Pa) : Prop where
  qm : qs.map paW = Q
  qn : Q.length = N
  len : LenP Q
  ok : NetOk pn cells f W
  ap : Apart pn cells f W Q
  pos : ∀ j, j < cells.length → 0 < pn (cells.getD j 0)
  n64 : cells.length ≤ 64
  f64 : f ≤ 64
section
variable {pn : Int → Nat} {cells : List Int} {f : Nat} {W : List (Pt × Pt)} {N : Nat} {qs : List PV} {Q : List Pa}
theorem WaP.cells_ (h : WaP pn cells f W N qs Q) {w X : World} {V : Option Addr} {kp : Nat} (hp : PaS w X (.slice V N kp) qs) {i : Nat} (hi : i < N) : ∃ g Va ka Vb kb, V = some ⟨g, 0, none⟩ ∧ X.cell? ⟨g, i * 2, none⟩ = some (.slice Va (Q.getD i default).1.length ka) ∧ X.cell? ⟨g, i * 2 + 1, none⟩ = some (.slice Vb (Q.getD i default).2.length kb) ∧ g < X.heap.size := by
  have hl1 : qs.length = N := by rw [← h.qn, ← h.qm, List.length_map]
  obtain ⟨g, rfl⟩ : ∃ g, V = some ⟨g, 0, none⟩ := by
    rcases hp.lr.2 with ⟨e, h0⟩ | ⟨gv, cap', cur, e, _⟩
    · omega
    · injection e with e1; exact ⟨gv, e1⟩
  have hjq : i < qs.length := by omega
  have hjQ : i < Q.length := by rw [h.qn]; exact hi
  have lr := hp.lr
  rw [hl1] at lr
  obtain ⟨ra, rb⟩ := hp.q1 _ (List.getElem_mem hjq)
  have e : paW qs[i] = Q[i] := by
    have := h.qm
    simp only [← this, List.getElem_map]
  have eD : Q.getD i default = Q[i] := by simp [hjQ]
  have c0 : X.cell? ⟨g, i * 2, none⟩ = some qs[i].a := by rw [lr.cellAt (i * 2) (by omega), (pvCells_at hjq).1]
  have c1 : X.cell? ⟨g, i * 2 + 1, none⟩ = some qs[i].b := by rw [lr.cellAt (i * 2 + 1) (by omega), (pvCells_at hjq).2]
  rw [eD, ← e]
  obtain ⟨Va, ka, ea, _⟩ := ra.len
  obtain ⟨Vb, kb, eb, _⟩ := rb.len
  rw [ea] at c0
  rw [eb] at c1
  exact ⟨g, Va, ka, Vb, kb, rfl, c0, c1, lr.lt g (by simp [ownB])⟩
theorem WaP.at_ (h : WaP pn cells f W N qs Q) {p : Pt} (hp : isPt pn cells f p = true) : ∃ i, i < N ∧ Q.getD i default = partOf pn cells f (lkM W) p ∧ ∀ r, isPt pn cells f r = true → bel (partOf pn cells f (lkM W) p) r → ∀ j, j ≤ i → (bel (Q.getD j default) r ↔ j = i) := by
  obtain ⟨i, hi, he, hr⟩ := h.ap.at h.ok hp
  refine ⟨i, by rw [← h.qn]; exact hi, he, fun r hpr hbr j hj => ?_⟩
  obtain ⟨h1, h2⟩ := hr r hpr hbr
  constructor
  · intro hb
    rcases Nat.lt_or_ge j i with hl | hl
    · exact absurd hb (h2 j hl)
    · omega
  · rintro rfl; exact h1
theorem wire_link (h : NetOk pn cells f W) {i : Nat} (hi : i < W.length) : isPt pn cells f (W.getD i default).1 = true ∧ isPt pn cells f (W.getD i default).2 = true ∧ lkM W (W.getD i default).1 = (W.getD i default).2 := by
  have hm := ends_at hi
  refine ⟨h.is _ hm.1, h.is _ hm.2, ?_⟩
  have e : W.getD i default = W[i] := by simp [hi]
  have h1 : lnk W (W.getD i default).1 = some (W.getD i default).2 := (lnk_iff h.nodup).2 (.inl (by
    show ((W.getD i default).1, (W.getD i default).2) ∈ W
    rw [e]; exact List.getElem_mem hi))
  unfold lkM
  rw [h1]; rfl
/-- How many cells, free ports lie in the first parts. -/
def cnt1 (Q : List Pa) (i : Nat) : Nat := ((Q.take i).flatMap (·.1)).length
def cnt2 (Q : List Pa) (i : Nat) : Nat := ((Q.take i).flatMap (·.2)).length
theorem cnt_succ {i : Nat} (hi : i < Q.length) : cnt1 Q (i + 1) = cnt1 Q i + (Q.getD i default).1.length ∧ cnt2 Q (i + 1) = cnt2 Q i + (Q.getD i default).2.length := by
  unfold cnt1 cnt2
  have e : Q.getD i default = Q[i] := by simp [hi]
  rw [e, List.take_add_one, List.getElem?_eq_getElem hi, List.flatMap_append, List.flatMap_append, List.length_append, List.length_append]
  simp only [Option.toList_some, List.flatMap_cons, List.flatMap_nil, List.append_nil, and_self]
theorem cnt_all : cnt1 Q Q.length = (Q.flatMap (·.1)).length ∧ cnt2 Q Q.length = (Q.flatMap (·.2)).length := by
  unfold cnt1 cnt2
  rw [List.take_length]
  exact ⟨rfl, rfl⟩
theorem cnt_le : ∀ k i, i + k = Q.length → cnt1 Q i ≤ (Q.flatMap (·.1)).length ∧ cnt2 Q i ≤ (Q.flatMap (·.2)).length := fun k => by
  induction k with
  | zero => intro i h; rw [show i = Q.length by omega]; obtain ⟨h1, h2⟩ := cnt_all (Q := Q); omega
  | succ k ih =>
    intro i h
    obtain ⟨h1, h2⟩ := ih (i + 1) (by omega)
    obtain ⟨h3, h4⟩ := cnt_succ (Q := Q) (i := i) (by omega)
    omega
end
section
variable (Q : Exit → Act → World → Prop) (w : World) (b3 : Nat) (A VA VB V : Option Addr) (L : List (ByteArray × Int)) (n cap ca cb kp N : Nat) (cells : List Int) (f : Nat) (W : List (Pt × Pt)) (qs : List PV) (R : List Pa) (pn : Int → Nat)
set_option maxHeartbeats 4000000 in
theorem wa_10 (a : Act) (X : World) (i : Nat) (hi : i ≤ N) (hN5 : N ≤ 100000) (HP : Hid (WaP pn cells f W N qs R)) (HK : Hid (WaK w X b3 A VA VB V L ca cb kp N cells f W qs))
    (hgo : Hid (∀ a', i < N → FrN 198 [] [(0, .slice A n cap), (3, .pointer (some ⟨b3, 0, none⟩)), (7, .slice V N kp), (9, .int .i64 (cnt1 R (i + 1) : Int)), (10, .int .i64 (cnt2 R (i + 1) : Int)), (11, .int .i64 ((i + 1 : Nat) : Int))] a' → Q .normal a' X))
    (hout : Hid (∀ a', FrN 198 [] [(0, .slice A n cap), (3, .pointer (some ⟨b3, 0, none⟩)), (7, .slice V N kp), (9, .int .i64 (cnt1 R i : Int)), (10, .int .i64 (cnt2 R i : Int))] a' → i = N → Q (.exit 0) a' X))
    (ha : FrN 198 [] [(0, .slice A n cap), (3, .pointer (some ⟨b3, 0, none⟩)), (7, .slice V N kp), (9, .int .i64 (cnt1 R i : Int)), (10, .int .i64 (cnt2 R i : Int)), (11, .int .i64 (i : Int))] a) : (waT 10).wp Try.prog Q a X := by
  obtain ⟨U, rfl, e0, e3, e7, e9, e10, e11, -⟩ := ha.openWA
  unfold FrWA
  simp only [e0, e3, e7, e9, e10, e11]
  clear e0 e3 e7 e9 e10 e11 ha
  show (Code.seq _ _).wp _ _ _ _
  by_cases hlt : i < N
  · have hiN : (i : Int) < (N : Int) := by omega
    have HLT : Hid (i < N) := hlt
    obtain ⟨g, Va, ka, Vb, kb, rfl, x0, x1, xl⟩ := HP.out.cells_ HK.out.pa hlt
    have hiR : i < R.length := by rw [HP.out.qn]; exact hlt
    obtain ⟨s1, s2⟩ := cnt_succ hiR
    obtain ⟨l1, l2⟩ := cnt_le (Q := R) (R.length - (i + 1)) (i + 1) (by omega)
    have h64 := HP.out.n64
    have f64 := HP.out.f64
    rw [HP.out.ap.cl] at l1
    rw [HP.out.ap.fl] at l2
    have w1 : IntKind.i64.wrap ((cnt1 R i : Int) + ((R.getD i default).1.length : Int)) = (cnt1 R (i + 1) : Int) := by rw [IntWalk.i64_in _ (by omega)]; omega
    have w2 : IntKind.i64.wrap ((cnt2 R i : Int) + ((R.getD i default).2.length : Int)) = (cnt2 R (i + 1) : Int) := by rw [IntWalk.i64_in _ (by omega)]; omega
    generalize (R.getD i default).1.length = na at *
    generalize (R.getD i default).2.length = nb at *
    generalize cnt1 R (i + 1) = t1 at *
    generalize cnt2 R (i + 1) = t2 at *
    generalize cnt1 R i = u1 at *
    generalize cnt2 R i = u2 at *
    clear hlt hiR s1 s2 l1 l2 h64 f64
    repeat (first | go_values | go_skip | go_guarded | go_step | go_upon | go_back)
    exact hgo.out _ HLT.out ⟨rfl, rfl, rfl, rfl, rfl, rfl, rfl, rfl, trivial⟩
  · obtain rfl : i = N := by omega
    have hiN : ¬ (i : Int) < (i : Int) := by omega
    clear hlt
    repeat (first | go_values | go_skip | go_guarded | go_step | go_upon | go_back)
    exact hout.out _ ⟨rfl, rfl, rfl, rfl, rfl, rfl, rfl, trivial⟩ rfl
set_option maxHeartbeats 4000000 in
theorem wa_17 (a : Act) (X : World) (i : Nat) (hi : i ≤ W.length) (hW5 : W.length ≤ 100000) (HP : Hid (WaP pn cells f W N qs R)) (HK : Hid (WaK w X b3 A VA VB V L ca cb kp N cells f W qs))
    (hgo : Hid (∀ a' X', i < W.length → FrN 198 [] [(0, .slice A n cap), (3, .pointer (some ⟨b3, 0, none⟩)), (7, .slice V N kp), (12, .int .i64 ((i + 1 : Nat) : Int))] a' → WaK w X' b3 A VA VB V L ca cb kp N cells f W qs → Q .normal a' X'))
    (hout : Hid (∀ a' X', FrN 198 [] [(0, .slice A n cap), (3, .pointer (some ⟨b3, 0, none⟩)), (7, .slice V N kp)] a' → i = W.length → WaK w X' b3 A VA VB V L ca cb kp N cells f W qs → Q (.exit 2) a' X'))
    (ha : FrN 198 [] [(0, .slice A n cap), (3, .pointer (some ⟨b3, 0, none⟩)), (7, .slice V N kp), (12, .int .i64 (i : Int))] a) : (waT 17).wp Try.prog Q a X := by
  obtain ⟨U, rfl, e0, e3, e7, e12, -⟩ := ha.openWA
  unfold FrWA
  simp only [e0, e3, e7, e12]
  clear e0 e3 e7 e12 ha
  show (Code.seq _ _).wp _ _ _ _
  have c2 := HK.out.nb.c2
  have clt := HK.out.nb.lt
  obtain ⟨m, hm⟩ : ∃ m, W.length = m := ⟨_, rfl⟩
  have HM := Lib.hid hm
  rw [hm] at c2 hi hW5 hgo hout
  by_cases hlt : i < m
  · have hiN : (i : Int) < (m : Int) := by omega
    have HLT : Hid (i < m) := hlt
    have hiW : i < W.length := by omega
    obtain ⟨hA, hB, hL⟩ := wire_link HP.out.ok hiW
    obtain ⟨i0, hi0, hQ0, hr0⟩ := HP.out.at_ hA
    have hrA := hr0 _ hA (part_self HP.out.ok hA)
    have hrB := hr0 _ hB (by have := part_link HP.out.ok hA; rw [hL] at this; exact this)
    have HRd : Hid (∀ Z, WaK w Z b3 A VA VB V L ca cb kp N cells f W qs → ∃ b off, VB = some ⟨b, off, none⟩ ∧ b < Z.heap.size ∧ Z.cell? ⟨b, off + i * 4, none⟩ = some (.int .i64 (W.getD i default).1.1) ∧ Z.cell? ⟨b, off + i * 4 + 1, none⟩ = some (.int .i64 (W.getD i default).1.2) ∧ Z.cell? ⟨b, off + i * 4 + 2, none⟩ = some (.int .i64 (W.getD i default).2.1) ∧ Z.cell? ⟨b, off + i * 4 + 3, none⟩ = some (.int .i64 (W.getD i default).2.2)) := fun Z hZ => hZ.rd.w i hiW
    have E1 : Hid (∀ Z, WaK w Z b3 A VA VB V L ca cb kp N cells f W qs → Calls Try.prog 10 #[.slice V N kp, .agg #[.int .i64 (W.getD i default).1.1, .int .i64 (W.getD i default).1.2]] Z fun e w' => e = .returned (.int .i64 (i0 : Int)) ∧ Below Z.heap.size Z w') := fun Z hZ => whose_is V N kp i0 (W.getD i default).1 R qs w Z HP.out.qn HP.out.len hi0 (Lib.hid hZ.pa) (Lib.hid HP.out.qm) (Lib.hid hrA)
    have E2 : Hid (∀ Z, WaK w Z b3 A VA VB V L ca cb kp N cells f W qs → Calls Try.prog 10 #[.slice V N kp, .agg #[.int .i64 (W.getD i default).2.1, .int .i64 (W.getD i default).2.2]] Z fun e w' => e = .returned (.int .i64 (i0 : Int)) ∧ Below Z.heap.size Z w') := fun Z hZ => whose_is V N kp i0 (W.getD i default).2 R qs w Z HP.out.qn HP.out.len hi0 (Lib.hid hZ.pa) (Lib.hid HP.out.qm) (Lib.hid hrB)
    generalize W.getD i default = wi at HRd E1 E2
    obtain ⟨⟨a1, a2⟩, b1, b2⟩ := wi
    dsimp only at HRd E1 E2
    obtain ⟨b, off, rfl, x1, x2, x3, x4, x5⟩ := HRd.out X HK.out
    have hz0 : decide ((i0 : Int) < 0) = false := decide_eq_false (by omega)
    have HK0 := HK
    clear hlt hiW hA hB hL hQ0 hr0 hrA hrB hm HK
    go_wp2_with fail
    refine (E1.out _ HK0.out).mono ?_
    rintro e w1 ⟨rfl, hb1⟩
    have HK1 := Lib.hid (HK0.out.below hb1)
    clear hb1 x1 x2 x3 x4 x5 c2 clt
    have c2 := HK1.out.nb.c2
    have clt := HK1.out.nb.lt
    rw [HM.out] at c2
    obtain ⟨b', off', hbo, x1, x2, x3, x4, x5⟩ := HRd.out w1 HK1.out
    simp only [Option.some.injEq, Addr.mk.injEq, and_true] at hbo
    obtain ⟨rfl, rfl⟩ := hbo
    simp only []
    go_wp2_with fail
    refine (E2.out _ HK1.out).mono ?_
    rintro e w2 ⟨rfl, hb1⟩
    have HK2 := Lib.hid (HK1.out.below hb1)
    clear hb1 x1 x2 x3 x4 x5 c2 clt
    simp only []
    repeat (first | go_values | go_skip | go_guarded | go_step | go_upon | go_back)
    exact hgo.out _ _ HLT.out ⟨rfl, rfl, rfl, rfl, rfl, rfl, trivial⟩ HK2.out
  · obtain rfl : i = m := by omega
    have hiN : ¬ (i : Int) < (i : Int) := by omega
    clear hlt hm
    repeat (first | go_values | go_skip | go_guarded | go_step | go_upon | go_back)
    exact hout.out _ _ ⟨rfl, rfl, rfl, rfl, rfl, trivial⟩ rfl HK.out
end
end Go.Proofs.Ytogbanlfihabpaa
