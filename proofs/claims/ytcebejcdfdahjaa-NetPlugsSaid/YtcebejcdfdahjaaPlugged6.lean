/-
  skeinref03.Plugged: two nets and their joins as one net.
-/
import Derived.Test.YtcebejcdfdahjaaPlugged4
import Derived.Test.YtcebejcdfdahjaaRef03M
/-
  skeinref03.Plugged: its head: the links of both nets, in one list.
-/
namespace Go.Proofs.Ytcebejcdfdahjaa
open Go.RowKit
attribute [local go_sem] cell_set
set_option maxRecDepth 100000
set_option linter.unusedVariables false

structure FrQ (v0 v1 v2 v3 : Value) (a : Act) : Prop where
  sz : a.tmps.size = 211
  df : a.defers = []
  t0 : a.tmps[0]? = some (v0)
  t1 : a.tmps[1]? = some (v1)
  t2 : a.tmps[2]? = some (v2)
  t3 : a.tmps[3]? = some (v3)
def FrQL (v0 v1 v2 v3 : Value) (U : Nat → Value) : Act := { tmps := (v0 :: v1 :: v2 :: v3 :: U 4 :: U 5 :: U 6 :: U 7 :: U 8 :: U 9 :: U 10 :: U 11 :: U 12 :: U 13 :: U 14 :: U 15 :: U 16 :: U 17 :: U 18 :: U 19 :: U 20 :: U 21 :: U 22 :: U 23 :: U 24 :: U 25 :: U 26 :: U 27 :: U 28 :: U 29 :: U 30 :: U 31 :: U 32 :: U 33 :: U 34 :: U 35 :: U 36 :: U 37 :: U 38 :: U 39 :: U 40 :: U 41 :: U 42 :: U 43 :: U 44 :: U 45 :: U 46 :: U 47 :: U 48 :: U 49 :: U 50 :: U 51 :: U 52 :: U 53 :: U 54 :: U 55 :: U 56 :: U 57 :: U 58 :: U 59 :: U 60 :: U 61 :: U 62 :: U 63 :: U 64 :: U 65 :: U 66 :: U 67 :: U 68 :: U 69 :: U 70 :: U 71 :: U 72 :: U 73 :: U 74 :: U 75 :: U 76 :: U 77 :: U 78 :: U 79 :: U 80 :: U 81 :: U 82 :: U 83 :: U 84 :: U 85 :: U 86 :: U 87 :: U 88 :: U 89 :: U 90 :: U 91 :: U 92 :: U 93 :: U 94 :: U 95 :: U 96 :: U 97 :: U 98 :: U 99 :: U 100 :: U 101 :: U 102 :: U 103 :: U 104 :: U 105 :: U 106 :: U 107 :: U 108 :: U 109 :: U 110 :: U 111 :: U 112 :: U 113 :: U 114 :: U 115 :: U 116 :: U 117 :: U 118 :: U 119 :: U 120 :: U 121 :: U 122 :: U 123 :: U 124 :: U 125 :: U 126 :: U 127 :: U 128 :: U 129 :: U 130 :: U 131 :: U 132 :: U 133 :: U 134 :: U 135 :: U 136 :: U 137 :: U 138 :: U 139 :: U 140 :: U 141 :: U 142 :: U 143 :: U 144 :: U 145 :: U 146 :: U 147 :: U 148 :: U 149 :: U 150 :: U 151 :: U 152 :: U 153 :: U 154 :: U 155 :: U 156 :: U 157 :: U 158 :: U 159 :: U 160 :: U 161 :: U 162 :: U 163 :: U 164 :: U 165 :: U 166 :: U 167 :: U 168 :: U 169 :: U 170 :: U 171 :: U 172 :: U 173 :: U 174 :: U 175 :: U 176 :: U 177 :: U 178 :: U 179 :: U 180 :: U 181 :: U 182 :: U 183 :: U 184 :: U 185 :: U 186 :: U 187 :: U 188 :: U 189 :: U 190 :: U 191 :: U 192 :: U 193 :: U 194 :: U 195 :: U 196 :: U 197 :: U 198 :: U 199 :: U 200 :: U 201 :: U 202 :: U 203 :: U 204 :: U 205 :: U 206 :: U 207 :: U 208 :: U 209 :: U 210 :: []).toArray, defers := [] }
theorem FrQ.lit {v0 v1 v2 v3 : Value} {a : Act} (h : FrQ v0 v1 v2 v3 a) : ∃ U, a = FrQL v0 v1 v2 v3 U := by
  obtain ⟨⟨l⟩, df⟩ := a
  obtain ⟨sz, rfl, t0, t1, t2, t3⟩ := h
  simp only [List.size_toArray, List.getElem?_toArray] at sz t0 t1 t2 t3
  have e := list_of_range l undef
  rw [sz] at e
  obtain ⟨U, hU⟩ : ∃ U : Nat → Value, (fun i => (l[i]?).getD undef) = U := ⟨_, rfl⟩
  have g : ∀ i v, l[i]? = some v → U i = v := fun i v h => by rw [← hU]; simp [h]
  have g0 := g _ _ t0
  have g1 := g _ _ t1
  have g2 := g _ _ t2
  have g3 := g _ _ t3
  rw [hU] at e
  clear hU g sz t0 t1 t2 t3
  refine ⟨U, ?_⟩
  rw [e]
  unfold FrQL
  rw [← g0, ← g1, ← g2, ← g3]
  rfl
theorem lk_snoc {la lb : List Int} {k NA : Nat} (hk : k < lb.length) : la ++ (lb.take (k + 1)).map (· + (NA : Int)) = (la ++ (lb.take k).map (· + (NA : Int))) ++ [lb.getD k 0 + (NA : Int)] := by
  rw [List.take_add_one, List.map_append, List.append_assoc, List.getD_eq_getElem?_getD, List.getElem?_eq_getElem hk]
  rfl
section
variable (Q : Exit → Act → World → Prop)
set_option maxHeartbeats 4000000 in
theorem pg_0 (A : Option Addr) (n cap : Nat) (L : List (ByteArray × Int)) (VA VB UA UB : Option Addr) (ca cb da db : Nat) (csA csB : List Int) (fA fB NA NB : Nat) (WA WB : List (Pt × Pt)) (v3 : Value) (w : World) (U : Nat → Value)
    (hn : n = L.length) (HL : Hid (AgRd w A L)) (hs : SigOk L) (HCA : Hid (IntsRd w VA csA)) (HWA : Hid (WrRd w VB WA)) (HCB : Hid (IntsRd w UA csB)) (HWB : Hid (WrRd w UB WB))
    (hcA : csA.length ≤ 5000) (hfA : fA ≤ 100) (hwA : WA.length ≤ 40000) (hcB : csB.length ≤ 5000) (hfB : fB ≤ 100) (hwB : WB.length ≤ 40000) (okA : Hid (NetOk (pnL L) csA fA WA)) (okB : Hid (NetOk (pnL L) csB fB WB))
    (hNA : Hid (firstN (pnL L) csA fA csA.length = NA)) (hNB : Hid (firstN (pnL L) csB fB csB.length = NB)) (hNA2 : NA ≤ 40000) (hNB2 : NB ≤ 40000)
    (hk : Hid (∀ a' X V9 c9 v10 V11 c11, FrP (.slice A n cap) v3 (.pointer (some ⟨w.heap.size, 0, none⟩)) (.pointer (some ⟨w.heap.size + 1, 0, none⟩)) (.pointer (some ⟨w.heap.size + 2, 0, none⟩)) (.slice V9 NA c9) v10 (.slice V11 (NA + NB) c11) (U 13) (U 17) (U 18) (U 20) (U 22) a' → Below w.heap.size w X → NBox X w.heap.size VA csA.length ca fA VB WA.length cb → NBox X (w.heap.size + 1) UA csB.length da fB UB WB.length db → X.heap[w.heap.size + 2]? = some (.cells #[.slice none 0 0, .int .i64 0, .slice none 0 0] 26 (0, 0)) → IntsRd X V11 (lkK (pnL L) csA fA WA WA.length ++ (lkK (pnL L) csB fB WB WB.length).map (· + (NA : Int))) → (pgT 8).wp Try.prog Q a' X)) :
    (pgT 0).wp Try.prog Q (FrQL (.slice A n cap) (netV VA ca csA fA VB cb WA) (netV UA da csB fB UB db WB) v3 U) w := by
  subst hn
  obtain ⟨i0, hi0, hi1, hi2, hi3⟩ := info_parts int_info
  unfold FrQL
  show (Code.seq _ _).wp _ _ _ _
  go_upto_region 1 with fail
  refine absW (fun X => Below w.heap.size w X ∧ NBox X w.heap.size VA csA.length ca fA VB WA.length cb ∧ NBox X (w.heap.size + 1) UA csB.length da fB UB WB.length db ∧ X.heap[w.heap.size + 2]? = some (.cells #[.slice none 0 0, .int .i64 0, .slice none 0 0] 26 (0, 0))) ?_ ?_
  · refine ⟨by (repeat (first | exact Below.refl _ _ | (with_reducible refine Below.drew ?_) | (with_reducible refine Below.alloc ?_ (by (try simp); (try omega)) _) | (with_reducible refine Below.setCell ?_ (by (try simp); (try omega)) _) | (with_reducible refine Below.trans ?_ (Below.mono (by assumption) (by (try simp); (try omega)))))), ⟨by simp <;> omega, by go_simp, by go_simp, by go_simp⟩, ⟨by simp <;> omega, by go_simp, by go_simp, by go_simp⟩, ?_⟩
    have := heap_alloc_new ((w.alloc (.cells #[.slice VA csA.length ca, .int .i64 (fA : Int), .slice VB WA.length cb] 26)).alloc (.cells #[.slice UA csB.length da, .int .i64 (fB : Int), .slice UB WB.length db] 26)) (.cells #[.slice none 0 0, .int .i64 0, .slice none 0 0] 26)
    simpa using this
  rintro X ⟨hbx, hna, hnb, h8⟩
  have n0 := hna.c0
  have n1 := hna.c1
  have n2 := hna.c2
  have hlX := hna.lt
  have HX := Lib.hid (And.intro hbx (And.intro hna (And.intro hnb h8)))
  clear hbx hna hnb h8
  go_upto_region 2 with (go_at_call 76
                         refine (rlinks A _ cap L VA VB ca cb csA fA WA _ rfl (Lib.hid (HL.out.below HX.out.1)) hs (Lib.hid (HCA.out.below HX.out.1)) (Lib.hid (HWA.out.below HX.out.1)) hcA hfA hwA okA).mono ?_
                         rintro e w1 ⟨X1, c1, rfl, h1⟩
                         rw [hNA.out]
                         have hb1 := h1.2.2
                         have m0 := (HX.out.2.2.1.below hb1).c0
                         have m1 := (HX.out.2.2.1.below hb1).c1
                         have m2 := (HX.out.2.2.1.below hb1).c2
                         have ml := (HX.out.2.2.1.below hb1).lt
                         have H1 := Lib.hid h1
                         clear h1 hb1)
  have HB1 : Hid (Below w.heap.size w w1) := HX.out.1.trans (H1.out.2.2.mono HX.out.1.size)
  clear n0 n1 n2 hlX
  go_upto_region 3 with (go_at_call 76
                         refine (rlinks A _ cap L UA UB da db csB fB WB _ rfl (Lib.hid (HL.out.below HB1.out)) hs (Lib.hid (HCB.out.below HB1.out)) (Lib.hid (HWB.out.below HB1.out)) hcB hfB hwB okB).mono ?_
                         rintro e w2 ⟨X2, c2, rfl, h2⟩
                         rw [hNB.out]
                         have H2 := Lib.hid h2
                         clear h2)
  obtain ⟨la, hla⟩ : ∃ l, lkK (pnL L) csA fA WA WA.length = l := ⟨_, rfl⟩
  obtain ⟨lb, hlb⟩ : ∃ l, lkK (pnL L) csB fB WB WB.length = l := ⟨_, rfl⟩
  have lla : la.length = NA := by rw [← hla, lkK_len, hNA.out]
  have llb : lb.length = NB := by rw [← hlb, lkK_len, hNB.out]
  have lrb : ∀ i, i < NB → 0 ≤ lb.getD i 0 ∧ lb.getD i 0 < (NB : Int) := fun i hi => by
    have := lkK_rng okB.out i (by rw [lkK_len, hNB.out]; exact hi)
    rw [hlb, llb] at this
    exact this
  have H1 := H1.out
  have H2 := H2.out
  rw [hNA.out, hla] at H1
  rw [hNB.out, hlb] at H2
  rw [hla, hlb] at hk
  have hIA : IntsRd w2 (X1) la := by
    have r := Row.ints (w := w1) (V := X1) (cap := c1) (l := la) (by rw [lla]; exact H1.1)
    exact r.below H2.2.2
  have hIB : IntsRd w2 (X2) lb := Row.ints (w := w2) (V := X2) (cap := c2) (l := lb) (by rw [llb]; exact H2.1)
  have hB0 : Below w2.heap.size w2 (w2.alloc (.cells #[] 3)) := by (repeat (first | exact Below.refl _ _ | (with_reducible refine Below.drew ?_) | (with_reducible refine Below.alloc ?_ (by (try simp); (try omega)) _) | (with_reducible refine Below.setCell ?_ (by (try simp); (try omega)) _) | (with_reducible refine Below.trans ?_ (Below.mono (by assumption) (by (try simp); (try omega))))))
  have hsrc := (hIA.below hB0).src
  rw [lla] at hsrc
  have HSrc := Lib.hid hsrc
  have HIB := Lib.hid hIB
  have HRow : Hid (Row (w2.alloc (.cells #[] 3)) 3 1 (.slice (some ⟨w2.heap.size, 0, none⟩) 0 0) 0 []) :=
    ⟨by simp, .inr ⟨w2.heap.size, 0, #[], rfl, by have := heap_alloc_new w2 (.cells #[] 3); simpa using this, Nat.le_refl _, by simp [maxLen], by simp, by simp⟩⟩
  have HB63 : 0 + NA ≤ maxLen := by simp only [maxLen]; omega
  have HB47 : (0 + NA) * 8 ≤ 140737488355328 := by omega
  have HX2 : Hid (Below w.heap.size w w2 ∧ NBox w2 w.heap.size VA csA.length ca fA VB WA.length cb ∧ NBox w2 (w.heap.size + 1) UA csB.length da fB UB WB.length db ∧ w2.heap[w.heap.size + 2]? = some (.cells #[.slice none 0 0, .int .i64 0, .slice none 0 0] 26 (0, 0))) := by
    have hb := H1.2.2.trans (H2.2.2.mono H1.2.2.size)
    exact ⟨HX.out.1.trans (hb.mono HX.out.1.size), HX.out.2.1.below hb, HX.out.2.2.1.below hb, (hb.block _ (heap_lt HX.out.2.2.2)).trans HX.out.2.2.2⟩
  have HB0 := Lib.hid hB0
  have HLA := Lib.hid (And.intro lla (And.intro llb lrb))
  clear hB0 hsrc hIA hIB H1 H2 hla hlb lla llb lrb HX HB1 m0 m1 m2 ml
  go_upto_region 4 with (at_builtin; go_loud (refine inPlain rfl (wpo_row_append _ _ _ rfl i0 _ 8 Try.underlying23 hi0 hi1 hi2 hi3 rfl rfl HRow.out _ NA _ rfl (ivals la) HSrc.out HB63 HB47 ?_)); intro sv5 w5 r5 k5 o5; rw [Nat.zero_add, List.nil_append] at r5; obtain ⟨V1, c1', rfl, hc1⟩ := r5.len
                         change Kp [w2.heap.size] _ w5 at k5
                         change _ = [w2.heap.size] ∨ _ at o5
                         have HK5 := Lib.hid (And.intro k5 (And.intro r5 o5))
                         clear k5 r5 o5)
  have HF0 : Hid (Fresh w2 w5 3 1 (NA + 0) (.slice V1 (NA + 0) c1') (ivals (la ++ (lb.take 0).map (· + (NA : Int))))) := by
    refine ⟨by simpa using HK5.out.2.1, fun b hb => ?_, HB0.out.trans (HK5.out.1.below HB0.out.size (by intro x hx; simp at hx; omega))⟩
    rcases HK5.out.2.2 with e | e
    · rw [Nat.add_zero, e] at hb; simp at hb; omega
    · rw [Nat.add_zero, e] at hb; simp at hb; omega
  clear HK5 HSrc HRow HB63 HB47 HB0
  go_wp2_with fail
  go_loopw [11, 12] (fun l i wr => ∃ (k : Nat) (V : Option Addr) (c : Nat), i = .int .i64 k ∧ k ≤ NB ∧ l = .slice V (NA + k) c ∧ Hid (Fresh w2 wr 3 1 (NA + k) (.slice V (NA + k) c) (ivals (la ++ (lb.take k).map (· + (NA : Int)))))) (fun _ i _ => NB - (intOf i).toNat)
  case atStart => exact ⟨0, V1, c1', rfl, by omega, rfl, HF0⟩
  case round =>
    obtain ⟨k, V, c, rfl, hk', rfl, HF⟩ := hrel
    clear HF0
    have hbr := HF.out.2.2
    by_cases hlt : k < NB
    · obtain ⟨b, off, rfl, hb, e0⟩ := (HIB.out.below hbr) k (by rw [HLA.out.2.1]; exact hlt)
      have hsn := lk_snoc (la := la) (lb := lb) (k := k) (NA := NA) (by rw [HLA.out.2.1]; exact hlt)
      have hrg := HLA.out.2.2 k hlt
      generalize lb.getD k 0 = x at e0 hsn hrg
      obtain ⟨hr1, hr2⟩ := hrg
      have HSn := Lib.hid hsn
      have ex : IntKind.i64.wrap (x + (NA : Int)) = x + (NA : Int) := IntWalk.i64_in _ (by omega)
      have HRow : Hid (Row (wr.alloc (.cells #[.int .i64 (x + (NA : Int))] 3)) 3 1 (.slice V (NA + k) c) (NA + k) (ivals (la ++ (lb.take k).map (· + (NA : Int))))) := HF.out.1.alloc _
      have HSrc : Hid (Src (wr.alloc (.cells #[.int .i64 (x + (NA : Int))] 3)) (some ⟨wr.heap.size, 0, none⟩) 1 1 [.int .i64 (x + (NA : Int))]) :=
        Src.block (cs := #[.int .i64 (x + (NA : Int))]) (t := 3) (fr := (0, 0)) (heap_alloc_new wr _) rfl (by simp [Value.oneCell'])
      have HB63 : NA + k + 1 ≤ maxLen := by simp only [maxLen]; omega
      have HB47 : (NA + k + 1) * 8 ≤ 140737488355328 := by omega
      clear hsn hbr
      go_wp2_with (at_builtin; go_loud (refine inPlain rfl (wpo_row_append _ _ _ rfl i0 _ 8 Try.underlying23 hi0 hi1 hi2 hi3 rfl rfl HRow.out _ 1 1 rfl [.int .i64 (x + (NA : Int))] HSrc.out HB63 HB47 ?_)); intro sv5 w6 r5 k5 o5; obtain ⟨V5, cp5, rfl, hc5⟩ := r5.len
                   have F5 : Hid (Fresh w2 w6 3 1 (NA + k + 1) (.slice V5 (NA + k + 1) cp5) (ivals (la ++ (lb.take (k + 1)).map (· + (NA : Int))))) := by rw [HSn.out, ivals_snoc]; exact HF.out.app k5 o5 r5
                   clear k5 r5 o5)
      go_roundw
      case measure => simp [intOf]; omega
      case rel => exact ⟨k + 1, V5, cp5, by go_num, by omega, rfl, F5⟩
    · have hkl : k = NB := by omega
      subst hkl
      have hR := HF.out.1
      have hlen : (la ++ lb.map (· + (NA : Int))).length = NA + k := by rw [List.length_append, List.length_map, HLA.out.1, HLA.out.2.1]
      have e1 : lb.take k = lb := by rw [← HLA.out.2.1, List.take_length]
      rw [e1] at hR
      have HI : Hid (IntsRd wr V (la ++ lb.map (· + (NA : Int)))) := Row.ints (cap := c) (by rw [hlen]; exact hR)
      have HZ : Hid (Below w.heap.size w wr ∧ NBox wr w.heap.size VA csA.length ca fA VB WA.length cb ∧ NBox wr (w.heap.size + 1) UA csB.length da fB UB WB.length db ∧ wr.heap[w.heap.size + 2]? = some (.cells #[.slice none 0 0, .int .i64 0, .slice none 0 0] 26 (0, 0))) :=
        ⟨HX2.out.1.trans (hbr.mono HX2.out.1.size), HX2.out.2.1.below hbr, HX2.out.2.2.1.below hbr, (hbr.block _ (heap_lt HX2.out.2.2.2)).trans HX2.out.2.2.2⟩
      clear hR hlen e1 hbr HF
      repeat (first
        | exact hk.out _ _ _ _ _ _ _ ⟨rfl, rfl, rfl, rfl, rfl, rfl, rfl, rfl, rfl, rfl, rfl, rfl, rfl, rfl, rfl⟩ HZ.out.1 HZ.out.2.1 HZ.out.2.2.1 HZ.out.2.2.2 HI.out
        | go_values | go_skip | go_guarded | go_step | go_upon | go_back)
end
end Go.Proofs.Ytcebejcdfdahjaa
namespace Go.Proofs.Ytcebejcdfdahjaa
open Go.RowKit
attribute [local go_sem] cell_set
set_option maxRecDepth 100000
set_option linter.unusedVariables false

theorem outP_rng {pn : Int → Nat} {csA csB : List Int} {fA fB : Nat} {WA WB : List (Pt × Pt)} {J : List (Int × Int)} (hA : NetOk pn csA fA WA) (hB : NetOk pn csB fB WB) (hJ : JOk fA fB J) (i : Nat) (hi : i < (outP pn csA csB fA fB WA WB J).length) : 0 ≤ (outP pn csA csB fA fB WA WB J).getD i 0 ∧ (outP pn csA csB fA fB WA WB J).getD i 0 < (outP pn csA csB fA fB WA WB J).length := by
  rw [outP_len] at hi ⊢
  unfold outP
  rw [List.getD_eq_getElem?_getD, List.getElem?_map, List.getElem?_eq_getElem hi]
  simp only [Option.map_some, Option.getD_some]
  have := List.idxOf_lt_length_iff.2 (end_left hA hB hJ (List.getElem_mem hi))
  omega
theorem outP_all {pn : Int → Nat} {csA csB : List Int} {fA fB : Nat} {WA WB : List (Pt × Pt)} {J : List (Int × Int)} : (outP pn csA csB fA fB WA WB J).length = (allPs pn (csA ++ csB) (leftF fA fB J).length).length := by
  rw [outP_len, allPs_left, List.length_map]
set_option maxHeartbeats 4000000 in
theorem rplugged (A : Option Addr) (n cap : Nat) (L : List (ByteArray × Int)) (VA VB UA UB V : Option Addr) (ca cb da db nJ cJ : Nat) (csA csB : List Int) (fA fB : Nat) (WA WB : List (Pt × Pt)) (J : List (Int × Int)) (w : World)
    (hn : n = L.length) (HL : Hid (AgRd w A L)) (hs : SigOk L) (HCA : Hid (IntsRd w VA csA)) (HWA : Hid (WrRd w VB WA)) (HCB : Hid (IntsRd w UA csB)) (HWB : Hid (WrRd w UB WB))
    (hnJ : nJ = J.length) (HJ : Hid (PtsRd w V J)) (hJl : J.length ≤ 100000) (hJ : Hid (JOk fA fB J))
    (hcl : csA.length + csB.length ≤ 5000) (hfA : fA ≤ 100) (hwA : WA.length ≤ 40000) (hfB : fB ≤ 100) (hwB : WB.length ≤ 40000) (okA : Hid (NetOk (pnL L) csA fA WA)) (okB : Hid (NetOk (pnL L) csB fB WB)) (hF : (leftF fA fB J).length ≤ 100) :
    Calls Try.prog 34 #[.slice A n cap, netV VA ca csA fA VB cb WA, netV UA da csB fB UB db WB, .slice V nJ cJ] w fun e w' => ∃ V1 c1 V2 c2, e = .returned (netV V1 c1 (csA ++ csB) (leftF fA fB J).length V2 c2 (tidyF (allPs (pnL L) (csA ++ csB) (leftF fA fB J).length) (mP (pnL L) csA csB fA fB WA WB J))) ∧ NetFresh w w' V1 c1 (csA ++ csB) V2 c2 (tidyF (allPs (pnL L) (csA ++ csB) (leftF fA fB J).length) (mP (pnL L) csA csB fA fB WA WB J)) := by
  subst hn
  have hleA := firstN_le (pnL_le hs) csA fA csA.length
  have hleB := firstN_le (pnL_le hs) csB fB csB.length
  have hfa : fA ≤ firstN (pnL L) csA fA csA.length := by unfold firstN; omega
  have hfb : fB ≤ firstN (pnL L) csB fB csB.length := by unfold firstN; omega
  obtain ⟨NA, hNA⟩ : ∃ N, firstN (pnL L) csA fA csA.length = N := ⟨_, rfl⟩
  obtain ⟨NB, hNB⟩ : ∃ N, firstN (pnL L) csB fB csB.length = N := ⟨_, rfl⟩
  have hpw := plug_wires okA.out okB.out hJ.out
  rw [hNA] at hleA hfa
  rw [hNB] at hleB hfb
  have hNL : firstN (pnL L) csA fA csA.length + firstN (pnL L) csB fB csB.length = NA + NB := by rw [hNA, hNB]
  have hcnt := leftF_cnt (pn := pnL L) (csA := csA) (csB := csB) (fA := fA) (fB := fB) (J := J)
  have hlen := left_len (pn := pnL L) (csA := csA) (csB := csB) (fA := fA) (fB := fB) (J := J)
  rw [hNL] at hcnt hlen
  have hc4 := cntN_le (c4 (pnL L) csA fA fB) (NA + NB)
  go_enter Try.func34, Try.ntmps34
  refine (show ∀ a, FrQ (.slice A L.length cap) (netV VA ca csA fA VB cb WA) (netV UA da csB fB UB db WB) (.slice V nJ cJ) a → (pgT 0).wp Try.prog _ a w from ?_) _ ⟨rfl, rfl, rfl, rfl, rfl, rfl⟩
  intro a ha
  obtain ⟨U, rfl⟩ := ha.lit
  refine pg_0 _ A _ cap L VA VB UA UB ca cb da db csA csB fA fB NA NB WA WB _ w U rfl HL hs HCA HWA HCB HWB (by omega) hfA hwA (by omega) hfB hwB okA okB (Lib.hid hNA) (Lib.hid hNB) (by omega) (by omega) (Lib.hid fun a8 X8 V9 c9 v10 V11 c11 hf8 hb8 hna8 hnb8 h88 h118 => ?_)
  obtain ⟨U8, rfl⟩ := hf8.lit
  have hlk : LkL (pn := pnL L) (csA := csA) (csB := csB) (fA := fA) (fB := fB) WA WB _ := LkL.mk' okA.out okB.out
  rw [hNA] at hlk
  refine pg_8 (pnL L) csA csB fA fB NA (NA + NB) J _ _ _ _ _ _ _ _ _ _ _ _ V V11 V9 nJ cJ c9 c11 X8 U8 rfl hnJ hJ (Lib.hid hNA) (Lib.hid hNL) hfa (by omega) (by omega) hJl (Lib.hid (HJ.out.below hb8)) (Lib.hid fun a16 X16 l13 hf16 hb16 hl13 h13 htw => ?_)
  obtain ⟨U16, rfl⟩ := hf16.lit
  have hna16 := hna8.below hb16
  have hnb16 := hnb8.below hb16
  refine pg_16 (pnL L) csA csB fA fB NA (NA + NB) J _ VA VB UA UB ca cb da db csA.length csB.length WA WB w.heap.size (w.heap.size + 1) _ _ _ _ _ _ _ _ V9 V11 _ c9 c11 _ l13 X16 U16 (Lib.hid hNA) (Lib.hid hNL) hfa (by omega) (by omega) (Lib.hid h13) (Lib.hid hl13) (Lib.hid htw) (Lib.hid hna16) (Lib.hid hnb16) (Lib.hid fun a24 X24 hf24 hb24 hr24 => ?_)
  obtain ⟨U24, rfl⟩ := hf24.lit
  refine pg_24 (pnL L) csA csB fA fB NA (NA + NB) J _ VA VB UA UB ca cb da db csA.length csB.length WA WB w.heap.size (w.heap.size + 1) _ _ _ _ _ _ _ V9 V11 c9 c11 X16 X24 U24 (Lib.hid hNA) hfa (by omega) (by omega) (Lib.hid hna16) (Lib.hid hnb16) (Lib.hid ⟨hb24, hr24⟩) (Lib.hid fun a31 X31 hf31 hb31 hr31 => ?_)
  obtain ⟨U31, rfl⟩ := hf31.lit
  have hb8_31 := hb16.trans (hb31.mono hb16.size)
  have h17 : IntsRd X31 (some ⟨X16.heap.size, 0, none⟩) (pl4 (c3 (pnL L) csA csB fA fB J) (c4 (pnL L) csA fA fB) (NA + NB) (NA + NB)) := Row.ints (cap := NA + NB) (by rw [pl4_len]; exact hr31)
  have hE : ∀ x ∈ leftS (pnL L) csA csB fA fB J, chain (twJ J) (nxS WA WB) (2 * J.length + 1) (nxS WA WB x) = some (endS WA WB J x) ∧ endS WA WB J x ∈ leftS (pnL L) csA csB fA fB J := fun x hx => by
    obtain ⟨h1, h2⟩ := leftS_mem.1 hx
    have h0 : twJ J x = none := by
      by_cases h : x.2.1 < 0
      · exact h2 h
      · exact tw_cell h hJ.out
    exact ⟨(endS_is okA.out okB.out hJ.out h1 h0).1, end_left okA.out okB.out hJ.out hx⟩
  refine pg_31 (pnL L) csA csB fA fB (NA + NB) J _ WA WB _ _ _ _ _ _ _ _ _ V11 _ _ c11 _ _ (cntN (c3 (pnL L) csA csB fA fB J) (NA + NB) + cntN (c4 (pnL L) csA fA fB) (NA + NB)) _ l13 X31 U31 (Lib.hid hNL) (by omega) (Lib.hid hlen) (by omega) (Lib.hid (h118.below hb8_31)) (Lib.hid hlk) (Lib.hid (h13.below hb31)) (Lib.hid htw) (Lib.hid h17) (Lib.hid hE) (Lib.hid (way_nets okA.out okB.out hJ.out)) (Lib.hid fun a40 X40 hf40 hb40 hr40 => ?_)
  obtain ⟨U40, rfl⟩ := hf40.lit
  have hb8_40 := hb8_31.trans (hb40.mono hb8_31.size)
  have hb_40 := hb8.trans (hb8_40.mono hb8.size)
  have hol := outP_len (pn := pnL L) (csA := csA) (csB := csB) (fA := fA) (fB := fB) (WA := WA) (WB := WB) (J := J)
  have h22 : IntsRd X40 (some ⟨X31.heap.size, 0, none⟩) (outP (pnL L) csA csB fA fB WA WB J) := Row.ints (cap := cntN (c3 (pnL L) csA csB fA fB J) (NA + NB) + cntN (c4 (pnL L) csA fA fB) (NA + NB)) (by rw [hol, hlen]; exact hr40)
  rw [← hcnt]
  refine pg_40 csA csB fA fB _ VA VB UA UB ca cb da db WA WB w.heap.size (w.heap.size + 1) (w.heap.size + 2) _ _ _ _ _ _ _ A _ cap L _ _ _ (leftF fA fB J).length (outP (pnL L) csA csB fA fB WA WB J) w X40 U40 rfl (Lib.hid (HL.out.below hb_40)) hs (Lib.hid (hna8.below hb8_40)) (Lib.hid (hnb8.below hb8_40)) (Lib.hid (HCA.out.below hb_40)) (Lib.hid (HCB.out.below hb_40)) hcl (Lib.hid ((hb8_40.block _ (heap_lt h88)).trans h88)) hF (Lib.hid h22) (Lib.hid ?_) (Lib.hid outP_all) (Lib.hid (outP_rng okA.out okB.out hJ.out)) (Lib.hid hb_40) (by omega) (Lib.hid fun a' X V1 c1 V2 c2 hsz hdf ht8 h8 hnf => ?_)
  · rw [hol, hlen, hcnt]
  · rw [hpw] at h8 hnf
    have k0 : X.cell? ⟨w.heap.size + 2, 0, none⟩ = some (.slice V1 (csA ++ csB).length c1) := by simp [World.cell?, h8]
    have k1 : X.cell? ⟨w.heap.size + 2, 1, none⟩ = some (.int .i64 (((leftF fA fB J).length : Nat) : Int)) := by simp [World.cell?, h8]
    have k2 : X.cell? ⟨w.heap.size + 2, 2, none⟩ = some (.slice V2 (tidyF (allPs (pnL L) (csA ++ csB) (leftF fA fB J).length) (mP (pnL L) csA csB fA fB WA WB J)).length c2) := by simp [World.cell?, h8]
    have g8 : a'.tmps[8]'(by rw [hsz]; omega) = .pointer (some ⟨w.heap.size + 2, 0, none⟩) := (Array.getElem?_eq_some_iff.1 ht8).2
    show bodyPost _ _ _ .ret a' X
    exact bodyPost_ret (v := netV V1 c1 (csA ++ csB) (leftF fA fB J).length V2 c2 (tidyF (allPs (pnL L) (csA ++ csB) (leftF fA fB J).length) (mP (pnL L) csA csB fA fB WA WB J))) (by simp only [results, Try.results34]; go_simp) hdf ⟨V1, c1, V2, c2, rfl, hnf⟩
end Go.Proofs.Ytcebejcdfdahjaa
