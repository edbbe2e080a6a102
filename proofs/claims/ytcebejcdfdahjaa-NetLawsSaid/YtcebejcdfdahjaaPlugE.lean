/-
  net.Plug: the ports of one net, numbered anew: a range over a function.
-/
import Derived.Test.YtcebejcdfdahjaaPlugB
import Derived.Test.YtcebejcdfdahjaaPlugTo
/-
  net.Plug: the sizes.
-/
/-
  net.Plug: the map of twins: its loop.
-/
namespace Go.Proofs.Ytcebejcdfdahjaa
open Go.RowKit
attribute [local go_sem] cell_set
set_option maxRecDepth 100000
set_option linter.unusedVariables false

section
variable (Q : Exit → Act → World → Prop) (w : World) (VA VB UA UB V : Option Addr) (na ca wa cb nb da wb db nJ cJ : Nat) (fA fB : Nat) (J : List (Int × Int)) (v0 : Value)
set_option maxHeartbeats 4000000 in
theorem gp_7 (a : Act) (X : World) (hnJ : nJ = J.length) (HJ : Hid (PtsRd w V J)) (hJl : J.length ≤ 100000)
    (hnext : Hid (∀ a' X' bt mt, FrN 234 [] [(0, v0), (3, .slice V nJ cJ), (5, .pointer (some ⟨w.heap.size, 0, none⟩)), (6, .pointer (some ⟨w.heap.size + 1, 0, none⟩)), (8, .pointer (some ⟨w.heap.size + 2, 0, none⟩)), (12, .pointer (some ⟨bt, 0, none⟩))] a' → GB w VA VB UA UB na ca wa cb nb da wb db fA fB X' → X'.heap[bt]? = some (.cells #[.map (some mt)] 115 (0, 0)) → MP encS X' mt (twF J) → JOk fA fB J → w.heap.size + 3 ≤ bt → w.heap.size + 3 ≤ mt → bt ≠ mt → (gpT 18).wp Try.prog Q a' X'))
    (hbad : Hid (¬ JOk fA fB J → ∀ a' X', FrN 234 [] [(8, .pointer (some ⟨w.heap.size + 2, 0, none⟩)), (9, .int .i64 1)] a' → GB w VA VB UA UB na ca wa cb nb da wb db fA fB X' → Q .ret a' X'))
    (ha : FrN 234 [] [(0, v0), (3, .slice V nJ cJ), (5, .pointer (some ⟨w.heap.size, 0, none⟩)), (6, .pointer (some ⟨w.heap.size + 1, 0, none⟩)), (8, .pointer (some ⟨w.heap.size + 2, 0, none⟩))] a) (hg : GB w VA VB UA UB na ca wa cb nb da wb db fA fB X) : (gpT 7).wp Try.prog Q a X := by
  subst hnJ
  obtain ⟨U, rfl, e0, e3, e5, e6, e8, -⟩ := ha.open
  have HG := Lib.hid hg
  have hl := hg.lt
  unfold FrGL
  simp only [e0, e3, e5, e6, e8]
  clear e0 e3 e5 e6 e8 ha hg
  show (Code.seq _ _).wp _ _ _ _
  have hmm := @run_makeMap Try.prog
  go_upto_region 9 with fail
  clear hmm
  rename_i K hK
  have hX0 : Below X.heap.size X ((X.alloc (.map #[] 0)).alloc (.cells #[.map (some X.heap.size)] 115)) := by (repeat (first | exact Below.refl _ _ | (with_reducible refine Below.drew ?_) | (with_reducible refine Below.alloc ?_ (by (try simp); (try omega)) _) | (with_reducible refine Below.setCell ?_ (by (try simp); (try omega)) _) | (with_reducible refine Below.trans ?_ (Below.mono (by assumption) (by (try simp); (try omega))))))
  refine absW (fun Y => Below X.heap.size X Y ∧ MP encS Y X.heap.size (twF (J.take 0)) ∧ Y.heap[X.heap.size + 1]? = some (.cells #[.map (some X.heap.size)] 115 (0, 0))) ?_ ?_
  · refine ⟨hX0, (MP.made (enc := encS) X).keep (Below.heap_alloc _ _ _ (by simp)), ?_⟩
    have := heap_alloc_new (X.alloc (.map #[] 0)) (.cells #[.map (some X.heap.size)] 115)
    rwa [World.size_alloc] at this
  rintro Y ⟨hy1, hy2, hy3⟩
  have hj0 : JOk fA fB (J.take 0) := ⟨by simp, by simp, by simp⟩
  have H0 := Lib.hid (And.intro (HG.out.below (hy1.mono hl)) (And.intro hy2 (And.intro hy3 hj0)))
  have hHJ := HJ
  clear hX0 hy1 hy2 hy3 hj0
  refine wp_loop_ghost (fun n a' w' => ∃ k, n = J.length - k ∧ k ≤ J.length ∧ R7 w VA VB UA UB V na ca wa cb nb da wb db J.length cJ fA fB J v0 (X.heap.size + 1) X.heap.size k a' w') J.length ⟨0, by omega, by omega, ⟨rfl, rfl, rfl, rfl, rfl, rfl, rfl, rfl, rfl, rfl, rfl, trivial⟩, H0.out.1, H0.out.2.2.1, H0.out.2.1, H0.out.2.2.2, by omega, hl, by omega⟩ ?_
  rintro n a' w' ⟨k, rfl, hk, hR⟩
  refine gr_7 _ w VA VB UA UB V na ca wa cb nb da wb db J.length cJ fA fB J v0 _ _ k a' w' rfl HJ hJl hk (Lib.hid fun a2 w2 hlt hR2 => ?_) (Lib.hid fun a2 w2 hkl hR2 => ?_) (Lib.hid fun hnj a2 w2 hf hg2 => ?_) hR
  · exact ⟨_, by omega, k + 1, rfl, by omega, hR2⟩
  · subst hkl
    obtain ⟨hf, hg2, hb2, hm2, hj2, l1, l2, l3⟩ := hR2
    rw [List.take_length] at hm2 hj2
    obtain ⟨hsz, hdf, s0, s3, s5, s6, s8, s12, _⟩ := hf
    have HN := hnext.out a2 w2 _ _ ⟨hsz, hdf, s0, s3, s5, s6, s8, s12, trivial⟩ hg2 hb2 hm2 hj2 l1 l2 l3
    exact hK _ _ HN
  · have HN := hbad.out hnj a2 w2 hf hg2
    exact HN
end
end Go.Proofs.Ytcebejcdfdahjaa
namespace Go.Proofs.Ytcebejcdfdahjaa
open Go.RowKit
attribute [local go_sem] cell_set
set_option maxRecDepth 100000
set_option linter.unusedVariables false

section
variable (Q : Exit → Act → World → Prop) (w : World) (VA VB UA UB V : Option Addr) (na ca wa cb nb da wb db nJ cJ : Nat) (fA fB : Nat) (J : List (Int × Int)) (v0 v12 : Value)
set_option maxHeartbeats 4000000 in
theorem gp_18 (F : Nat) (a : Act) (X : World) (hnJ : nJ = J.length) (hJl : J.length ≤ 100000) (hF : F + 2 * J.length = fA + fB) (hfA : fA ≤ 64) (hfB : fB ≤ 64) (hna : na ≤ 10000) (hnb : nb ≤ 10000)
    (hnext : Hid (na + nb ≤ 4096 → F ≤ 64 → ∀ a' X', FrN 234 [] [(0, v0), (5, .pointer (some ⟨w.heap.size, 0, none⟩)), (6, .pointer (some ⟨w.heap.size + 1, 0, none⟩)), (8, .pointer (some ⟨w.heap.size + 2, 0, none⟩)), (12, v12), (21, .int .i64 (F : Int))] a' → X' = X → (gpT 21).wp Try.prog Q a' X'))
    (hbad : Hid (4096 < na + nb ∨ 64 < F → ∀ a' X', FrN 234 [] [(8, .pointer (some ⟨w.heap.size + 2, 0, none⟩)), (9, .int .i64 15)] a' → GB w VA VB UA UB na ca wa cb nb da wb db fA fB X' → Q .ret a' X'))
    (ha : FrN 234 [] [(0, v0), (3, .slice V nJ cJ), (5, .pointer (some ⟨w.heap.size, 0, none⟩)), (6, .pointer (some ⟨w.heap.size + 1, 0, none⟩)), (8, .pointer (some ⟨w.heap.size + 2, 0, none⟩)), (12, v12)] a) (hg : GB w VA VB UA UB na ca wa cb nb da wb db fA fB X) : (gpT 18).wp Try.prog Q a X := by
  subst hnJ
  obtain ⟨U, rfl, e0, e3, e5, e6, e8, e12, -⟩ := ha.open
  have HG := Lib.hid hg
  have hl := hg.lt
  have a0 := hg.a.c0
  have a1 := hg.a.c1
  have b0 := hg.b.c0
  have b1 := hg.b.c1
  have l5 : w.heap.size < X.heap.size := by omega
  have l6 : w.heap.size + 1 < X.heap.size := by omega
  have l8 : w.heap.size + 2 < X.heap.size := by omega
  obtain ⟨⟨z0, z1, z2⟩, y0, y1, y2⟩ := hg.zero
  unfold FrGL
  simp only [e0, e3, e5, e6, e8, e12]
  clear e0 e3 e5 e6 e8 e12 ha hg
  show (Code.seq _ _).wp _ _ _ _
  have w1 : IntKind.i64.wrap ((fA : Int) + (fB : Int)) = (fA : Int) + (fB : Int) := IntWalk.i64_in _ (by omega)
  have w2 : IntKind.i64.wrap (2 * (J.length : Int)) = 2 * (J.length : Int) := IntWalk.i64_in _ (by omega)
  have w3 : IntKind.i64.wrap ((fA : Int) + (fB : Int) - 2 * (J.length : Int)) = (F : Int) := by rw [IntWalk.i64_in _ (by omega)]; omega
  have w4 : IntKind.i64.wrap ((na : Int) + (nb : Int)) = (na : Int) + (nb : Int) := IntWalk.i64_in _ (by omega)
  by_cases h1 : (4096 : Int) < (na : Int) + (nb : Int)
  · have HB := Lib.hid (hbad.out (.inl (by omega)))
    go_wp2_with fail
    exact HB.out _ _ ⟨rfl, rfl, rfl, rfl, trivial⟩ HG.out.again
  · by_cases h2 : (64 : Int) < (F : Int)
    · have HB := Lib.hid (hbad.out (.inr (by omega)))
      go_wp2_with fail
      exact HB.out _ _ ⟨rfl, rfl, rfl, rfl, trivial⟩ HG.out.again
    · have HN := Lib.hid (hnext.out (by omega) (by omega))
      repeat (first
        | exact HN.out _ _ ⟨rfl, rfl, rfl, rfl, rfl, rfl, rfl, rfl, trivial⟩ rfl
        | go_values | go_skip | go_guarded | go_step | go_upon | go_back)
end
end Go.Proofs.Ytcebejcdfdahjaa
namespace Go.Proofs.Ytcebejcdfdahjaa
open Go.RowKit
attribute [local go_sem] Oper.semAt_some
attribute [local go_sem] cell_set
set_option maxRecDepth 100000
set_option linter.unusedVariables false

/-- What the range keeps. -/
def BT (w0 : World) (mto bk : Nat) (st : StT) (X : World) : Prop :=
  Kp [mto, bk] w0 X ∧ mto < w0.heap.size ∧ bk < w0.heap.size ∧ mto ≠ bk ∧ MP encS X mto st.1 ∧ X.heap[bk]? = some (.cells #[.int .i64 (st.2 : Int)] 3 (0, 0))
theorem BT.grown {w0 X X' : World} {mto bk : Nat} {st : StT} (h : BT w0 mto bk st X) {row : Option Nat} (hg : X.grownBy X' row) (hr : ∀ r, row = some r → w0.heap.size ≤ r ∧ ∃ o : Obj, X.heap[r]? = some o ∧ o.isCells = false) : BT w0 mto bk st X' := by
  obtain ⟨h1, h2, h3, h4, h5, h6⟩ := h
  have hb : ∀ b, b < w0.heap.size → X'.heap[b]? = X.heap[b]? := fun b hb => hg.block b (Nat.lt_of_lt_of_le hb h1.size) (fun e => by have := (hr b e.symm).1; omega)
  refine ⟨?_, h2, h3, h4, h5.keep (hb mto h2), (hb bk h3).trans h6⟩
  cases row with
  | none => exact h1.trans (G := []) ⟨hg.os, hg.tape, hg.output, hg.size, fun b hb _ => hg.block b hb (by simp)⟩ (by simp)
  | some r => exact h1.trans (G := [r]) ⟨hg.os, hg.tape, hg.output, hg.size, fun b hb hn => hg.block b hb (by simpa using hn)⟩ (fun b hb => by simp at hb; subst hb; exact .inr (hr b rfl).1)
theorem BT.keep {w0 X X' : World} {mto bk : Nat} {st : StT} (h : BT w0 mto bk st X) (hk : Kp [] X X') : BT w0 mto bk st X' := by
  obtain ⟨h1, h2, h3, h4, h5, h6⟩ := h
  exact ⟨h1.trans hk (by simp), h2, h3, h4, h5.keep (hk.block mto h5.lt (by simp)), (hk.block bk (heap_lt h6) (by simp)).trans h6⟩
theorem KeepsFrom.kpF {B : Nat} {F : List Nat} {W W' : World} (h : Kp F W W') (hF : ∀ b ∈ F, b < B) : KeepsFrom B W W' := ⟨h.size, fun k o hB hk _ => (h.block k (heap_lt hk) (fun hm => by have := hF k hm; omega)).trans hk⟩
theorem BT.fin {w0 Y W' : World} {mto bk : Nat} {st st' : StT} {QQ : List Nat} (h : BT w0 mto bk st Y) (hk : Kp [mto, bk] Y W') (hm : MP encS W' mto st'.1) (hb : W'.heap[bk]? = some (.cells #[.int .i64 (st'.2 : Int)] 3 (0, 0))) (hQ : ∀ y ∈ QQ, y < w0.heap.size ∧ y ≠ mto ∧ y ≠ bk) :
    KeepsFrom w0.heap.size Y W' ∧ KQ QQ Y W' ∧ BT w0 mto bk st' W' := by
  obtain ⟨h1, h2, h3, h4, h5, h6⟩ := h
  refine ⟨KeepsFrom.kpF hk (by intro b hb; simp at hb; rcases hb with rfl | rfl <;> assumption), KQ.kp hk fun y hy => ⟨by have := (hQ y hy).1; have := h1.size; omega, by have := (hQ y hy).2; simp; exact this⟩, h1.trans hk (fun b hb => .inl hb), h2, h3, h4, hm, hb⟩
def actG (a : Act) (x : Nat × Pt) (b : Nat) : Act := { tmps := ((a.tmps.setIfInBounds 154 (.int .i64 (x.1 : Int))).setIfInBounds 155 (.agg #[.int .i64 x.2.1, .int .i64 x.2.2])).setIfInBounds 28 (.pointer (some ⟨b, 0, none⟩)), defers := [] }
section
variable (Q : Exit → Act → World → Prop) (w : World) (VA VB UA UB VN VM : Option Addr) (na ca wa cb nb da wb db cN cM nM : Nat) (fA fB : Int) (J : List (Int × Int)) (v21 v24 v144 v145 v146 : Value)
set_option maxHeartbeats 4000000 in
theorem gp_27 (A : Option Addr) (n cap : Nat) (L : List (ByteArray × Int)) (csN : List Int) (fN : Nat) (WN : List (Pt × Pt)) (sc : Bool) (iv off : Int) (st0 : StT) (ds : List Deferred) (bt mt bto mto bk bi bn : Nat) (a : Act) (X : World)
    (hn : n = L.length) (HL : Hid (AgRd w A L)) (hs : SigOk L) (hpos : 0 < L.length) (HN : Hid (IntsRd w VN csN)) (hc : csN.length ≤ 5000) (hf : fN ≤ 100) (hiv : Hid ((iv == 1) = sc)) (hof : Hid (IntKind.i64.wrap (iv * (na : Int)) = off)) (hst : st0.2 ≤ 100000)
    (hg : GB w VA VB UA UB na ca wa cb nb da wb db fA fB X) (hbt : Hid (X.heap[bt]? = some (.cells #[.map (some mt)] 115 (0, 0)))) (hmt : Hid (MP encS X mt (twF J))) (hbto : Hid (X.heap[bto]? = some (.cells #[.map (some mto)] 119 (0, 0)))) (hmto : Hid (MP encS X mto st0.1))
    (hbk : Hid (X.heap[bk]? = some (.cells #[.int .i64 (st0.2 : Int)] 3 (0, 0)))) (hbi : Hid (X.heap[bi]? = some (.cells #[.int .i64 iv] 3 (0, 0)))) (hbn : Hid (X.heap[bn]? = some (.cells #[.slice VN csN.length cN, .int .i64 (fN : Int), .slice VM WN.length cM] 26 (0, 0))))
    (d1 : w.heap.size + 3 ≤ mto) (d2 : w.heap.size + 3 ≤ bk) (d3 : mto ≠ bk) (d4 : Hid (mto ≠ bt ∧ bk ≠ bt ∧ mto ≠ mt ∧ bk ≠ mt ∧ mto ≠ bto ∧ bk ≠ bto ∧ mto ≠ bi ∧ bk ≠ bi))
    (hk : Hid (∀ a' X' D, FrN 234 ({ target := .collected D, args := #[] } :: ds) [(0, .slice A n cap), (5, .pointer (some ⟨w.heap.size, 0, none⟩)), (6, .pointer (some ⟨w.heap.size + 1, 0, none⟩)), (8, .pointer (some ⟨w.heap.size + 2, 0, none⟩)), (12, .pointer (some ⟨bt, 0, none⟩)), (21, v21), (22, .pointer (some ⟨bto, 0, none⟩)), (23, .pointer (some ⟨bk, 0, none⟩)), (24, v24), (144, v144), (145, v145), (146, v146)] a' → X.heap.size ≤ D → Kp [mto, bk] X X' → X'.heap[D]? = some (.deferred (some [])) → MP encS X' mto (stT J off sc st0 (allPs (pnL L) csN fN)).1 → X'.heap[bk]? = some (.cells #[.int .i64 ((stT J off sc st0 (allPs (pnL L) csN fN)).2 : Int)] 3 (0, 0)) → Q .normal a' X'))
    (ha : FrN 234 ds [(0, .slice A n cap), (5, .pointer (some ⟨w.heap.size, 0, none⟩)), (6, .pointer (some ⟨w.heap.size + 1, 0, none⟩)), (8, .pointer (some ⟨w.heap.size + 2, 0, none⟩)), (12, .pointer (some ⟨bt, 0, none⟩)), (21, v21), (22, .pointer (some ⟨bto, 0, none⟩)), (23, .pointer (some ⟨bk, 0, none⟩)), (24, v24), (25, .pointer (some ⟨bi, 0, none⟩)), (26, .pointer (some ⟨bn, 0, none⟩)), (144, v144), (145, v145), (146, v146)] a) :
    (gpT 27).wp Try.prog Q a X := by
  subst hn
  obtain ⟨U, rfl, e0, e5, e6, e8, e12, e21, e22, e23, e24, e25, e26, e144, e145, e146, -⟩ := ha.open
  have hl := hg.lt
  have HG := Lib.hid hg
  have k0 : X.cell? ⟨bn, 0, none⟩ = some (.slice VN csN.length cN) := by simp [World.cell?, hbn.out]
  have k1 : X.cell? ⟨bn, 1, none⟩ = some (.int .i64 (fN : Int)) := by simp [World.cell?, hbn.out]
  have k2 : X.cell? ⟨bn, 2, none⟩ = some (.slice VM WN.length cM) := by simp [World.cell?, hbn.out]
  have hbnl := heap_lt hbn.out
  have hbe := Lib.hid hg.bel
  unfold FrGL
  simp only [e0, e5, e6, e8, e12, e21, e22, e23, e24, e25, e26, e144, e145, e146]
  clear e0 e5 e6 e8 e12 e21 e22 e23 e24 e25 e26 e144 e145 e146 ha hg
  show (Code.seq _ _).wp _ _ _ _
  go_wp2_with (go_at_call 73; refine (net_ports A _ cap VN VM cN cM csN fN WN L X rfl (Lib.hid (HN.out.below hbe.out)) (Lib.hid (HL.out.below hbe.out))).mono ?_; rintro e w2 ⟨rfl, hps, hb2⟩
               have hz2 := hb2.size
               have HB2 := Lib.hid hb2
               have HPS := Lib.hid hps
               clear hb2 hps)
  have hQl := pQ_lt HPS.out hpos
  have hml := hmto.out.lt
  have hkl := heap_lt hbk.out
  have HQn : Hid (∀ y ∈ pQ (X.heap.size + 1) X.heap.size A VN csN, y < w2.heap.size ∧ y ≠ mto ∧ y ≠ bk) := fun y hy => ⟨hQl y hy, by
    simp only [pQ, List.mem_cons, List.mem_append] at hy
    rcases hy with rfl | rfl | hy | hy
    · omega
    · omega
    · obtain ⟨b', off, rfl, hlt, _⟩ := HL.out 0 hpos
      simp [ablk] at hy; omega
    · unfold ablkL at hy
      by_cases h0 : csN.length = 0
      · rw [if_pos h0] at hy; simp at hy
      · rw [if_neg h0] at hy
        obtain ⟨b', off, rfl, hlt, _⟩ := HN.out 0 (by omega)
        simp [ablk] at hy; omega⟩
  clear hQl
  have hBT : BT w2 mto bk (stT J off sc st0 (([] : List (Nat × Pt)).map Prod.snd)) w2 := ⟨Kp.refl _ _, by omega, by omega, d3, hmto.out.keep (HB2.out.block mto hml), (HB2.out.block bk hkl).trans hbk.out⟩
  have HBT := Lib.hid hBT
  have hN40 : (allPs (pnL L) csN fN).length ≤ 40000 := by
    rw [allPs_len]
    have := firstN_le (pnL_le hs) csN fN csN.length
    omega
  have HN40 := Lib.hid hN40
  have HG2 := Lib.hid (HG.out.below (HB2.out.mono hl))
  have HT2 : Hid (w2.heap[bt]? = some (.cells #[.map (some mt)] 115 (0, 0)) ∧ MP encS w2 mt (twF J) ∧ w2.heap[bto]? = some (.cells #[.map (some mto)] 119 (0, 0)) ∧ w2.heap[bi]? = some (.cells #[.int .i64 iv] 3 (0, 0))) :=
    ⟨(HB2.out.block bt (heap_lt hbt.out)).trans hbt.out, hmt.out.keep (HB2.out.block mt hmt.out.lt), (HB2.out.block bto (heap_lt hbto.out)).trans hbto.out, (HB2.out.block bi (heap_lt hbi.out)).trans hbi.out⟩
  have hne5 : w.heap.size ≠ mto ∧ w.heap.size ≠ bk := ⟨by omega, by omega⟩
  have HNe := Lib.hid hne5
  clear hBT hN40 k0 k1 k2 hne5
  refine rfb rfl (enters_of Try.func95 (by kernel_rfl) rfl) (ports_seq 4 _ _ A cap L VN VM cN cM csN fN _ hs hc hf _ HPS.out) (fun y hy => (HQn.out y hy).1) (fun _ => rfl)
    (fun pre Y => BT w2 mto bk (stT J off sc st0 (pre.map Prod.snd)) Y) (fun c pre Y => False)
    (fun s Y Y' row h hg hr => h.grown hg hr) (fun c s Y Y' row h hg hr => h)
    HBT.out (fun x => .cells #[.int .i64 x.2.1, .int .i64 x.2.2] 78) actG ?assign ?body ?done ?stop
  case assign =>
    intro l x Y K hK
    unfold encP
    gi_wp2
    simpa [actG] using hK
  case stop => exact fun D c pre Y hD hpre h => h.elim
  case done =>
    rintro D xs Y hD rfl hbt2 hK
    rw [numd_snd] at hbt2
    obtain ⟨h1, h2, h3, h4, h5, h6⟩ := hbt2
    have HF := Lib.hid (And.intro ((Kp.of_below (F := [mto, bk]) HB2.out).trans h1 (fun b hb => .inl hb)) (And.intro hK (And.intro h5 h6)))
    have hDX : X.heap.size ≤ D := by omega
    repeat (first
      | exact hk.out _ _ D ⟨rfl, rfl, rfl, rfl, rfl, rfl, rfl, rfl, rfl, rfl, rfl, rfl, rfl, rfl, trivial⟩ hDX HF.out.1 HF.out.2.1 HF.out.2.2.1 HF.out.2.2.2
      | go_values | go_skip | go_guarded | go_step | go_upon | go_back)
  case body =>
    rintro l pre x b Y hbt2 hlen hb hbx
    obtain ⟨i, p0, p1⟩ := x
    have hk1 := hbt2.1
    have b0 : Y.cell? ⟨b, 0, none⟩ = some (.int .i64 p0) := by simp [World.cell?, hbx]
    have b1 : Y.cell? ⟨b, 1, none⟩ = some (.int .i64 p1) := by simp [World.cell?, hbx]
    have hbY := heap_lt hbx
    obtain ⟨x1, x2, x3, x4⟩ := HT2.out
    obtain ⟨n1, n2, n3, n4, n5, n6, n7, n8⟩ := d4.out
    have y1 := (hk1.block bt (heap_lt x1) (by simp [Ne.symm n1, Ne.symm n2])).trans x1
    have y2 : MP encS Y mt (twF J) := x2.keep (hk1.block mt x2.lt (by simp [Ne.symm n3, Ne.symm n4]))
    have y3 := (hk1.block bto (heap_lt x3) (by simp [Ne.symm n5, Ne.symm n6])).trans x3
    have y4 := (hk1.block bi (heap_lt x4) (by simp [Ne.symm n7, Ne.symm n8])).trans x4
    have q1 := heap_lt y1
    have q3 := heap_lt y3
    have q4 := heap_lt y4
    have q5 : w.heap.size < Y.heap.size := Nat.lt_of_lt_of_le HG2.out.a.lt hk1.size
    have t0 : Y.cell? ⟨bt, 0, none⟩ = some (.map (some mt)) := by simp [World.cell?, y1]
    have o0 : Y.cell? ⟨bto, 0, none⟩ = some (.map (some mto)) := by simp [World.cell?, y3]
    have i0 : Y.cell? ⟨bi, 0, none⟩ = some (.int .i64 iv) := by simp [World.cell?, y4]
    have a0 : Y.cell? ⟨w.heap.size, 0, none⟩ = some (.slice VA na ca) := (hk1.cell (p := ⟨w.heap.size, 0, none⟩) HG2.out.a.lt (by simpa using HNe.out)).trans HG2.out.a.c0
    have hle := stT_le J off sc st0 (pre.map Prod.snd)
    have hln := HN40.out
    have hsn := stT_snoc J off sc st0 (pre.map Prod.snd) (p0, p1)
    rw [List.length_map] at hle
    have hpre : (pre ++ [(i, p0, p1)]).map Prod.snd = pre.map Prod.snd ++ [(p0, p1)] := by simp
    have HPre := Lib.hid hpre
    have HSn := Lib.hid hsn
    have HBY := Lib.hid hbt2
    have HEnd := Lib.hid (fun (W' : World) (st' : StT) (hkk : Kp [mto, bk] Y W') (hm : MP encS W' mto st'.1) (hb : W'.heap[bk]? = some (.cells #[.int .i64 (st'.2 : Int)] 3 (0, 0))) => HBY.out.fin hkk hm hb HQn.out)
    obtain ⟨st, hst⟩ : ∃ st, stT J off sc st0 (pre.map Prod.snd) = st := ⟨_, rfl⟩
    rw [hst] at hle
    rw [hst] at HSn HBY
    have hst2 : st.2 ≤ 140000 := by omega
    obtain ⟨_, hmz, hkz, _, hmY, hkY⟩ := HBY.out
    have kk0 : Y.cell? ⟨bk, 0, none⟩ = some (.int .i64 (st.2 : Int)) := by simp [World.cell?, hkY]
    have HY2 := Lib.hid y2
    have HMY := Lib.hid hmY
    have HKY := Lib.hid hkY
    clear hbt2 hk1 hbx x1 x2 x3 x4 n1 n2 n3 n4 n5 n6 n7 n8 y1 y2 y3 y4 hle hln hsn hpre hst hmY hkY hlen hmz hkz
    simp only [actG]
    have hv1 := hiv.out
    have hbkY := heap_lt HKY.out
    have hmY := HMY.out.lt
    have A1 : Y.heap.size ≤ (Y.alloc (.cells #[.bool sc, .int .i64 p0, .int .i64 p1] 117)).heap.size := by simp
    have hal : ∀ o b, b < Y.heap.size → (Y.alloc o).heap[b]? = Y.heap[b]? := fun o b hb => Below.heap_alloc _ _ _ hb
    by_cases hp : p0 < 0
    · obtain ⟨⟨s1, s2, s3⟩, hs⟩ : ∃ s, (twJ J (sc, (p0, p1))).getD (false, (0, 0)) = s := ⟨_, rfl⟩
      obtain ⟨h1, hh1⟩ : ∃ b, (twJ J (sc, (p0, p1))).isSome = b := ⟨_, rfl⟩
      have gd : ∀ o : Option Sd, (o.map encS).getD (encS (false, (0, 0))) = encS (o.getD (false, (0, 0))) := fun o => by cases o <;> rfl
      have gs : ∀ o : Option Sd, (o.map encS).isSome = o.isSome := fun o => by cases o <;> rfl
      have lk1 := (HY2.out.keep (hal (.cells #[.bool sc, .int .i64 p0, .int .i64 p1] 117) mt HY2.out.lt)).lookup kside Try.underlying115 zside (sc, (p0, p1)) true
      unfold twF at lk1
      simp only [if_true] at lk1
      rw [gd, gs, hs, hh1] at lk1
      simp only [encS] at lk1
      have hal2 : ∀ b, b < Y.heap.size → ((Y.alloc (.cells #[.bool sc, .int .i64 p0, .int .i64 p1] 117)).alloc (.cells #[.bool s1, .int .i64 s2, .int .i64 s3] 117)).heap[b]? = Y.heap[b]? := fun b hb => (Below.heap_alloc _ _ _ (by simp; omega)).trans (hal _ b hb)
      have HAl := Lib.hid hal2
      have HS : Hid (stp J off st (sc, (p0, p1)) = if h1 = true then st else (upd st.1 (sc, (p0, p1)) (encPt (-1, (st.2 : Int))), st.2 + 1)) := by
        show _ = _
        unfold stp
        rw [if_pos hp, hh1]
      clear hs hh1 gd gs hal hal2
      cases h1
      · obtain ⟨w3, hr3, mp3, k3, z3⟩ := (HMY.out.keep (HAl.out mto hmY)).update kside Try.underlying119 (sc, (p0, p1)) (encPt (-1, (st.2 : Int)))
        simp only [encS, encPt] at hr3
        have hkb3 : w3.heap[bk]? = some (.cells #[.int .i64 (st.2 : Int)] 3 (0, 0)) := (k3.block bk (by simp; omega) (by simpa using Ne.symm d3)).trans ((HAl.out bk hbkY).trans HKY.out)
        have kk3 : w3.cell? ⟨bk, 0, none⟩ = some (.int .i64 (st.2 : Int)) := by simp [World.cell?, hkb3]
        have kf3 : w3.frozen? ⟨bk, 0, none⟩ = false := by simp [World.frozen?, hkb3]
        have hkl3 := heap_lt hkb3
        have ew : IntKind.i64.wrap ((st.2 : Int) + 1) = ((st.2 + 1 : Nat) : Int) := by rw [IntWalk.i64_in _ (by omega)]; omega
        have K3 := Lib.hid (And.intro mp3 (And.intro k3 hkb3))
        clear mp3 k3 hkb3
        gi_wp2_with fail
        show KeepsFrom _ _ _ ∧ KQ _ _ _ ∧ BT w2 mto bk (stT J off sc st0 ((pre ++ [(i, p0, p1)]).map Prod.snd)) _
        rw [HPre.out, HSn.out, HS.out, if_neg (by simp)]
        refine HEnd.out _ _ ?_ ?_ ?_
        · exact (((((Kp.refl _ Y).alloc _).alloc _).trans (K3.out.2.1.mono (G := [mto, bk]) (by simp)) (fun b hb => .inl hb)).setCell (p := ⟨bk, 0, none⟩) (.inl (by simp)) _)
        · exact K3.out.1.keep (Below.heap_setCell _ _ _ _ (by show mto ≠ bk; exact d3))
        · have := K3.out.2.2
          simp [World.setCell, Array.getElem?_modify, this]
      · gi_wp2_with fail
        show KeepsFrom _ _ _ ∧ KQ _ _ _ ∧ BT w2 mto bk (stT J off sc st0 ((pre ++ [(i, p0, p1)]).map Prod.snd)) _
        rw [HPre.out, HSn.out, HS.out, if_pos (by first | rfl | trivial)]
        exact HEnd.out _ _ (((Kp.refl _ Y).alloc _).alloc _) (HMY.out.keep (HAl.out mto hmY)) ((HAl.out bk hbkY).trans HKY.out)
    · have HS : Hid (stp J off st (sc, (p0, p1)) = (upd st.1 (sc, (p0, p1)) (encPt (IntKind.i64.wrap (p0 + off), p1)), st.2)) := by
        show _ = _
        unfold stp
        rw [if_neg hp]
      have hw1 := hof.out
      obtain ⟨po, hpo⟩ : ∃ q, IntKind.i64.wrap (p0 + off) = q := ⟨_, rfl⟩
      rw [hpo] at HS
      obtain ⟨w3, hr3, mp3, k3, z3⟩ := (HMY.out.keep (hal (.cells #[.bool sc, .int .i64 p0, .int .i64 p1] 117) mto hmY)).update kside Try.underlying119 (sc, (p0, p1)) (encPt (po, p1))
      simp only [encS, encPt] at hr3
      have hkb3 : w3.heap[bk]? = some (.cells #[.int .i64 (st.2 : Int)] 3 (0, 0)) := (k3.block bk (by simp; omega) (by simpa using Ne.symm d3)).trans ((hal _ bk hbkY).trans HKY.out)
      have K3 := Lib.hid (And.intro mp3 (And.intro k3 hkb3))
      clear mp3 k3 hkb3 hal
      gi_wp2_with fail
      show KeepsFrom _ _ _ ∧ KQ _ _ _ ∧ BT w2 mto bk (stT J off sc st0 ((pre ++ [(i, p0, p1)]).map Prod.snd)) _
      rw [HPre.out, HSn.out, HS.out]
      exact HEnd.out _ _ (((Kp.refl _ Y).alloc _).trans (K3.out.2.1.mono (G := [mto, bk]) (by simp)) (fun b hb => .inl hb)) K3.out.1 K3.out.2.2
end
end Go.Proofs.Ytcebejcdfdahjaa
