/-
  The statement AgendaPlays: a round.
-/
import Derived.Test.YtkonfogebepccaaDoorAgLawA
namespace Go.Proofs.YtkonfogebepccaaDoor
open Go.RowKit
attribute [local go_sem] cell_set
attribute [local go_sem high] run_neq_pr
set_option maxRecDepth 100000
set_option linter.unusedVariables false

section
variable (Q : Exit → Act → World → Prop) (A R : Nat) (V0 : Option Addr) (n c0 : Nat) (w : World)
set_option maxHeartbeats 4000000 in
theorem al_6 (a : Act) (X : World) (j : Nat) (L : List (Int × Int × Int)) (ps : List (Int × Int)) (hn : L.length = n) (hjn : j ≤ n) (hn2 : n ≤ 1024) (hpl : ps.length ≤ j) (hok : AgOk ps)
    (HL : Hid (AStepsAt w V0 L))
    (hgo : Hid (∀ (ps' : List (Int × Int)) a' X', AgOk ps' → ps'.length ≤ j + 1 → FrN 150 [] [(0, .slice V0 n c0), (3, .pointer (some ⟨A, 0, none⟩)), (4, .pointer (some ⟨R, 0, none⟩)), (5, .int .i64 ((j : Int) + 1))] a' → ApS w X' A R [] ps' ps' → j < n → Q .normal a' X'))
    (hout : Hid (∀ a' X', FrN 150 [] [(0, .slice V0 n c0), (3, .pointer (some ⟨A, 0, none⟩)), (4, .pointer (some ⟨R, 0, none⟩))] a' → ApS w X' A R [] ps ps → Q (.exit 0) a' X'))
    (hs : Hid (ApS w X A R [] ps ps))
    (ha : FrN 150 [] [(0, .slice V0 n c0), (3, .pointer (some ⟨A, 0, none⟩)), (4, .pointer (some ⟨R, 0, none⟩)), (5, .int .i64 (j : Int))] a) : (apT 6).wp Tryd.prog Q a X := by
  obtain ⟨U, rfl, e0, e3, e4, e5, -⟩ := ha.openAP
  unfold FrAP
  simp only [e0, e3, e4, e5]
  clear e0 e3 e4 e5 ha
  show (Code.seq _ _).wp _ _ _ _
  have HOK := Lib.hid hok
  have HN := Lib.hid hn
  clear hok hn
  by_cases hlt : j < n
  · obtain ⟨b, off, rfl, hb, g0, g1, g2⟩ := HL.out j (by rw [HN.out]; exact hlt)
    have hbw := hs.out.bel
    have q0 := (hbw.cell (p := ⟨b, off + j * 3, none⟩) hb).trans g0
    have q1 := (hbw.cell (p := ⟨b, off + j * 3 + 1, none⟩) hb).trans g1
    have q2 := (hbw.cell (p := ⟨b, off + j * 3 + 2, none⟩) hb).trans g2
    have hbx : b < X.heap.size := Nat.lt_of_lt_of_le hb hbw.size
    clear g0 g1 g2 hbw
    generalize L[j]'(by rw [HN.out]; exact hlt) = s at q0 q1 q2
    obtain ⟨d, x, y⟩ := s
    dsimp only at q0 q1 q2
    have HLT := Lib.hid hlt
    have hj1 : (j : Int) < (n : Int) := by omega
    go_upto_region 9 with fail
    refine absW (fun Y => ApS w Y A R [(X.heap.size, stO d x y)] ps ps) (hs.out.box #[.int .i64 d, .int .i64 x, .int .i64 y] 31) ?_
    intro Y hY
    obtain ⟨bs, hbs⟩ : ∃ b, b = X.heap.size := ⟨_, rfl⟩
    rw [← hbs] at hY ⊢
    have HY := Lib.hid hY
    have HK : Hid (∀ Z B ps qs, (bs, stO d x y) ∈ B → ApS w Z A R B ps qs → Z.cell? ⟨bs, 0, none⟩ = some (.int .i64 d) ∧ Z.cell? ⟨bs, 1, none⟩ = some (.int .i64 x) ∧ Z.cell? ⟨bs, 2, none⟩ = some (.int .i64 y) ∧ bs < Z.heap.size) := fun Z B ps qs hm h => by
      have h1 := h.bx (bs, stO d x y) hm
      exact ⟨by rw [cells_of h1]; rfl, by rw [cells_of h1]; rfl, by rw [cells_of h1]; rfl, heap_lt h1⟩
    obtain ⟨p0, p1, p2, hbl⟩ := HK.out Y _ _ _ (by simp) hY
    clear hY q0 q1 q2 hbx hj1 hs hbs
    by_cases h0 : d = 0
    · subst h0
      obtain ⟨k, ps', ok', len', hp, hr⟩ := both_add ps HOK.out (by omega) x y
      have P1 : Hid (∀ Z, ApS w Z A R [(bs, stO 0 x y)] ps ps → Calls Tryd.prog 8 #[.pointer (some ⟨A, 0, none⟩), .agg #[.int .i64 x, .int .i64 y]] Z fun e w' => e = .returned (.int .i64 k) ∧ ApS w w' A R [(bs, stO 0 x y)] ps' ps) := fun Z h => h.callA hp
      have P2 : Hid (∀ Z, ApS w Z A R [(bs, stO 0 x y)] ps' ps → Calls Tryd.prog 9 #[.pointer (some ⟨R, 0, none⟩), .agg #[.int .i64 x, .int .i64 y]] Z fun e w' => e = .returned (.int .i64 k) ∧ ApS w w' A R [(bs, stO 0 x y)] ps' ps') := fun Z h => h.callR hr
      have HE := Lib.hid (And.intro ok' len')
      clear hp hr ok' len'
      go_upto_region 11 with fail
      have HZ : Hid (ApS w Y.drew A R [(bs, stO 0 x y)] ps ps) := HY.out.below ((Below.refl _ _).drew)
      have SZ : Hid (Y.drew.cell? ⟨bs, 1, none⟩ = some (.int .i64 x) ∧ Y.drew.cell? ⟨bs, 2, none⟩ = some (.int .i64 y)) := ⟨p1, p2⟩
      go_region_held3 (fun W => W.cell? ⟨bs, 1, none⟩ = some (.int .i64 x) ∧ W.cell? ⟨bs, 2, none⟩ = some (.int .i64 y)) (exact SZ.out)
        (first
          | (go_at_call 8; with_reducible refine (P1.out _ HZ.out).mono ?_; rintro e w3 ⟨rfl, h3⟩; have HZ := Lib.hid h3; have SZ := Lib.hid (And.intro (HK.out _ _ _ _ (by simp) h3).2.1 (HK.out _ _ _ _ (by simp) h3).2.2.1); dsimp only)
          | (go_at_call 9; with_reducible refine (P2.out _ HZ.out).mono ?_; rintro e w3 ⟨rfl, h3⟩; have HZ := Lib.hid h3; have SZ := Lib.hid (And.intro (HK.out _ _ _ _ (by simp) h3).2.1 (HK.out _ _ _ _ (by simp) h3).2.2.1); dsimp only))
      all_goals
        clear p0 p1 p2
        iterate 80 (first | (with_reducible refine at_seq3 18 ?_) | (with_reducible refine at_seq2 18 ?_) | (with_reducible refine at_seq 18 ?_) | go_values | go_skip | go_guarded | go_step | go_upon | go_back | go_simp)
        have hE1 := HE.out.1
        have hE2 := HE.out.2
        refine al_18 _ A R (.slice (some ⟨b, off, none⟩) n c0) (.int .i64 (j : Int)) w _ _ bs _ x y ps' (by omega) (Lib.hid fun a' X' hf hs' => ?_) (Lib.hid HZ.out) ⟨rfl, rfl, rfl, rfl, rfl, rfl, rfl, trivial⟩
        obtain ⟨U', rfl, e0, e3, e4, e5, -⟩ := hf.openAP
        unfold FrAP
        simp only [e0, e3, e4, e5]
        clear e0 e3 e4 e5
        have HE := Lib.hid hs'
        clear hs'
        repeat (first
          | exact hgo.out ps' _ _ hE1 (by omega) ⟨rfl, rfl, rfl, rfl, rfl, rfl, trivial⟩ HE.out HLT.out
          | go_values | go_skip | go_guarded | go_step | go_upon | go_back)
    · by_cases h2 : d = 2
      · subst h2
        obtain ⟨u, v, k, ps', ok', len', hp, hr⟩ := both_rem ps HOK.out (by omega) x
        have P1 : Hid (Calls Tryd.prog 10 #[.pointer (some ⟨A, 0, none⟩), .int .i64 x] Y fun e w' => e = .returned (.tuple #[.agg #[.int .i64 u, .int .i64 v], .int .i64 k]) ∧ ApS w w' A R [(bs, stO 2 x y)] ps' ps) := HY.out.callA hp
        have P2 : Hid (∀ Z B, ApS w Z A R B ps' ps → Calls Tryd.prog 11 #[.pointer (some ⟨R, 0, none⟩), .int .i64 x] Z fun e w' => e = .returned (.tuple #[.agg #[.int .i64 u, .int .i64 v], .int .i64 k]) ∧ ApS w w' A R B ps' ps') := fun Z B h => h.callR hr
        have HE := Lib.hid (And.intro ok' len')
        clear hp hr ok' len'
        go_upto_region 14 with fail
        go_wp2_with fail
        refine P1.out.mono ?_
        rintro e w1 ⟨rfl, h1⟩
        have S1 := Lib.hid (h1.box #[.int .i64 u, .int .i64 v] 35)
        clear h1 p0 p1 p2 hbl P1 HY
        simp only []
        go_upto_region 15 with fail
        obtain ⟨bp, hbp⟩ : ∃ b, b = w1.heap.size := ⟨_, rfl⟩
        refine absW (fun Y => ApS w Y A R [(w1.heap.size, prO u v), (bs, stO 2 x y)] ps' ps) S1.out ?_
        intro Y2 hY2
        rw [← hbp] at hY2 ⊢
        obtain ⟨p0, p1, p2, hbl⟩ := HK.out Y2 _ _ _ (by simp) hY2
        have HY2 := Lib.hid hY2
        clear hY2 S1 hbp
        go_wp2_with fail
        refine (P2.out _ _ HY2.out).mono ?_
        rintro e w2 ⟨rfl, h2⟩
        have S2 := Lib.hid (h2.box #[.int .i64 u, .int .i64 v] 35)
        clear h2 p0 p1 p2 hbl P2 HY2
        simp only []
        go_upto_region 16 with fail
        obtain ⟨bq, hbq⟩ : ∃ b, b = w2.heap.size := ⟨_, rfl⟩
        refine absW (fun Y => ApS w Y A R [(w2.heap.size, prO u v), (bp, prO u v), (bs, stO 2 x y)] ps' ps') S2.out ?_
        intro Z hZ
        rw [← hbq] at hZ ⊢
        have i1 := hZ.bx (bp, prO u v) (by simp)
        have i2 := hZ.bx (bq, prO u v) (by simp)
        have q0 : Z.cell? ⟨bp, 0, none⟩ = some (.int .i64 u) := by rw [cells_of i1]; rfl
        have q1 : Z.cell? ⟨bp, 1, none⟩ = some (.int .i64 v) := by rw [cells_of i1]; rfl
        have q2 : Z.cell? ⟨bq, 0, none⟩ = some (.int .i64 u) := by rw [cells_of i2]; rfl
        have q3 : Z.cell? ⟨bq, 1, none⟩ = some (.int .i64 v) := by rw [cells_of i2]; rfl
        have hl1 := heap_lt i1
        have hl2 := heap_lt i2
        have hne : eqP (u, v) (u, v) = true := eqP_self _
        have HZ := Lib.hid hZ
        dsimp only at hl1 hl2
        clear hZ i1 i2 S2 hbq
        iterate 80 (first | (with_reducible refine at_seq3 18 ?_) | (with_reducible refine at_seq2 18 ?_) | (with_reducible refine at_seq 18 ?_) | go_values | go_skip | go_guarded | go_step | go_upon | go_back | go_simp)
        have hE1 := HE.out.1
        have hE2 := HE.out.2
        have HZ1 := HZ.out.less (B' := [(bs, stO 2 x y)]) (by simp)
        refine al_18 _ A R (.slice (some ⟨b, off, none⟩) n c0) (.int .i64 (j : Int)) w _ _ bs _ x y ps' (by omega) (Lib.hid fun a' X' hf hs' => ?_) (Lib.hid HZ1) ⟨rfl, rfl, rfl, rfl, rfl, rfl, rfl, trivial⟩
        obtain ⟨U', rfl, e0, e3, e4, e5, -⟩ := hf.openAP
        unfold FrAP
        simp only [e0, e3, e4, e5]
        clear e0 e3 e4 e5
        have HE := Lib.hid hs'
        clear hs'
        repeat (first
          | exact hgo.out ps' _ _ hE1 (by omega) ⟨rfl, rfl, rfl, rfl, rfl, rfl, trivial⟩ HE.out HLT.out
          | go_values | go_skip | go_guarded | go_step | go_upon | go_back)
      · have e1 : (d == 0) = false := by rw [beq_eq_false_iff_ne]; exact h0
        have e2 : (d == 2) = false := by rw [beq_eq_false_iff_ne]; exact h2
        have HE := Lib.hid HOK.out
        clear h0 h2
        iterate 80 (first | (with_reducible refine at_seq3 18 ?_) | (with_reducible refine at_seq2 18 ?_) | (with_reducible refine at_seq 18 ?_) | go_values | go_skip | go_guarded | go_step | go_upon | go_back | go_simp)
        have hE1 := HE.out
        refine al_18 _ A R (.slice (some ⟨b, off, none⟩) n c0) (.int .i64 (j : Int)) w _ _ bs _ x y ps (by omega) (Lib.hid fun a' X' hf hs' => ?_) (Lib.hid HY.out) ⟨rfl, rfl, rfl, rfl, rfl, rfl, rfl, trivial⟩
        obtain ⟨U', rfl, e0, e3, e4, e5, -⟩ := hf.openAP
        unfold FrAP
        simp only [e0, e3, e4, e5]
        clear e0 e3 e4 e5
        have HE := Lib.hid hs'
        clear hs'
        repeat (first
          | exact hgo.out ps _ _ hE1 (by omega) ⟨rfl, rfl, rfl, rfl, rfl, rfl, trivial⟩ HE.out HLT.out
          | go_values | go_skip | go_guarded | go_step | go_upon | go_back)
  · obtain rfl : j = n := by omega
    go_wp2_with fail
    exact hout.out _ _ ⟨rfl, rfl, rfl, rfl, rfl, trivial⟩ hs.out
end
end Go.Proofs.YtkonfogebepccaaDoor
