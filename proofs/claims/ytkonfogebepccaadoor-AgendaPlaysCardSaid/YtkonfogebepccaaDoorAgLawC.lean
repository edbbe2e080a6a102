/-
  The statement AgendaPlays: its end; the whole walk.
-/
import Derived.Test.YtkonfogebepccaaDoorAgLawB
import Derived.Test.YtkonfogebepccaaDoorAgendaLaws
import Derived.Deep.LoopGhost
namespace Go.Proofs.YtkonfogebepccaaDoor
open Go.RowKit
attribute [local go_sem] cell_set
attribute [local go_sem high] run_neq_pr
set_option maxRecDepth 100000
set_option linter.unusedVariables false

theorem AgS.later {w X Y : World} {A R : Nat} {K : List Nat} {ps qs : List (Int × Int)} {F G : List Nat} (h : AgS w X A R K ps qs F G) (hb : Below X.heap.size X Y) : AgS w Y A R K ps qs F G :=
  ⟨h.a.keep (fun b hm => hb.block b (h.a.lt b hm)), h.r.keep (fun b hm => hb.block b (h.r.lt b hm)), h.dj, h.fa, h.fr, fun b hm => ⟨Nat.lt_of_lt_of_le (h.ka b hm).1 hb.size, (h.ka b hm).2⟩, h.bel.trans (hb.mono h.bel.size)⟩
theorem AgS.kp {w X Y : World} {A R : Nat} {K L : List Nat} {ps qs : List (Int × Int)} {F G : List Nat} (h : AgS w X A R K ps qs F G) (hk : Kp L X Y) (hL : ∀ b ∈ L, b ∉ F ∧ b ∉ G ∧ w.heap.size ≤ b) : AgS w Y A R K ps qs F G :=
  ⟨h.a.kp hk (fun b hb hl => (hL b hl).1 hb), h.r.kp hk (fun b hb hl => (hL b hl).2.1 hb), h.dj, h.fa, h.fr, fun b hm => ⟨Nat.lt_of_lt_of_le (h.ka b hm).1 hk.size, (h.ka b hm).2⟩, h.bel.trans (hk.below h.bel.size fun b hb => (hL b hb).2.2)⟩
theorem row_prsA {w : World} {V : Option Addr} {n cap : Nat} {P : List Pt} (hn : n = P.length) (h : Row w 35 2 (.slice V n cap) n (pcells P)) : PtsRd w V P := fun i hi => by
  subst hn
  obtain ⟨g, cap', cur, e, _⟩ := h.some_ (by omega)
  simp only [Value.slice.injEq, true_and] at e
  obtain ⟨rfl, rfl⟩ := e
  obtain ⟨h0, h1⟩ := pvals_at P hi
  exact ⟨g, 0, rfl, h.lt g (by simp [ownB]), by rw [Nat.zero_add]; exact (h.cellAt _ (by omega)).trans h0, by rw [Nat.zero_add]; exact (h.cellAt _ (by omega)).trans h1⟩
theorem AgS.rrow {w X : World} {A R : Nat} {K : List Nat} {ps qs : List (Int × Int)} {F G : List Nat} (h : AgS w X A R K ps qs F G) : ∃ V c, X.cell? ⟨R, 0, none⟩ = some (.slice V qs.length c) ∧ PtsRd X V qs ∧ R < X.heap.size := by
  obtain ⟨sv, c0, _, hr, _, hR⟩ := h.r.head
  obtain ⟨V, c, rfl, _⟩ := hr.len
  exact ⟨V, c, c0, row_prsA rfl hr, heap_lt hR⟩
section
variable (Q : Exit → Act → World → Prop) (A R : Nat) (w : World)
set_option maxHeartbeats 4000000 in
theorem al_22 (a : Act) (X : World) (ps : List (Int × Int)) (F G : List Nat) (hl : ps.length ≤ 2000)
    (hret : Hid (∀ a' X, FrN 150 [] [(2, .bool true)] a' → Below w.heap.size w X → Q .ret a' X))
    (hs : Hid (AgS w X A R [] ps ps F G))
    (ha : FrN 150 [] [(3, .pointer (some ⟨A, 0, none⟩)), (4, .pointer (some ⟨R, 0, none⟩))] a) : (apT 22).wp Tryd.prog Q a X := by
  obtain ⟨U, rfl, e3, e4, -⟩ := ha.openAP
  unfold FrAP
  simp only [e3, e4]
  clear e3 e4 ha
  show (Code.seq _ _).wp _ _ _ _
  obtain ⟨n, hn⟩ : ∃ n, ps.length = n := ⟨_, rfl⟩
  rw [hn] at hl
  have HN := Lib.hid hn
  have CA : Hid (∀ Z, AgS w Z A R [] ps ps F G → Calls Tryd.prog 15 #[.pointer (some ⟨A, 0, none⟩)] Z fun e w' => ∃ V c, e = .returned (.slice V n c) ∧ Fresh Z w' 35 2 n (.slice V n c) (pcells ps)) := fun Z h => by
    have := ag_all A ps F Z h.a (by omega)
    rw [hn] at this; exact this
  have CE : Hid (∀ Z V1 c1 V2 c2, PtsRd Z V1 ps → PtsRd Z V2 ps → Calls Tryd.prog 16 #[.slice V1 n c1, .slice V2 n c2] Z fun e w' => e = .returned (.bool true) ∧ Below Z.heap.size Z w') := fun Z V1 c1 V2 c2 h1 h2 =>
    eq_pairs V1 V2 _ _ c1 c2 ps Z hn.symm hn.symm (by omega) (Lib.hid h1) (Lib.hid h2)
  clear hn
  have HS := hs
  clear hs
  go_wp2_with fail
  refine (CA.out _ HS.out).mono ?_
  rintro e w1 ⟨V1, c1, rfl, hf1⟩
  have HF1 := Lib.hid hf1
  have HS1 := Lib.hid (HS.out.later hf1.2.2)
  obtain ⟨V, cc, r0, hpr, hRl⟩ := HS1.out.rrow
  rw [HN.out] at r0
  have CE1 := Lib.hid (CE.out w1 V1 c1 V cc (row_prsA HN.out.symm hf1.1) hpr)
  clear hf1 hpr
  simp only []
  go_upto_region 23 with fail
  go_wp2_with fail
  refine CE1.out.mono ?_
  rintro e w2 ⟨rfl, hb2⟩
  have HS2 := Lib.hid (HS1.out.later hb2)
  have HF2 := Lib.hid (HF1.out.later hb2)
  have HZ12 : Hid (w1.heap.size ≤ w2.heap.size) := hb2.size
  clear hb2 r0 hRl CE1
  simp only []
  go_upto_region 26 with fail
  refine absW (fun Y => BagA w2 Y w2.heap.size [] [] [] []) (BagA.new w2) ?_
  intro Y0 hB0
  have HB0 := Lib.hid hB0
  clear hB0
  go_wp2_with fail
  refine (bag_pairs V1 n c1 HB0 (by simp)).mono ?_
  rintro e Y1 ⟨rfl, hB1, _⟩
  have HB1 := Lib.hid hB1
  clear hB1
  simp only []
  go_upto_region 27 with fail
  go_wp2_with fail
  refine (CA.out _ (HS2.out.later HB1.out.below)).mono ?_
  rintro e Y2 ⟨V2, c2, rfl, hf2⟩
  have HG2 := Lib.hid hf2
  have HB2 := Lib.hid (HB1.out.later hf2.2.2)
  clear hf2
  simp only []
  go_wp2_with fail
  refine (bag_pairs V2 n c2 HB2 (by simp)).mono ?_
  rintro e Y3 ⟨rfl, hB3, hq3⟩
  have HG3 : Hid (Row Y3 35 2 (.slice V2 n c2) n (pcells ps)) := HG2.out.1.keep fun b hb => by
    obtain ⟨c, h⟩ := row_block HG2.out.1 b hb
    rw [hq3 b c _ h (by decide) (by decide), h]
  have HB3 := Lib.hid hB3.drew
  have HF3 := Lib.hid (HF2.out.later hB3.below)
  have HS3 := Lib.hid (HS2.out.later hB3.below)
  have hz12 : Hid (w1.heap.size ≤ Y1.heap.size ∧ X.heap.size ≤ w1.heap.size ∧ X.heap.size ≤ w2.heap.size) := by
    have a1 := HB1.out.below.size
    have a2 := HF1.out.2.2.size
    have a3 := HF2.out.2.2.size
    have a4 := HF1.out.1.lt
    exact ⟨Nat.le_trans HZ12.out a1, a2, a3⟩
  clear hB3 hq3
  simp only []
  go_upto_region 28 with fail
  obtain ⟨V', cc', r0, hpr, hRl⟩ := HS3.out.rrow
  rw [HN.out] at r0
  have OQ : Hid (Own Y3.drew 35 2 [.slice V1 n c1, .slice V2 n c2]) :=
    Own.cons (Own.cons (Own.nil _ _ _) HG3.out.drew (by simp) (by omega) (by simp)) HF3.out.1.drew (fun u hu b hb hb' => by
      simp at hu; subst hu
      have e1 := HF1.out.1.lt b hb
      have e2 := HG2.out.2.1 b hb'
      have e3 := hz12.out.1
      omega) (by omega) (by simp)
  have hRX : R < X.heap.size := HS.out.r.lt R (by obtain ⟨sv, _, _, _, e, _⟩ := HS.out.r.head; rw [e]; simp)
  have hLX : ∀ b ∈ ownL [] ++ (ownL [] ++ (ownL [] ++ ownL [.slice V1 n c1, .slice V2 n c2])), X.heap.size ≤ b := fun b hb => by
    simp only [ownL, List.flatMap_cons, List.flatMap_nil, List.append_nil, List.nil_append, List.mem_append] at hb
    rcases hb with hb | hb
    · exact HF1.out.2.1 b hb
    · have := HG2.out.2.1 b hb
      have := hz12.out
      omega
  have AP : Hid (Calls Tryd.prog 18 #[.pointer (some ⟨w2.heap.size, 0, none⟩)] Y3.drew fun e w' => e = .returned (.bool true) ∧ AgS w w' A R [] ps ps F G ∧ PtsRd w' V' ps ∧ w'.cell? ⟨R, 0, none⟩ = some (.slice V' n cc') ∧ R < w'.heap.size) :=
    (bag_apartA HB3 (Lib.hid (Own.nil _ _ _)) (Lib.hid (Own.nil _ _ _)) (Lib.hid (Own.nil _ _ _)) OQ).mono fun e w' ⟨he, hk⟩ => by
      have hz := HS3.out.bel.size
      have hs4 := (HS3.out.later ((Below.refl _ _).drew)).kp hk (fun b hb => ⟨fun hf => by have := HS.out.a.lt b hf; have := hLX b hb; omega, fun hf => by have := HS.out.r.lt b hf; have := hLX b hb; omega, by have := hLX b hb; have := HS.out.bel.size; omega⟩)
      have e0 : w'.cell? ⟨R, 0, none⟩ = some (.slice V' n cc') := (hk.cell (p := ⟨R, 0, none⟩) hRl (fun hm => by have : X.heap.size ≤ R := hLX R hm; omega)).trans r0
      obtain ⟨V9, c9, e1, e2, e3⟩ := hs4.rrow
      rw [e0] at e1
      injection e1 with e1
      injection e1 with e11 _ e12
      subst e11
      exact ⟨he, hs4, e2, e0, e3⟩
  have SZ : Hid (Y3.drew.cell? ⟨R, 0, none⟩ = some (.slice V' n cc')) := r0
  clear hLX hRX OQ
  go_region_held3 (fun W => W.cell? ⟨R, 0, none⟩ = some (.slice V' n cc')) (exact SZ.out)
    (first
      | (go_at_call 18; (with_reducible refine AP.out.mono ?_); rintro e Y4 ⟨rfl, h4, h5, h6, h7⟩; have HS4 := Lib.hid h4; have HP4 := Lib.hid (And.intro h5 h7); have SZ := Lib.hid h6; clear h4 h5 h6 h7; dsimp only)
      | (go_at_call 15; (with_reducible refine (CA.out _ HS4.out).mono ?_); rintro e Y5 ⟨V3, c3, rfl, hf5⟩; have HP3 := Lib.hid (row_prsA HN.out.symm hf5.1); have HS5 := Lib.hid (HS4.out.later hf5.2.2); have SZ := Lib.hid ((hf5.2.2.cell (p := ⟨R, 0, none⟩) HP4.out.2).trans SZ.out); have HP5 := Lib.hid (And.intro (PtsRd.below HP4.out.1 hf5.2.2) (Nat.lt_of_lt_of_le HP4.out.2 hf5.2.2.size)); clear hf5; dsimp only)
      | (go_at_call 16; (with_reducible refine (CE.out _ V3 c3 V' cc' HP3.out HP5.out.1).mono ?_); rintro e Y6 ⟨rfl, hb6⟩; have HS6 := Lib.hid (HS5.out.later hb6); have SZ := Lib.hid ((hb6.cell (p := ⟨R, 0, none⟩) HP5.out.2).trans SZ.out); have HR6 := Lib.hid (Nat.lt_of_lt_of_le HP5.out.2 hb6.size); clear hb6; dsimp only)
      | (go_at_call 6; (with_reducible refine (works21 _).mono ?_); rintro e Y7 ⟨rfl, hb7⟩; have HS7 := Lib.hid (HS6.out.later hb7); have SZ := Lib.hid ((hb7.cell (p := ⟨R, 0, none⟩) HR6.out).trans SZ.out); clear hb7; dsimp only))
  all_goals
    repeat (first
      | exact hret.out _ _ ⟨rfl, rfl, rfl, trivial⟩ HS7.out.bel
      | go_values | go_skip | go_guarded | go_step | go_upon | go_back)
end
set_option maxHeartbeats 4000000 in
/-- THE WALK. -/
theorem agplays_walk (V0 : Option Addr) (n c0 : Nat) (L : List (Int × Int × Int)) (w : World) (hn : L.length = n) (HL : AStepsAt w V0 L) :
    Calls Tryd.prog 3 #[.slice V0 n c0] w fun e w' => e = .returned (.bool true) ∧ Below w.heap.size w w' := by
  by_cases hbig : n ≤ 1024
  · have hnb : ¬ ((1024 : Int) < (n : Int)) := by omega
    have hfin : Hid (∀ (a' : Act) (X : World), FrN 150 [] [(2, .bool true)] a' → Below w.heap.size w X → bodyPost Tryd.prog Tryd.f3 (fun e w' => e = .returned (.bool true) ∧ Below w.heap.size w w') .ret a' X) := by
      rintro a' X ⟨hsz, hdf, h4, _⟩ hb
      have g4 : a'.tmps[2]'(by rw [hsz]; omega) = .bool true := (Array.getElem?_eq_some_iff.1 h4).2
      exact bodyPost_ret (v := .bool true) (by simp only [results, Tryd.results3]; go_simp) hdf ⟨rfl, hb⟩
    go_enter Tryd.func3, Tryd.ntmps3
    go_upto_region 5 with (go_at_call 7; refine (ag_new _).mono ?_; rintro e w1 ⟨A, rfl, hA, hb1, F1, g1, hF1⟩)
    refine absW (fun Y => AgS w Y A w1.heap.size [] [] [] F1 [w1.heap.size]) ?_ ?_
    · have hbA : ∀ o : Obj, Below w1.heap.size w1 (w1.alloc o) := fun o => (Below.refl _ _).alloc (Nat.le_refl _) o
      refine ⟨g1.keep fun b hm => (hbA _).block b (g1.lt b hm), ⟨.slice none 0 0, heap_alloc_new w1 _, Row.nil _ _ _, by simp [ownB]⟩, fun b hb hm => ?_, hF1, fun b hb => ?_, by simp, hb1.trans ((hbA _).mono hb1.size)⟩
      · simp at hm; have := g1.lt b hb; omega
      · simp at hb; subst hb; exact hb1.size
    intro Y hY
    obtain ⟨R, hR⟩ : ∃ R, R = w1.heap.size := ⟨_, rfl⟩
    rw [← hR] at hY ⊢
    have HY : Hid (ApS w Y A R [] [] []) := ⟨⟨F1, [R], hY⟩, by simp⟩
    clear g1 hF1 hY hb1 hR hA
    go_upto_region 6 with fail
    rename_i K hK
    refine wp_loop_ghost (fun m a' X' => ∃ j ps, m = n - j ∧ j ≤ n ∧ ps.length ≤ j ∧ AgOk ps ∧ FrN 150 [] [(0, .slice V0 n c0), (3, .pointer (some ⟨A, 0, none⟩)), (4, .pointer (some ⟨R, 0, none⟩)), (5, .int .i64 (j : Int))] a' ∧ ApS w X' A R [] ps ps) n ⟨0, [], by omega, by omega, by simp, AgOk.nil, ⟨rfl, rfl, rfl, rfl, rfl, rfl, trivial⟩, HY.out⟩ ?_
    rintro m a2 X2 ⟨j, ps, rfl, hj, hp, hok, hf, hs⟩
    refine al_6 _ A R V0 n c0 w a2 X2 j L ps hn hj hbig hp hok (Lib.hid HL) (Lib.hid fun ps' a3 X3 hok' hp' hf' hs' hlt => ?_) (Lib.hid fun a3 X3 hf' hs' => ?_) (Lib.hid hs) hf
    · exact ⟨n - (j + 1), by omega, j + 1, ps', rfl, by omega, hp', hok', hf', hs'⟩
    · obtain ⟨hsz, hdf, s0, s3, s4, _⟩ := hf'
      obtain ⟨F, G, hst⟩ := hs'.st
      exact hK _ _ (al_22 _ A R w a3 X3 ps F G (by omega) hfin (Lib.hid hst) ⟨hsz, hdf, s3, s4, trivial⟩)
  · have hb1 : (1024 : Int) < (n : Int) := by omega
    go_enter Tryd.func3, Tryd.ntmps3
    go_wp2_with (go_at_call 6; refine (works21 _).mono ?_; rintro e w8 ⟨rfl, hb8⟩)
    go_ret
    exact ⟨rfl, by (repeat (first | exact Below.refl _ _ | (with_reducible refine Below.drew ?_) | (with_reducible refine Below.alloc ?_ (by (try simp); (try omega)) _) | (with_reducible refine Below.setCell ?_ (by (try simp); (try omega)) _) | (with_reducible refine Below.trans ?_ (Below.mono (by assumption) (by (try simp); (try omega))))))⟩
end Go.Proofs.YtkonfogebepccaaDoor
