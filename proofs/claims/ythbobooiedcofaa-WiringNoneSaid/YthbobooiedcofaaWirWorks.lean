/-
  skeinlaw08.works.
-/
import Derived.Test.YthbobooiedcofaaWirOpen
namespace Go.Proofs.Ythbobooiedcofaa
open Go.RowKit
attribute [local go_sem] cell_set
set_option maxRecDepth 100000
set_option linter.unusedVariables false

/-- A wiring in new memory. -/
structure OW (w0 : World) (B A : Nat) (S : Wir) (W : World) : Prop where
  f : ∃ FA, WG W B A S FA ∧ ∀ b ∈ B :: FA, w0.heap.size ≤ b
  b : Below w0.heap.size w0 W
section
variable {w0 W W' : World} {B A : Nat} {S S' : Wir}
theorem OW.kept (h : OW w0 B A S W) (hb : Below W.heap.size W W') : OW w0 B A S W' := by
  obtain ⟨⟨FA, hg, hf⟩, hw⟩ := h
  exact ⟨⟨FA, hg.below hb, hf⟩, hw.trans (hb.mono hw.size)⟩
theorem OW.step {FA : List Nat} (hw : Below w0.heap.size w0 W) (hf : ∀ b ∈ B :: FA, w0.heap.size ≤ b) (h1 : ∃ FA', WG W' B A S' FA' ∧ ∀ b ∈ FA', b ∈ FA ∨ W.heap.size ≤ b) (h2 : Kp (B :: FA) W W') : OW w0 B A S' W' := by
  obtain ⟨FA', hg, hn⟩ := h1
  refine ⟨⟨FA', hg, fun b hb => ?_⟩, hw.trans (h2.below hw.size hf)⟩
  rcases List.mem_cons.1 hb with rfl | hb
  · exact hf b (by simp)
  · rcases hn b hb with hb | hb
    · exact hf b (by simp [hb])
    · exact Nat.le_trans hw.size hb
end
section
variable {w0 W : World} {B A : Nat} {S : Wir}
theorem ow_take (h : OW w0 B A S W) (ag ar : Int) : Calls Try.prog 51 #[.pointer (some ⟨A, 0, none⟩), .int .i64 ag, .int .i64 ar] W fun e w' => e = .returned (.tuple #[.int .i64 (S.A.takeC ag ar), .int .i64 (S.A.takeE ag ar)]) ∧ OW w0 B A (S.take ag ar) w' := by
  obtain ⟨⟨FA, hg, hf⟩, hw⟩ := h
  exact (ar_take A S.A FA ag ar W hg.pa).mono fun e w' ⟨he, ⟨F', h1, hn⟩, h2⟩ => ⟨he, OW.step hw hf ⟨F', hg.ofA h1 h2, hn⟩ (h2.mono fun b hb => List.mem_cons_of_mem _ hb)⟩
theorem ow_link (h : OW w0 B A S W) (c s d t : Int) : Calls Try.prog 20 #[.pointer (some ⟨B, 0, none⟩), .agg #[.int .i64 c, .int .i64 s], .agg #[.int .i64 d, .int .i64 t]] W fun e w' => e = .returned (.int .i64 (S.linkE (c, s) (d, t))) ∧ OW w0 B A (S.link (c, s) (d, t)) w' := by
  obtain ⟨⟨FA, hg, hf⟩, hw⟩ := h
  exact (wi_link B A S FA W c s d t hg).mono fun e w' ⟨he, h1, h2⟩ => ⟨he, OW.step hw hf ⟨FA, h1, fun b hb => .inl hb⟩ h2⟩
theorem ow_pass (h : OW w0 B A S W) (c s d t : Int) : Calls Try.prog 22 #[.pointer (some ⟨B, 0, none⟩), .agg #[.int .i64 c, .int .i64 s], .agg #[.int .i64 d, .int .i64 t]] W fun e w' => e = .returned (passV S (c, s) (d, t)) ∧ OW w0 B A (S.pass (c, s) (d, t)) w' := by
  obtain ⟨⟨FA, hg, hf⟩, hw⟩ := h
  exact (wi_pass B A S FA W c s d t hg).mono fun e w' ⟨he, h1, h2⟩ => ⟨he, OW.step hw hf ⟨FA, h1, fun b hb => .inl hb⟩ h2⟩
theorem ow_drop (h : OW w0 B A S W) (c : Int) : Calls Try.prog 23 #[.pointer (some ⟨B, 0, none⟩), .int .i64 c] W fun e w' => e = .returned (.int .i64 (S.dropE c)) ∧ OW w0 B A (S.drop c) w' := by
  obtain ⟨⟨FA, hg, hf⟩, hw⟩ := h
  exact (wi_drop B A S FA W c hg).mono fun e w' ⟨he, h1, h2⟩ => ⟨he, OW.step hw hf h1 h2⟩
theorem ow_open (h : OW w0 B A S W) : Calls Try.prog 26 #[.pointer (some ⟨B, 0, none⟩)] W fun e w' => e = .returned (.int .i64 (S.openN S.pts : Int)) ∧ OW w0 B A S w' := by
  obtain ⟨⟨FA, hg, hf⟩, hw⟩ := h
  exact (wi_open B A S FA W hg).mono fun e w' ⟨he, hb⟩ => ⟨he, OW.kept ⟨⟨FA, hg, hf⟩, hw⟩ hb⟩
end
def wS2 : Wir := ((Wir.new (Ars.empty 4) 2).take 0 1).take 0 1
def wS4 : Wir := (wS2.link (0, 0) (1, 0)).link (0, 1) (-1, 0)
def wS6 : Wir := (wS4.pass (0, 1) (0, 0)).drop 0
theorem wk_all : wS2.linkE (0, 0) (1, 0) = 0 ∧ (wS2.link (0, 0) (1, 0)).linkE (0, 1) (-1, 0) = 0 ∧ wS4.passE (0, 1) (0, 0) = 0 ∧ wS4.passIs (0, 1) (0, 0) = true ∧ wS4.passL (0, 1) (0, 0) = ((-1, 0), (1, 0)) ∧ (wS4.pass (0, 1) (0, 0)).dropE 0 = 0 ∧ wS6.openN wS6.pts = 2 := by decide +kernel
set_option maxHeartbeats 4000000 in
theorem works08 (w : World) : Calls Try.prog 12 #[] w fun e w' => e = .returned (.bool true) ∧ Below w.heap.size w w' := by
  obtain ⟨k1, k2, k3, k4, k5, k6, k7⟩ := wk_all
  have hpv : passV wS4 (0, 1) (0, 0) = .tuple #[.agg #[.int .i64 (-1), .int .i64 0, .int .i64 1, .int .i64 0], .bool true, .int .i64 0] := by unfold passV; rw [k3, k4, k5]
  have HK := Lib.hid (And.intro k1 (And.intro k2 (And.intro hpv (And.intro k6 k7))))
  clear k1 k2 k3 k4 k5 k6 k7 hpv
  go_enter Try.func12, Try.ntmps12
  go_wp2_with fail
  refine (ar_new_ok 4 (by decide) (by decide) _).mono ?_
  rintro e w1 ⟨rfl, hb1, hp1⟩
  have HP1 := Lib.hid (And.intro hb1 hp1)
  clear hb1 hp1
  simp only []
  go_wp2_with fail
  refine (wi_new_ok w.heap.size (Ars.empty 4) [w.heap.size] w1 2 (by decide) HP1.out.2).mono ?_
  rintro e w2 ⟨rfl, hg2, hb2⟩
  have H2 : Hid (OW w w1.heap.size w.heap.size (Wir.new (Ars.empty 4) 2) w2) := ⟨⟨[w.heap.size], hg2, fun b hb => by
    simp only [List.mem_cons, List.not_mem_nil, or_false] at hb
    rcases hb with rfl | rfl
    · exact HP1.out.1.size
    · exact Nat.le_refl _⟩, HP1.out.1.trans (hb2.mono HP1.out.1.size)⟩
  clear hg2 hb2
  simp only []
  go_wp2_with fail
  refine (ow_take H2.out 0 1).mono ?_
  rintro e w3 ⟨rfl, h3⟩
  have H3 := Lib.hid h3
  clear h3
  simp only []
  go_wp2_with fail
  refine (ow_take H3.out 0 1).mono ?_
  rintro e w4 ⟨rfl, h4⟩
  have H4 : Hid (OW w w1.heap.size w.heap.size wS2 w4) := h4
  clear h4
  simp only []
  go_wp2_with fail
  refine (ow_link H4.out 0 0 1 0).mono ?_
  rintro e w5 ⟨rfl, h5⟩
  rw [HK.out.1]
  have H5 := Lib.hid h5
  clear h5
  simp only []
  go_wp2_with fail
  refine (ow_link H5.out 0 1 (-1) 0).mono ?_
  rintro e w6 ⟨rfl, h6⟩
  rw [HK.out.2.1]
  have H6 : Hid (OW w w1.heap.size w.heap.size wS4 w6) := h6
  clear h6
  simp only []
  go_wp2_with fail
  refine (ow_pass H6.out 0 1 0 0).mono ?_
  rintro e w7 ⟨rfl, h7⟩
  rw [HK.out.2.2.1]
  have H7 := Lib.hid (h7.kept ((Below.refl _ _).alloc (Nat.le_refl _) (.cells #[.int .i64 (-1), .int .i64 0, .int .i64 1, .int .i64 0] 55)))
  clear h7
  simp only []
  go_wp2_with fail
  refine (ow_drop H7.out 0).mono ?_
  rintro e w8 ⟨rfl, h8⟩
  rw [HK.out.2.2.2.1]
  have H8 : Hid (OW w w1.heap.size w.heap.size wS6 w8) := h8
  clear h8
  simp only []
  go_wp2_with fail
  refine (ow_open H8.out).mono ?_
  rintro e w9 ⟨rfl, h9⟩
  rw [HK.out.2.2.2.2]
  have H9 := Lib.hid h9
  clear h9
  simp only []
  go_wp2_with fail
  go_ret
  exact ⟨by simp, H9.out.b⟩
end Go.Proofs.Ythbobooiedcofaa
