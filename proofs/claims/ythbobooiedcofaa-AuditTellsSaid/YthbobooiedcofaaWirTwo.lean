/-
  A wiring and the document's wiring side by side, all their blocks new and apart.
-/
import Derived.Test.YthbobooiedcofaaRWirNew
import Derived.Test.YthbobooiedcofaaWirOpen
import Derived.Test.YthbobooiedcofaaRWirOpen
/-
  The document's wiring: Drop.
-/
/-
  The document's wiring: Cut.
-/
namespace Go.Proofs.Ythbobooiedcofaa
open Go.RowKit
attribute [local go_sem] cell_set
set_option maxRecDepth 100000
set_option linter.unusedVariables false

section
variable (B A : Nat) (S : Wir) (FA : List Nat) (w : World)
set_option maxHeartbeats 2000000 in
theorem rw_cut (c s : Int) (h : RG w B A S FA) :
    Calls Try.prog 53 #[.pointer (some ⟨B, 0, none⟩), .agg #[.int .i64 c, .int .i64 s]] w fun e w' => e = .returned (.tuple #[.agg #[.int .i64 (S.toP (c, s)).1, .int .i64 (S.toP (c, s)).2], .int .i64 (S.toE (c, s))]) ∧ RG w' B A (S.cut (c, s)) FA ∧ Kp (B :: FA) w w' := by
  have HG := Lib.hid h
  have hlt := h.lt
  have HF := Lib.hid h.blt
  by_cases he : S.toE (c, s) = 0
  · obtain ⟨hp, hq⟩ := wE_to he
    have HE := Lib.hid he
    have hC : S.cut (c, s) = (S.put (c, s) 4294967295).put (S.toP (c, s)) 4294967295 := Wir.cut_eq he
    rw [hC, he]
    obtain ⟨⟨q1, q2⟩, hqq⟩ : ∃ q, S.toP (c, s) = q := ⟨_, rfl⟩
    have HQQ := Lib.hid hqq
    rw [hqq] at hq ⊢
    have HP := Lib.hid hp
    have HQ := Lib.hid hq
    clear hp hq hqq hC he
    go_enter Try.func53, Try.ntmps53
    go_wp2_with fail
    refine (rw_to B A S FA _ c s (HG.out.below (by (repeat (first | exact Below.refl _ _ | (with_reducible refine Below.drew ?_) | (with_reducible refine Below.alloc ?_ (by (try simp); (try omega)) _) | (with_reducible refine Below.setCell ?_ (by (try simp); (try omega)) _) | (with_reducible refine Below.trans ?_ (Below.mono (by assumption) (by (try simp); (try omega))))))))).mono ?_
    rintro e w1 ⟨rfl, hb1⟩
    obtain ⟨hc1, hf1⟩ := bcell hb1; have hz1 := hb1.size; (try simp at hz1); have hz1a : w.heap.size < w1.heap.size := (by omega); have hz1b : w.heap.size + 1 < w1.heap.size := (by omega)
    rw [HE.out, HQQ.out]
    simp only []
    go_wp2_with fail
    refine (rw_put B A S FA _ c s 4294967295 (by decide) HP.out (HG.out.below (by (repeat (first | exact Below.refl _ _ | (with_reducible refine Below.drew ?_) | (with_reducible refine Below.alloc ?_ (by (try simp); (try omega)) _) | (with_reducible refine Below.setCell ?_ (by (try simp); (try omega)) _) | (with_reducible refine Below.trans ?_ (Below.mono (by assumption) (by (try simp); (try omega))))))))).mono ?_
    rintro e w2 ⟨⟨r2, rfl⟩, hg2, hk2⟩
    have HG2 := Lib.hid hg2
    have HK2 := Lib.hid hk2
    have n0 : w.heap.size ∉ B :: FA := fun hm => by have := HF.out _ hm; omega
    have n1 : w.heap.size + 1 ∉ B :: FA := fun hm => by have := HF.out _ hm; omega
    have n2 : w1.heap.size ∉ B :: FA := fun hm => by have := HF.out _ hm; omega
    obtain ⟨m0, f0⟩ := hk2.box (b := w.heap.size) (by simp; omega) n0
    obtain ⟨m1, f1⟩ := hk2.box (b := w.heap.size + 1) (by simp; omega) n1
    obtain ⟨m2, f2⟩ := hk2.box (b := w1.heap.size) (by simp) n2
    have hz2 := hk2.size
    simp at hz2
    have hX : Below w.heap.size w (w1.alloc (.cells #[.int .i64 q1, .int .i64 q2] 39)) := by (repeat (first | exact Below.refl _ _ | (with_reducible refine Below.drew ?_) | (with_reducible refine Below.alloc ?_ (by (try simp); (try omega)) _) | (with_reducible refine Below.setCell ?_ (by (try simp); (try omega)) _) | (with_reducible refine Below.trans ?_ (Below.mono (by assumption) (by (try simp); (try omega))))))
    have HX := Lib.hid hX
    clear hg2 hk2 hX
    simp only []
    go_wp2_with fail
    refine (rw_put B A (S.put (c, s) 4294967295) FA _ q1 q2 4294967295 (by decide) (by rw [Wir.put_wE]; exact HQ.out) HG2.out).mono ?_
    rintro e w3 ⟨⟨r3, rfl⟩, hg3, hk3⟩
    have HG3 := Lib.hid hg3
    have HK3 := Lib.hid hk3
    obtain ⟨l0, g0⟩ := hk3.box (b := w.heap.size) (by omega) n0
    obtain ⟨l1, g1⟩ := hk3.box (b := w.heap.size + 1) (by omega) n1
    obtain ⟨l2, g2⟩ := hk3.box (b := w1.heap.size) (by omega) n2
    have hz3 := hk3.size
    have t0 : w.heap.size < w3.heap.size := by omega
    have t1 : w.heap.size + 1 < w3.heap.size := by omega
    have t2 : w1.heap.size < w3.heap.size := by omega
    clear hg3 hk3
    simp only []
    go_wp2_with fail
    have hkk : Kp (B :: FA) w w3 := (Kp.of_below HX.out).tr (HK2.out.tr HK3.out)
    refine bodyPost_ret (v := .tuple #[.agg #[.int .i64 q1, .int .i64 q2], .int .i64 0]) (by simp only [results, Try.results53]; go_simp) rfl ⟨rfl, ?_, ?_⟩
    · refine HG3.out.keep fun b hb => ?_
      have hbl := HF.out b hb
      exact (Below.heap_setCell _ _ _ b (by show b ≠ w.heap.size + 1; omega)).trans (Below.heap_setCell _ _ _ b (by show b ≠ w.heap.size + 1; omega))
    · exact (hkk.setCell (p := ⟨w.heap.size + 1, 0, none⟩) (.inr (by show w.heap.size ≤ w.heap.size + 1; omega)) _).setCell (p := ⟨w.heap.size + 1, 1, none⟩) (.inr (by show w.heap.size ≤ w.heap.size + 1; omega)) _
  · have hC : S.cut (c, s) = S := by unfold Wir.cut; rw [if_neg he]
    have hP : S.toP (c, s) = (0, 0) := by unfold Wir.toP; rw [if_neg he]
    rw [hC, hP]
    obtain ⟨k, hk⟩ : ∃ k, S.toE (c, s) = k := ⟨_, rfl⟩
    rw [hk] at he ⊢
    have HKE := Lib.hid hk
    have HPE := Lib.hid hP
    have k1 : (k != 0) = true := bne_iff_ne.2 he
    clear hk hC hP he
    go_enter Try.func53, Try.ntmps53
    go_wp2_with fail
    refine (rw_to B A S FA _ c s (HG.out.below (by (repeat (first | exact Below.refl _ _ | (with_reducible refine Below.drew ?_) | (with_reducible refine Below.alloc ?_ (by (try simp); (try omega)) _) | (with_reducible refine Below.setCell ?_ (by (try simp); (try omega)) _) | (with_reducible refine Below.trans ?_ (Below.mono (by assumption) (by (try simp); (try omega))))))))).mono ?_
    rintro e w1 ⟨rfl, hb1⟩
    obtain ⟨hc1, hf1⟩ := bcell hb1; have hz1 := hb1.size; (try simp at hz1); have hz1a : w.heap.size < w1.heap.size := (by omega); have hz1b : w.heap.size + 1 < w1.heap.size := (by omega)
    rw [HKE.out, HPE.out]
    simp only []
    go_wp2_with fail
    exact bodyPost_ret (v := .tuple #[.agg #[.int .i64 0, .int .i64 0], .int .i64 k]) (by simp only [results, Try.results53]; go_simp) rfl ⟨rfl, HG.out.below (by (repeat (first | exact Below.refl _ _ | (with_reducible refine Below.drew ?_) | (with_reducible refine Below.alloc ?_ (by (try simp); (try omega)) _) | (with_reducible refine Below.setCell ?_ (by (try simp); (try omega)) _) | (with_reducible refine Below.trans ?_ (Below.mono (by assumption) (by (try simp); (try omega))))))), Kp.of_below (by (repeat (first | exact Below.refl _ _ | (with_reducible refine Below.drew ?_) | (with_reducible refine Below.alloc ?_ (by (try simp); (try omega)) _) | (with_reducible refine Below.setCell ?_ (by (try simp); (try omega)) _) | (with_reducible refine Below.trans ?_ (Below.mono (by assumption) (by (try simp); (try omega)))))))⟩
end
end Go.Proofs.Ythbobooiedcofaa
/-
  The document's wiring: Pass, where both ports are linked.
-/
/-
  The document's wiring: Pass.
-/
namespace Go.Proofs.Ythbobooiedcofaa
open Go.RowKit
attribute [local go_sem] cell_set
set_option maxRecDepth 100000
set_option linter.unusedVariables false

section
variable (B A : Nat) (S : Wir) (FA : List Nat) (w : World)
end
end Go.Proofs.Ythbobooiedcofaa
namespace Go.Proofs.Ythbobooiedcofaa
open Go.RowKit
attribute [local go_sem] cell_set
set_option maxRecDepth 100000
set_option linter.unusedVariables false

section
variable (B A : Nat) (S : Wir) (FA : List Nat) (w : World)
end
end Go.Proofs.Ythbobooiedcofaa
namespace Go.Proofs.Ythbobooiedcofaa
open Go.RowKit
attribute [local go_sem] cell_set
set_option maxRecDepth 100000
set_option linter.unusedVariables false

section
variable (B A : Nat) (S : Wir) (FA : List Nat) (w : World)
end
end Go.Proofs.Ythbobooiedcofaa
namespace Go.Proofs.Ythbobooiedcofaa
open Go.RowKit
set_option linter.unusedVariables false

def WX (w : World) (B A : Nat) (S : Wir) (F : List Nat) : Prop := ∃ FA, F = B :: FA ∧ WG w B A S FA
def RX (w : World) (R Q : Nat) (S : Wir) (F : List Nat) : Prop := ∃ FA, F = R :: FA ∧ RG w R Q S FA
section
variable {w w' : World} {B A : Nat} {S : Wir} {F : List Nat}
theorem WX.lt (h : WX w B A S F) : ∀ b ∈ F, b < w.heap.size := by obtain ⟨FA, rfl, h⟩ := h; exact h.blt
theorem RX.lt (h : RX w B A S F) : ∀ b ∈ F, b < w.heap.size := by obtain ⟨FA, rfl, h⟩ := h; exact h.blt
theorem WX.kp {G : List Nat} (h : WX w B A S F) (hk : Kp G w w') (hG : ∀ b ∈ F, b ∉ G) : WX w' B A S F := by obtain ⟨FA, rfl, h⟩ := h; exact ⟨FA, rfl, h.kp hk hG⟩
theorem RX.kp {G : List Nat} (h : RX w B A S F) (hk : Kp G w w') (hG : ∀ b ∈ F, b ∉ G) : RX w' B A S F := by obtain ⟨FA, rfl, h⟩ := h; exact ⟨FA, rfl, h.kp hk hG⟩
theorem WX.below (h : WX w B A S F) (hb : Below w.heap.size w w') : WX w' B A S F := by obtain ⟨FA, rfl, h⟩ := h; exact ⟨FA, rfl, h.below hb⟩
theorem RX.below (h : RX w B A S F) (hb : Below w.heap.size w w') : RX w' B A S F := by obtain ⟨FA, rfl, h⟩ := h; exact ⟨FA, rfl, h.below hb⟩
end
structure TWF (w0 : World) (X : List Nat) (B A R Q : Nat) (S T : Wir) (F G : List Nat) (W : World) : Prop where
  l : WX W B A S F
  r : RX W R Q T G
  lo : ∀ b ∈ F, w0.heap.size ≤ b ∧ b ∉ X ∧ b ∉ G
  ro : ∀ b ∈ G, w0.heap.size ≤ b ∧ b ∉ X
  x : ∀ b ∈ X, b < W.heap.size
  b : Below w0.heap.size w0 W
def TW (w0 : World) (X : List Nat) (B A R Q : Nat) (S T : Wir) (W : World) : Prop := ∃ F G, TWF w0 X B A R Q S T F G W
section
variable {w0 W W' : World} {X : List Nat} {B A R Q : Nat} {S T S' T' : Wir}
theorem TW.bel (h : TW w0 X B A R Q S T W) : Below w0.heap.size w0 W := by obtain ⟨_, _, h⟩ := h; exact h.b
theorem TW.kept (h : TW w0 X B A R Q S T W) (hb : Below W.heap.size W W') : TW w0 X B A R Q S T W' := by
  obtain ⟨F, G, h1, h2, h3, h4, h5, h6⟩ := h
  exact ⟨F, G, h1.below hb, h2.below hb, h3, h4, fun b hx => Nat.lt_of_lt_of_le (h5 b hx) hb.size, h6.trans (hb.mono h6.size)⟩
theorem TW.alloc (h : TW w0 X B A R Q S T W) (o : Obj) : TW w0 (W.heap.size :: X) B A R Q S T (W.alloc o) := by
  obtain ⟨F, G, h1, h2, h3, h4, h5, h6⟩ := h
  have hb := (Below.refl W.heap.size W).alloc (Nat.le_refl _) o
  refine ⟨F, G, h1.below hb, h2.below hb, fun b hm => ⟨(h3 b hm).1, ?_, (h3 b hm).2.2⟩, fun b hm => ⟨(h4 b hm).1, ?_⟩, fun b hx => ?_, h6.trans (hb.mono h6.size)⟩
  · simp only [List.mem_cons, not_or]
    have := h1.lt b hm
    exact ⟨by omega, (h3 b hm).2.1⟩
  · simp only [List.mem_cons, not_or]
    have := h2.lt b hm
    exact ⟨by omega, (h4 b hm).2⟩
  · simp only [List.mem_cons] at hx
    rcases hx with rfl | hx
    · simp
    · have := h5 b hx; simp; omega
theorem TW.sub (h : TW w0 X B A R Q S T W) {Y : List Nat} (hY : ∀ b ∈ Y, b ∈ X) : TW w0 Y B A R Q S T W := by
  obtain ⟨F, G, h1, h2, h3, h4, h5, h6⟩ := h
  exact ⟨F, G, h1, h2, fun b hm => ⟨(h3 b hm).1, fun hx => (h3 b hm).2.1 (hY b hx), (h3 b hm).2.2⟩, fun b hm => ⟨(h4 b hm).1, fun hx => (h4 b hm).2 (hY b hx)⟩, fun b hx => h5 b (hY b hx), h6⟩
theorem TW.kq (h : TW w0 X B A R Q S T W) (hb : Below W.heap.size W W') : KQ X W W' := by
  obtain ⟨F, G, h⟩ := h
  exact ⟨hb.size, fun b hx => hb.block b (h.x b hx)⟩
theorem KQ.box {X : List Nat} {w w' : World} (h : KQ X w w') {b : Nat} (hb : b ∈ X) : (∀ j, w'.cell? ⟨b, j, none⟩ = w.cell? ⟨b, j, none⟩) ∧ ∀ j, w'.frozen? ⟨b, j, none⟩ = w.frozen? ⟨b, j, none⟩ :=
  ⟨fun j => World.cell?_of_block (h.same b hb), fun j => World.frozen?_of_block (h.same b hb)⟩
/-- A step of the wiring. -/
theorem TWF.stepL {F G : List Nat} (h : TWF w0 X B A R Q S T F G W) (k1 : ∃ F', WX W' B A S' F' ∧ ∀ b ∈ F', b ∈ F ∨ W.heap.size ≤ b) (kp : Kp F W W') : TW w0 X B A R Q S' T W' ∧ KQ X W W' := by
  obtain ⟨h1, h2, h3, h4, h5, h6⟩ := h
  obtain ⟨F', p, hF⟩ := k1
  refine ⟨⟨F', G, p, h2.kp kp (fun b hb hm => (h3 b hm).2.2 hb), fun b hb => ?_, h4, fun b hx => Nat.lt_of_lt_of_le (h5 b hx) kp.size, h6.trans (kp.below h6.size (fun b hb => (h3 b hb).1))⟩, kp.size, fun b hx => kp.block b (h5 b hx) (fun hm => (h3 b hm).2.1 hx)⟩
  rcases hF b hb with hb | hb
  · exact h3 b hb
  · exact ⟨Nat.le_trans h6.size hb, fun hx => by have := h5 b hx; omega, fun hg => by have := h2.lt b hg; omega⟩
/-- A step of the document's. -/
theorem TWF.stepR {F G : List Nat} (h : TWF w0 X B A R Q S T F G W) (k1 : ∃ G', RX W' R Q T' G' ∧ ∀ b ∈ G', b ∈ G ∨ W.heap.size ≤ b) (kp : Kp G W W') : TW w0 X B A R Q S T' W' ∧ KQ X W W' := by
  obtain ⟨h1, h2, h3, h4, h5, h6⟩ := h
  obtain ⟨G', p, hG⟩ := k1
  refine ⟨⟨F, G', h1.kp kp (fun b hb => (h3 b hb).2.2), p, fun b hb => ⟨(h3 b hb).1, (h3 b hb).2.1, fun hg => ?_⟩, fun b hb => ?_, fun b hx => Nat.lt_of_lt_of_le (h5 b hx) kp.size, h6.trans (kp.below h6.size (fun b hb => (h4 b hb).1))⟩, kp.size, fun b hx => kp.block b (h5 b hx) (fun hm => (h4 b hm).2 hx)⟩
  · rcases hG b hg with hg | hg
    · exact (h3 b hb).2.2 hg
    · have := h1.lt b hb; omega
  · rcases hG b hb with hb | hb
    · exact h4 b hb
    · exact ⟨Nat.le_trans h6.size hb, fun hx => by have := h5 b hx; omega⟩
end
section
variable {w0 W : World} {X : List Nat} {B A R Q : Nat} {S T : Wir}
theorem newBlocks {B : Nat} {F F' : List Nat} {n : Nat} (h : ∀ b ∈ F', b ∈ F ∨ n ≤ b) : ∀ b ∈ B :: F', b ∈ B :: F ∨ n ≤ b := fun b hb => by
  rcases List.mem_cons.1 hb with rfl | hb
  · exact .inl (by simp)
  · rcases h b hb with hb | hb
    · exact .inl (List.mem_cons_of_mem _ hb)
    · exact .inr hb
theorem tw_arena (h : TW w0 X B A R Q S T W) : Calls Try.prog 15 #[.pointer (some ⟨B, 0, none⟩)] W fun e w' => e = .returned (.pointer (some ⟨A, 0, none⟩)) ∧ W = w' := by
  obtain ⟨F, G, h⟩ := h
  obtain ⟨FA, _, hg⟩ := h.l
  exact wi_arena B A S FA W hg
theorem tw_cut_l (h : TW w0 X B A R Q S T W) (c s : Int) : Calls Try.prog 21 #[.pointer (some ⟨B, 0, none⟩), .agg #[.int .i64 c, .int .i64 s]] W fun e w' => e = .returned (.tuple #[.agg #[.int .i64 (S.toP (c, s)).1, .int .i64 (S.toP (c, s)).2], .int .i64 (S.toE (c, s))]) ∧ TW w0 X B A R Q (S.cut (c, s)) T w' ∧ KQ X W w' := by
  obtain ⟨F, G, h⟩ := h
  obtain ⟨FA, rfl, hg⟩ := h.l
  exact (wi_cut B A S FA W c s hg).mono fun e w' ⟨he, h1, h2⟩ => ⟨he, h.stepL ⟨_, ⟨FA, rfl, h1⟩, fun b hb => .inl hb⟩ h2⟩
theorem tw_cut_r (h : TW w0 X B A R Q S T W) (c s : Int) : Calls Try.prog 53 #[.pointer (some ⟨R, 0, none⟩), .agg #[.int .i64 c, .int .i64 s]] W fun e w' => e = .returned (.tuple #[.agg #[.int .i64 (T.toP (c, s)).1, .int .i64 (T.toP (c, s)).2], .int .i64 (T.toE (c, s))]) ∧ TW w0 X B A R Q S (T.cut (c, s)) w' ∧ KQ X W w' := by
  obtain ⟨F, G, h⟩ := h
  obtain ⟨FA, rfl, hg⟩ := h.r
  exact (rw_cut R Q T FA W c s hg).mono fun e w' ⟨he, h1, h2⟩ => ⟨he, h.stepR ⟨_, ⟨FA, rfl, h1⟩, fun b hb => .inl hb⟩ h2⟩
theorem tw_take_l (h : TW w0 X B A R Q S T W) (ag ar : Int) : Calls Try.prog 51 #[.pointer (some ⟨A, 0, none⟩), .int .i64 ag, .int .i64 ar] W fun e w' => e = .returned (.tuple #[.int .i64 (S.A.takeC ag ar), .int .i64 (S.A.takeE ag ar)]) ∧ TW w0 X B A R Q (S.take ag ar) T w' ∧ KQ X W w' := by
  obtain ⟨F, G, h⟩ := h
  obtain ⟨FA, rfl, hg⟩ := h.l
  exact (ar_take A S.A FA ag ar W hg.pa).mono fun e w' ⟨he, ⟨F', h1, hn⟩, h2⟩ => ⟨he, h.stepL ⟨_, ⟨F', rfl, hg.ofA h1 h2⟩, newBlocks hn⟩ (h2.mono fun b hb => List.mem_cons_of_mem _ hb)⟩
theorem tw_take_r (h : TW w0 X B A R Q S T W) (ag ar : Int) : Calls Try.prog 52 #[.pointer (some ⟨Q, 0, none⟩), .int .i64 ag, .int .i64 ar] W fun e w' => e = .returned (.tuple #[.int .i64 (T.A.takeC ag ar), .int .i64 (T.A.takeE ag ar)]) ∧ TW w0 X B A R Q S (T.take ag ar) w' ∧ KQ X W w' := by
  obtain ⟨F, G, h⟩ := h
  obtain ⟨FA, rfl, hg⟩ := h.r
  obtain ⟨P, FR, rfl, hra, hput⟩ := hg.split
  refine (rr_take Q T.A FR ag ar W hra).mono fun e w' ⟨he, ⟨F', h1, hn⟩, h2⟩ => ⟨he, h.stepR ⟨_, ⟨P ++ F', rfl, hput _ _ _ h1 h2 hn⟩, newBlocks fun b hb => ?_⟩ (h2.mono fun b hb => List.mem_cons_of_mem _ (List.mem_append_right _ hb))⟩
  rcases List.mem_append.1 hb with hb | hb
  · exact .inl (List.mem_append_left _ hb)
  · rcases hn b hb with hb | hb
    · exact .inl (List.mem_append_right _ hb)
    · exact .inr hb
/-- The cells that a walk reads. -/
theorem TW.rcell (h : TW w0 X B A R Q S T W) : W.cell? ⟨R, 0, none⟩ = some (.pointer (some ⟨Q, 0, none⟩)) ∧ (∃ V c, W.cell? ⟨R, 1, none⟩ = some (.slice V T.P.length c)) ∧ R < W.heap.size := by
  obtain ⟨F, G, h⟩ := h
  obtain ⟨FA, _, hg⟩ := h.r
  exact ⟨hg.cells.1, hg.cells.2, hg.lt⟩
end
end Go.Proofs.Ythbobooiedcofaa
