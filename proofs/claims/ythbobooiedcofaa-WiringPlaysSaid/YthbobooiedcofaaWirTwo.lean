/-
  A wiring and the document's wiring side by side, all their blocks new and apart.
-/
import Derived.Test.YthbobooiedcofaaRWirOpen
namespace Go.Proofs.Ythbobooiedcofaa
open Go.RowKit
set_option linter.unusedVariables false

def WX (w : World) (B A : Nat) (S : Wir) (F : List Nat) : Prop := ∃ FA, F = B :: FA ∧ WG w B A S FA
def RX (w : World) (R Q : Nat) (S : Wir) (F : List Nat) : Prop := ∃ FA, F = R :: FA ∧ RG w R Q S FA
section
variable {w w' : World} {B A : Nat} {S : Wir} {F : List Nat}
theorem WX.lt (h : WX w B A S F) : ∀ b ∈ F, b < w.heap.size := by obtain ⟨FA, rfl, h⟩ := h; exact h.blt
theorem RX.lt (h : RX w B A S F) : ∀ b ∈ F, b < w.heap.size := by obtain ⟨FA, rfl, h⟩ := h; exact h.blt
theorem WX.kp {G : List Nat} (h : WX w B A S F) (hk : Kp G w w') (hG : ∀ b ∈ F, b ∉ G) : WX w' B A S F := by obtain ⟨FA, rfl, h⟩ := h; exact ⟨FA, rfl, h.kp hk hG⟩
theorem RX.kp {G : List Nat} (h : RX w B A S F) (hk : Kp G w w') (hG : ∀ b ∈ F, b ∉ G) : RX w' B A S F := by obtain ⟨FA, rfl, h⟩ := h; exact ⟨FA, rfl, h.kp hk hG⟩
theorem WX.below (h : WX w B A S F) (hb : Below w.heap.size w w') : WX w' B A S F := by obtain ⟨FA, rfl, h⟩ := h; exact ⟨FA, rfl, h.below hb⟩
theorem RX.below (h : RX w B A S F) (hb : Below w.heap.size w w') : RX w' B A S F := by obtain ⟨FA, rfl, h⟩ := h; exact ⟨FA, rfl, h.below hb⟩
end
structure TWF (w0 : World) (X : List Nat) (B A R Q : Nat) (S T : Wir) (F G : List Nat) (W : World) : Prop where
  l : WX W B A S F
  r : RX W R Q T G
  lo : ∀ b ∈ F, w0.heap.size ≤ b ∧ b ∉ X ∧ b ∉ G
  ro : ∀ b ∈ G, w0.heap.size ≤ b ∧ b ∉ X
  x : ∀ b ∈ X, b < W.heap.size
  b : Below w0.heap.size w0 W
def TW (w0 : World) (X : List Nat) (B A R Q : Nat) (S T : Wir) (W : World) : Prop := ∃ F G, TWF w0 X B A R Q S T F G W
section
variable {w0 W W' : World} {X : List Nat} {B A R Q : Nat} {S T S' T' : Wir}
theorem TW.bel (h : TW w0 X B A R Q S T W) : Below w0.heap.size w0 W := by obtain ⟨_, _, h⟩ := h; exact h.b
theorem TW.okl (h : TW w0 X B A R Q S T W) : S.Ok := by obtain ⟨_, _, h⟩ := h; obtain ⟨_, _, h⟩ := h.l; exact h.ok
theorem TW.kept (h : TW w0 X B A R Q S T W) (hb : Below W.heap.size W W') : TW w0 X B A R Q S T W' := by
  obtain ⟨F, G, h1, h2, h3, h4, h5, h6⟩ := h
  exact ⟨F, G, h1.below hb, h2.below hb, h3, h4, fun b hx => Nat.lt_of_lt_of_le (h5 b hx) hb.size, h6.trans (hb.mono h6.size)⟩
theorem TW.alloc (h : TW w0 X B A R Q S T W) (o : Obj) : TW w0 (W.heap.size :: X) B A R Q S T (W.alloc o) := by
  obtain ⟨F, G, h1, h2, h3, h4, h5, h6⟩ := h
  have hb := (Below.refl W.heap.size W).alloc (Nat.le_refl _) o
  refine ⟨F, G, h1.below hb, h2.below hb, fun b hm => ⟨(h3 b hm).1, ?_, (h3 b hm).2.2⟩, fun b hm => ⟨(h4 b hm).1, ?_⟩, fun b hx => ?_, h6.trans (hb.mono h6.size)⟩
  · simp only [List.mem_cons, not_or]
    have := h1.lt b hm
    exact ⟨by omega, (h3 b hm).2.1⟩
  · simp only [List.mem_cons, not_or]
    have := h2.lt b hm
    exact ⟨by omega, (h4 b hm).2⟩
  · simp only [List.mem_cons] at hx
    rcases hx with rfl | hx
    · simp
    · have := h5 b hx; simp; omega
theorem TW.sub (h : TW w0 X B A R Q S T W) {Y : List Nat} (hY : ∀ b ∈ Y, b ∈ X) : TW w0 Y B A R Q S T W := by
  obtain ⟨F, G, h1, h2, h3, h4, h5, h6⟩ := h
  exact ⟨F, G, h1, h2, fun b hm => ⟨(h3 b hm).1, fun hx => (h3 b hm).2.1 (hY b hx), (h3 b hm).2.2⟩, fun b hm => ⟨(h4 b hm).1, fun hx => (h4 b hm).2 (hY b hx)⟩, fun b hx => h5 b (hY b hx), h6⟩
theorem TW.kq (h : TW w0 X B A R Q S T W) (hb : Below W.heap.size W W') : KQ X W W' := by
  obtain ⟨F, G, h⟩ := h
  exact ⟨hb.size, fun b hx => hb.block b (h.x b hx)⟩
theorem KQ.box {X : List Nat} {w w' : World} (h : KQ X w w') {b : Nat} (hb : b ∈ X) : (∀ j, w'.cell? ⟨b, j, none⟩ = w.cell? ⟨b, j, none⟩) ∧ ∀ j, w'.frozen? ⟨b, j, none⟩ = w.frozen? ⟨b, j, none⟩ :=
  ⟨fun j => World.cell?_of_block (h.same b hb), fun j => World.frozen?_of_block (h.same b hb)⟩
/-- A step of the wiring. -/
theorem TWF.stepL {F G : List Nat} (h : TWF w0 X B A R Q S T F G W) (k1 : ∃ F', WX W' B A S' F' ∧ ∀ b ∈ F', b ∈ F ∨ W.heap.size ≤ b) (kp : Kp F W W') : TW w0 X B A R Q S' T W' ∧ KQ X W W' := by
  obtain ⟨h1, h2, h3, h4, h5, h6⟩ := h
  obtain ⟨F', p, hF⟩ := k1
  refine ⟨⟨F', G, p, h2.kp kp (fun b hb hm => (h3 b hm).2.2 hb), fun b hb => ?_, h4, fun b hx => Nat.lt_of_lt_of_le (h5 b hx) kp.size, h6.trans (kp.below h6.size (fun b hb => (h3 b hb).1))⟩, kp.size, fun b hx => kp.block b (h5 b hx) (fun hm => (h3 b hm).2.1 hx)⟩
  rcases hF b hb with hb | hb
  · exact h3 b hb
  · exact ⟨Nat.le_trans h6.size hb, fun hx => by have := h5 b hx; omega, fun hg => by have := h2.lt b hg; omega⟩
/-- A step of the document's. -/
theorem TWF.stepR {F G : List Nat} (h : TWF w0 X B A R Q S T F G W) (k1 : ∃ G', RX W' R Q T' G' ∧ ∀ b ∈ G', b ∈ G ∨ W.heap.size ≤ b) (kp : Kp G W W') : TW w0 X B A R Q S T' W' ∧ KQ X W W' := by
  obtain ⟨h1, h2, h3, h4, h5, h6⟩ := h
  obtain ⟨G', p, hG⟩ := k1
  refine ⟨⟨F, G', h1.kp kp (fun b hb => (h3 b hb).2.2), p, fun b hb => ⟨(h3 b hb).1, (h3 b hb).2.1, fun hg => ?_⟩, fun b hb => ?_, fun b hx => Nat.lt_of_lt_of_le (h5 b hx) kp.size, h6.trans (kp.below h6.size (fun b hb => (h4 b hb).1))⟩, kp.size, fun b hx => kp.block b (h5 b hx) (fun hm => (h4 b hm).2 hx)⟩
  · rcases hG b hg with hg | hg
    · exact (h3 b hb).2.2 hg
    · have := h1.lt b hb; omega
  · rcases hG b hb with hb | hb
    · exact h4 b hb
    · exact ⟨Nat.le_trans h6.size hb, fun hx => by have := h5 b hx; omega⟩
end
section
variable {w0 W : World} {X : List Nat} {B A R Q : Nat} {S T : Wir}
theorem newBlocks {B : Nat} {F F' : List Nat} {n : Nat} (h : ∀ b ∈ F', b ∈ F ∨ n ≤ b) : ∀ b ∈ B :: F', b ∈ B :: F ∨ n ≤ b := fun b hb => by
  rcases List.mem_cons.1 hb with rfl | hb
  · exact .inl (by simp)
  · rcases h b hb with hb | hb
    · exact .inl (List.mem_cons_of_mem _ hb)
    · exact .inr hb
theorem tw_arena (h : TW w0 X B A R Q S T W) : Calls Try.prog 15 #[.pointer (some ⟨B, 0, none⟩)] W fun e w' => e = .returned (.pointer (some ⟨A, 0, none⟩)) ∧ W = w' := by
  obtain ⟨F, G, h⟩ := h
  obtain ⟨FA, _, hg⟩ := h.l
  exact wi_arena B A S FA W hg
theorem tw_free (h : TW w0 X B A R Q S T W) : Calls Try.prog 25 #[.pointer (some ⟨B, 0, none⟩)] W fun e w' => e = .returned (.int .i64 (S.P.length : Int)) ∧ W = w' := by
  obtain ⟨F, G, h⟩ := h
  obtain ⟨FA, _, hg⟩ := h.l
  exact wi_free B A S FA W hg
theorem tw_to_l (h : TW w0 X B A R Q S T W) (c s : Int) : Calls Try.prog 17 #[.pointer (some ⟨B, 0, none⟩), .agg #[.int .i64 c, .int .i64 s]] W fun e w' => e = .returned (.tuple #[.agg #[.int .i64 (S.toP (c, s)).1, .int .i64 (S.toP (c, s)).2], .int .i64 (S.toE (c, s))]) ∧ TW w0 X B A R Q S T w' ∧ Below W.heap.size W w' := by
  obtain ⟨F, G, h⟩ := h
  obtain ⟨FA, _, hg⟩ := h.l
  exact (wi_to B A S FA W c s hg).mono fun e w' ⟨he, hb⟩ => ⟨he, TW.kept ⟨F, G, h⟩ hb, hb⟩
theorem tw_to_r (h : TW w0 X B A R Q S T W) (c s : Int) : Calls Try.prog 18 #[.pointer (some ⟨R, 0, none⟩), .agg #[.int .i64 c, .int .i64 s]] W fun e w' => e = .returned (.tuple #[.agg #[.int .i64 (T.toP (c, s)).1, .int .i64 (T.toP (c, s)).2], .int .i64 (T.toE (c, s))]) ∧ TW w0 X B A R Q S T w' ∧ Below W.heap.size W w' := by
  obtain ⟨F, G, h⟩ := h
  obtain ⟨FA, _, hg⟩ := h.r
  exact (rw_to R Q T FA W c s hg).mono fun e w' ⟨he, hb⟩ => ⟨he, TW.kept ⟨F, G, h⟩ hb, hb⟩
theorem tw_word_l (h : TW w0 X B A R Q S T W) (c s : Int) : Calls Try.prog 24 #[.pointer (some ⟨B, 0, none⟩), .agg #[.int .i64 c, .int .i64 s]] W fun e w' => e = .returned (.tuple #[.int .u32 (S.wV (c, s)), .int .i64 (S.wE (c, s))]) ∧ TW w0 X B A R Q S T w' ∧ Below W.heap.size W w' := by
  obtain ⟨F, G, h⟩ := h
  obtain ⟨FA, _, hg⟩ := h.l
  exact (wi_word B A S FA W c s hg).mono fun e w' ⟨he, hb⟩ => ⟨he, TW.kept ⟨F, G, h⟩ hb, hb⟩
theorem tw_word_r (h : TW w0 X B A R Q S T W) (c s : Int) : Calls Try.prog 67 #[.pointer (some ⟨R, 0, none⟩), .agg #[.int .i64 c, .int .i64 s]] W fun e w' => e = .returned (.tuple #[.int .u32 (T.wV (c, s)), .int .i64 (T.wE (c, s))]) ∧ TW w0 X B A R Q S T w' ∧ Below W.heap.size W w' := by
  obtain ⟨F, G, h⟩ := h
  obtain ⟨FA, _, hg⟩ := h.r
  exact (rw_word R Q T FA W c s hg).mono fun e w' ⟨he, hb⟩ => ⟨he, TW.kept ⟨F, G, h⟩ hb, hb⟩
theorem tw_open_l (h : TW w0 X B A R Q S T W) : Calls Try.prog 26 #[.pointer (some ⟨B, 0, none⟩)] W fun e w' => e = .returned (.int .i64 (S.openN S.pts : Int)) ∧ TW w0 X B A R Q S T w' ∧ Below W.heap.size W w' := by
  obtain ⟨F, G, h⟩ := h
  obtain ⟨FA, _, hg⟩ := h.l
  exact (wi_open B A S FA W hg).mono fun e w' ⟨he, hb⟩ => ⟨he, TW.kept ⟨F, G, h⟩ hb, hb⟩
theorem tw_open_r (h : TW w0 X B A R Q S T W) : Calls Try.prog 69 #[.pointer (some ⟨R, 0, none⟩)] W fun e w' => e = .returned (.int .i64 (T.openN T.pts : Int)) ∧ TW w0 X B A R Q S T w' ∧ Below W.heap.size W w' := by
  obtain ⟨F, G, h⟩ := h
  obtain ⟨FA, _, hg⟩ := h.r
  exact (rw_open R Q T FA W hg).mono fun e w' ⟨he, hb⟩ => ⟨he, TW.kept ⟨F, G, h⟩ hb, hb⟩
theorem tw_link_l (h : TW w0 X B A R Q S T W) (c s d t : Int) : Calls Try.prog 20 #[.pointer (some ⟨B, 0, none⟩), .agg #[.int .i64 c, .int .i64 s], .agg #[.int .i64 d, .int .i64 t]] W fun e w' => e = .returned (.int .i64 (S.linkE (c, s) (d, t))) ∧ TW w0 X B A R Q (S.link (c, s) (d, t)) T w' ∧ KQ X W w' := by
  obtain ⟨F, G, h⟩ := h
  obtain ⟨FA, rfl, hg⟩ := h.l
  exact (wi_link B A S FA W c s d t hg).mono fun e w' ⟨he, h1, h2⟩ => ⟨he, h.stepL ⟨_, ⟨FA, rfl, h1⟩, fun b hb => .inl hb⟩ h2⟩
theorem tw_link_r (h : TW w0 X B A R Q S T W) (c s d t : Int) : Calls Try.prog 63 #[.pointer (some ⟨R, 0, none⟩), .agg #[.int .i64 c, .int .i64 s], .agg #[.int .i64 d, .int .i64 t]] W fun e w' => e = .returned (.int .i64 (T.linkE (c, s) (d, t))) ∧ TW w0 X B A R Q S (T.link (c, s) (d, t)) w' ∧ KQ X W w' := by
  obtain ⟨F, G, h⟩ := h
  obtain ⟨FA, rfl, hg⟩ := h.r
  exact (rw_link R Q T FA W c s d t hg).mono fun e w' ⟨he, h1, h2⟩ => ⟨he, h.stepR ⟨_, ⟨FA, rfl, h1⟩, fun b hb => .inl hb⟩ h2⟩
theorem tw_cut_l (h : TW w0 X B A R Q S T W) (c s : Int) : Calls Try.prog 21 #[.pointer (some ⟨B, 0, none⟩), .agg #[.int .i64 c, .int .i64 s]] W fun e w' => e = .returned (.tuple #[.agg #[.int .i64 (S.toP (c, s)).1, .int .i64 (S.toP (c, s)).2], .int .i64 (S.toE (c, s))]) ∧ TW w0 X B A R Q (S.cut (c, s)) T w' ∧ KQ X W w' := by
  obtain ⟨F, G, h⟩ := h
  obtain ⟨FA, rfl, hg⟩ := h.l
  exact (wi_cut B A S FA W c s hg).mono fun e w' ⟨he, h1, h2⟩ => ⟨he, h.stepL ⟨_, ⟨FA, rfl, h1⟩, fun b hb => .inl hb⟩ h2⟩
theorem tw_cut_r (h : TW w0 X B A R Q S T W) (c s : Int) : Calls Try.prog 53 #[.pointer (some ⟨R, 0, none⟩), .agg #[.int .i64 c, .int .i64 s]] W fun e w' => e = .returned (.tuple #[.agg #[.int .i64 (T.toP (c, s)).1, .int .i64 (T.toP (c, s)).2], .int .i64 (T.toE (c, s))]) ∧ TW w0 X B A R Q S (T.cut (c, s)) w' ∧ KQ X W w' := by
  obtain ⟨F, G, h⟩ := h
  obtain ⟨FA, rfl, hg⟩ := h.r
  exact (rw_cut R Q T FA W c s hg).mono fun e w' ⟨he, h1, h2⟩ => ⟨he, h.stepR ⟨_, ⟨FA, rfl, h1⟩, fun b hb => .inl hb⟩ h2⟩
theorem tw_pass_l (h : TW w0 X B A R Q S T W) (c s d t : Int) : Calls Try.prog 22 #[.pointer (some ⟨B, 0, none⟩), .agg #[.int .i64 c, .int .i64 s], .agg #[.int .i64 d, .int .i64 t]] W fun e w' => e = .returned (passV S (c, s) (d, t)) ∧ TW w0 X B A R Q (S.pass (c, s) (d, t)) T w' ∧ KQ X W w' := by
  obtain ⟨F, G, h⟩ := h
  obtain ⟨FA, rfl, hg⟩ := h.l
  exact (wi_pass B A S FA W c s d t hg).mono fun e w' ⟨he, h1, h2⟩ => ⟨he, h.stepL ⟨_, ⟨FA, rfl, h1⟩, fun b hb => .inl hb⟩ h2⟩
theorem tw_pass_r (h : TW w0 X B A R Q S T W) (hbo : T.Both) (c s d t : Int) : Calls Try.prog 64 #[.pointer (some ⟨R, 0, none⟩), .agg #[.int .i64 c, .int .i64 s], .agg #[.int .i64 d, .int .i64 t]] W fun e w' => e = .returned (passV T (c, s) (d, t)) ∧ TW w0 X B A R Q S (T.pass (c, s) (d, t)) w' ∧ KQ X W w' := by
  obtain ⟨F, G, h⟩ := h
  obtain ⟨FA, rfl, hg⟩ := h.r
  exact (rw_pass R Q T FA W c s d t hbo hg).mono fun e w' ⟨he, h1, h2⟩ => ⟨he, h.stepR ⟨_, ⟨FA, rfl, h1⟩, fun b hb => .inl hb⟩ h2⟩
theorem tw_drop_l (h : TW w0 X B A R Q S T W) (c : Int) : Calls Try.prog 23 #[.pointer (some ⟨B, 0, none⟩), .int .i64 c] W fun e w' => e = .returned (.int .i64 (S.dropE c)) ∧ TW w0 X B A R Q (S.drop c) T w' ∧ KQ X W w' := by
  obtain ⟨F, G, h⟩ := h
  obtain ⟨FA, rfl, hg⟩ := h.l
  exact (wi_drop B A S FA W c hg).mono fun e w' ⟨he, ⟨F', h1, hn⟩, h2⟩ => ⟨he, h.stepL ⟨_, ⟨F', rfl, h1⟩, newBlocks hn⟩ h2⟩
theorem tw_drop_r (h : TW w0 X B A R Q S T W) (c : Int) : Calls Try.prog 65 #[.pointer (some ⟨R, 0, none⟩), .int .i64 c] W fun e w' => e = .returned (.int .i64 (T.dropE c)) ∧ TW w0 X B A R Q S (T.drop c) w' ∧ KQ X W w' := by
  obtain ⟨F, G, h⟩ := h
  obtain ⟨FA, rfl, hg⟩ := h.r
  exact (rw_drop R Q T FA W c hg).mono fun e w' ⟨he, ⟨F', h1, hn⟩, h2⟩ => ⟨he, h.stepR ⟨_, ⟨F', rfl, h1⟩, newBlocks hn⟩ h2⟩
theorem tw_take_l (h : TW w0 X B A R Q S T W) (ag ar : Int) : Calls Try.prog 51 #[.pointer (some ⟨A, 0, none⟩), .int .i64 ag, .int .i64 ar] W fun e w' => e = .returned (.tuple #[.int .i64 (S.A.takeC ag ar), .int .i64 (S.A.takeE ag ar)]) ∧ TW w0 X B A R Q (S.take ag ar) T w' ∧ KQ X W w' := by
  obtain ⟨F, G, h⟩ := h
  obtain ⟨FA, rfl, hg⟩ := h.l
  exact (ar_take A S.A FA ag ar W hg.pa).mono fun e w' ⟨he, ⟨F', h1, hn⟩, h2⟩ => ⟨he, h.stepL ⟨_, ⟨F', rfl, hg.ofA h1 h2⟩, newBlocks hn⟩ (h2.mono fun b hb => List.mem_cons_of_mem _ hb)⟩
theorem tw_take_r (h : TW w0 X B A R Q S T W) (ag ar : Int) : Calls Try.prog 52 #[.pointer (some ⟨Q, 0, none⟩), .int .i64 ag, .int .i64 ar] W fun e w' => e = .returned (.tuple #[.int .i64 (T.A.takeC ag ar), .int .i64 (T.A.takeE ag ar)]) ∧ TW w0 X B A R Q S (T.take ag ar) w' ∧ KQ X W w' := by
  obtain ⟨F, G, h⟩ := h
  obtain ⟨FA, rfl, hg⟩ := h.r
  obtain ⟨P, FR, rfl, hra, hput⟩ := hg.split
  refine (rr_take Q T.A FR ag ar W hra).mono fun e w' ⟨he, ⟨F', h1, hn⟩, h2⟩ => ⟨he, h.stepR ⟨_, ⟨P ++ F', rfl, hput _ _ _ h1 h2 hn⟩, newBlocks fun b hb => ?_⟩ (h2.mono fun b hb => List.mem_cons_of_mem _ (List.mem_append_right _ hb))⟩
  rcases List.mem_append.1 hb with hb | hb
  · exact .inl (List.mem_append_left _ hb)
  · rcases hn b hb with hb | hb
    · exact .inl (List.mem_append_right _ hb)
    · exact .inr hb
/-- The cells that a walk reads. -/
theorem TW.rcell (h : TW w0 X B A R Q S T W) : W.cell? ⟨R, 0, none⟩ = some (.pointer (some ⟨Q, 0, none⟩)) ∧ (∃ V c, W.cell? ⟨R, 1, none⟩ = some (.slice V T.P.length c)) ∧ R < W.heap.size := by
  obtain ⟨F, G, h⟩ := h
  obtain ⟨FA, _, hg⟩ := h.r
  exact ⟨hg.cells.1, hg.cells.2, hg.lt⟩
theorem TW.allr (h : TW w0 X B A R Q S T W) : Calls Try.prog 42 #[.pointer (some ⟨R, 0, none⟩)] W fun e w' => ∃ V c, e = .returned (.slice V T.pts.length c) ∧ AL W T.pts V c w' := by
  obtain ⟨F, G, h⟩ := h
  obtain ⟨FA, _, hg⟩ := h.r
  exact rw_all R Q T FA W hg
end
end Go.Proofs.Ythbobooiedcofaa
