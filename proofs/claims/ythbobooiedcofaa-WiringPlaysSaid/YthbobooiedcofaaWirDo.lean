/-
  The statement WiringPlays: a step, in both.
-/
import Derived.Test.YthbobooiedcofaaWirTwo
namespace Go.Proofs.Ythbobooiedcofaa
open Go.RowKit
attribute [local go_sem] cell_set
set_option maxRecDepth 100000
set_option linter.unusedVariables false

namespace Wir
/-- What a step makes of a wiring. -/
def step (S : Wir) (k : Int) (p q : Pt) : Wir := if k = 0 then S.take p.1 p.2 else if k = 1 then S.link p q else if k = 2 then S.cut p else if k = 3 then S.pass p q else if k = 4 then S.drop p.1 else S
theorem step_ok {S : Wir} (h : S.Ok) (hb : S.Both) (k : Int) (p q : Pt) : (S.step k p q).Ok ∧ (S.step k p q).Both := by
  unfold step
  split
  · exact ⟨h.take _ _, hb.take h _ _⟩
  split
  · exact link_ok h hb p q
  split
  · exact ⟨h.cut p, hb.cut h p⟩
  split
  · exact pass_ok h hb p q
  split
  · exact ⟨h.drop _, hb.drop h _⟩
  · exact ⟨h, hb⟩
end Wir
section
variable (w0 : World) (Y : List Nat) (B A R Q : Nat) (S : Wir) (c s d t : Int) (w : World)
/-- The step's box. -/
def SBx (b : Nat) (k c s d t : Int) (W : World) : Prop := W.cell? ⟨b, 0, none⟩ = some (.int .i64 k) ∧ W.cell? ⟨b, 1, none⟩ = some (.int .i64 c) ∧ W.cell? ⟨b, 2, none⟩ = some (.int .i64 s) ∧ W.cell? ⟨b, 3, none⟩ = some (.int .i64 d) ∧ W.cell? ⟨b, 4, none⟩ = some (.int .i64 t)
theorem SBx.kq {b : Nat} {k c s d t : Int} {W W' : World} {X : List Nat} (h : SBx b k c s d t W) (hk : KQ X W W') (hb : b ∈ X) : SBx b k c s d t W' := by
  obtain ⟨e, _⟩ := hk.box hb
  exact ⟨(e 0).trans h.1, (e 1).trans h.2.1, (e 2).trans h.2.2.1, (e 3).trans h.2.2.2.1, (e 4).trans h.2.2.2.2⟩
set_option maxHeartbeats 4000000 in
theorem do_1 (h : TW w0 Y B A R Q S S w) :
    Calls Try.prog 16 #[.pointer (some ⟨B, 0, none⟩), .pointer (some ⟨R, 0, none⟩), .agg #[.int .i64 1, .int .i64 c, .int .i64 s, .int .i64 d, .int .i64 t]] w fun e w' => e = .returned (.bool true) ∧ TW w0 Y B A R Q (S.link (c, s) (d, t)) (S.link (c, s) (d, t)) w' ∧ KQ Y w w' := by
  have hX := h.alloc (.cells #[.int .i64 1, .int .i64 c, .int .i64 s, .int .i64 d, .int .i64 t] 41)
  have hY := h.kq ((Below.refl w.heap.size w).alloc (Nat.le_refl _) (.cells #[.int .i64 1, .int .i64 c, .int .i64 s, .int .i64 d, .int .i64 t] 41))
  go_enter Try.func16, Try.ntmps16
  go_upto_region 7 with fail
  refine absW (fun X => TW w0 (w.heap.size :: Y) B A R Q S S X ∧ SBx w.heap.size 1 c s d t X ∧ KQ Y w X) ⟨hX, ⟨by go_simp, by go_simp, by go_simp, by go_simp, by go_simp⟩, hY⟩ ?_
  rintro X ⟨hT, hS, hKY⟩
  have HKY := Lib.hid hKY
  clear hKY hY
  have H0 := Lib.hid (hT.kept (Below.refl X.heap.size X).drew)
  have HT0 := Lib.hid hT
  have HKP : Hid (∀ W, KQ (w.heap.size :: Y) X W → SBx w.heap.size 1 c s d t W) := fun W hk => hS.kq hk (by simp)
  have HK : Hid (KQ (w.heap.size :: Y) X X.drew) := Lib.hid ⟨Nat.le_refl _, fun _ _ => rfl⟩
  have hbx : w.heap.size < X.heap.size := by obtain ⟨_, _, hh⟩ := hT; exact hh.x _ (by simp)
  clear hT hX
  generalize w.heap.size = bx at *
  go_region_held3 (fun W => W.cell? ⟨bx, 0, none⟩ = some (.int .i64 1) ∧ W.cell? ⟨bx, 1, none⟩ = some (.int .i64 c) ∧ W.cell? ⟨bx, 2, none⟩ = some (.int .i64 s) ∧ W.cell? ⟨bx, 3, none⟩ = some (.int .i64 d) ∧ W.cell? ⟨bx, 4, none⟩ = some (.int .i64 t))
    (exact HKP.out _ HK.out)
    (first
      | ((with_reducible refine (tw_link_l H0.out c s d t).mono ?_); rintro e w1 ⟨rfl, h1, hk1⟩; dsimp only
         have H1 := Lib.hid h1
         have HK := Lib.hid (HK.out.trans hk1)
         clear h1)
      | ((with_reducible refine (tw_link_r H1.out c s d t).mono ?_); rintro e w2 ⟨rfl, h2, hk2⟩; dsimp only
         have H2 := Lib.hid h2
         have HK := Lib.hid (HK.out.trans hk2)
         clear h2))
  all_goals
    go_wp2_with fail
    go_ret
    exact ⟨by simp, H2.out.sub (fun y hy => by simp [hy]), HKY.out.trans (HK.out.sub fun y hy => by simp [hy])⟩
set_option maxHeartbeats 4000000 in
theorem do_4 (h : TW w0 Y B A R Q S S w) :
    Calls Try.prog 16 #[.pointer (some ⟨B, 0, none⟩), .pointer (some ⟨R, 0, none⟩), .agg #[.int .i64 4, .int .i64 c, .int .i64 s, .int .i64 d, .int .i64 t]] w fun e w' => e = .returned (.bool true) ∧ TW w0 Y B A R Q (S.drop c) (S.drop c) w' ∧ KQ Y w w' := by
  have hX := h.alloc (.cells #[.int .i64 4, .int .i64 c, .int .i64 s, .int .i64 d, .int .i64 t] 41)
  have hY := h.kq ((Below.refl w.heap.size w).alloc (Nat.le_refl _) (.cells #[.int .i64 4, .int .i64 c, .int .i64 s, .int .i64 d, .int .i64 t] 41))
  go_enter Try.func16, Try.ntmps16
  go_upto_region 17 with fail
  refine absW (fun X => TW w0 (w.heap.size :: Y) B A R Q S S X ∧ SBx w.heap.size 4 c s d t X ∧ KQ Y w X) ⟨hX, ⟨by go_simp, by go_simp, by go_simp, by go_simp, by go_simp⟩, hY⟩ ?_
  rintro X ⟨hT, hS, hKY⟩
  have HKY := Lib.hid hKY
  clear hKY hY
  have H0 := Lib.hid (hT.kept (Below.refl X.heap.size X).drew)
  have HT0 := Lib.hid hT
  have HKP : Hid (∀ W, KQ (w.heap.size :: Y) X W → SBx w.heap.size 4 c s d t W) := fun W hk => hS.kq hk (by simp)
  have HK : Hid (KQ (w.heap.size :: Y) X X.drew) := Lib.hid ⟨Nat.le_refl _, fun _ _ => rfl⟩
  have hbx : w.heap.size < X.heap.size := by obtain ⟨_, _, hh⟩ := hT; exact hh.x _ (by simp)
  clear hT hX
  generalize w.heap.size = bx at *
  go_region_held3 (fun W => W.cell? ⟨bx, 0, none⟩ = some (.int .i64 4) ∧ W.cell? ⟨bx, 1, none⟩ = some (.int .i64 c) ∧ W.cell? ⟨bx, 2, none⟩ = some (.int .i64 s) ∧ W.cell? ⟨bx, 3, none⟩ = some (.int .i64 d) ∧ W.cell? ⟨bx, 4, none⟩ = some (.int .i64 t))
    (exact HKP.out _ HK.out)
    (first
      | ((with_reducible refine (tw_drop_l H0.out c).mono ?_); rintro e w1 ⟨rfl, h1, hk1⟩; dsimp only
         have H1 := Lib.hid h1
         have HK := Lib.hid (HK.out.trans hk1)
         clear h1)
      | ((with_reducible refine (tw_drop_r H1.out c).mono ?_); rintro e w2 ⟨rfl, h2, hk2⟩; dsimp only
         have H2 := Lib.hid h2
         have HK := Lib.hid (HK.out.trans hk2)
         clear h2))
  all_goals
    go_wp2_with fail
    go_ret
    exact ⟨by simp, H2.out.sub (fun y hy => by simp [hy]), HKY.out.trans (HK.out.sub fun y hy => by simp [hy])⟩
set_option maxHeartbeats 4000000 in
theorem do_0 (h : TW w0 Y B A R Q S S w) :
    Calls Try.prog 16 #[.pointer (some ⟨B, 0, none⟩), .pointer (some ⟨R, 0, none⟩), .agg #[.int .i64 0, .int .i64 c, .int .i64 s, .int .i64 d, .int .i64 t]] w fun e w' => e = .returned (.bool true) ∧ TW w0 Y B A R Q (S.take c s) (S.take c s) w' ∧ KQ Y w w' := by
  have hX := h.alloc (.cells #[.int .i64 0, .int .i64 c, .int .i64 s, .int .i64 d, .int .i64 t] 41)
  have hY := h.kq ((Below.refl w.heap.size w).alloc (Nat.le_refl _) (.cells #[.int .i64 0, .int .i64 c, .int .i64 s, .int .i64 d, .int .i64 t] 41))
  go_enter Try.func16, Try.ntmps16
  go_upto_region 3 with fail
  refine absW (fun X => TW w0 (w.heap.size :: Y) B A R Q S S X ∧ SBx w.heap.size 0 c s d t X ∧ KQ Y w X) ⟨hX, ⟨by go_simp, by go_simp, by go_simp, by go_simp, by go_simp⟩, hY⟩ ?_
  rintro X ⟨hT, hS, hKY⟩
  have HKY := Lib.hid hKY
  clear hKY hY
  have H0 := Lib.hid (hT.kept (Below.refl X.heap.size X).drew)
  have HT0 := Lib.hid hT
  have HKP : Hid (∀ W, KQ (w.heap.size :: Y) X W → SBx w.heap.size 0 c s d t W) := fun W hk => hS.kq hk (by simp)
  have HK : Hid (KQ (w.heap.size :: Y) X X.drew) := Lib.hid ⟨Nat.le_refl _, fun _ _ => rfl⟩
  have hbx : w.heap.size < X.heap.size := by obtain ⟨_, _, hh⟩ := hT; exact hh.x _ (by simp)
  clear hT hX
  generalize w.heap.size = bx at *
  go_region_held3 (fun W => W.cell? ⟨bx, 0, none⟩ = some (.int .i64 0) ∧ W.cell? ⟨bx, 1, none⟩ = some (.int .i64 c) ∧ W.cell? ⟨bx, 2, none⟩ = some (.int .i64 s) ∧ W.cell? ⟨bx, 3, none⟩ = some (.int .i64 d) ∧ W.cell? ⟨bx, 4, none⟩ = some (.int .i64 t))
    (exact HKP.out _ HK.out)
    (first
      | ((with_reducible refine (tw_arena H0.out).mono ?_); rintro e wa ⟨rfl, rfl⟩; dsimp only)
      | ((with_reducible refine (tw_take_l H0.out c s).mono ?_); rintro e w1 ⟨rfl, h1, hk1⟩; dsimp only
         have H1 := Lib.hid h1
         have HK := Lib.hid (HK.out.trans hk1)
         clear h1))
  all_goals
    go_upto_region 4 with fail
    have hrc := H1.out.rcell.1
    have HRC : Hid (w1.drew.cell? ⟨R, 0, none⟩ = some (.pointer (some ⟨Q, 0, none⟩))) := hrc
    have H1d := Lib.hid (H1.out.kept (Below.refl w1.heap.size w1).drew)
    have HK : Hid (KQ (bx :: Y) X w1.drew) := Lib.hid ⟨HK.out.size, HK.out.same⟩
    clear hrc
    go_region_held3 (fun W => W.cell? ⟨R, 0, none⟩ = some (.pointer (some ⟨Q, 0, none⟩)) ∧ W.cell? ⟨bx, 0, none⟩ = some (.int .i64 0) ∧ W.cell? ⟨bx, 1, none⟩ = some (.int .i64 c) ∧ W.cell? ⟨bx, 2, none⟩ = some (.int .i64 s) ∧ W.cell? ⟨bx, 3, none⟩ = some (.int .i64 d) ∧ W.cell? ⟨bx, 4, none⟩ = some (.int .i64 t))
      (exact ⟨HRC.out, HKP.out _ HK.out⟩)
      (first
        | ((with_reducible refine (tw_take_r H1d.out c s).mono ?_); rintro e w2 ⟨rfl, h2, hk2⟩; dsimp only
           have H2 := Lib.hid h2
           have HK := Lib.hid (HK.out.trans hk2)
           have HRC := Lib.hid h2.rcell.1
           clear h2))
    all_goals
      go_wp2_with fail
      go_ret
      exact ⟨by simp, H2.out.sub (fun y hy => by simp [hy]), HKY.out.trans (HK.out.sub fun y hy => by simp [hy])⟩
theorem do_x (k : Int) (hk0 : k ≠ 0) (hk1 : k ≠ 1) (hk2 : k ≠ 2) (hk3 : k ≠ 3) (hk4 : k ≠ 4) (h : TW w0 Y B A R Q S S w) :
    Calls Try.prog 16 #[.pointer (some ⟨B, 0, none⟩), .pointer (some ⟨R, 0, none⟩), .agg #[.int .i64 k, .int .i64 c, .int .i64 s, .int .i64 d, .int .i64 t]] w fun e w' => e = .returned (.bool true) ∧ TW w0 Y B A R Q S S w' ∧ KQ Y w w' := by
  have k0 : (k == 0) = false := by rw [beq_eq_false_iff_ne]; exact hk0
  have k1 : (k == 1) = false := by rw [beq_eq_false_iff_ne]; exact hk1
  have k2 : (k == 2) = false := by rw [beq_eq_false_iff_ne]; exact hk2
  have k3 : (k == 3) = false := by rw [beq_eq_false_iff_ne]; exact hk3
  have k4 : (k == 4) = false := by rw [beq_eq_false_iff_ne]; exact hk4
  have hX := h.alloc (.cells #[.int .i64 k, .int .i64 c, .int .i64 s, .int .i64 d, .int .i64 t] 41)
  have hY := h.kq ((Below.refl w.heap.size w).alloc (Nat.le_refl _) (.cells #[.int .i64 k, .int .i64 c, .int .i64 s, .int .i64 d, .int .i64 t] 41))
  go_enter Try.func16, Try.ntmps16
  go_wp2_with fail
  go_ret
  exact ⟨rfl, hX.sub (fun y hy => by simp [hy]), hY⟩
set_option maxHeartbeats 4000000 in
theorem do_2 (h : TW w0 Y B A R Q S S w) :
    Calls Try.prog 16 #[.pointer (some ⟨B, 0, none⟩), .pointer (some ⟨R, 0, none⟩), .agg #[.int .i64 2, .int .i64 c, .int .i64 s, .int .i64 d, .int .i64 t]] w fun e w' => e = .returned (.bool true) ∧ TW w0 Y B A R Q (S.cut (c, s)) (S.cut (c, s)) w' ∧ KQ Y w w' := by
  have hX := h.alloc (.cells #[.int .i64 2, .int .i64 c, .int .i64 s, .int .i64 d, .int .i64 t] 41)
  have hY := h.kq ((Below.refl w.heap.size w).alloc (Nat.le_refl _) (.cells #[.int .i64 2, .int .i64 c, .int .i64 s, .int .i64 d, .int .i64 t] 41))
  go_enter Try.func16, Try.ntmps16
  go_upto_region 9 with fail
  refine absW (fun X => TW w0 (w.heap.size :: Y) B A R Q S S X ∧ SBx w.heap.size 2 c s d t X ∧ KQ Y w X) ⟨hX, ⟨by go_simp, by go_simp, by go_simp, by go_simp, by go_simp⟩, hY⟩ ?_
  rintro X ⟨hT, hS, hKY⟩
  have HKY := Lib.hid hKY
  clear hKY hY
  have H0 := Lib.hid (hT.kept (Below.refl X.heap.size X).drew)
  have HT0 := Lib.hid hT
  have HKP : Hid (∀ W, KQ (w.heap.size :: Y) X W → SBx w.heap.size 2 c s d t W) := fun W hk => hS.kq hk (by simp)
  have HK : Hid (KQ (w.heap.size :: Y) X X.drew) := Lib.hid ⟨Nat.le_refl _, fun _ _ => rfl⟩
  have hbx : w.heap.size < X.heap.size := by obtain ⟨_, _, hh⟩ := hT; exact hh.x _ (by simp)
  clear hT hX
  generalize w.heap.size = bx at *
  obtain ⟨s0, s1, s2, s3, s4⟩ := hS
  obtain ⟨⟨q1, q2⟩, hq⟩ : ∃ q, S.toP (c, s) = q := ⟨_, rfl⟩
  obtain ⟨ee, he⟩ : ∃ e, S.toE (c, s) = e := ⟨_, rfl⟩
  have HQ := Lib.hid hq
  have HE := Lib.hid he
  clear hq he
  go_wp2_with fail
  refine (tw_cut_l HT0.out c s).mono ?_
  rintro e w1 ⟨rfl, h1, hk1⟩
  rw [HQ.out, HE.out]
  obtain ⟨m1, f1⟩ := hk1.box (b := bx) (by simp)
  have hz1 : bx < w1.heap.size := Nat.lt_of_lt_of_le hbx hk1.size
  have H1 := Lib.hid (h1.alloc (.cells #[.int .i64 q1, .int .i64 q2] 39))
  have HK := Lib.hid ((HK.out.trans ⟨hk1.size, hk1.same⟩).trans (h1.kq ((Below.refl w1.heap.size w1).alloc (Nat.le_refl _) (.cells #[.int .i64 q1, .int .i64 q2] 39))))
  clear h1 hk1
  simp only []
  go_wp2_with fail
  refine (tw_cut_r H1.out c s).mono ?_
  rintro e w2 ⟨rfl, h2, hk2⟩
  rw [HQ.out, HE.out]
  obtain ⟨m2, f2⟩ := hk2.box (b := w1.heap.size) (by simp)
  have hz2 := hk2.size
  simp at hz2
  have hz3 : w1.heap.size < w2.heap.size := by omega
  have H2 := Lib.hid h2
  have HK2 := Lib.hid hk2
  clear h2 hk2
  simp only []
  go_wp2_with fail
  go_ret
  exact ⟨by simp, (H2.out.sub (fun y hy => by simp [hy])).kept ((Below.refl _ _).alloc (Nat.le_refl _) _), HKY.out.trans ((HK.out.sub fun y hy => by simp [hy]).trans ((HK2.out.sub fun y hy => by simp [hy]).trans ((H2.out.sub (fun y hy => by simp [hy])).kq ((Below.refl _ _).alloc (Nat.le_refl _) _))))⟩
set_option maxHeartbeats 4000000 in
theorem do_3 (hbo : S.Both) (h : TW w0 Y B A R Q S S w) :
    Calls Try.prog 16 #[.pointer (some ⟨B, 0, none⟩), .pointer (some ⟨R, 0, none⟩), .agg #[.int .i64 3, .int .i64 c, .int .i64 s, .int .i64 d, .int .i64 t]] w fun e w' => e = .returned (.bool true) ∧ TW w0 Y B A R Q (S.pass (c, s) (d, t)) (S.pass (c, s) (d, t)) w' ∧ KQ Y w w' := by
  have hX := h.alloc (.cells #[.int .i64 3, .int .i64 c, .int .i64 s, .int .i64 d, .int .i64 t] 41)
  have hY := h.kq ((Below.refl w.heap.size w).alloc (Nat.le_refl _) (.cells #[.int .i64 3, .int .i64 c, .int .i64 s, .int .i64 d, .int .i64 t] 41))
  go_enter Try.func16, Try.ntmps16
  go_upto_region 13 with fail
  refine absW (fun X => TW w0 (w.heap.size :: Y) B A R Q S S X ∧ SBx w.heap.size 3 c s d t X ∧ KQ Y w X) ⟨hX, ⟨by go_simp, by go_simp, by go_simp, by go_simp, by go_simp⟩, hY⟩ ?_
  rintro X ⟨hT, hS, hKY⟩
  have HKY := Lib.hid hKY
  clear hKY hY
  have H0 := Lib.hid (hT.kept (Below.refl X.heap.size X).drew)
  have HT0 := Lib.hid hT
  have HKP : Hid (∀ W, KQ (w.heap.size :: Y) X W → SBx w.heap.size 3 c s d t W) := fun W hk => hS.kq hk (by simp)
  have HK : Hid (KQ (w.heap.size :: Y) X X.drew) := Lib.hid ⟨Nat.le_refl _, fun _ _ => rfl⟩
  have hbx : w.heap.size < X.heap.size := by obtain ⟨_, _, hh⟩ := hT; exact hh.x _ (by simp)
  clear hT hX
  generalize w.heap.size = bx at *
  obtain ⟨s0, s1, s2, s3, s4⟩ := hS
  obtain ⟨a1, a2, b1, b2, is, ee, hv⟩ : ∃ a1 a2 b1 b2 is ee, passV S (c, s) (d, t) = .tuple #[.agg #[.int .i64 a1, .int .i64 a2, .int .i64 b1, .int .i64 b2], .bool is, .int .i64 ee] := ⟨_, _, _, _, _, _, rfl⟩
  have HV := Lib.hid hv
  clear hv
  go_wp2_with fail
  refine (tw_pass_l HT0.out c s d t).mono ?_
  rintro e w1 ⟨rfl, h1, hk1⟩
  rw [HV.out]
  obtain ⟨m1, f1⟩ := hk1.box (b := bx) (by simp)
  have hz1 : bx < w1.heap.size := Nat.lt_of_lt_of_le hbx hk1.size
  have H1 := Lib.hid (h1.alloc (.cells #[.int .i64 a1, .int .i64 a2, .int .i64 b1, .int .i64 b2] 55))
  have HK := Lib.hid ((HK.out.trans ⟨hk1.size, hk1.same⟩).trans (h1.kq ((Below.refl w1.heap.size w1).alloc (Nat.le_refl _) (.cells #[.int .i64 a1, .int .i64 a2, .int .i64 b1, .int .i64 b2] 55))))
  clear h1 hk1
  simp only []
  go_wp2_with fail
  refine (tw_pass_r H1.out hbo c s d t).mono ?_
  rintro e w2 ⟨rfl, h2, hk2⟩
  rw [HV.out]
  obtain ⟨m2, f2⟩ := hk2.box (b := w1.heap.size) (by simp)
  have hz2 := hk2.size
  simp at hz2
  have hz3 : w1.heap.size < w2.heap.size := by omega
  have H2 := Lib.hid h2
  have HK2 := Lib.hid hk2
  clear h2 hk2
  simp only []
  go_wp2_with fail
  go_ret
  exact ⟨by simp, (H2.out.sub (fun y hy => by simp [hy])).kept ((Below.refl _ _).alloc (Nat.le_refl _) _), HKY.out.trans ((HK.out.sub fun y hy => by simp [hy]).trans ((HK2.out.sub fun y hy => by simp [hy]).trans ((H2.out.sub (fun y hy => by simp [hy])).kq ((Below.refl _ _).alloc (Nat.le_refl _) _))))⟩
theorem do_ok (k : Int) (hbo : S.Both) (h : TW w0 Y B A R Q S S w) :
    Calls Try.prog 16 #[.pointer (some ⟨B, 0, none⟩), .pointer (some ⟨R, 0, none⟩), .agg #[.int .i64 k, .int .i64 c, .int .i64 s, .int .i64 d, .int .i64 t]] w fun e w' => e = .returned (.bool true) ∧ TW w0 Y B A R Q (S.step k (c, s) (d, t)) (S.step k (c, s) (d, t)) w' ∧ KQ Y w w' := by
  by_cases h0 : k = 0
  · subst h0; exact do_0 w0 Y B A R Q S c s d t w h
  by_cases h1 : k = 1
  · subst h1; exact do_1 w0 Y B A R Q S c s d t w h
  by_cases h2 : k = 2
  · subst h2; exact do_2 w0 Y B A R Q S c s d t w h
  by_cases h3 : k = 3
  · subst h3; exact do_3 w0 Y B A R Q S c s d t w hbo h
  by_cases h4 : k = 4
  · subst h4; exact do_4 w0 Y B A R Q S c s d t w h
  have e : S.step k (c, s) (d, t) = S := by unfold Wir.step; rw [if_neg h0, if_neg h1, if_neg h2, if_neg h3, if_neg h4]
  rw [e]
  exact do_x w0 Y B A R Q S c s d t w k h0 h1 h2 h3 h4 h
end
end Go.Proofs.Ythbobooiedcofaa
