/-
  Contracts of rule.Check and skeinref15.Check.
-/
import Derived.Test.YtcebejcdfdahjaaNetMoveW
import Derived.Test.YtcebejcdfdahjaaRef03V
import Derived.BigQuiet
import Derived.Deep.QuietTactic
namespace Go.Proofs.Ytcebejcdfdahjaa
open Go.RowKit
attribute [local go_sem] cell_set
set_option maxRecDepth 100000
set_option linter.unusedVariables false

abbrev ruleV (a b : Int) (VA : Option Addr) (ca : Nat) (cells : List Int) (free : Int) (VB : Option Addr) (cb : Nat) (W : List (Pt × Pt)) : Value := .agg #[.int .i64 a, .int .i64 b, .slice VA cells.length ca, .int .i64 free, .slice VB W.length cb]
def ruleChk (L : List (ByteArray × Int)) (a b : Int) (cells : List Int) (free : Int) (W : List (Pt × Pt)) : Int × Int :=
  if (chk L).1 ≠ 0 then chk L else
  if a < 0 ∨ (L.length : Int) ≤ a then (20, 0) else
  if b < 0 ∨ (L.length : Int) ≤ b then (20, 1) else
  if (netChk (pnL L) L.length (chk L) cells free W).1 ≠ 0 then netChk (pnL L) L.length (chk L) cells free W else
  if 32 < cells.length then (50, 32) else
  if agA L a.toNat + agA L b.toNat ≠ free then (51, agA L a.toNat + agA L b.toNat) else (0, 0)
section
variable {L : List (ByteArray × Int)} {a b : Int} {cells : List Int} {free : Int} {W : List (Pt × Pt)}
theorem rc_sig (h : (chk L).1 ≠ 0) : ruleChk L a b cells free W = chk L := by unfold ruleChk; rw [if_pos h]
theorem rc_a (h : (chk L).1 = 0) (ha : a < 0 ∨ (L.length : Int) ≤ a) : ruleChk L a b cells free W = (20, 0) := by unfold ruleChk; rw [if_neg (by simpa using h), if_pos ha]
theorem rc_b (h : (chk L).1 = 0) (ha : 0 ≤ a ∧ a < L.length) (hb : b < 0 ∨ (L.length : Int) ≤ b) : ruleChk L a b cells free W = (20, 1) := by unfold ruleChk; rw [if_neg (by simpa using h), if_neg (by omega), if_pos hb]
theorem rc_net (h : (chk L).1 = 0) (ha : 0 ≤ a ∧ a < L.length) (hb : 0 ≤ b ∧ b < L.length) (hn : (netChk (pnL L) L.length (chk L) cells free W).1 ≠ 0) : ruleChk L a b cells free W = netChk (pnL L) L.length (chk L) cells free W := by
  unfold ruleChk; rw [if_neg (by simpa using h), if_neg (by omega), if_neg (by omega), if_pos hn]
theorem rc_large (h : (chk L).1 = 0) (ha : 0 ≤ a ∧ a < L.length) (hb : 0 ≤ b ∧ b < L.length) (hn : (netChk (pnL L) L.length (chk L) cells free W).1 = 0) (h32 : 32 < cells.length) : ruleChk L a b cells free W = (50, 32) := by
  unfold ruleChk; rw [if_neg (by simpa using h), if_neg (by omega), if_neg (by omega), if_neg (by simpa using hn), if_pos h32]
theorem rc_face (h : (chk L).1 = 0) (ha : 0 ≤ a ∧ a < L.length) (hb : 0 ≤ b ∧ b < L.length) (hn : (netChk (pnL L) L.length (chk L) cells free W).1 = 0) (h32 : cells.length ≤ 32) (hf : agA L a.toNat + agA L b.toNat ≠ free) : ruleChk L a b cells free W = (51, agA L a.toNat + agA L b.toNat) := by
  unfold ruleChk; rw [if_neg (by simpa using h), if_neg (by omega), if_neg (by omega), if_neg (by simpa using hn), if_neg (by omega), if_pos hf]
theorem rc_ok (h : (chk L).1 = 0) (ha : 0 ≤ a ∧ a < L.length) (hb : 0 ≤ b ∧ b < L.length) (hn : (netChk (pnL L) L.length (chk L) cells free W).1 = 0) (h32 : cells.length ≤ 32) (hf : agA L a.toNat + agA L b.toNat = free) : ruleChk L a b cells free W = (0, 0) := by
  unfold ruleChk; rw [if_neg (by simpa using h), if_neg (by omega), if_neg (by omega), if_neg (by simpa using hn), if_neg (by omega), if_neg (by simpa using hf)]
/-- What a rule that may be is. -/
theorem rc_of (h : (ruleChk L a b cells free W).1 = 0) : (chk L).1 = 0 ∧ (0 ≤ a ∧ a < L.length) ∧ (0 ≤ b ∧ b < L.length) ∧ (netChk (pnL L) L.length (chk L) cells free W).1 = 0 ∧ cells.length ≤ 32 ∧ agA L a.toNat + agA L b.toNat = free := by
  unfold ruleChk at h
  by_cases h0 : (chk L).1 ≠ 0
  · rw [if_pos h0] at h; exact absurd h h0
  rw [if_neg h0] at h
  by_cases h1 : a < 0 ∨ (L.length : Int) ≤ a
  · rw [if_pos h1] at h; simp at h
  rw [if_neg h1] at h
  by_cases h2 : b < 0 ∨ (L.length : Int) ≤ b
  · rw [if_pos h2] at h; simp at h
  rw [if_neg h2] at h
  by_cases h3 : (netChk (pnL L) L.length (chk L) cells free W).1 ≠ 0
  · rw [if_pos h3] at h; exact absurd h h3
  rw [if_neg h3] at h
  by_cases h4 : 32 < cells.length
  · rw [if_pos h4] at h; simp at h
  rw [if_neg h4] at h
  by_cases h5 : agA L a.toNat + agA L b.toNat ≠ free
  · rw [if_pos h5] at h; simp at h
  exact ⟨by simpa using h0, by omega, by omega, by simpa using h3, by omega, by simpa using h5⟩
end
/-- A rule in a box. -/
structure RBx (X : World) (k : Nat) (a b : Int) (VA : Option Addr) (n1 ca : Nat) (free : Int) (VB : Option Addr) (n2 cb : Nat) : Prop where
  lt : k < X.heap.size
  c0 : X.cell? ⟨k, 0, none⟩ = some (.int .i64 a)
  c1 : X.cell? ⟨k, 1, none⟩ = some (.int .i64 b)
  c2 : X.cell? ⟨k, 2, none⟩ = some (.slice VA n1 ca)
  c3 : X.cell? ⟨k, 3, none⟩ = some (.int .i64 free)
  c4 : X.cell? ⟨k, 4, none⟩ = some (.slice VB n2 cb)
theorem RBx.below {X X' : World} {k : Nat} {a b : Int} {VA : Option Addr} {n1 ca : Nat} {free : Int} {VB : Option Addr} {n2 cb : Nat} (h : RBx X k a b VA n1 ca free VB n2 cb) (hb : Below X.heap.size X X') : RBx X' k a b VA n1 ca free VB n2 cb :=
  ⟨Nat.lt_of_lt_of_le h.lt hb.size, (hb.cell (p := ⟨k, 0, none⟩) h.lt).trans h.c0, (hb.cell (p := ⟨k, 1, none⟩) h.lt).trans h.c1, (hb.cell (p := ⟨k, 2, none⟩) h.lt).trans h.c2, (hb.cell (p := ⟨k, 3, none⟩) h.lt).trans h.c3, (hb.cell (p := ⟨k, 4, none⟩) h.lt).trans h.c4⟩
theorem ar_rd {w : World} {A : Option Addr} {L : List (ByteArray × Int)} (h : AgRd w A L) {a : Int} (ha : 0 ≤ a ∧ a < L.length) : ∃ k b off, a = (k : Nat) ∧ k < L.length ∧ A = some ⟨b, off, none⟩ ∧ b < w.heap.size ∧ w.cell? ⟨b, off + k * 2 + 1, none⟩ = some (.int .i64 (agA L a.toNat)) := by
  obtain ⟨k, rfl⟩ := Int.eq_ofNat_of_zero_le ha.1
  obtain ⟨b, off, hA, hb, _, h1⟩ := h k (by omega)
  exact ⟨k, b, off, rfl, by omega, hA, hb, h1⟩
section
variable (A : Option Addr) (n cap : Nat) (L : List (ByteArray × Int)) (a b : Int) (VA VB : Option Addr) (ca cb : Nat) (cells : List Int) (free : Int) (W : List (Pt × Pt)) (w : World)
set_option maxHeartbeats 2000000 in
theorem rule_check (hn : n = L.length) (hcap : L.length ≤ cap) (HL : Hid (AgRd w A L)) (hl : L.length ≤ maxLen) (HC : Hid (IntsRd w VA cells)) (HW : Hid (WrRd w VB W)) (hc : cells.length ≤ 10000) (hw : W.length ≤ 40000) :
    Calls Try.prog 50 #[.slice A n cap, ruleV a b VA ca cells free VB cb W] w fun e w' => e = .returned (.tuple #[.int .i64 (ruleChk L a b cells free W).1, .int .i64 (ruleChk L a b cells free W).2]) ∧ Below w.heap.size w w' := by
  subst hn
  have hbA : Below w.heap.size w (w.alloc (.cells #[.int .i64 a, .int .i64 b, .slice VA cells.length ca, .int .i64 free, .slice VB W.length cb] 44)) := (Below.refl _ _).alloc (Nat.le_refl _) _
  have hR0 : RBx (w.alloc (.cells #[.int .i64 a, .int .i64 b, .slice VA cells.length ca, .int .i64 free, .slice VB W.length cb] 44)) w.heap.size a b VA cells.length ca free VB W.length cb := ⟨by simp, by go_simp, by go_simp, by go_simp, by go_simp, by go_simp⟩
  cases hsg : ((chk L).1 != 0)
  · have hz : (chk L).1 = 0 := by simpa using hsg
    have HZ := Lib.hid hz
    have hs := chk_sig hz
    have hll := hs.len
    have HS := Lib.hid hs
    clear hz hs hsg
    have i0 : ∀ w, (Instr.index 66 (.agg #[.int .i64 a, .int .i64 b]) (.int .i64 0)).run Try.prog w = .ok (.int .i64 a) w := fun _ => by kernel_rfl
    have i1 : ∀ w, (Instr.index 66 (.agg #[.int .i64 a, .int .i64 b]) (.int .i64 1)).run Try.prog w = .ok (.int .i64 b) w := fun _ => by kernel_rfl
    go_enter Try.func50, Try.ntmps50
    go_wp2_with (go_at_call 89; refine (check_any _ _ _ L _ rfl hl hcap (Lib.hid (HL.out.below hbA))).mono ?_; rintro e w1 ⟨rfl, hb1⟩; rw [HZ.out]
                 have HB1 : Hid (Below w.heap.size w w1) := hbA.trans (hb1.mono (by simp))
                 have HR1 := Lib.hid (hR0.below hb1)
                 have r0 := HR1.out.c0
                 have r1 := HR1.out.c1
                 clear hb1)
    clear r0 r1 hbA hR0
    go_loop [8, 9, 27] (fun _ _ i => ∃ k : Nat, i = .int .i64 k ∧ k ≤ 2 ∧ Hid ((1 ≤ k → 0 ≤ a ∧ a < L.length) ∧ (2 ≤ k → 0 ≤ b ∧ b < L.length))) (fun _ _ i => 2 - (intOf i).toNat)
    case atStart => exact ⟨0, rfl, by omega, ⟨fun h => by omega, fun h => by omega⟩⟩
    case round =>
      obtain ⟨k, rfl, hk, HN⟩ := hrel
      rcases (by omega : k = 0 ∨ k = 1 ∨ k = 2) with rfl | rfl | rfl
      · rcases (by omega : a < 0 ∨ (0 ≤ a ∧ (L.length : Int) ≤ a) ∨ (0 ≤ a ∧ a < L.length)) with h | ⟨h, h'⟩ | ⟨h, h'⟩
        · have HR : Hid (ruleChk L a b cells free W = (20, 0)) := rc_a HZ.out (.inl h)
          go_wp2
          go_ret2
          exact ⟨retI2 (by rw [HR.out]) (by rw [HR.out]), HB1.out⟩
        · have HR : Hid (ruleChk L a b cells free W = (20, 0)) := rc_a HZ.out (.inr h')
          go_wp2
          go_ret2
          exact ⟨retI2 (by rw [HR.out]) (by rw [HR.out]), HB1.out⟩
        · go_wp2
          go_round
          case rel => exact ⟨1, by go_num, by omega, ⟨fun _ => ⟨h, h'⟩, fun h => by omega⟩⟩
          case measure => simp [intOf]
      · have ha := HN.out.1 (by omega)
        have HA := Lib.hid ha
        clear ha
        rcases (by omega : b < 0 ∨ (0 ≤ b ∧ (L.length : Int) ≤ b) ∨ (0 ≤ b ∧ b < L.length)) with h | ⟨h, h'⟩ | ⟨h, h'⟩
        · have HR : Hid (ruleChk L a b cells free W = (20, 1)) := rc_b HZ.out HA.out (.inl h)
          go_wp2
          go_ret2
          exact ⟨retI2 (by rw [HR.out]) (by rw [HR.out]), HB1.out⟩
        · have HR : Hid (ruleChk L a b cells free W = (20, 1)) := rc_b HZ.out HA.out (.inr h')
          go_wp2
          go_ret2
          exact ⟨retI2 (by rw [HR.out]) (by rw [HR.out]), HB1.out⟩
        · go_wp2
          go_round
          case rel => exact ⟨2, by go_num, by omega, ⟨fun _ => HA.out, fun _ => ⟨h, h'⟩⟩⟩
          case measure => simp [intOf]
      · have HA : Hid (0 ≤ a ∧ a < L.length) := HN.out.1 (by omega)
        have HBb : Hid (0 ≤ b ∧ b < L.length) := HN.out.2 (by omega)
        clear i0 i1 HN
        have HNc : Hid (Calls Try.prog 85 #[.slice A L.length cap, .agg #[.slice VA cells.length ca, .int .i64 free, .slice VB W.length cb]] w1 fun e w' => e = .returned (.tuple #[.int .i64 (netChk (pnL L) L.length (chk L) cells free W).1, .int .i64 (netChk (pnL L) L.length (chk L) cells free W).2]) ∧ Below w1.heap.size w1 w') :=
          net_check A _ cap L VA VB ca cb cells free W w1 rfl hcap (Lib.hid (HL.out.below HB1.out)) hl (Lib.hid (HC.out.below HB1.out)) (Lib.hid (HW.out.below HB1.out)) hc hw
        have r2 := HR1.out.c2
        have r3 := HR1.out.c3
        have r4 := HR1.out.c4
        cases hk1 : ((netChk (pnL L) L.length (chk L) cells free W).1 != 0)
        · have hk0 : (netChk (pnL L) L.length (chk L) cells free W).1 = 0 := by simpa using hk1
          have HK0 := Lib.hid hk0
          clear hk0 hk1
          go_upto_region 13 with (go_at_call 85; refine HNc.out.mono ?_; rintro e w2 ⟨rfl, hb2⟩; rw [HK0.out]
                                  have HB2 : Hid (Below w.heap.size w w2) := HB1.out.trans (hb2.mono HB1.out.size)
                                  have HR2 := Lib.hid (HR1.out.below hb2)
                                  clear hb2)
          clear r2 r3 r4
          have r0 := HR2.out.c0
          have r1 := HR2.out.c1
          have r2 := HR2.out.c2
          have r3 := HR2.out.c3
          by_cases h32 : 32 < cells.length
          · have HR : Hid (ruleChk L a b cells free W = (50, 32)) := rc_large HZ.out HA.out HBb.out HK0.out h32
            go_wp2
            go_ret2
            exact ⟨retI2 (by rw [HR.out]) (by rw [HR.out]), HB2.out⟩
          · obtain ⟨ka, b1, off1, hka, hka2, hA1, hb1, ea⟩ := ar_rd HL.out HA.out
            obtain ⟨kb, b2, off2, hkb, hkb2, hA2, hb2, eb⟩ := ar_rd HL.out HBb.out
            subst hA1
            simp only [Option.some.injEq, Addr.mk.injEq, and_true] at hA2
            obtain ⟨rfl, rfl⟩ := hA2
            have da := (HB2.out.cell (p := ⟨b1, off1 + ka * 2 + 1, none⟩) hb1).trans ea
            have db := (HB2.out.cell (p := ⟨b1, off1 + kb * 2 + 1, none⟩) hb1).trans eb
            have hra := HS.out.ar a.toNat (by omega)
            have hrb := HS.out.ar b.toNat (by omega)
            have HRf : Hid (agA L a.toNat + agA L b.toNat ≠ free → ruleChk L a b cells free W = (51, agA L a.toNat + agA L b.toNat)) := fun h => rc_face HZ.out HA.out HBb.out HK0.out (by omega) h
            have HRo : Hid (agA L a.toNat + agA L b.toNat = free → ruleChk L a b cells free W = (0, 0)) := fun h => rc_ok HZ.out HA.out HBb.out HK0.out (by omega) h
            clear ea eb
            generalize agA L a.toNat = x at da hra HRf HRo
            generalize agA L b.toNat = y at db hrb HRf HRo
            obtain ⟨x1, x2⟩ := hra
            obtain ⟨y1, y2⟩ := hrb
            have HX := Lib.hid (And.intro hka hkb)
            rw [hka] at r0
            rw [hkb] at r1
            have hsum : IntKind.i64.wrap (x + y) = x + y := IntWalk.i64_in (x + y) (by omega)
            clear hka hkb hb1 hb2
            by_cases hf : x + y = free
            · have hfb : ((x + y) != free) = false := by simpa using hf
              have HR := Lib.hid (HRo.out hf)
              clear hf HRf HRo
              go_wp2_with fail
              go_quiet (fail)
              go_wp2
              go_ret2
              exact ⟨retI2 (by rw [HR.out]) (by rw [HR.out]), below_drewN HB2.out _⟩
            · have hfb : ((x + y) != free) = true := by simpa using hf
              have HR := Lib.hid (HRf.out hf)
              clear hf HRf HRo
              go_wp2_with fail
              go_quiet (fail)
              go_wp2
              go_ret2
              exact ⟨retI2 (by rw [HR.out]) (by rw [HR.out]), below_drewN HB2.out _⟩
        · have hk0 : (netChk (pnL L) L.length (chk L) cells free W).1 ≠ 0 := by simpa using hk1
          have HR : Hid (ruleChk L a b cells free W = netChk (pnL L) L.length (chk L) cells free W) := rc_net HZ.out HA.out HBb.out hk0
          clear hk0
          go_wp2_with (go_at_call 85; refine HNc.out.mono ?_; rintro e w2 ⟨rfl, hb2⟩
                       have HB2 : Hid (Below w.heap.size w w2) := HB1.out.trans (hb2.mono HB1.out.size)
                       clear hb2)
          go_ret2
          exact ⟨retI2 (by rw [HR.out]) (by rw [HR.out]), HB2.out⟩
  · have hz : (chk L).1 ≠ 0 := by simpa using hsg
    have HR : Hid (ruleChk L a b cells free W = chk L) := rc_sig hz
    clear hz
    go_enter Try.func50, Try.ntmps50
    go_wp2_with (go_at_call 89; refine (check_any _ _ _ L _ rfl hl hcap (Lib.hid (HL.out.below hbA))).mono ?_; rintro e w1 ⟨rfl, hb1⟩; have HB1 : Hid (Below w.heap.size w w1) := hbA.trans (hb1.mono (by simp)))
    go_ret2
    exact ⟨retI2 (by rw [HR.out]) (by rw [HR.out]), HB1.out⟩
set_option maxHeartbeats 800000 in
theorem faces_is (hn : n = L.length) (HL : Hid (AgRd w A L)) (hl : L.length ≤ maxLen) (ha : 0 ≤ a ∧ a < L.length) (hb : 0 ≤ b ∧ b < L.length) :
    Calls Try.prog 71 #[.slice A n cap, ruleV a b VA ca cells free VB cb W] w fun e w' => e = .returned (.tuple #[.int .i64 (agA L a.toNat), .int .i64 (agA L b.toNat)]) ∧ Below w.heap.size w w' := by
  subst hn
  unfold maxLen at hl
  obtain ⟨ka, b1, off1, hka, hka2, hA1, hb1, ea⟩ := ar_rd HL.out ha
  obtain ⟨kb, b2, off2, hkb, hkb2, hA2, hb2, eb⟩ := ar_rd HL.out hb
  subst hA1
  simp only [Option.some.injEq, Addr.mk.injEq, and_true] at hA2
  obtain ⟨rfl, rfl⟩ := hA2
  generalize agA L a.toNat = x at ea
  generalize agA L b.toNat = y at eb
  subst hka hkb
  clear ha hb HL
  go_enter Try.func71, Try.ntmps71
  go_wp2_with fail
  refine absW (fun X => Below w.heap.size w X ∧ X.cell? ⟨w.heap.size, 0, none⟩ = some (.int .i64 (ka : Int)) ∧ X.cell? ⟨w.heap.size, 1, none⟩ = some (.int .i64 (kb : Int)) ∧ X.cell? ⟨b1, off1 + ka * 2 + 1, none⟩ = some (.int .i64 x) ∧ X.cell? ⟨b1, off1 + kb * 2 + 1, none⟩ = some (.int .i64 y)) ⟨(Below.refl _ _).alloc (Nat.le_refl _) _, by go_simp, by go_simp, by go_simp, by go_simp⟩ ?_
  rintro X ⟨hbX, x1, x2, x3, x4⟩
  have HX := Lib.hid hbX
  clear hbX ea eb hb1 hb2
  go_quiet (fail)
  go_wp2
  go_ret2
  exact ⟨rfl, below_drewN HX.out _⟩
set_option maxHeartbeats 2000000 in
theorem rrule_check (hn : n = L.length) (hcap : L.length ≤ cap) (HL : Hid (AgRd w A L)) (hl : L.length ≤ maxLen) (HC : Hid (IntsRd w VA cells)) (HW : Hid (WrRd w VB W)) (hc : cells.length ≤ 10000) (hw : W.length ≤ 40000) :
    Calls Try.prog 26 #[.slice A n cap, ruleV a b VA ca cells free VB cb W] w fun e w' => e = .returned (.tuple #[.int .i64 (ruleChk L a b cells free W).1, .int .i64 (ruleChk L a b cells free W).2]) ∧ Below w.heap.size w w' := by
  subst hn
  have hbA : Below w.heap.size w (w.alloc (.cells #[.int .i64 a, .int .i64 b, .slice VA cells.length ca, .int .i64 free, .slice VB W.length cb] 44)) := (Below.refl _ _).alloc (Nat.le_refl _) _
  have hR0 : RBx (w.alloc (.cells #[.int .i64 a, .int .i64 b, .slice VA cells.length ca, .int .i64 free, .slice VB W.length cb] 44)) w.heap.size a b VA cells.length ca free VB W.length cb := ⟨by simp, by go_simp, by go_simp, by go_simp, by go_simp, by go_simp⟩
  have hlm := hl
  unfold maxLen at hlm
  cases hsg : ((chk L).1 != 0)
  · have hz : (chk L).1 = 0 := by simpa using hsg
    have HZ := Lib.hid hz
    have hs := chk_sig hz
    have hll := hs.len
    have HS := Lib.hid hs
    clear hz hs hsg
    rcases (by omega : a < 0 ∨ (0 ≤ a ∧ (L.length : Int) ≤ a) ∨ (0 ≤ a ∧ a < L.length)) with h | ⟨h, h'⟩ | ⟨h, h'⟩
    · have HR : Hid (ruleChk L a b cells free W = (20, 0)) := rc_a HZ.out (.inl h)
      go_enter Try.func26, Try.ntmps26
      go_upto_region 4 with (go_at_call 47; refine (rcheck_any _ _ _ L _ rfl hl hcap (Lib.hid (HL.out.below hbA))).mono ?_; rintro e w1 ⟨rfl, hb1⟩; rw [HZ.out]
                             have HB1 : Hid (Below w.heap.size w w1) := hbA.trans (hb1.mono (by simp))
                             have HR1 := Lib.hid (hR0.below hb1)
                             have r0 := HR1.out.c0
                             have r1 := HR1.out.c1
                             have r2 := HR1.out.c2
                             have r3 := HR1.out.c3
                             have r4 := HR1.out.c4
                             clear hb1)
      clear hbA hR0
      go_wp2
      go_ret2
      exact ⟨retI2 (by rw [HR.out]) (by rw [HR.out]), HB1.out⟩
    · have HR : Hid (ruleChk L a b cells free W = (20, 0)) := rc_a HZ.out (.inr h')
      go_enter Try.func26, Try.ntmps26
      go_upto_region 4 with (go_at_call 47; refine (rcheck_any _ _ _ L _ rfl hl hcap (Lib.hid (HL.out.below hbA))).mono ?_; rintro e w1 ⟨rfl, hb1⟩; rw [HZ.out]
                             have HB1 : Hid (Below w.heap.size w w1) := hbA.trans (hb1.mono (by simp))
                             have HR1 := Lib.hid (hR0.below hb1)
                             have r0 := HR1.out.c0
                             have r1 := HR1.out.c1
                             have r2 := HR1.out.c2
                             have r3 := HR1.out.c3
                             have r4 := HR1.out.c4
                             clear hb1)
      clear hbA hR0
      go_wp2
      go_ret2
      exact ⟨retI2 (by rw [HR.out]) (by rw [HR.out]), HB1.out⟩
    · have HA : Hid (0 ≤ a ∧ a < L.length) := ⟨h, h'⟩
      rcases (by omega : b < 0 ∨ (0 ≤ b ∧ (L.length : Int) ≤ b) ∨ (0 ≤ b ∧ b < L.length)) with g | ⟨g, g'⟩ | ⟨g, g'⟩
      · have HR : Hid (ruleChk L a b cells free W = (20, 1)) := rc_b HZ.out HA.out (.inl g)
        go_enter Try.func26, Try.ntmps26
        go_upto_region 4 with (go_at_call 47; refine (rcheck_any _ _ _ L _ rfl hl hcap (Lib.hid (HL.out.below hbA))).mono ?_; rintro e w1 ⟨rfl, hb1⟩; rw [HZ.out]
                               have HB1 : Hid (Below w.heap.size w w1) := hbA.trans (hb1.mono (by simp))
                               have HR1 := Lib.hid (hR0.below hb1)
                               have r0 := HR1.out.c0
                               have r1 := HR1.out.c1
                               have r2 := HR1.out.c2
                               have r3 := HR1.out.c3
                               have r4 := HR1.out.c4
                               clear hb1)
        clear hbA hR0
        go_wp2
        go_ret2
        exact ⟨retI2 (by rw [HR.out]) (by rw [HR.out]), HB1.out⟩
      · have HR : Hid (ruleChk L a b cells free W = (20, 1)) := rc_b HZ.out HA.out (.inr g')
        go_enter Try.func26, Try.ntmps26
        go_upto_region 4 with (go_at_call 47; refine (rcheck_any _ _ _ L _ rfl hl hcap (Lib.hid (HL.out.below hbA))).mono ?_; rintro e w1 ⟨rfl, hb1⟩; rw [HZ.out]
                               have HB1 : Hid (Below w.heap.size w w1) := hbA.trans (hb1.mono (by simp))
                               have HR1 := Lib.hid (hR0.below hb1)
                               have r0 := HR1.out.c0
                               have r1 := HR1.out.c1
                               have r2 := HR1.out.c2
                               have r3 := HR1.out.c3
                               have r4 := HR1.out.c4
                               clear hb1)
        clear hbA hR0
        go_wp2
        go_ret2
        exact ⟨retI2 (by rw [HR.out]) (by rw [HR.out]), HB1.out⟩
      · have HBb : Hid (0 ≤ b ∧ b < L.length) := ⟨g, g'⟩
        have HNc : Hid (∀ Z, Below w.heap.size w Z → Calls Try.prog 17 #[.slice A L.length cap, .agg #[.slice VA cells.length ca, .int .i64 free, .slice VB W.length cb]] Z fun e w' => e = .returned (.tuple #[.int .i64 (netChk (pnL L) L.length (chk L) cells free W).1, .int .i64 (netChk (pnL L) L.length (chk L) cells free W).2]) ∧ Below Z.heap.size Z w') := fun Z hz =>
          rcheck3 A _ cap L VA VB ca cb cells free W Z rfl hcap (Lib.hid (HL.out.below hz)) hl (Lib.hid (HC.out.below hz)) (Lib.hid (HW.out.below hz)) hc hw
        have HFc : Hid (∀ Z, Below w.heap.size w Z → Calls Try.prog 71 #[.slice A L.length cap, ruleV a b VA ca cells free VB cb W] Z fun e w' => e = .returned (.tuple #[.int .i64 (agA L a.toNat), .int .i64 (agA L b.toNat)]) ∧ Below Z.heap.size Z w') := fun Z hz =>
          faces_is A _ cap L a b VA VB ca cb cells free W Z rfl (Lib.hid (HL.out.below hz)) hl HA.out HBb.out
        cases hk1 : ((netChk (pnL L) L.length (chk L) cells free W).1 != 0)
        · have hk0 : (netChk (pnL L) L.length (chk L) cells free W).1 = 0 := by simpa using hk1
          have HK0 := Lib.hid hk0
          clear hk0 hk1
          by_cases h32 : 32 < cells.length
          · have HR : Hid (ruleChk L a b cells free W = (50, 32)) := rc_large HZ.out HA.out HBb.out HK0.out h32
            go_enter Try.func26, Try.ntmps26
            go_upto_region 4 with (go_at_call 47; refine (rcheck_any _ _ _ L _ rfl hl hcap (Lib.hid (HL.out.below hbA))).mono ?_; rintro e w1 ⟨rfl, hb1⟩; rw [HZ.out]
                                   have HB1 : Hid (Below w.heap.size w w1) := hbA.trans (hb1.mono (by simp))
                                   have HR1 := Lib.hid (hR0.below hb1)
                                   have r0 := HR1.out.c0
                                   have r1 := HR1.out.c1
                                   have r2 := HR1.out.c2
                                   have r3 := HR1.out.c3
                                   have r4 := HR1.out.c4
                                   clear hb1)
            clear hbA hR0
            go_wp2_with (go_at_call 17; refine (HNc.out _ HB1.out).mono ?_; rintro e w2 ⟨rfl, hb2⟩; rw [HK0.out]
                         have HB2 : Hid (Below w.heap.size w w2) := HB1.out.trans (hb2.mono HB1.out.size)
                         have q2 := (HR1.out.below hb2).c2
                         clear hb2)
            go_ret2
            exact ⟨retI2 (by rw [HR.out]) (by rw [HR.out]), HB2.out⟩
          · have hra := HS.out.ar a.toNat (by omega)
            have hrb := HS.out.ar b.toNat (by omega)
            have HRf : Hid (agA L a.toNat + agA L b.toNat ≠ free → ruleChk L a b cells free W = (51, agA L a.toNat + agA L b.toNat)) := fun h => rc_face HZ.out HA.out HBb.out HK0.out (by omega) h
            have HRo : Hid (agA L a.toNat + agA L b.toNat = free → ruleChk L a b cells free W = (0, 0)) := fun h => rc_ok HZ.out HA.out HBb.out HK0.out (by omega) h
            generalize agA L a.toNat = x at hra HRf HRo HFc
            generalize agA L b.toNat = y at hrb HRf HRo HFc
            obtain ⟨x1, x2⟩ := hra
            obtain ⟨y1, y2⟩ := hrb
            by_cases hf : x + y = free
            · have hfb : (free != (x + y)) = false := by simp [hf]
              have HR := Lib.hid (HRo.out hf)
              clear hf HRf HRo
              go_enter Try.func26, Try.ntmps26
              go_upto_region 4 with (go_at_call 47; refine (rcheck_any _ _ _ L _ rfl hl hcap (Lib.hid (HL.out.below hbA))).mono ?_; rintro e w1 ⟨rfl, hb1⟩; rw [HZ.out]
                                     have HB1 : Hid (Below w.heap.size w w1) := hbA.trans (hb1.mono (by simp))
                                     have HR1 := Lib.hid (hR0.below hb1)
                                     have r0 := HR1.out.c0
                                     have r1 := HR1.out.c1
                                     have r2 := HR1.out.c2
                                     have r3 := HR1.out.c3
                                     have r4 := HR1.out.c4
                                     clear hb1)
              clear hbA hR0
              go_wp2_with (first
                | (go_at_call 17; refine (HNc.out _ HB1.out).mono ?_; rintro e w2 ⟨rfl, hb2⟩; rw [HK0.out]
                   have HB2 : Hid (Below w.heap.size w w2) := HB1.out.trans (hb2.mono HB1.out.size)
                   have HR2 := Lib.hid (HR1.out.below hb2)
                   have q0 := HR2.out.c0
                   have q1 := HR2.out.c1
                   have q2 := HR2.out.c2
                   have q3 := HR2.out.c3
                   have q4 := HR2.out.c4
                   clear hb2)
                | (go_at_call 71; refine (HFc.out _ HB2.out).mono ?_; rintro e w3 ⟨rfl, hb3⟩
                   have HB3 : Hid (Below w.heap.size w w3) := HB2.out.trans (hb3.mono HB2.out.size)
                   have s3 := (HR2.out.below hb3).c3
                   clear hb3))
              go_ret2
              exact ⟨retI2 (by rw [HR.out]) (by rw [HR.out]), HB3.out⟩
            · have hfb : (free != (x + y)) = true := by simp; omega
              have HR := Lib.hid (HRf.out hf)
              clear hf HRf HRo
              go_enter Try.func26, Try.ntmps26
              go_upto_region 4 with (go_at_call 47; refine (rcheck_any _ _ _ L _ rfl hl hcap (Lib.hid (HL.out.below hbA))).mono ?_; rintro e w1 ⟨rfl, hb1⟩; rw [HZ.out]
                                     have HB1 : Hid (Below w.heap.size w w1) := hbA.trans (hb1.mono (by simp))
                                     have HR1 := Lib.hid (hR0.below hb1)
                                     have r0 := HR1.out.c0
                                     have r1 := HR1.out.c1
                                     have r2 := HR1.out.c2
                                     have r3 := HR1.out.c3
                                     have r4 := HR1.out.c4
                                     clear hb1)
              clear hbA hR0
              go_wp2_with (first
                | (go_at_call 17; refine (HNc.out _ HB1.out).mono ?_; rintro e w2 ⟨rfl, hb2⟩; rw [HK0.out]
                   have HB2 : Hid (Below w.heap.size w w2) := HB1.out.trans (hb2.mono HB1.out.size)
                   have HR2 := Lib.hid (HR1.out.below hb2)
                   have q0 := HR2.out.c0
                   have q1 := HR2.out.c1
                   have q2 := HR2.out.c2
                   have q3 := HR2.out.c3
                   have q4 := HR2.out.c4
                   clear hb2)
                | (go_at_call 71; refine (HFc.out _ HB2.out).mono ?_; rintro e w3 ⟨rfl, hb3⟩
                   have HB3 : Hid (Below w.heap.size w w3) := HB2.out.trans (hb3.mono HB2.out.size)
                   have s3 := (HR2.out.below hb3).c3
                   clear hb3))
              go_ret2
              exact ⟨retI2 (by rw [HR.out]) (by rw [HR.out]), HB3.out⟩
        · have hk0 : (netChk (pnL L) L.length (chk L) cells free W).1 ≠ 0 := by simpa using hk1
          have HR : Hid (ruleChk L a b cells free W = netChk (pnL L) L.length (chk L) cells free W) := rc_net HZ.out HA.out HBb.out hk0
          clear hk0
          go_enter Try.func26, Try.ntmps26
          go_upto_region 4 with (go_at_call 47; refine (rcheck_any _ _ _ L _ rfl hl hcap (Lib.hid (HL.out.below hbA))).mono ?_; rintro e w1 ⟨rfl, hb1⟩; rw [HZ.out]
                                 have HB1 : Hid (Below w.heap.size w w1) := hbA.trans (hb1.mono (by simp))
                                 have HR1 := Lib.hid (hR0.below hb1)
                                 have r0 := HR1.out.c0
                                 have r1 := HR1.out.c1
                                 have r2 := HR1.out.c2
                                 have r3 := HR1.out.c3
                                 have r4 := HR1.out.c4
                                 clear hb1)
          clear hbA hR0
          go_wp2_with (go_at_call 17; refine (HNc.out _ HB1.out).mono ?_; rintro e w2 ⟨rfl, hb2⟩
                       have HB2 : Hid (Below w.heap.size w w2) := HB1.out.trans (hb2.mono HB1.out.size)
                       clear hb2)
          go_ret2
          exact ⟨retI2 (by rw [HR.out]) (by rw [HR.out]), HB2.out⟩
  · have hz : (chk L).1 ≠ 0 := by simpa using hsg
    have HR : Hid (ruleChk L a b cells free W = chk L) := rc_sig hz
    clear hz
    go_enter Try.func26, Try.ntmps26
    go_wp2_with (go_at_call 47; refine (rcheck_any _ _ _ L _ rfl hl hcap (Lib.hid (HL.out.below hbA))).mono ?_; rintro e w1 ⟨rfl, hb1⟩; have HB1 : Hid (Below w.heap.size w w1) := hbA.trans (hb1.mono (by simp)))
    go_ret2
    exact ⟨retI2 (by rw [HR.out]) (by rw [HR.out]), HB1.out⟩
end
end Go.Proofs.Ytcebejcdfdahjaa
