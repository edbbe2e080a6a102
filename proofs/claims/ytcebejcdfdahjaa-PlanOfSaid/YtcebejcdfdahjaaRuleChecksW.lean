/-
  The walk of RuleChecks.
-/
import Derived.Test.YtcebejcdfdahjaaRuleWorks
import Derived.Test.YtcebejcdfdahjaaRefFlip
import Derived.Test.YtcebejcdfdahjaaRef15N
namespace Go.Proofs.Ytcebejcdfdahjaa
open Go.RowKit
attribute [local go_sem] cell_set
set_option maxRecDepth 100000
set_option linter.unusedVariables false

theorem IntsRd.nil2 (w : World) (A : Option Addr) : IntsRd w A [] := fun i hi => by simp at hi
theorem WrRd.nil2 (w : World) (A : Option Addr) : WrRd w A [] := fun i hi => by simp at hi
theorem much15 (A : Option Addr) (n cap : Nat) (L : List (ByteArray × Int)) (a b : Int) (VA VB : Option Addr) (n1 n2 ca cb : Nat) (free : Int) (w : World) (hn : n = L.length) (hl : L.length ≤ maxLen) (HL : Hid (AgRd w A L)) (h1 : n1 ≤ maxLen) (h2 : n2 ≤ maxLen) :
    Calls Try.prog 49 #[.slice A n cap, .agg #[.int .i64 a, .int .i64 b, .slice VA n1 ca, .int .i64 free, .slice VB n2 cb]] w (SomeB (fun r => r = false → L.length ≤ 1024 ∧ n1 ≤ 8192 ∧ n2 ≤ 32768) w) := by
  subst hn
  have hbA : ∀ o : Obj, Below w.heap.size w (w.alloc o) := fun o => (Below.refl _ _).alloc (Nat.le_refl _) o
  unfold maxLen at hl h1 h2
  by_cases c1 : 1024 < L.length
  · go_enter Try.func49, Try.ntmps49
    go_wp2
    go_ret
    exact ⟨_, rfl, fun h => by simp at h, hbA _⟩
  · have HSz : Hid (∀ Z, Below w.heap.size w Z → Calls Try.prog 22 #[.slice A L.length cap] Z (SomeI Z)) := fun Z hz => size_agents A _ cap L Z rfl (by simp only [maxLen]; omega) (Lib.hid (HL.out.below hz))
    go_enter Try.func49, Try.ntmps49
    go_wp2_with fail
    refine (HSz.out _ (hbA _)).mono ?_
    rintro e w1 ⟨m, rfl, rfl⟩
    go_wp2_with fail
    refine (long_is m _).mono ?_
    rintro e w1 ⟨rfl, rfl⟩
    by_cases c2 : 2147483647 < m
    · have d2 : decide (2147483647 < m) = true := by simpa using c2
      rw [d2]
      go_wp2
      go_ret
      exact ⟨_, rfl, fun h => by simp at h, hbA _⟩
    · have d2 : decide (2147483647 < m) = false := by simpa using c2
      rw [d2]
      by_cases c3 : 8192 < n1
      · go_wp2
        go_ret
        exact ⟨_, rfl, fun h => by simp at h, hbA _⟩
      · go_wp2
        go_ret
        exact ⟨_, rfl, fun h => by simp at h; omega, hbA _⟩
/-- A rule in a box, with its lists. -/
def RLs (k : Nat) (a b : Int) (VA : Option Addr) (ca : Nat) (cells : List Int) (free : Int) (VB : Option Addr) (cb : Nat) (W : List (Pt × Pt)) (X : World) : Prop := RBx X k a b VA cells.length ca free VB W.length cb ∧ IntsRd X VA cells ∧ WrRd X VB W
section
variable {k : Nat} {a b : Int} {VA : Option Addr} {ca : Nat} {cells : List Int} {free : Int} {VB : Option Addr} {cb : Nat} {W : List (Pt × Pt)} {X X' : World}
theorem RLs.below (h : RLs k a b VA ca cells free VB cb W X) (hb : Below X.heap.size X X') : RLs k a b VA ca cells free VB cb W X' := ⟨h.1.below hb, h.2.1.below hb, h.2.2.below hb⟩
theorem RLs.c (h : RLs k a b VA ca cells free VB cb W X) : X.cell? ⟨k, 0, none⟩ = some (.int .i64 a) ∧ X.cell? ⟨k, 1, none⟩ = some (.int .i64 b) ∧ X.cell? ⟨k, 2, none⟩ = some (.slice VA cells.length ca) ∧ X.cell? ⟨k, 3, none⟩ = some (.int .i64 free) ∧ X.cell? ⟨k, 4, none⟩ = some (.slice VB W.length cb) := ⟨h.1.c0, h.1.c1, h.1.c2, h.1.c3, h.1.c4⟩
theorem RLs.new (X : World) (h1 : IntsRd X VA cells) (h2 : WrRd X VB W) : RLs X.heap.size a b VA ca cells free VB cb W (X.alloc (.cells #[.int .i64 a, .int .i64 b, .slice VA cells.length ca, .int .i64 free, .slice VB W.length cb] 44)) :=
  ⟨⟨by simp, by go_simp, by go_simp, by go_simp, by go_simp, by go_simp⟩, h1.below ((Below.refl _ _).alloc (Nat.le_refl _) _), h2.below ((Below.refl _ _).alloc (Nat.le_refl _) _)⟩
end
theorem alB (X : World) (o : Obj) : Below X.heap.size X (X.alloc o) := (Below.refl _ _).alloc (Nat.le_refl _) o
/-- A rule that may be, with all that is known of it. -/
structure RuleK (L : List (ByteArray × Int)) (ka kb na nb M : Nat) (cells : List Int) (W : List (Pt × Pt)) : Prop where
  sg : (chk L).1 = 0
  a : ka < L.length
  b : kb < L.length
  ea : agA L ka = na
  eb : agA L kb = nb
  m : M = na + nb
  a6 : na ≤ 6
  b6 : nb ≤ 6
  c32 : cells.length ≤ 32
  ag : ∀ i, i < cells.length → 0 ≤ cells.getD i 0 ∧ cells.getD i 0 < L.length
  ok : NetOk (pnL L) cells M W
theorem ruleK_of {L : List (ByteArray × Int)} {a b free : Int} {cells : List Int} {W : List (Pt × Pt)} (h : (ruleChk L a b cells free W).1 = 0) : ∃ ka kb na nb M : Nat, a = ka ∧ b = kb ∧ free = M ∧ RuleK L ka kb na nb M cells W := by
  obtain ⟨h1, h2, h3, h4, h5, h6⟩ := rc_of h
  have hs := chk_sig h1
  obtain ⟨ka, rfl⟩ := Int.eq_ofNat_of_zero_le h2.1
  obtain ⟨kb, rfl⟩ := Int.eq_ofNat_of_zero_le h3.1
  have hka : ka < L.length := by omega
  have hkb : kb < L.length := by omega
  obtain ⟨na, hna⟩ := Int.eq_ofNat_of_zero_le (hs.ar ka hka).1
  obtain ⟨nb, hnb⟩ := Int.eq_ofNat_of_zero_le (hs.ar kb hkb).1
  have ha := (hs.ar ka hka).2
  have hb := (hs.ar kb hkb).2
  rw [Int.toNat_natCast, Int.toNat_natCast, hna, hnb] at h6
  obtain ⟨k1, k2, k3, k4, k5, k6⟩ := netChk_ok h4
  have hM : free = ((na + nb : Nat) : Int) := by omega
  subst hM
  exact ⟨ka, kb, na, nb, na + nb, rfl, rfl, rfl, h1, hka, hkb, hna, hnb, rfl, by omega, by omega, h5, k5, k6⟩
theorem RuleK.chk {L : List (ByteArray × Int)} {ka kb na nb M : Nat} {cells : List Int} {W : List (Pt × Pt)} (h : RuleK L ka kb na nb M cells W) : ruleChk L ka kb cells (M : Int) W = (0, 0) := by
  have hm := h.m
  have ha6 := h.a6
  have hb6 := h.b6
  have hc := h.c32
  have hka := h.a
  have hkb := h.b
  exact rc_ok h.sg (by omega) (by omega) (by rw [netChk_of h.sg (by omega) (by omega) h.ag h.ok]) hc (by rw [Int.toNat_natCast, Int.toNat_natCast, h.ea, h.eb]; omega)
theorem RuleK.flip {L : List (ByteArray × Int)} {ka kb na nb M : Nat} {cells : List Int} {W : List (Pt × Pt)} (h : RuleK L ka kb na nb M cells W) : RuleK L kb ka nb na M cells (tidyW (allPs (pnL L) cells M) (moveW (idsN cells.length) (flipN na nb M) W)) := by
  have hok := h.ok
  have hm := h.m
  refine ⟨h.sg, h.b, h.a, h.eb, h.ea, by omega, h.b6, h.a6, h.c32, h.ag, ?_⟩
  subst hm
  exact flip_ok hok
theorem RuleK.tidy {L : List (ByteArray × Int)} {ka kb na nb M : Nat} {cells : List Int} {W : List (Pt × Pt)} (h : RuleK L ka kb na nb M cells W) : RuleK L ka kb na nb M cells (tidyW (allPs (pnL L) cells M) W) :=
  ⟨h.sg, h.a, h.b, h.ea, h.eb, h.m, h.a6, h.b6, h.c32, h.ag, h.ok.tidy⟩
theorem RuleK.back {L : List (ByteArray × Int)} {ka kb na nb M : Nat} {cells : List Int} {W : List (Pt × Pt)} (h : RuleK L ka kb na nb M cells W) : tidyW (allPs (pnL L) cells M) (moveW (idsN cells.length) (flipN nb na M) (tidyW (allPs (pnL L) cells M) (moveW (idsN cells.length) (flipN na nb M) W))) = tidyW (allPs (pnL L) cells M) W := by
  have hok := h.ok
  have hm := h.m
  subst hm
  exact flip_back hok
theorem RuleK.len {L : List (ByteArray × Int)} {ka kb na nb M : Nat} {cells : List Int} {W : List (Pt × Pt)} (h : RuleK L ka kb na nb M cells W) (W' : List (Pt × Pt)) : (tidyW (allPs (pnL L) cells M) W').length ≤ 500 := by
  have h1 : (tidyW (allPs (pnL L) cells M) W').length ≤ (allPs (pnL L) cells M).length := List.length_filterMap_le _ _
  have h2 := firstN_le (pnL_le (chk_sig h.sg)) cells M cells.length
  rw [allPs_len] at h1
  have := h.m
  have := h.a6
  have := h.b6
  have := h.c32
  omega
section
variable (A : Option Addr) (n cap : Nat) (L : List (ByteArray × Int)) (w : World)
/-- The contracts of the rule's functions, of a rule that may be. -/
structure RuleC (L : List (ByteArray × Int)) (ka kb : Int) (cells : List Int) (M : Int) (W T U : List (Pt × Pt)) : Prop where
  ck : ∀ A cap VA ca VB cb Z, L.length ≤ cap → AgRd Z A L → IntsRd Z VA cells → WrRd Z VB W → Calls Try.prog 50 #[.slice A L.length cap, ruleV ka kb VA ca cells M VB cb W] Z fun e w' => e = .returned (.tuple #[.int .i64 0, .int .i64 0]) ∧ Below Z.heap.size Z w'
  rck : ∀ A cap VA ca VB cb Z, L.length ≤ cap → AgRd Z A L → IntsRd Z VA cells → WrRd Z VB W → Calls Try.prog 26 #[.slice A L.length cap, ruleV ka kb VA ca cells M VB cb W] Z fun e w' => e = .returned (.tuple #[.int .i64 0, .int .i64 0]) ∧ Below Z.heap.size Z w'
  td : ∀ A cap VA ca VB cb Z, L.length ≤ cap → AgRd Z A L → IntsRd Z VA cells → WrRd Z VB W → Calls Try.prog 51 #[.slice A L.length cap, ruleV ka kb VA ca cells M VB cb W] Z fun e w' => ∃ V1 c1 V2 c2, e = .returned (.tuple #[ruleV ka kb V1 c1 cells M V2 c2 T, .int .i64 0]) ∧ NetFresh Z w' V1 c1 cells V2 c2 T
  rtd : ∀ A cap VA ca VB cb Z, L.length ≤ cap → AgRd Z A L → IntsRd Z VA cells → WrRd Z VB W → Calls Try.prog 31 #[.slice A L.length cap, ruleV ka kb VA ca cells M VB cb W] Z fun e w' => ∃ V1 c1 V2 c2, e = .returned (ruleV ka kb V1 c1 cells M V2 c2 T) ∧ NetFresh Z w' V1 c1 cells V2 c2 T
  fl : ∀ A cap VA ca VB cb Z, L.length ≤ cap → AgRd Z A L → IntsRd Z VA cells → WrRd Z VB W → Calls Try.prog 52 #[.slice A L.length cap, ruleV ka kb VA ca cells M VB cb W] Z fun e w' => ∃ V1 c1 V2 c2, e = .returned (.tuple #[ruleV kb ka V1 c1 cells M V2 c2 U, .int .i64 0]) ∧ NetFresh Z w' V1 c1 cells V2 c2 U
  rfl' : ∀ A cap VA ca VB cb Z, L.length ≤ cap → AgRd Z A L → IntsRd Z VA cells → WrRd Z VB W → Calls Try.prog 53 #[.slice A L.length cap, ruleV ka kb VA ca cells M VB cb W] Z fun e w' => ∃ V1 c1 V2 c2, e = .returned (ruleV kb ka V1 c1 cells M V2 c2 U) ∧ NetFresh Z w' V1 c1 cells V2 c2 U
theorem RuleK.calls {ka kb na nb M : Nat} {cells : List Int} {W : List (Pt × Pt)} (h : RuleK L ka kb na nb M cells W) (hl : L.length ≤ maxLen) (hw : W.length ≤ 40000) :
    RuleC L ka kb cells M W (tidyW (allPs (pnL L) cells M) W) (tidyW (allPs (pnL L) cells M) (moveW (idsN cells.length) (flipN na nb M) W)) := by
  have hk := h.chk
  have hm := h.m
  have ha6 := h.a6
  have hb6 := h.b6
  have hc := h.c32
  refine ⟨fun A cap VA ca VB cb Z h1 h2 h3 h4 => ?_, fun A cap VA ca VB cb Z h1 h2 h3 h4 => ?_, fun A cap VA ca VB cb Z h1 h2 h3 h4 => ?_, fun A cap VA ca VB cb Z h1 h2 h3 h4 => ?_, fun A cap VA ca VB cb Z h1 h2 h3 h4 => ?_, fun A cap VA ca VB cb Z h1 h2 h3 h4 => ?_⟩
  · have := rule_check A _ cap L ka kb VA VB ca cb cells M W Z rfl h1 (Lib.hid h2) hl (Lib.hid h3) (Lib.hid h4) (by omega) hw
    rwa [hk] at this
  · have := rrule_check A _ cap L ka kb VA VB ca cb cells M W Z rfl h1 (Lib.hid h2) hl (Lib.hid h3) (Lib.hid h4) (by omega) hw
    rwa [hk] at this
  · exact rule_tidy_ok A _ cap L ka kb VA VB ca cb cells M W Z rfl h1 (Lib.hid h2) hl (Lib.hid h3) (Lib.hid h4) (by omega) hw (by rw [hk])
  · exact rneat15 A _ cap L ka kb VA VB ca cb cells M W Z rfl (Lib.hid h2) (chk_sig h.sg) (Lib.hid h3) (Lib.hid h4) (by omega) (by omega) hw (Lib.hid h.ok)
  · exact rule_flip_ok A _ cap L ka kb na nb VA VB ca cb cells W Z M hm rfl h1 (Lib.hid h2) hl (Lib.hid h3) (Lib.hid h4) (by omega) hw h.ea h.eb (by rw [hk])
  · exact rflipped A _ cap L ka kb na nb VA VB ca cb cells W Z M hm rfl hl (Lib.hid h2) (chk_sig h.sg) (Lib.hid h3) (Lib.hid h4) (by omega) hw h.a h.b h.ea h.eb (Lib.hid h.ok)
end
end Go.Proofs.Ytcebejcdfdahjaa
