/-
  The walk of RuleChecks.
-/
import Derived.Test.YtcebejcdfdahjaaRuleChecksW
import Derived.Deep.DeepCutAuto
namespace Go.Proofs.Ytcebejcdfdahjaa
open Go.RowKit
attribute [local go_sem] cell_set
set_option maxRecDepth 100000
set_option linter.unusedVariables false

section
variable (A : Option Addr) (n cap : Nat) (L : List (ByteArray × Int)) (a b : Int) (VA VB : Option Addr) (ca cb : Nat) (cells : List Int) (free : Int) (W : List (Pt × Pt)) (w : World)
set_option maxHeartbeats 4000000 in
theorem checks_bad (hn : n = L.length) (hcap : L.length ≤ cap) (HL : Hid (AgRd w A L)) (hl : L.length ≤ maxLen) (HC : Hid (IntsRd w VA cells)) (HW : Hid (WrRd w VB W)) (hc : cells.length ≤ maxLen) (hw : W.length ≤ maxLen) (hk : (ruleChk L a b cells free W).1 ≠ 0) :
    Calls Try.prog 9 #[.slice A n cap, ruleV a b VA ca cells free VB cb W] w fun e w' => e = .returned (.bool true) ∧ Below w.heap.size w w' := by
  subst hn
  have hbA : Below w.heap.size w (w.alloc (.cells #[.int .i64 a, .int .i64 b, .slice VA cells.length ca, .int .i64 free, .slice VB W.length cb] 44)) := alB _ _
  have HR0 : Hid (RLs w.heap.size a b VA ca cells free VB cb W (w.alloc (.cells #[.int .i64 a, .int .i64 b, .slice VA cells.length ca, .int .i64 free, .slice VB W.length cb] 44))) := RLs.new w HC.out HW.out
  have HM : Hid (∀ Z, Below w.heap.size w Z → Calls Try.prog 49 #[.slice A L.length cap, .agg #[.int .i64 a, .int .i64 b, .slice VA cells.length ca, .int .i64 free, .slice VB W.length cb]] Z (SomeB (fun r => r = false → L.length ≤ 1024 ∧ cells.length ≤ 8192 ∧ W.length ≤ 32768) Z)) := fun Z hz =>
    much15 A _ cap L a b VA VB cells.length W.length ca cb free Z rfl hl (Lib.hid (HL.out.below hz)) hc hw
  obtain ⟨K, hK⟩ : ∃ K, K = (ruleChk L a b cells free W).1 := ⟨_, rfl⟩
  obtain ⟨K2, hK2⟩ : ∃ K2, K2 = (ruleChk L a b cells free W).2 := ⟨_, rfl⟩
  have HCk : Hid (∀ A cap VA ca VB cb Z, W.length ≤ 32768 → cells.length ≤ 8192 → L.length ≤ cap → AgRd Z A L → IntsRd Z VA cells → WrRd Z VB W → Calls Try.prog 50 #[.slice A L.length cap, ruleV a b VA ca cells free VB cb W] Z fun e w' => e = .returned (.tuple #[.int .i64 K, .int .i64 K2]) ∧ Below Z.heap.size Z w') := fun A cap VA ca VB cb Z g1 g2 h1 h2 h3 h4 => by
    rw [hK, hK2]; exact rule_check A _ cap L a b VA VB ca cb cells free W Z rfl h1 (Lib.hid h2) hl (Lib.hid h3) (Lib.hid h4) (by omega) (by omega)
  have HRk : Hid (∀ A cap VA ca VB cb Z, W.length ≤ 32768 → cells.length ≤ 8192 → L.length ≤ cap → AgRd Z A L → IntsRd Z VA cells → WrRd Z VB W → Calls Try.prog 26 #[.slice A L.length cap, ruleV a b VA ca cells free VB cb W] Z fun e w' => e = .returned (.tuple #[.int .i64 K, .int .i64 K2]) ∧ Below Z.heap.size Z w') := fun A cap VA ca VB cb Z g1 g2 h1 h2 h3 h4 => by
    rw [hK, hK2]; exact rrule_check A _ cap L a b VA VB ca cb cells free W Z rfl h1 (Lib.hid h2) hl (Lib.hid h3) (Lib.hid h4) (by omega) (by omega)
  have HTd : Hid (∀ A cap VA ca VB cb Z, W.length ≤ 32768 → cells.length ≤ 8192 → L.length ≤ cap → AgRd Z A L → IntsRd Z VA cells → WrRd Z VB W → Calls Try.prog 51 #[.slice A L.length cap, ruleV a b VA ca cells free VB cb W] Z fun e w' => e = .returned (.tuple #[ruleV 0 0 none 0 [] 0 none 0 [], .int .i64 K]) ∧ Below Z.heap.size Z w') := fun A cap VA ca VB cb Z g1 g2 h1 h2 h3 h4 => by
    rw [hK]; exact rule_tidy_bad A _ cap L a b VA VB ca cb cells free W Z rfl h1 (Lib.hid h2) hl (Lib.hid h3) (Lib.hid h4) (by omega) (by omega) hk
  have HFl : Hid (∀ A cap VA ca VB cb Z, W.length ≤ 32768 → cells.length ≤ 8192 → L.length ≤ cap → AgRd Z A L → IntsRd Z VA cells → WrRd Z VB W → Calls Try.prog 52 #[.slice A L.length cap, ruleV a b VA ca cells free VB cb W] Z fun e w' => e = .returned (.tuple #[ruleV 0 0 none 0 [] 0 none 0 [], .int .i64 K]) ∧ Below Z.heap.size Z w') := fun A cap VA ca VB cb Z g1 g2 h1 h2 h3 h4 => by
    rw [hK]; exact rule_flip_bad A _ cap L a b VA VB ca cb cells free W Z rfl h1 (Lib.hid h2) hl (Lib.hid h3) (Lib.hid h4) (by omega) (by omega) hk
  have HE0 : Hid (∀ Z, Calls Try.prog 30 #[.agg #[.int .i64 0, .int .i64 0, .slice none 0 0, .int .i64 0, .slice none 0 0], .agg #[.int .i64 0, .int .i64 0, .slice none 0 0, .int .i64 0, .slice none 0 0]] Z fun e w' => e = .returned (.bool true) ∧ Below Z.heap.size Z w') := fun Z =>
    eq_rule 0 0 0 0 none none none none 0 0 0 0 [] [] 0 0 [] [] Z (by simp) (by simp) (by simp) (by simp) (Lib.hid (IntsRd.nil2 _ _)) (Lib.hid (WrRd.nil2 _ _)) (Lib.hid (IntsRd.nil2 _ _)) (Lib.hid (WrRd.nil2 _ _)) ⟨rfl, rfl, rfl, rfl, rfl⟩
  have hkb : (K != 0) = true := by rw [hK]; simpa using hk
  clear hK hK2 hk
  go_enter Try.func9, Try.ntmps9
  go_wp2_with fail
  refine (HM.out _ hbA).mono ?_
  rintro e w1 ⟨r, rfl, hr, hb1⟩
  have HB1 : Hid (Below w.heap.size w w1) := hbA.trans (hb1.mono (by simp))
  have H01 := Lib.hid (HR0.out.below hb1)
  have HRr := Lib.hid hr
  clear hb1 hr hbA HR0
  obtain ⟨x0, x1, x2, x3, x4⟩ := H01.out.c
  have hz0 := H01.out.1.lt
  cases r
  case true =>
    go_wp2_with (go_at_call 45; refine (works15 _).mono ?_; rintro e w9 ⟨rfl, hb9⟩)
    go_ret
    exact ⟨rfl, HB1.out.trans (hb9.mono HB1.out.size)⟩
  obtain ⟨hl1, hc1, hw1⟩ := HRr.out rfl
  clear HRr
  go_wp2_with fail
  refine (copy_rule a b VA VB ca cb cells free W _ (by omega) (by omega) (Lib.hid H01.out.2.1) (Lib.hid H01.out.2.2)).mono ?_
  rintro e w2 ⟨V1, c1, V2, c2, rfl, hnf⟩
  have hb2 := hnf.1.2.2
  have HB2 : Hid (Below w.heap.size w w2) := HB1.out.trans (hb2.mono HB1.out.size)
  have H02 := Lib.hid (H01.out.below hb2)
  have N2 : Hid (IntsRd w2 V1 cells ∧ WrRd w2 V2 W) := ⟨hnf.1.1.ints, hnf.2.1.wires⟩
  clear x0 x1 x2 x3 x4 hz0 hb2 hnf H01 HB1
  go_wp2_with fail
  refine (copy_agents A cap L _ (HL.out.below (HB2.out.alloc HB2.out.size _)) (by omega)).mono ?_
  rintro e w3 ⟨V3, c3, rfl, F3⟩
  have hb3 := F3.2.2
  have HB3 : Hid (Below w.heap.size w w3) := HB2.out.trans (((alB _ _).trans (hb3.mono (by simp))).mono HB2.out.size)
  have H03 := Lib.hid ((H02.out.below (alB _ _)).below hb3)
  have H53 : Hid (RLs w2.heap.size a b V1 c1 cells free V2 c2 W w3) := (RLs.new w2 N2.out.1 N2.out.2).below hb3
  have HA3 : Hid (L.length ≤ c3 ∧ AgRd w3 V3 L) := ⟨by obtain ⟨_, _, h, hh⟩ := F3.1.len; simp only [Value.slice.injEq, true_and] at h; omega, F3.1.agents⟩
  clear hb3 F3 N2 H02 HB2
  obtain ⟨y0, y1, y2, y3, y4⟩ := H53.out.c
  have hz5 := H53.out.1.lt
  go_wp2_with fail
  refine (HCk.out V3 c3 V1 c1 V2 c2 _ hw1 hc1 HA3.out.1 HA3.out.2 H53.out.2.1 H53.out.2.2).mono ?_
  rintro e w4 ⟨rfl, hb4⟩
  have HB4 : Hid (Below w.heap.size w w4) := HB3.out.trans (hb4.mono HB3.out.size)
  have H04 := Lib.hid (H03.out.below hb4)
  have H54 := Lib.hid (H53.out.below hb4)
  have HA4 : Hid (L.length ≤ c3 ∧ AgRd w4 V3 L) := ⟨HA3.out.1, HA3.out.2.below hb4⟩
  clear hb4 y0 y1 y2 y3 y4 hz5 HB3 H03 H53 HA3
  obtain ⟨x0, x1, x2, x3, x4⟩ := H04.out.c
  have hz0 := H04.out.1.lt
  go_wp2_with fail
  refine (HRk.out A cap VA ca VB cb _ hw1 hc1 hcap (HL.out.below HB4.out) H04.out.2.1 H04.out.2.2).mono ?_
  rintro e w5 ⟨rfl, hb5⟩
  have HB5 : Hid (Below w.heap.size w w5) := HB4.out.trans (hb5.mono HB4.out.size)
  have H05 := Lib.hid (H04.out.below hb5)
  have H55 := Lib.hid (H54.out.below hb5)
  have HA5 : Hid (L.length ≤ c3 ∧ AgRd w5 V3 L) := ⟨HA4.out.1, HA4.out.2.below hb5⟩
  clear hb5 x0 x1 x2 x3 x4 hz0 HB4 H04 H54 HA4
  obtain ⟨y0, y1, y2, y3, y4⟩ := H55.out.c
  have hz5 := H55.out.1.lt
  go_wp2_with fail
  refine (HTd.out V3 c3 V1 c1 V2 c2 _ hw1 hc1 HA5.out.1 HA5.out.2 H55.out.2.1 H55.out.2.2).mono ?_
  rintro e w6 ⟨rfl, hb6⟩
  have HB6 : Hid (Below w.heap.size w w6) := HB5.out.trans (hb6.mono HB5.out.size)
  have H06 := Lib.hid (H05.out.below hb6)
  have H56 := Lib.hid (H55.out.below hb6)
  have HA6 : Hid (L.length ≤ c3 ∧ AgRd w6 V3 L) := ⟨HA5.out.1, HA5.out.2.below hb6⟩
  clear hb6 y0 y1 y2 y3 y4 hz5 HB5 H05 H55 HA5
  obtain ⟨y0, y1, y2, y3, y4⟩ := H56.out.c
  have hz5 := H56.out.1.lt
  go_wp2_with fail
  have h5a := H56.out.below (alB w6 (.cells #[.int .i64 0, .int .i64 0, .slice none 0 0, .int .i64 0, .slice none 0 0] 44))
  refine (HFl.out V3 c3 V1 c1 V2 c2 _ hw1 hc1 HA6.out.1 (HA6.out.2.below (alB _ _)) h5a.2.1 h5a.2.2).mono ?_
  rintro e w7 ⟨rfl, hb7⟩
  have hb67 : Below w6.heap.size w6 w7 := (alB _ _).trans (hb7.mono (by simp))
  have HB7 : Hid (Below w.heap.size w w7) := HB6.out.trans (hb67.mono HB6.out.size)
  have H07 := Lib.hid (H06.out.below hb67)
  have H57 := Lib.hid (H56.out.below hb67)
  have z11 : RLs w6.heap.size 0 0 none 0 [] 0 none 0 [] w7 := (RLs.new (cells := []) (W := []) w6 (IntsRd.nil2 _ _) (WrRd.nil2 _ _)).below hb7
  have HZ11 := Lib.hid z11
  clear hb7 hb67 h5a y0 y1 y2 y3 y4 hz5 HB6 H06 H56 HA6 z11
  obtain ⟨y0, y1, y2, y3, y4⟩ := H57.out.c
  have hz5 := H57.out.1.lt
  obtain ⟨x0, x1, x2, x3, x4⟩ := H07.out.c
  have hz0 := H07.out.1.lt
  go_wp2_with fail
  have h5b := H57.out.below (alB w7 (.cells #[.int .i64 0, .int .i64 0, .slice none 0 0, .int .i64 0, .slice none 0 0] 44))
  have h0b := H07.out.below (alB w7 (.cells #[.int .i64 0, .int .i64 0, .slice none 0 0, .int .i64 0, .slice none 0 0] 44))
  refine (eq_rule a b a b V1 V2 VA VB c1 c2 ca cb cells cells free free W W _ (by omega) (by omega) (by omega) (by omega) (Lib.hid h5b.2.1) (Lib.hid h5b.2.2) (Lib.hid h0b.2.1) (Lib.hid h0b.2.2) ⟨rfl, rfl, rfl, rfl, rfl⟩).mono ?_
  rintro e w8 ⟨rfl, hb8⟩
  have hb78 : Below w7.heap.size w7 w8 := (alB _ _).trans (hb8.mono (by simp))
  have HB8 : Hid (Below w.heap.size w w8) := HB7.out.trans (hb78.mono HB7.out.size)
  have z13 : RLs w7.heap.size 0 0 none 0 [] 0 none 0 [] w8 := (RLs.new (cells := []) (W := []) w7 (IntsRd.nil2 _ _) (WrRd.nil2 _ _)).below hb8
  have HZ13 := Lib.hid z13
  have HZ11b := Lib.hid (HZ11.out.below hb78)
  clear hb8 hb78 h5b h0b y0 y1 y2 y3 y4 hz5 x0 x1 x2 x3 x4 hz0 HB7 H07 H57 HZ11 z13
  obtain ⟨y0, y1, y2, y3, y4⟩ := HZ11b.out.c
  have hz5 := HZ11b.out.1.lt
  simp only [List.length_nil] at y2 y4
  go_wp2_with fail
  refine (HE0.out _).mono ?_
  rintro e w9 ⟨rfl, hb9⟩
  have HB9 : Hid (Below w.heap.size w w9) := HB8.out.trans (hb9.mono HB8.out.size)
  have HZ13b := Lib.hid (HZ13.out.below hb9)
  clear hb9 y0 y1 y2 y3 y4 hz5
  obtain ⟨y0, y1, y2, y3, y4⟩ := HZ13b.out.c
  have hz5 := HZ13b.out.1.lt
  simp only [List.length_nil] at y2 y4
  go_wp2_with fail
  refine (HE0.out _).mono ?_
  rintro e wa ⟨rfl, hba⟩
  have HBa : Hid (Below w.heap.size w wa) := HB9.out.trans (hba.mono HB9.out.size)
  clear hba
  go_wp2_with (go_at_call 45; refine (works15 _).mono ?_; rintro e wb ⟨rfl, hbb⟩)
  go_ret
  exact ⟨rfl, HBa.out.trans (hbb.mono HBa.out.size)⟩
end
section
variable (A : Option Addr) (n cap : Nat) (L : List (ByteArray × Int)) (ka kb M : Nat) (VA VB : Option Addr) (ca cb : Nat) (cells : List Int) (W : List (Pt × Pt)) (w : World)
set_option maxHeartbeats 4000000 in
theorem checks_ok (T U : List (Pt × Pt)) (hn : n = L.length) (hcap : L.length ≤ cap) (HL : Hid (AgRd w A L)) (hl : L.length ≤ maxLen) (HC : Hid (IntsRd w VA cells)) (HW : Hid (WrRd w VB W)) (hc : cells.length ≤ maxLen) (hw : W.length ≤ maxLen)
    (HK : Hid (W.length ≤ 32768 → RuleC L ka kb cells M W T U)) (X : List (Pt × Pt)) (HK2 : Hid (RuleC L kb ka cells M U X T)) (hT : T.length ≤ 500) (hU : U.length ≤ 500) :
    Calls Try.prog 9 #[.slice A n cap, ruleV ka kb VA ca cells M VB cb W] w fun e w' => e = .returned (.bool true) ∧ Below w.heap.size w w' := by
  subst hn
  have hbA : Below w.heap.size w (w.alloc (.cells #[.int .i64 ka, .int .i64 kb, .slice VA cells.length ca, .int .i64 M, .slice VB W.length cb] 44)) := alB _ _
  have HR0 : Hid (RLs w.heap.size ka kb VA ca cells M VB cb W (w.alloc (.cells #[.int .i64 ka, .int .i64 kb, .slice VA cells.length ca, .int .i64 M, .slice VB W.length cb] 44))) := RLs.new w HC.out HW.out
  have HM : Hid (∀ Z, Below w.heap.size w Z → Calls Try.prog 49 #[.slice A L.length cap, .agg #[.int .i64 ka, .int .i64 kb, .slice VA cells.length ca, .int .i64 M, .slice VB W.length cb]] Z (SomeB (fun r => r = false → L.length ≤ 1024 ∧ cells.length ≤ 8192 ∧ W.length ≤ 32768) Z)) := fun Z hz =>
    much15 A _ cap L ka kb VA VB cells.length W.length ca cb M Z rfl hl (Lib.hid (HL.out.below hz)) hc hw
  have HCk : Hid (∀ A cap VA ca VB cb Z, W.length ≤ 32768 → cells.length ≤ 8192 → L.length ≤ cap → AgRd Z A L → IntsRd Z VA cells → WrRd Z VB W → Calls Try.prog 50 #[.slice A L.length cap, ruleV ka kb VA ca cells M VB cb W] Z fun e w' => e = .returned (.tuple #[.int .i64 0, .int .i64 0]) ∧ Below Z.heap.size Z w') := fun A cap VA ca VB cb Z g1 g2 h1 h2 h3 h4 => (HK.out g1).ck A cap VA ca VB cb Z h1 h2 h3 h4
  have HRk : Hid (∀ A cap VA ca VB cb Z, W.length ≤ 32768 → cells.length ≤ 8192 → L.length ≤ cap → AgRd Z A L → IntsRd Z VA cells → WrRd Z VB W → Calls Try.prog 26 #[.slice A L.length cap, ruleV ka kb VA ca cells M VB cb W] Z fun e w' => e = .returned (.tuple #[.int .i64 0, .int .i64 0]) ∧ Below Z.heap.size Z w') := fun A cap VA ca VB cb Z g1 g2 h1 h2 h3 h4 => (HK.out g1).rck A cap VA ca VB cb Z h1 h2 h3 h4
  go_enter Try.func9, Try.ntmps9
  go_wp2_with fail
  refine (HM.out _ hbA).mono ?_
  rintro e w1 ⟨r, rfl, hr, hb1⟩
  have HB1 : Hid (Below w.heap.size w w1) := hbA.trans (hb1.mono (by simp))
  have H01 := Lib.hid (HR0.out.below hb1)
  have HRr := Lib.hid hr
  clear hb1 hr hbA HR0
  obtain ⟨x0, x1, x2, x3, x4⟩ := H01.out.c
  have hz0 := H01.out.1.lt
  cases r
  case true =>
    go_wp2_with (go_at_call 45; refine (works15 _).mono ?_; rintro e w9 ⟨rfl, hb9⟩)
    go_ret
    exact ⟨rfl, HB1.out.trans (hb9.mono HB1.out.size)⟩
  obtain ⟨hl1, hc1, hw1⟩ := HRr.out rfl
  clear HRr
  go_wp2_with fail
  refine (copy_rule ka kb VA VB ca cb cells M W _ (by omega) (by omega) (Lib.hid H01.out.2.1) (Lib.hid H01.out.2.2)).mono ?_
  rintro e w2 ⟨V1, c1, V2, c2, rfl, hnf⟩
  have hb2 := hnf.1.2.2
  have HB2 : Hid (Below w.heap.size w w2) := HB1.out.trans (hb2.mono HB1.out.size)
  have H02 := Lib.hid (H01.out.below hb2)
  have N2 : Hid (IntsRd w2 V1 cells ∧ WrRd w2 V2 W) := ⟨hnf.1.1.ints, hnf.2.1.wires⟩
  clear x0 x1 x2 x3 x4 hz0 hb2 hnf H01 HB1
  go_wp2_with fail
  refine (copy_agents A cap L _ (HL.out.below (HB2.out.alloc HB2.out.size _)) (by omega)).mono ?_
  rintro e w3 ⟨V3, c3, rfl, F3⟩
  have hb3 := F3.2.2
  have HB3 : Hid (Below w.heap.size w w3) := HB2.out.trans (((alB _ _).trans (hb3.mono (by simp))).mono HB2.out.size)
  have H03 := Lib.hid ((H02.out.below (alB _ _)).below hb3)
  have H53 : Hid (RLs w2.heap.size ka kb V1 c1 cells M V2 c2 W w3) := (RLs.new w2 N2.out.1 N2.out.2).below hb3
  have HA3 : Hid (L.length ≤ c3 ∧ AgRd w3 V3 L) := ⟨by obtain ⟨_, _, h, hh⟩ := F3.1.len; simp only [Value.slice.injEq, true_and] at h; omega, F3.1.agents⟩
  clear hb3 F3 N2 H02 HB2
  obtain ⟨y0, y1, y2, y3, y4⟩ := H53.out.c
  have hz5 := H53.out.1.lt
  go_wp2_with fail
  refine (HCk.out V3 c3 V1 c1 V2 c2 _ hw1 hc1 HA3.out.1 HA3.out.2 H53.out.2.1 H53.out.2.2).mono ?_
  rintro e w4 ⟨rfl, hb4⟩
  have HB4 : Hid (Below w.heap.size w w4) := HB3.out.trans (hb4.mono HB3.out.size)
  have H04 := Lib.hid (H03.out.below hb4)
  have H54 := Lib.hid (H53.out.below hb4)
  have HA4 : Hid (L.length ≤ c3 ∧ AgRd w4 V3 L) := ⟨HA3.out.1, HA3.out.2.below hb4⟩
  clear hb4 y0 y1 y2 y3 y4 hz5 HB3 H03 H53 HA3
  obtain ⟨x0, x1, x2, x3, x4⟩ := H04.out.c
  have hz0 := H04.out.1.lt
  go_wp2_with fail
  refine (HRk.out A cap VA ca VB cb _ hw1 hc1 hcap (HL.out.below HB4.out) H04.out.2.1 H04.out.2.2).mono ?_
  rintro e w5 ⟨rfl, hb5⟩
  have HB5 : Hid (Below w.heap.size w w5) := HB4.out.trans (hb5.mono HB4.out.size)
  have H05 := Lib.hid (H04.out.below hb5)
  have H55 := Lib.hid (H54.out.below hb5)
  have HA5 : Hid (L.length ≤ c3 ∧ AgRd w5 V3 L) := ⟨HA4.out.1, HA4.out.2.below hb5⟩
  clear hb5 x0 x1 x2 x3 x4 hz0 HB4 H04 H54 HA4
  obtain ⟨y0, y1, y2, y3, y4⟩ := H55.out.c
  have hz5 := H55.out.1.lt
  go_wp2_with fail
  refine ((HK.out hw1).td V3 c3 V1 c1 V2 c2 _ HA5.out.1 HA5.out.2 H55.out.2.1 H55.out.2.2).mono ?_
  rintro e w6 ⟨V5, c5, V6, c6, rfl, hnf6⟩
  have hb6 := hnf6.1.2.2
  have N6 : Hid (IntsRd w6 V5 cells ∧ WrRd w6 V6 T) := ⟨hnf6.1.1.ints, hnf6.2.1.wires⟩
  have HB6 : Hid (Below w.heap.size w w6) := HB5.out.trans (hb6.mono HB5.out.size)
  have H06 := Lib.hid (H05.out.below hb6)
  have H56 := Lib.hid (H55.out.below hb6)
  have HA6 : Hid (L.length ≤ c3 ∧ AgRd w6 V3 L) := ⟨HA5.out.1, HA5.out.2.below hb6⟩
  clear hb6 hnf6 y0 y1 y2 y3 y4 hz5 HB5 H05 H55 HA5
  obtain ⟨y0, y1, y2, y3, y4⟩ := H56.out.c
  have hz5 := H56.out.1.lt
  go_wp2_with fail
  have h5a := H56.out.below (alB w6 (.cells #[.int .i64 ka, .int .i64 kb, .slice V5 cells.length c5, .int .i64 M, .slice V6 T.length c6] 44))
  refine ((HK.out hw1).fl V3 c3 V1 c1 V2 c2 _ HA6.out.1 (HA6.out.2.below (alB _ _)) h5a.2.1 h5a.2.2).mono ?_
  rintro e w7 ⟨V7, c7, V8, c8, rfl, hnf7⟩
  have hb7 := hnf7.1.2.2
  have N7 : Hid (IntsRd w7 V7 cells ∧ WrRd w7 V8 U) := ⟨hnf7.1.1.ints, hnf7.2.1.wires⟩
  have hb67 : Below w6.heap.size w6 w7 := (alB _ _).trans (hb7.mono (by simp))
  have HB7 : Hid (Below w.heap.size w w7) := HB6.out.trans (hb67.mono HB6.out.size)
  have H07 := Lib.hid (H06.out.below hb67)
  have H57 := Lib.hid (H56.out.below hb67)
  have z11 : RLs w6.heap.size ka kb V5 c5 cells M V6 c6 T w7 := (RLs.new w6 N6.out.1 N6.out.2).below hb7
  have HZ11 := Lib.hid z11
  have HA7 : Hid (L.length ≤ c3 ∧ AgRd w7 V3 L) := ⟨HA6.out.1, HA6.out.2.below hb67⟩
  clear hb7 hb67 hnf7 h5a y0 y1 y2 y3 y4 hz5 HB6 H06 H56 HA6 z11 N6
  obtain ⟨y0, y1, y2, y3, y4⟩ := H57.out.c
  have hz5 := H57.out.1.lt
  obtain ⟨x0, x1, x2, x3, x4⟩ := H07.out.c
  have hz0 := H07.out.1.lt
  go_wp2_with fail
  have h5b := H57.out.below (alB w7 (.cells #[.int .i64 kb, .int .i64 ka, .slice V7 cells.length c7, .int .i64 M, .slice V8 U.length c8] 44))
  have h0b := H07.out.below (alB w7 (.cells #[.int .i64 kb, .int .i64 ka, .slice V7 cells.length c7, .int .i64 M, .slice V8 U.length c8] 44))
  refine (eq_rule ka kb ka kb V1 V2 VA VB c1 c2 ca cb cells cells M M W W _ (by omega) (by omega) (by omega) (by omega) (Lib.hid h5b.2.1) (Lib.hid h5b.2.2) (Lib.hid h0b.2.1) (Lib.hid h0b.2.2) ⟨rfl, rfl, rfl, rfl, rfl⟩).mono ?_
  rintro e w8 ⟨rfl, hb8⟩
  have hb78 : Below w7.heap.size w7 w8 := (alB _ _).trans (hb8.mono (by simp))
  have HB8 : Hid (Below w.heap.size w w8) := HB7.out.trans (hb78.mono HB7.out.size)
  have z13 : RLs w7.heap.size kb ka V7 c7 cells M V8 c8 U w8 := (RLs.new w7 N7.out.1 N7.out.2).below hb8
  have H13 := Lib.hid z13
  have H11 := Lib.hid (HZ11.out.below hb78)
  have H08 := Lib.hid (H07.out.below hb78)
  have HA8 : Hid (L.length ≤ c3 ∧ AgRd w8 V3 L) := ⟨HA7.out.1, HA7.out.2.below hb78⟩
  clear hb8 hb78 h5b h0b y0 y1 y2 y3 y4 hz5 x0 x1 x2 x3 x4 hz0 HB7 H07 H57 HZ11 z13 N7 HA7
  go_upto_region 13 with fail
  go_cut [98] (fun v wx => v = .bool false ∧ Below w8.heap.size w8 wx)
  case first =>
    have z0 := H08.out.below (Below.refl _ w8).drew
    have z11 := H11.out.below (Below.refl _ w8).drew
    have z13 := H13.out.below (Below.refl _ w8).drew
    have SZ := (show _ ∧ _ ∧ _ from ⟨z0.c, z11.c, z13.c⟩)
    have HC0 := Lib.hid z0
    have HC11 := Lib.hid z11
    have HC13 := Lib.hid z13
    have HBd : Hid (Below w8.heap.size w8 w8.drew) := (Below.refl _ w8).drew
    clear z0 z11 z13
    go_region_held3 (fun X => (X.cell? ⟨w.heap.size, 0, none⟩ = some (.int .i64 ka) ∧ X.cell? ⟨w.heap.size, 1, none⟩ = some (.int .i64 kb) ∧ X.cell? ⟨w.heap.size, 2, none⟩ = some (.slice VA cells.length ca) ∧ X.cell? ⟨w.heap.size, 3, none⟩ = some (.int .i64 M) ∧ X.cell? ⟨w.heap.size, 4, none⟩ = some (.slice VB W.length cb)) ∧
        (X.cell? ⟨w6.heap.size, 0, none⟩ = some (.int .i64 ka) ∧ X.cell? ⟨w6.heap.size, 1, none⟩ = some (.int .i64 kb) ∧ X.cell? ⟨w6.heap.size, 2, none⟩ = some (.slice V5 cells.length c5) ∧ X.cell? ⟨w6.heap.size, 3, none⟩ = some (.int .i64 M) ∧ X.cell? ⟨w6.heap.size, 4, none⟩ = some (.slice V6 T.length c6)) ∧
        (X.cell? ⟨w7.heap.size, 0, none⟩ = some (.int .i64 kb) ∧ X.cell? ⟨w7.heap.size, 1, none⟩ = some (.int .i64 ka) ∧ X.cell? ⟨w7.heap.size, 2, none⟩ = some (.slice V7 cells.length c7) ∧ X.cell? ⟨w7.heap.size, 3, none⟩ = some (.int .i64 M) ∧ X.cell? ⟨w7.heap.size, 4, none⟩ = some (.slice V8 U.length c8)))
      (exact SZ)
      (first
        | (go_at_call 31; refine ((HK.out hw1).rtd A cap VA ca VB cb _ hcap (HL.out.below (HB8.out.trans (HBd.out.mono HB8.out.size))) HC0.out.2.1 HC0.out.2.2).mono ?_
           rintro e v1 ⟨X1, d1, X2, d2, rfl, hnf⟩
           have hst := hnf.1.2.2
           have HN1 : Hid (IntsRd v1 X1 cells ∧ WrRd v1 X2 T) := ⟨hnf.1.1.ints, hnf.2.1.wires⟩
           have HC0 := Lib.hid (HC0.out.below hst)
           have HC11 := Lib.hid (HC11.out.below hst)
           have HC13 := Lib.hid (HC13.out.below hst)
           have HBd : Hid (Below w8.heap.size w8 v1) := HBd.out.trans (hst.mono HBd.out.size)
           have SZ := (show _ ∧ _ ∧ _ from ⟨HC0.out.c, HC11.out.c, HC13.out.c⟩)
           clear hst hnf)
        | (go_at_call 53; refine ((HK.out hw1).rfl' A cap VA ca VB cb _ hcap (HL.out.below (HB8.out.trans (HBd.out.mono HB8.out.size))) HC0.out.2.1 HC0.out.2.2).mono ?_
           rintro e v3 ⟨X3, d3, X4, d4, rfl, hnf⟩
           have hst := hnf.1.2.2
           have HN3 : Hid (IntsRd v3 X3 cells ∧ WrRd v3 X4 U) := ⟨hnf.1.1.ints, hnf.2.1.wires⟩
           have HC0 := Lib.hid (HC0.out.below hst)
           have HC11 := Lib.hid (HC11.out.below hst)
           have HC13 := Lib.hid (HC13.out.below hst)
           have HBd : Hid (Below w8.heap.size w8 v3) := HBd.out.trans (hst.mono HBd.out.size)
           have SZ := (show _ ∧ _ ∧ _ from ⟨HC0.out.c, HC11.out.c, HC13.out.c⟩)
           clear hst hnf)
        | (go_at_call 30
           first
             | (have _t := HN3
                refine (eq_rule kb ka kb ka V7 V8 X3 X4 c7 c8 d3 d4 cells cells M M U U _ (by omega) (by omega) (by omega) (by omega) (Lib.hid HC13.out.2.1) (Lib.hid HC13.out.2.2) (Lib.hid HN3.out.1) (Lib.hid HN3.out.2) ⟨rfl, rfl, rfl, rfl, rfl⟩).mono ?_)
             | refine (eq_rule ka kb ka kb V5 V6 X1 X2 c5 c6 d1 d2 cells cells M M T T _ (by omega) (by omega) (by omega) (by omega) (Lib.hid HC11.out.2.1) (Lib.hid HC11.out.2.2) (Lib.hid HN1.out.1) (Lib.hid HN1.out.2) ⟨rfl, rfl, rfl, rfl, rfl⟩).mono ?_
           rintro e v2 ⟨rfl, hst⟩
           have HC0 := Lib.hid (HC0.out.below hst)
           have HC11 := Lib.hid (HC11.out.below hst)
           have HC13 := Lib.hid (HC13.out.below hst)
           have HBd : Hid (Below w8.heap.size w8 v2) := HBd.out.trans (hst.mono HBd.out.size)
           have SZ := (show _ ∧ _ ∧ _ from ⟨HC0.out.c, HC11.out.c, HC13.out.c⟩)
           clear hst))
    all_goals
      go_wp2_with fail
      go_meet
      case rel => exact ⟨rfl, HBd.out⟩
  case rest =>
    obtain ⟨rfl, hbc⟩ := hcut
    have HBc : Hid (Below w.heap.size w wc) := HB8.out.trans (hbc.mono HB8.out.size)
    have H11c := Lib.hid (H11.out.below hbc)
    have H13c := Lib.hid (H13.out.below hbc)
    have HAc : Hid (L.length ≤ c3 ∧ AgRd wc V3 L) := ⟨HA8.out.1, HA8.out.2.below hbc⟩
    clear hbc H11 H13 H08 HA8 HB8
    obtain ⟨y0, y1, y2, y3, y4⟩ := H13c.out.c
    have hz5 := H13c.out.1.lt
    go_wp2_with fail
    refine (HK2.out.fl V3 c3 V7 c7 V8 c8 _ HAc.out.1 HAc.out.2 H13c.out.2.1 H13c.out.2.2).mono ?_
    rintro e wd ⟨Y1, e1, Y2, e2, rfl, hnf⟩
    have hst := hnf.1.2.2
    have HBd : Hid (Below w.heap.size w wd) := HBc.out.trans (hst.mono HBc.out.size)
    have HN : Hid (IntsRd wd Y1 cells ∧ WrRd wd Y2 T) := ⟨hnf.1.1.ints, hnf.2.1.wires⟩
    have H11d := Lib.hid (H11c.out.below hst)
    clear hst hnf y0 y1 y2 y3 y4 hz5
    obtain ⟨x0, x1, x2, x3, x4⟩ := H11d.out.c
    have hz0 := H11d.out.1.lt
    go_wp2_with fail
    have hq := H11d.out.below (alB wd (.cells #[.int .i64 ka, .int .i64 kb, .slice Y1 cells.length e1, .int .i64 M, .slice Y2 T.length e2] 44))
    refine (eq_rule ka kb ka kb Y1 Y2 V5 V6 e1 e2 c5 c6 cells cells M M T T _ (by omega) (by omega) (by omega) (by omega) (Lib.hid (HN.out.1.below (alB _ _))) (Lib.hid (HN.out.2.below (alB _ _))) (Lib.hid hq.2.1) (Lib.hid hq.2.2) ⟨rfl, rfl, rfl, rfl, rfl⟩).mono ?_
    rintro e we ⟨rfl, hbe⟩
    have HBe : Hid (Below w.heap.size w we) := HBd.out.trans (((alB _ _).trans (hbe.mono (by simp))).mono HBd.out.size)
    clear hbe hq
    go_wp2_with (go_at_call 45; refine (works15 _).mono ?_; rintro e wf ⟨rfl, hbf⟩)
    go_ret
    exact ⟨rfl, HBe.out.trans (hbf.mono HBe.out.size)⟩
theorem checks_all (a b free : Int) (hn : n = L.length) (hcap : L.length ≤ cap) (HL : Hid (AgRd w A L)) (hl : L.length ≤ maxLen) (HC : Hid (IntsRd w VA cells)) (HW : Hid (WrRd w VB W)) (hc : cells.length ≤ maxLen) (hw : W.length ≤ maxLen) :
    Calls Try.prog 9 #[.slice A n cap, ruleV a b VA ca cells free VB cb W] w fun e w' => e = .returned (.bool true) ∧ Below w.heap.size w w' := by
  by_cases hk : (ruleChk L a b cells free W).1 = 0
  · obtain ⟨ka, kb, na, nb, M, rfl, rfl, rfl, h⟩ := ruleK_of hk
    have h2 := h.flip
    have hb := h.back
    have hcl := h2.calls _ hl (by have := h.len (moveW (idsN cells.length) (flipN na nb M) W); omega)
    rw [hb] at hcl
    exact checks_ok A n cap L ka kb M VA VB ca cb cells W w (tidyW (allPs (pnL L) cells M) W) (tidyW (allPs (pnL L) cells M) (moveW (idsN cells.length) (flipN na nb M) W)) hn hcap HL hl HC HW hc hw (Lib.hid fun g => h.calls _ hl (by omega)) (tidyW (allPs (pnL L) cells M) (tidyW (allPs (pnL L) cells M) (moveW (idsN cells.length) (flipN na nb M) W))) (Lib.hid hcl) (h.len _) (h.len _)
  · exact checks_bad A n cap L a b VA VB ca cb cells free W w hn hcap HL hl HC HW hc hw hk
end
end Go.Proofs.Ytcebejcdfdahjaa
