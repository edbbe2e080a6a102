/-
  The statement NetPlugs: what the document answers, and the end.
-/
import Derived.Test.YtcebejcdfdahjaaPlugLawC
/-
  The statement NetPlugs: the joins are as they were.
-/
namespace Go.Proofs.Ytcebejcdfdahjaa
open Go.RowKit
attribute [local go_sem] cell_set
set_option maxRecDepth 100000
set_option linter.unusedVariables false

theorem neq_join (w : World) (a b c d : Int) : (binOp .neq 66 (.agg #[.int .i64 a, .int .i64 b]) (.agg #[.int .i64 c, .int .i64 d])).run Try.prog w = .ok (.bool (!(a == c && b == d))) w := by
  obtain ⟨i, hi, _, hs, _⟩ := info_parts int_info
  exact run_neq_array2 w a c b d Try.underlying66 Try.underlying3 hi hs
attribute [local go_sem high] neq_join
section
variable (Q : Exit → Act → World → Prop) (VA VB UA UB V V5 : Option Addr) (na ca wa cb nb da wb db cJ c5 : Nat) (fA fB : Int) (J : List (Int × Int)) (v0 v6 v7 : Value) (b3 : Nat)
set_option maxHeartbeats 4000000 in
theorem lp_5 (a : Act) (X : World) (hJl : J.length ≤ 1024) (htb : TB X b3 VA VB UA UB V na ca wa cb nb da wb db J.length cJ fA fB) (HJ : Hid (PtsRd X V J)) (HJ5 : Hid (PtsRd X V5 J))
    (hnext : Hid (∀ a' X', FrN 148 [] [(0, v0), (3, .pointer (some ⟨b3, 0, none⟩)), (6, v6), (7, v7)] a' → Below X.heap.size X X' → (lpT 10).wp Try.prog Q a' X'))
    (ha : FrN 148 [] [(0, v0), (3, .pointer (some ⟨b3, 0, none⟩)), (5, .slice V5 J.length c5), (6, v6), (7, v7)] a) : (lpT 5).wp Try.prog Q a X := by
  obtain ⟨U, rfl, e0, e3, e5, e6, e7, -⟩ := ha.open148
  have HT := Lib.hid htb
  have HX0 := Lib.hid (Below.refl X.heap.size X)
  unfold FrLL
  simp only [e0, e3, e5, e6, e7]
  clear e0 e3 e5 e6 e7 ha htb
  show (Code.seq _ _).wp _ _ _ _
  go_wp2_with fail
  go_loopw [8] (fun i wr => ∃ k : Nat, i = .int .i64 k ∧ k ≤ J.length ∧ Hid (Below X.heap.size X wr)) (fun i _ => J.length - (intOf i).toNat)
  case atStart => exact ⟨0, rfl, Nat.zero_le _, HX0⟩
  case round =>
    obtain ⟨k, rfl, hk, HB⟩ := hrel
    clear HX0
    by_cases hlt : k < J.length
    · have ht := HT.out.below HB.out
      have c6 := ht.c6
      have clt := ht.lt
      obtain ⟨g, o, rfl, hg, p0, p1⟩ := (HJ.out.below HB.out) k hlt
      obtain ⟨g5, o5, rfl, hg5, q0, q1⟩ := (HJ5.out.below HB.out) k hlt
      generalize J.getD k default = x at p0 p1 q0 q1
      obtain ⟨x0, x1⟩ := x
      dsimp only at p0 p1 q0 q1
      clear ht
      go_wp2_with fail
      go_quiet (fail)
      go_wp2_with fail
      go_roundw
      case measure => simp [intOf]; omega
      case rel => exact ⟨k + 1, by go_num, by omega, Lib.hid (below_drewN HB.out _)⟩
    · have hkl : k = J.length := by omega
      subst hkl
      repeat (first
        | exact hnext.out _ _ ⟨rfl, rfl, rfl, rfl, rfl, rfl, trivial⟩ HB.out
        | go_values | go_skip | go_guarded | go_step | go_upon | go_back)
end
end Go.Proofs.Ytcebejcdfdahjaa
namespace Go.Proofs.Ytcebejcdfdahjaa
open Go.RowKit
attribute [local go_sem] cell_set
set_option maxRecDepth 100000
set_option linter.unusedVariables false

section
variable (Q : Exit → Act → World → Prop) (VA VB UA UB V V1 V2 : Option Addr) (na ca wa cb nb da wb db nJ cJ n1 c1 n2 c2 b3 b7 : Nat) (fA fB F E : Int) (v0 : Value)
set_option maxHeartbeats 4000000 in
theorem lp_10 (a : Act) (X : World) (kA kB : Int) (jb big : Bool) (hna : na ≤ 10000) (hnb : nb ≤ 10000) (hnJ : nJ ≤ 1024) (htb : TB X b3 VA VB UA UB V na ca wa cb nb da wb db nJ cJ fA fB)
    (HO : Hid (∀ Z, Below X.heap.size X Z → Z.cell? ⟨b7, 0, none⟩ = some (.slice V1 n1 c1) ∧ Z.cell? ⟨b7, 1, none⟩ = some (.int .i64 F) ∧ Z.cell? ⟨b7, 2, none⟩ = some (.slice V2 n2 c2))) (h7 : b7 < X.heap.size)
    (HKA : Hid (∀ Z, Below X.heap.size X Z → Calls Try.prog 17 #[v0, .agg #[.slice VA na ca, .int .i64 fA, .slice VB wa cb]] Z fun e w' => ∃ k2, e = .returned (.tuple #[.int .i64 kA, .int .i64 k2]) ∧ Below Z.heap.size Z w'))
    (HKB : Hid (∀ Z, Below X.heap.size X Z → Calls Try.prog 17 #[v0, .agg #[.slice UA nb da, .int .i64 fB, .slice UB wb db]] Z fun e w' => ∃ k2, e = .returned (.tuple #[.int .i64 kB, .int .i64 k2]) ∧ Below Z.heap.size Z w'))
    (HJn : Hid (kA = 0 → kB = 0 → ∀ Z, Below X.heap.size X Z → Calls Try.prog 33 #[.agg #[.slice VA na ca, .int .i64 fA, .slice VB wa cb], .agg #[.slice UA nb da, .int .i64 fB, .slice UB wb db], .slice V nJ cJ] Z fun e w' => e = .returned (.bool jb) ∧ Below Z.heap.size Z w'))
    (hrg : Hid (kA = 0 → kB = 0 → 0 ≤ fA ∧ fA ≤ 64 ∧ 0 ≤ fB ∧ fB ≤ 64)) (hbig : Hid (kA = 0 → kB = 0 → jb = true → big = decide ((4096 : Int) < (na : Int) + (nb : Int) ∨ (64 : Int) < fA + fB - 2 * (nJ : Int))))
    (hE : Hid (E = if kA ≠ 0 then kA else if kB ≠ 0 then kB else if jb = false then 1 else if big = true then 15 else 0))
    (HEq : Hid (E ≠ 0 → ∀ Z, Below X.heap.size X Z → Calls Try.prog 19 #[.agg #[.slice V1 n1 c1, .int .i64 F, .slice V2 n2 c2], .agg #[.slice none 0 0, .int .i64 0, .slice none 0 0]] Z fun e w' => e = .returned (.bool true) ∧ Below Z.heap.size Z w'))
    (hret : Hid (∀ a' X', FrN 148 [] [(4, .bool true)] a' → Below X.heap.size X X' → Q .ret a' X'))
    (hnext : Hid (E = 0 → ∀ a' X', FrN 148 [] [(0, v0), (3, .pointer (some ⟨b3, 0, none⟩)), (6, .pointer (some ⟨b7, 0, none⟩)), (7, .int .i64 0)] a' → Below X.heap.size X X' → (lpT 19).wp Try.prog Q a' X'))
    (ha : FrN 148 [] [(0, v0), (3, .pointer (some ⟨b3, 0, none⟩)), (6, .pointer (some ⟨b7, 0, none⟩)), (7, .int .i64 E)] a) : (lpT 10).wp Try.prog Q a X := by
  obtain ⟨U, rfl, e0, e3, e6, e7, -⟩ := ha.open148
  have HT := Lib.hid htb
  obtain ⟨c0, d1, d2, d3, d4, d5, d6, clt⟩ := htb
  have HX0 := Lib.hid (Below.refl X.heap.size X)
  unfold FrLL
  simp only [e0, e3, e6, e7]
  clear e0 e3 e6 e7 ha
  show (Code.seq _ _).wp _ _ _ _
  go_upto_region 11 with (go_at_call 17; refine (HKA.out _ HX0.out).mono ?_; rintro e x1 ⟨k2, rfl, hb1⟩
                          have HB1 := Lib.hid hb1
                          clear hb1)
  clear c0 d1 d2 d3 d4 d5 d6 clt
  by_cases hA : kA = 0
  · subst hA
    obtain ⟨c0, d1, d2, d3, d4, d5, d6, clt⟩ := HT.out.below HB1.out
    go_upto_region 13 with (go_at_call 17; refine (HKB.out _ HB1.out).mono ?_; rintro e x2 ⟨k3, rfl, hb2⟩
                            have HB2 := Lib.hid (HB1.out.trans (hb2.mono HB1.out.size))
                            clear hb2)
    clear c0 d1 d2 d3 d4 d5 d6 clt
    by_cases hB : kB = 0
    · subst hB
      obtain ⟨c0, d1, d2, d3, d4, d5, d6, clt⟩ := HT.out.below HB2.out
      have HJ2 := Lib.hid (HJn.out (by first | trivial | rfl) (by first | trivial | rfl))
      cases jb with
      | false =>
        have hE1 : E = 1 := by have := hE.out; simpa using this
        subst hE1
        go_upto_region 15 with (go_at_call 33; refine (HJ2.out _ HB2.out).mono ?_; rintro e x3 ⟨rfl, hb3⟩
                                have HB3 := Lib.hid (HB2.out.trans (hb3.mono HB2.out.size))
                                clear hb3)
        clear c0 d1 d2 d3 d4 d5 d6 clt
        obtain ⟨n0, n1, n2⟩ := HO.out _ HB3.out
        have hl7 : b7 < x3.heap.size := Nat.lt_of_lt_of_le h7 HB3.out.size
        have HEqq := Lib.hid (HEq.out (by first | exact (by decide) | omega))
        go_wp2_with (first
          | (go_at_call 19; refine (HEqq.out _ HB3.out).mono ?_; rintro e w8 ⟨rfl, hb8⟩
             have HB8 := Lib.hid (HB3.out.trans (hb8.mono HB3.out.size))
             clear hb8)
          | (go_at_call 12; refine (works03 _).mono ?_; rintro e w9 ⟨rfl, hb9⟩
             have HB9 := Lib.hid (HB8.out.trans (hb9.mono HB8.out.size))
             clear hb9))
        exact hret.out _ _ ⟨rfl, rfl, rfl, trivial⟩ HB9.out
      | true =>
        go_upto_region 15 with (go_at_call 33; refine (HJ2.out _ HB2.out).mono ?_; rintro e x3 ⟨rfl, hb3⟩
                                have HB3 := Lib.hid (HB2.out.trans (hb3.mono HB2.out.size))
                                clear hb3)
        clear c0 d1 d2 d3 d4 d5 d6 clt
        obtain ⟨c0, d1, d2, d3, d4, d5, d6, clt⟩ := HT.out.below HB3.out
        obtain ⟨r1, r2, r3, r4⟩ := hrg.out (by first | trivial | rfl) (by first | trivial | rfl)
        have hbg := hbig.out (by first | trivial | rfl) (by first | trivial | rfl) (by first | trivial | rfl)
        have w1 : IntKind.i64.wrap ((na : Int) + (nb : Int)) = (na : Int) + (nb : Int) := IntWalk.i64_in _ (by omega)
        have w2 : IntKind.i64.wrap (fA + fB) = fA + fB := IntWalk.i64_in _ (by omega)
        have w3 : IntKind.i64.wrap (2 * (nJ : Int)) = 2 * (nJ : Int) := IntWalk.i64_in _ (by omega)
        have w4 : IntKind.i64.wrap (fA + fB - 2 * (nJ : Int)) = fA + fB - 2 * (nJ : Int) := IntWalk.i64_in _ (by omega)
        by_cases g1 : (4096 : Int) < (na : Int) + (nb : Int)
        · have hE1 : E = 15 := by have := hE.out; rw [hbg, decide_eq_true (.inl g1)] at this; simpa using this
          subst hE1
          clear hbg
          obtain ⟨n0, n1, n2⟩ := HO.out _ HB3.out
          have hl7 : b7 < x3.heap.size := Nat.lt_of_lt_of_le h7 HB3.out.size
          have HEqq := Lib.hid (HEq.out (by first | exact (by decide) | omega))
          go_wp2_with (first
            | (go_at_call 19; refine (HEqq.out _ HB3.out).mono ?_; rintro e w8 ⟨rfl, hb8⟩
               have HB8 := Lib.hid (HB3.out.trans (hb8.mono HB3.out.size))
               clear hb8)
            | (go_at_call 12; refine (works03 _).mono ?_; rintro e w9 ⟨rfl, hb9⟩
               have HB9 := Lib.hid (HB8.out.trans (hb9.mono HB8.out.size))
               clear hb9))
          exact hret.out _ _ ⟨rfl, rfl, rfl, trivial⟩ HB9.out
        · by_cases g2 : (64 : Int) < fA + fB - 2 * (nJ : Int)
          · have hE1 : E = 15 := by have := hE.out; rw [hbg, decide_eq_true (.inr g2)] at this; simpa using this
            subst hE1
            clear hbg
            obtain ⟨n0, n1, n2⟩ := HO.out _ HB3.out
            have hl7 : b7 < x3.heap.size := Nat.lt_of_lt_of_le h7 HB3.out.size
            have HEqq := Lib.hid (HEq.out (by first | exact (by decide) | omega))
            go_wp2_with (first
              | (go_at_call 19; refine (HEqq.out _ HB3.out).mono ?_; rintro e w8 ⟨rfl, hb8⟩
                 have HB8 := Lib.hid (HB3.out.trans (hb8.mono HB3.out.size))
                 clear hb8)
              | (go_at_call 12; refine (works03 _).mono ?_; rintro e w9 ⟨rfl, hb9⟩
                 have HB9 := Lib.hid (HB8.out.trans (hb9.mono HB8.out.size))
                 clear hb9))
            exact hret.out _ _ ⟨rfl, rfl, rfl, trivial⟩ HB9.out
          · have hE1 : E = 0 := by have := hE.out; rw [hbg, decide_eq_false (by omega)] at this; simpa using this
            subst hE1
            clear hbg
            have HN := Lib.hid (hnext.out (by first | trivial | rfl))
            repeat (first
              | exact HN.out _ _ ⟨rfl, rfl, rfl, rfl, rfl, rfl, trivial⟩ HB3.out
              | go_values | go_skip | go_guarded | go_step | go_upon | go_back)
    · have hkb : (kB == 0) = false := by rw [beq_eq_false_iff_ne]; exact hB
      have hkn : (kB != 0) = true := by simpa using hB
      have hE1 : E = kB := by have := hE.out; rw [if_neg (by simp), if_pos hB] at this; exact this
      subst hE1
      obtain ⟨n0, n1, n2⟩ := HO.out _ HB2.out
      have hl7 : b7 < x2.heap.size := Nat.lt_of_lt_of_le h7 HB2.out.size
      have HEqq := Lib.hid (HEq.out (by first | exact hB | omega))
      go_wp2_with (first
        | (go_at_call 19; refine (HEqq.out _ HB2.out).mono ?_; rintro e w8 ⟨rfl, hb8⟩
           have HB8 := Lib.hid (HB2.out.trans (hb8.mono HB2.out.size))
           clear hb8)
        | (go_at_call 12; refine (works03 _).mono ?_; rintro e w9 ⟨rfl, hb9⟩
           have HB9 := Lib.hid (HB8.out.trans (hb9.mono HB8.out.size))
           clear hb9))
      exact hret.out _ _ ⟨rfl, rfl, rfl, trivial⟩ HB9.out
  · have hkb : (kA == 0) = false := by rw [beq_eq_false_iff_ne]; exact hA
    have hkn : (kA != 0) = true := by simpa using hA
    have hE1 : E = kA := by have := hE.out; rw [if_pos hA] at this; exact this
    subst hE1
    obtain ⟨n0, n1, n2⟩ := HO.out _ HB1.out
    have hl7 : b7 < x1.heap.size := Nat.lt_of_lt_of_le h7 HB1.out.size
    have HEqq := Lib.hid (HEq.out (by first | exact hA | omega))
    go_wp2_with (first
      | (go_at_call 19; refine (HEqq.out _ HB1.out).mono ?_; rintro e w8 ⟨rfl, hb8⟩
         have HB8 := Lib.hid (HB1.out.trans (hb8.mono HB1.out.size))
         clear hb8)
      | (go_at_call 12; refine (works03 _).mono ?_; rintro e w9 ⟨rfl, hb9⟩
         have HB9 := Lib.hid (HB8.out.trans (hb9.mono HB8.out.size))
         clear hb9))
    exact hret.out _ _ ⟨rfl, rfl, rfl, trivial⟩ HB9.out
end
end Go.Proofs.Ytcebejcdfdahjaa
