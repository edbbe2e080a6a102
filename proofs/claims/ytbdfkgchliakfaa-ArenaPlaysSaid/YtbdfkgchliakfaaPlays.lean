/-
  The walk of ArenaPlays.
-/
import Derived.Test.YtbdfkgchliakfaaPlaysTwo
namespace Go.Proofs.Ytbdfkgchliakfaa
open Go.RowKit
attribute [local go_sem] cell_set
set_option maxRecDepth 100000

/-- The steps of a script in memory. -/
def StepsAt (W : World) (V : Option Addr) (L : List (Int × Int × Int × Int)) : Prop := ∀ (i : Nat) (h : i < L.length), ∃ b off, V = some ⟨b, off, none⟩ ∧ b < W.heap.size ∧ W.cell? ⟨b, off + i * 4, none⟩ = some (.int .i64 L[i].1) ∧ W.cell? ⟨b, off + i * 4 + 1, none⟩ = some (.int .i64 L[i].2.1) ∧
  W.cell? ⟨b, off + i * 4 + 2, none⟩ = some (.int .i64 L[i].2.2.1) ∧ W.cell? ⟨b, off + i * 4 + 3, none⟩ = some (.int .u32 L[i].2.2.2) ∧ 0 ≤ L[i].2.2.2 ∧ L[i].2.2.2 < 4294967296

/-- The copy of a step. -/
structure SBox (x : Nat) (d a b v : Int) (W : World) : Prop where
  c0 : W.cell? ⟨x, 0, none⟩ = some (.int .i64 d)
  c1 : W.cell? ⟨x, 1, none⟩ = some (.int .i64 a)
  c2 : W.cell? ⟨x, 2, none⟩ = some (.int .i64 b)
  c3 : W.cell? ⟨x, 3, none⟩ = some (.int .u32 v)
theorem SBox.kq {x : Nat} {d a b v : Int} {W W' : World} (h : SBox x d a b v W) (hk : KQ [x] W W') : SBox x d a b v W' :=
  ⟨(hk.cell (p := ⟨x, 0, none⟩) (by simp)).trans h.c0, (hk.cell (p := ⟨x, 1, none⟩) (by simp)).trans h.c1, (hk.cell (p := ⟨x, 2, none⟩) (by simp)).trans h.c2, (hk.cell (p := ⟨x, 3, none⟩) (by simp)).trans h.c3⟩

theorem plays_bad (m : Int) (V : Option Addr) (L : List (Int × Int × Int × Int)) (cap : Nat) (hm : m < 1 ∨ 4096 < m) (w : World) :
    Calls Try.prog 10 #[.int .i64 m, .slice V L.length cap] w fun e w' => e = .returned (.bool true) ∧ Below w.heap.size w w' := by
  go_enter Try.func10, Try.ntmps10
  go_wp2_with (first
    | (go_at_call 32; refine (ar_new_bad m hm _).mono ?_; rintro e w1 ⟨rfl, rfl⟩)
    | (go_at_call 37; refine (rr_new_bad m hm _).mono ?_; rintro e w1 ⟨rfl, rfl⟩)
    | (go_at_call 36; refine (works07 _).mono ?_; rintro e w8 ⟨rfl, hb8⟩))
  go_ret
  exact ⟨rfl, hb8⟩

set_option maxHeartbeats 4000000 in
theorem plays_ok (m : Nat) (V : Option Addr) (L : List (Int × Int × Int × Int)) (cap : Nat) (h1 : 1 ≤ m) (h2 : m ≤ 4096) (w : World) (hL : StepsAt w V L) :
    Calls Try.prog 10 #[.int .i64 (m : Int), .slice V L.length cap] w fun e w' => e = .returned (.bool true) ∧ Below w.heap.size w w' := by
  have HL := Lib.hid hL
  clear hL
  go_enter Try.func10, Try.ntmps10
  go_wp2_with fail
  refine (ar_new_ok m h1 h2 _).mono ?_
  rintro e w1 ⟨rfl, hb1, p1⟩
  have P1 := Lib.hid (And.intro hb1 p1)
  clear hb1 p1
  go_wp2_with fail
  refine (rr_new_ok m h1 h2 _).mono ?_
  rintro e w2 ⟨rfl, hb2, r2⟩
  have T2 : Hid (Two w [] w.heap.size w1.heap.size (Ars.empty m) (Ars.empty m) w2) := by
    have hl := P1.out.2.lt w.heap.size (by simp)
    refine Lib.hid ⟨_, _, P1.out.2.below hb2, r2, fun b hb => ?_, fun b hb => ?_, by simp, P1.out.1.trans (hb2.mono P1.out.1.size)⟩
    · simp at hb; subst hb; exact ⟨Nat.le_refl _, by simp, by simp; omega⟩
    · simp at hb; subst hb; exact ⟨P1.out.1.size, by simp⟩
  clear hb2 r2
  by_cases hlen : L.length ≤ 4096
  · go_wp2_with fail
    go_loopw [9] (fun i wr => ∃ k : Nat, i = .int .i64 k ∧ k ≤ L.length ∧ Hid (∃ S, Two w [] w.heap.size w1.heap.size S S wr)) (fun i _ => L.length - (intOf i).toNat)
    case atStart => exact ⟨0, rfl, by omega, Lib.hid ⟨_, T2.out⟩⟩
    case round =>
      obtain ⟨k, rfl, hk, X⟩ := hrel
      by_cases hlt : k < L.length
      · obtain ⟨S, TS⟩ := X.out
        obtain ⟨b, off, rfl, hb, e0, e1, e2, e3, hv0, hv1⟩ := HL.out k hlt
        generalize L[k].1 = sd at e0
        generalize L[k].2.1 = sa at e1
        generalize L[k].2.2.1 = sb at e2
        generalize L[k].2.2.2 = sv at e3 hv0 hv1
        have hbw := TS.below
        have z0 := (hbw.cell (p := ⟨b, off + k * 4, none⟩) hb).trans e0
        have z1 := (hbw.cell (p := ⟨b, off + k * 4 + 1, none⟩) hb).trans e1
        have z2 := (hbw.cell (p := ⟨b, off + k * 4 + 2, none⟩) hb).trans e2
        have z3 := (hbw.cell (p := ⟨b, off + k * 4 + 3, none⟩) hb).trans e3
        have T0 := Lib.hid (TS.alloc (.cells #[.int .i64 sd, .int .i64 sa, .int .i64 sb, .int .u32 sv] 69))
        have B0 : Hid (SBox wr.heap.size sd sa sb sv (wr.alloc (.cells #[.int .i64 sd, .int .i64 sa, .int .i64 sb, .int .u32 sv] 69))) := ⟨by go_simp, by go_simp, by go_simp, by go_simp⟩
        have HV := Lib.hid (And.intro hv0 hv1)
        clear e0 e1 e2 e3 hv0 hv1 TS hbw
        rcases (by omega : sd = 0 ∨ sd = 1 ∨ sd = 3 ∨ (sd ≠ 0 ∧ sd ≠ 1 ∧ sd ≠ 3)) with rfl | rfl | rfl | ⟨n0, n1, n3⟩
        · go_wp2_with fail
          refine (tw_take_a T0.out _ _).mono ?_
          rintro e w3 ⟨rfl, t3, q3⟩
          have T3 := Lib.hid t3
          have B3 := Lib.hid (B0.out.kq q3)
          have s1 := B3.out.c1
          have s2 := B3.out.c2
          clear t3 q3
          go_wp2_with fail
          refine (tw_take_r T3.out _ _).mono ?_
          rintro e w4 ⟨rfl, t4, q4⟩
          have TT := Lib.hid t4
          have BB := Lib.hid (B3.out.kq q4)
          have s3 := BB.out.c1
          have s4 := BB.out.c2
          clear t4 q4 s1 s2
          go_wp2_with fail
          refine (tw_get_a TT.out _ _).mono ?_
          rintro e w5 ⟨rfl, t5, q5⟩
          have T5 := Lib.hid t5
          have B5 := Lib.hid (BB.out.kq q5)
          have u1 := B5.out.c1
          have u2 := B5.out.c2
          clear t5 q5
          go_wp2_with fail
          refine (tw_get_r T5.out _ _).mono ?_
          rintro e w6 ⟨rfl, t6, q6⟩
          have T6 := Lib.hid t6
          have B6 := Lib.hid (B5.out.kq q6)
          have u3 := B6.out.c1
          clear t6 q6 u1 u2
          go_wp2_with fail
          refine (tw_agent_a T6.out _).mono ?_
          rintro e w7 ⟨rfl, t7, q7⟩
          have T7 := Lib.hid t7
          have B7 := Lib.hid (B6.out.kq q7)
          have u4 := B7.out.c1
          clear t7 q7 u3
          go_wp2_with fail
          refine (tw_agent_r T7.out _).mono ?_
          rintro e w8 ⟨rfl, t8, q8⟩
          have T8 := Lib.hid t8
          clear t8 q8 u4
          go_wp2_with (go_at_call 46; refine (tw_alike T8.out).mono ?_; rintro e w9 ⟨rfl, t9, q9⟩; have T9 := Lib.hid t9; clear t9 q9)
          all_goals
            refine ⟨⟨k + 1, ?_, by omega, ?_⟩, ?_⟩
            · first | (simp; done) | (simp; omega)
            · first | exact Lib.hid ⟨_, T9.out.sub (by simp)⟩ | exact Lib.hid ⟨_, T8.out.sub (by simp)⟩
            · simp [intOf]; omega
        · have T0d := Lib.hid T0.out.drew
          go_wp2_with fail
          go_region_held3 (fun w' => w'.cell? ⟨wr.heap.size, 1, none⟩ = some (.int .i64 sa)) (first | exact S4 | exact S3 | exact B0.out.c1)
            (first
              | (go_at_call 35; refine (tw_give_a T0d.out _).mono ?_; rintro e w3 ⟨rfl, t3, q3⟩
                 have T3 := Lib.hid t3
                 have B3 : Hid (SBox wr.heap.size 1 sa sb sv w3) := B0.out.kq ⟨q3.size, q3.same⟩
                 have S3 := B3.out.c1)
              | (go_at_call 39; refine (tw_give_r T3.out _).mono ?_; rintro e w4 ⟨rfl, t4, q4⟩
                 have TT := Lib.hid t4
                 have BB := Lib.hid (B3.out.kq q4)
                 have S4 := BB.out.c1))
          have s4 := BB.out.c2
          clear S3
          go_wp2_with fail
          refine (tw_get_a TT.out _ _).mono ?_
          rintro e w5 ⟨rfl, t5, q5⟩
          have T5 := Lib.hid t5
          have B5 := Lib.hid (BB.out.kq q5)
          have u1 := B5.out.c1
          have u2 := B5.out.c2
          clear t5 q5
          go_wp2_with fail
          refine (tw_get_r T5.out _ _).mono ?_
          rintro e w6 ⟨rfl, t6, q6⟩
          have T6 := Lib.hid t6
          have B6 := Lib.hid (B5.out.kq q6)
          have u3 := B6.out.c1
          clear t6 q6 u1 u2
          go_wp2_with fail
          refine (tw_agent_a T6.out _).mono ?_
          rintro e w7 ⟨rfl, t7, q7⟩
          have T7 := Lib.hid t7
          have B7 := Lib.hid (B6.out.kq q7)
          have u4 := B7.out.c1
          clear t7 q7 u3
          go_wp2_with fail
          refine (tw_agent_r T7.out _).mono ?_
          rintro e w8 ⟨rfl, t8, q8⟩
          have T8 := Lib.hid t8
          clear t8 q8 u4
          go_wp2_with (go_at_call 46; refine (tw_alike T8.out).mono ?_; rintro e w9 ⟨rfl, t9, q9⟩; have T9 := Lib.hid t9; clear t9 q9)
          all_goals
            refine ⟨⟨k + 1, ?_, by omega, ?_⟩, ?_⟩
            · first | (simp; done) | (simp; omega)
            · first | exact Lib.hid ⟨_, T9.out.sub (by simp)⟩ | exact Lib.hid ⟨_, T8.out.sub (by simp)⟩
            · simp [intOf]; omega
        · have T0d := Lib.hid T0.out.drew
          go_wp2_with fail
          go_region_held3 (fun w' => w'.cell? ⟨wr.heap.size, 1, none⟩ = some (.int .i64 sa) ∧ w'.cell? ⟨wr.heap.size, 2, none⟩ = some (.int .i64 sb) ∧ w'.cell? ⟨wr.heap.size, 3, none⟩ = some (.int .u32 sv)) (first | exact S4 | exact S3 | exact ⟨B0.out.c1, B0.out.c2, B0.out.c3⟩)
            (first
              | (go_at_call 40; refine (tw_put_a T0d.out _ _ _ HV.out).mono ?_; rintro e w3 ⟨rfl, t3, q3⟩
                 have T3 := Lib.hid t3
                 have B3 : Hid (SBox wr.heap.size 3 sa sb sv w3) := B0.out.kq ⟨q3.size, q3.same⟩
                 have S3 := And.intro B3.out.c1 (And.intro B3.out.c2 B3.out.c3))
              | (go_at_call 41; refine (tw_put_r T3.out _ _ _ HV.out).mono ?_; rintro e w4 ⟨rfl, t4, q4⟩
                 have TT := Lib.hid t4
                 have BB := Lib.hid (B3.out.kq q4)
                 have S4 := And.intro BB.out.c1 (And.intro BB.out.c2 BB.out.c3)))
          have s3 := S4.1
          have s4 := S4.2.1
          clear S3 S4
          go_wp2_with fail
          refine (tw_get_a TT.out _ _).mono ?_
          rintro e w5 ⟨rfl, t5, q5⟩
          have T5 := Lib.hid t5
          have B5 := Lib.hid (BB.out.kq q5)
          have u1 := B5.out.c1
          have u2 := B5.out.c2
          clear t5 q5
          go_wp2_with fail
          refine (tw_get_r T5.out _ _).mono ?_
          rintro e w6 ⟨rfl, t6, q6⟩
          have T6 := Lib.hid t6
          have B6 := Lib.hid (B5.out.kq q6)
          have u3 := B6.out.c1
          clear t6 q6 u1 u2
          go_wp2_with fail
          refine (tw_agent_a T6.out _).mono ?_
          rintro e w7 ⟨rfl, t7, q7⟩
          have T7 := Lib.hid t7
          have B7 := Lib.hid (B6.out.kq q7)
          have u4 := B7.out.c1
          clear t7 q7 u3
          go_wp2_with fail
          refine (tw_agent_r T7.out _).mono ?_
          rintro e w8 ⟨rfl, t8, q8⟩
          have T8 := Lib.hid t8
          clear t8 q8 u4
          go_wp2_with (go_at_call 46; refine (tw_alike T8.out).mono ?_; rintro e w9 ⟨rfl, t9, q9⟩; have T9 := Lib.hid t9; clear t9 q9)
          all_goals
            refine ⟨⟨k + 1, ?_, by omega, ?_⟩, ?_⟩
            · first | (simp; done) | (simp; omega)
            · first | exact Lib.hid ⟨_, T9.out.sub (by simp)⟩ | exact Lib.hid ⟨_, T8.out.sub (by simp)⟩
            · simp [intOf]; omega
        · have TT := T0
          have BB := B0
          go_wp2_with fail
          refine (tw_get_a TT.out _ _).mono ?_
          rintro e w5 ⟨rfl, t5, q5⟩
          have T5 := Lib.hid t5
          have B5 := Lib.hid (BB.out.kq q5)
          have u1 := B5.out.c1
          have u2 := B5.out.c2
          clear t5 q5
          go_wp2_with fail
          refine (tw_get_r T5.out _ _).mono ?_
          rintro e w6 ⟨rfl, t6, q6⟩
          have T6 := Lib.hid t6
          have B6 := Lib.hid (B5.out.kq q6)
          have u3 := B6.out.c1
          clear t6 q6 u1 u2
          go_wp2_with fail
          refine (tw_agent_a T6.out _).mono ?_
          rintro e w7 ⟨rfl, t7, q7⟩
          have T7 := Lib.hid t7
          have B7 := Lib.hid (B6.out.kq q7)
          have u4 := B7.out.c1
          clear t7 q7 u3
          go_wp2_with fail
          refine (tw_agent_r T7.out _).mono ?_
          rintro e w8 ⟨rfl, t8, q8⟩
          have T8 := Lib.hid t8
          clear t8 q8 u4
          go_wp2_with (go_at_call 46; refine (tw_alike T8.out).mono ?_; rintro e w9 ⟨rfl, t9, q9⟩; have T9 := Lib.hid t9; clear t9 q9)
          all_goals
            refine ⟨⟨k + 1, ?_, by omega, ?_⟩, ?_⟩
            · first | (simp; done) | (simp; omega)
            · first | exact Lib.hid ⟨_, T9.out.sub (by simp)⟩ | exact Lib.hid ⟨_, T8.out.sub (by simp)⟩
            · simp [intOf]; omega
      · obtain rfl : k = L.length := by omega
        obtain ⟨S, TS⟩ := X.out
        have TT := Lib.hid TS
        clear TS
        go_wp2_with (first
          | (go_at_call 47; refine (tw_used TT.out).mono ?_; rintro e w3 ⟨rfl, rfl⟩)
          | (go_at_call 48; refine (tw_peak TT.out).mono ?_; rintro e w3 ⟨rfl, rfl⟩)
          | (go_at_call 36; refine (works07 _).mono ?_; rintro e w8 ⟨rfl, hb8⟩))
        go_ret
        exact ⟨rfl, TT.out.below.trans (hb8.mono TT.out.below.size)⟩
  · have hlen' : 4096 < L.length := by omega
    go_wp2_with (go_at_call 36; refine (works07 _).mono ?_; rintro e w8 ⟨rfl, hb8⟩)
    go_ret
    exact ⟨rfl, T2.out.below.trans (hb8.mono T2.out.below.size)⟩
end Go.Proofs.Ytbdfkgchliakfaa
