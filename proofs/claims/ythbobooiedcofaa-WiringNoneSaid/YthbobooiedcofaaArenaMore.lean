/-
  Contracts of package arena, continued: at, Get, Put, Give, Take.
-/
import Derived.Test.YthbobooiedcofaaArena
namespace Go.Proofs.Ythbobooiedcofaa
open Go.RowKit
attribute [local go_sem] cell_set
set_option maxRecDepth 100000

theorem slotE_cases (S : Ars) (c s : Int) : (S.slotE c s = 41 ∧ S.cell c = none) ∨ (S.slotE c s = 30 ∧ ∃ ag ws, S.cell c = some (ag, ws) ∧ (s < 0 ∨ (ws.length : Int) ≤ s)) ∨ (S.slotE c s = 0 ∧ ∃ ag ws, S.cell c = some (ag, ws) ∧ 0 ≤ s ∧ s < ws.length) := by
  unfold Ars.slotE
  cases hc : S.cell c with
  | none => exact .inl ⟨rfl, rfl⟩
  | some x =>
    obtain ⟨ag, ws⟩ := x
    simp only
    by_cases h : s < 0 ∨ (ws.length : Int) ≤ s
    · exact .inr (.inl ⟨by rw [if_pos h], ag, ws, rfl, h⟩)
    · exact .inr (.inr ⟨by rw [if_neg h], ag, ws, rfl, by omega, by omega⟩)

theorem ar_at_no (A : Nat) (S : Ars) (F : List Nat) (c s : Int) (w : World) (h : PA w A S F) (he : S.slotE c s ≠ 0) :
    Calls Try.prog 96 #[.pointer (some ⟨A, 0, none⟩), .int .i64 c, .int .i64 s] w fun e w' => e = .returned (.tuple #[.pointer none, .int .i64 (S.slotE c s)]) ∧ w = w' := by
  obtain ⟨VC, VB, cc, cb, c0, c1, c2, c3, hAl⟩ := h.head
  have hne := ok_ne h.ok
  have H := Lib.hid h
  rcases slotE_cases S c s with ⟨h1, hc⟩ | ⟨h1, ag, ws, hc, hs⟩ | ⟨h1, _⟩
  · have HE := Lib.hid h1
    have HS : Hid ((S.cell c).isSome = false) := by show _ = _; rw [hc]; rfl
    clear h hc h1 he
    go_enter Try.func96, Try.ntmps96
    go_wp2_with (first
      | (go_at_call 91; refine (ar_none_is _ S.most _ hne (by go_simp)).mono ?_; rintro e w' ⟨rfl, rfl⟩)
      | (go_at_call 93; refine (ar_is _ S F _ _ H.out).mono ?_; rintro e w1 ⟨rfl, rfl⟩; rw [HS.out]))
    go_ret2
    exact ⟨by rw [HE.out]; rfl, rfl⟩
  · obtain ⟨h0, hl⟩ := Ars.cell_some hc
    obtain ⟨i, rfl⟩ := Int.eq_ofNat_of_zero_le h0
    simp only [Int.toNat_natCast] at hl
    obtain ⟨g, cc', r, k1, hgl, ha, hr, hf, hlt⟩ := h.at_ hl
    have r1 : w.cell? ⟨g, i * 9 + 1, none⟩ = some (.int .i64 ((ws.length : Int) - 1)) := (hr 1 (by omega)).trans ha.2.2.1
    have HE := Lib.hid h1
    have HS : Hid ((S.cell i).isSome = true) := by show _ = _; rw [hc]; rfl
    clear h hc h1 he c1 hr hf ha hl h0
    rcases hs with hs | hs
    all_goals
      go_enter Try.func96, Try.ntmps96
      go_wp2_with (first
        | (go_at_call 91; refine (ar_none_is _ S.most _ hne (by go_simp)).mono ?_; rintro e w' ⟨rfl, rfl⟩)
        | (go_at_call 93; refine (ar_is _ S F _ _ H.out).mono ?_; rintro e w1 ⟨rfl, rfl⟩; rw [HS.out]))
      go_ret2
      exact ⟨by rw [HE.out]; rfl, rfl⟩
  · exact absurd h1 he

theorem ar_at_yes (A : Nat) (S : Ars) (F : List Nat) (i s g cc : Nat) (ag : Int) (ws : List Int) (w : World) (h : PA w A S F) (hc : S.cell i = some (ag, ws)) (hs : s < ws.length) (hg : w.cell? ⟨A, 1, none⟩ = some (.slice (some ⟨g, 0, none⟩) S.cells.length cc)) :
    Calls Try.prog 96 #[.pointer (some ⟨A, 0, none⟩), .int .i64 i, .int .i64 s] w fun e w' => e = .returned (.tuple #[.pointer (some ⟨g, i * 9 + 2 + s, none⟩), .int .i64 0]) ∧ w = w' := by
  obtain ⟨VC, VB, _, cb, c0, c1, c2, c3, hAl⟩ := h.head
  have hne := ok_ne h.ok
  have H := Lib.hid h
  obtain ⟨_, hl⟩ := Ars.cell_some hc
  simp only [Int.toNat_natCast] at hl
  obtain ⟨g', cc', r, k1, hgl, ha, hr, hf, hlt⟩ := h.at_ hl
  rw [hg] at k1
  simp only [Option.some.injEq, Value.slice.injEq, Addr.mk.injEq, and_true, true_and] at k1
  obtain ⟨rfl, rfl⟩ := k1
  have h7 := (h.ok.cell _ _ _ hl).2.2.2.1
  have r1 : w.cell? ⟨g, i * 9 + 1, none⟩ = some (.int .i64 ((ws.length : Int) - 1)) := (hr 1 (by omega)).trans ha.2.2.1
  have HS : Hid ((S.cell i).isSome = true) := by show _ = _; rw [hc]; rfl
  have hs7 : (s : Int) < 7 := by omega
  clear h hc c1 hr hf ha hl
  go_enter Try.func96, Try.ntmps96
  go_wp2_with (first
    | (go_at_call 91; refine (ar_none_is _ S.most _ hne (by go_simp)).mono ?_; rintro e w' ⟨rfl, rfl⟩)
    | (go_at_call 93; refine (ar_is _ S F _ _ H.out).mono ?_; rintro e w1 ⟨rfl, rfl⟩; rw [HS.out]))
  go_ret2
  exact ⟨rfl, rfl⟩

theorem ar_get (A : Nat) (S : Ars) (F : List Nat) (c s : Int) (w : World) (h : PA w A S F) :
    Calls Try.prog 72 #[.pointer (some ⟨A, 0, none⟩), .int .i64 c, .int .i64 s] w fun e w' => e = .returned (.tuple #[.int .u32 (S.getV c s), .int .i64 (S.slotE c s)]) ∧ w = w' := by
  by_cases he : S.slotE c s = 0
  · rcases slotE_cases S c s with ⟨h1, _⟩ | ⟨h1, _⟩ | ⟨h1, ag, ws, hc, hs0, hs⟩
    · omega
    · omega
    · obtain ⟨h0, hl⟩ := Ars.cell_some hc
      obtain ⟨i, rfl⟩ := Int.eq_ofNat_of_zero_le h0
      obtain ⟨k, rfl⟩ := Int.eq_ofNat_of_zero_le hs0
      have hk : k < ws.length := by omega
      simp only [Int.toNat_natCast] at hl
      have h7 := (h.ok.cell _ _ _ hl).2.2.2.1
      obtain ⟨g, cc', r, k1, hgl, ha, hr, hf, hlt⟩ := h.at_ hl
      have r1 : w.cell? ⟨g, i * 9 + 2 + k, none⟩ = some (.int .u32 (ws.getD k 0)) := by
        rw [show i * 9 + 2 + k = i * 9 + (2 + k) by omega, hr (2 + k) (by omega)]; exact ha.2.2.2.1 k hk
      have HV : Hid (S.getV i k = ws.getD k 0) := by
        show _ = _; unfold Ars.getV; rw [hc]; simp only; rw [if_neg (by omega)]; simp
      have HE := Lib.hid h1
      have HAT := Lib.hid (ar_at_yes A S F i k g cc' ag ws w h hc hk k1)
      clear h hc h1 he hr hf ha hl h0 k1
      go_enter Try.func72, Try.ntmps72
      go_wp2_with (go_at_call 96; refine HAT.out.mono ?_; rintro e w' ⟨rfl, rfl⟩)
      go_ret2
      exact ⟨retI2 (by rw [HV.out]; simp [hk]) (by rw [HE.out]), rfl⟩
  · have HV : Hid (S.getV c s = 0) := by
      show _ = _
      rcases slotE_cases S c s with ⟨h1, hc⟩ | ⟨h1, ag, ws, hc, hs⟩ | ⟨h1, _⟩
      · unfold Ars.getV; rw [hc]
      · unfold Ars.getV; rw [hc]; simp only; rw [if_pos hs]
      · exact absurd h1 he
    have hne : (S.slotE c s != 0) = true := by simpa using he
    have HAT := Lib.hid (ar_at_no A S F c s w h he)
    clear h he
    go_enter Try.func72, Try.ntmps72
    go_wp2_with (go_at_call 96; refine HAT.out.mono ?_; rintro e w' ⟨rfl, rfl⟩)
    go_ret2
    exact ⟨by rw [HV.out]; rfl, rfl⟩

theorem ar_put (A : Nat) (S : Ars) (F : List Nat) (c s v : Int) (hv : 0 ≤ v ∧ v < 4294967296) (w : World) (h : PA w A S F) :
    Calls Try.prog 47 #[.pointer (some ⟨A, 0, none⟩), .int .i64 c, .int .i64 s, .int .u32 v] w fun e w' => e = .returned (.int .i64 (S.slotE c s)) ∧ PA w' A (S.put c s v) F ∧ Kp F w w' ∧ w'.heap.size = w.heap.size := by
  by_cases he : S.slotE c s = 0
  · rcases slotE_cases S c s with ⟨h1, _⟩ | ⟨h1, _⟩ | ⟨h1, ag, ws, hc, hs0, hs⟩
    · omega
    · omega
    · obtain ⟨h0, hl⟩ := Ars.cell_some hc
      obtain ⟨i, rfl⟩ := Int.eq_ofNat_of_zero_le h0
      obtain ⟨k, rfl⟩ := Int.eq_ofNat_of_zero_le hs0
      have hk : k < ws.length := by omega
      simp only [Int.toNat_natCast] at hl
      have h7 := (h.ok.cell _ _ _ hl).2.2.2.1
      obtain ⟨g, cc', r, k1, hgl, ha, hr, hf, hlt⟩ := h.at_ hl
      have r1 : w.cell? ⟨g, i * 9 + 2 + k, none⟩ = some (.int .u32 (ws.getD k 0)) := by
        rw [show i * 9 + 2 + k = i * 9 + (2 + k) by omega, hr (2 + k) (by omega)]; exact ha.2.2.2.1 k hk
      have r2 := hf (i * 9 + 2 + k)
      have hP : PA (w.setCell ⟨g, i * 9 + (2 + k), none⟩ (.int .u32 v)) A (S.put i k v) F :=
        h.turn hl (by omega) k1 (c' := some (ag, ws.set k v)) (by unfold Ars.put; rw [hc]; simp only; rw [if_neg (by omega)]; simp) (h.ok.put _ _ _ hv) (fun r hr => hr.word hk h7 v)
      have hgF : g ∈ F := by
        obtain ⟨cv, bv, rows, hA, _, _, _, _, rfl, _⟩ := h
        have : cv = .slice (some ⟨g, 0, none⟩) S.cells.length cc' := by simpa [World.cell?, hA] using k1
        rw [this]; simp [ownB]
      have HP := Lib.hid (And.intro hP hgF)
      have HE := Lib.hid h1
      have HAT := Lib.hid (ar_at_yes A S F i k g cc' ag ws w h hc hk k1)
      clear h hc h1 he hr hf ha hl h0 k1 hP hgF hv
      go_enter Try.func47, Try.ntmps47
      go_wp2_with (go_at_call 96; refine HAT.out.mono ?_; rintro e w' ⟨rfl, rfl⟩)
      go_ret
      exact ⟨by rw [HE.out]; rfl, by rw [show i * 9 + 2 + k = i * 9 + (2 + k) by omega]; exact HP.out.1, (Kp.refl _ _).setCell (.inl HP.out.2) _, by simp⟩
  · have HS : Hid (S.put c s v = S) := by
      show _ = _
      rcases slotE_cases S c s with ⟨h1, hc⟩ | ⟨h1, ag, ws, hc, hs⟩ | ⟨h1, _⟩
      · unfold Ars.put; rw [hc]
      · unfold Ars.put; rw [hc]; simp only; rw [if_pos hs]
      · exact absurd h1 he
    have hne : (S.slotE c s == 0) = false := by simpa using he
    have HAT := Lib.hid (ar_at_no A S F c s w h he)
    have H := Lib.hid h
    clear h he hv
    go_enter Try.func47, Try.ntmps47
    go_wp2_with (go_at_call 96; refine HAT.out.mono ?_; rintro e w' ⟨rfl, rfl⟩)
    go_ret
    exact ⟨rfl, by rw [HS.out]; exact H.out, Kp.refl _ _, rfl⟩
end Go.Proofs.Ythbobooiedcofaa
