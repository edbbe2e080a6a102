/-
  Contracts of package sig: Word, Name, Pair, Unpair, and of the reference for them.
-/
import Derived.Test.YtogbanlfihabpaaChecked
import Derived.Test.YtogbanlfihabpaaBase
import Derived.WalkKit
import Derived.Below
import Derived.Lib.Hide
import Derived.Outline
namespace Go.Proofs.Ytogbanlfihabpaa
open Go.RowKit
attribute [local go_sem] cell_set

def okc (c : UInt8) : Bool := (decide (97 ≤ (c.toNat : Int)) && decide ((c.toNat : Int) ≤ 122)) || (decide (65 ≤ (c.toNat : Int)) && decide ((c.toNat : Int) ≤ 90)) || (decide (48 ≤ (c.toNat : Int)) && decide ((c.toNat : Int) ≤ 57)) || decide ((c.toNat : Int) = 95)
def bgn (lo hi : Int) : List UInt8 → Bool
  | [] => false
  | c :: t => decide (t.length ≤ 15) && decide (lo ≤ (c.toNat : Int)) && decide ((c.toNat : Int) ≤ hi) && t.all okc
def bgnS (s : ByteArray) (lo hi : Int) : Bool := bgn lo hi s.data.toList

theorem bgn_empty {s : ByteArray} {lo hi : Int} (h : s.size = 0) : bgnS s lo hi = false := by
  unfold bgnS
  cases hl : s.data.toList with
  | nil => rfl
  | cons c t => have : s.data.toList.length = 0 := by simpa using h
                rw [hl] at this; simp at this
theorem bgn_cons {s : ByteArray} (h : 0 < s.size) : ∃ t, s.data.toList = s[0] :: t ∧ t.length + 1 = s.size ∧ ∀ k (hk : k + 1 < s.size), t[k]? = some s[k + 1] := by
  cases hl : s.data.toList with
  | nil => have : s.data.toList.length = s.size := by simp
           rw [hl] at this; simp at this; omega
  | cons c t =>
    have hlen : s.data.toList.length = s.size := by simp
    have h0 : s.data.toList[0]? = some s[0] := by rw [List.getElem?_eq_getElem (by omega)]; rfl
    rw [hl] at h0 hlen
    simp at h0
    subst h0
    refine ⟨t, rfl, by simpa using hlen, fun k hk => ?_⟩
    have hk1 : s.data.toList[k + 1]? = some s[k + 1] := by rw [List.getElem?_eq_getElem (by rw [hl]; omega)]; rfl
    rw [hl] at hk1
    simpa using hk1
theorem bgn_long {s : ByteArray} {lo hi : Int} (h : 16 < s.size) : bgnS s lo hi = false := by
  obtain ⟨t, e, hl, _⟩ := bgn_cons (s := s) (by omega)
  unfold bgnS; rw [e]
  simp [bgn, show ¬ t.length ≤ 15 by omega]
theorem bgn_first {s : ByteArray} {lo hi : Int} (h : 0 < s.size) (h1 : (s[0].toNat : Int) < lo ∨ hi < (s[0].toNat : Int)) : bgnS s lo hi = false := by
  obtain ⟨t, e, hl, _⟩ := bgn_cons h
  unfold bgnS; rw [e]
  rcases h1 with h1 | h1
  · simp [bgn, show ¬ lo ≤ (s[0].toNat : Int) by omega]
  · simp [bgn, show ¬ (s[0].toNat : Int) ≤ hi by omega]
theorem bgn_bad {s : ByteArray} {lo hi : Int} {k : Nat} (h1 : 1 ≤ k) (hk : k < s.size) (hc : okc s[k] = false) : bgnS s lo hi = false := by
  obtain ⟨t, e, hl, ht⟩ := bgn_cons (s := s) (by omega)
  unfold bgnS; rw [e]
  obtain ⟨j, rfl⟩ : ∃ j, k = j + 1 := ⟨k - 1, by omega⟩
  have : t.all okc = false := by
    rw [List.all_eq_false]
    exact ⟨s[j + 1], List.mem_of_getElem? (ht j hk), by simp [hc]⟩
  simp [bgn, this]
theorem bgn_good {s : ByteArray} {lo hi : Int} (h : 0 < s.size) (h16 : s.size ≤ 16) (h1 : lo ≤ (s[0].toNat : Int)) (h2 : (s[0].toNat : Int) ≤ hi) (ha : ∀ k (hk : k < s.size), 1 ≤ k → okc s[k] = true) : bgnS s lo hi = true := by
  obtain ⟨t, e, hl, ht⟩ := bgn_cons h
  unfold bgnS; rw [e]
  have : t.all okc = true := by
    rw [List.all_eq_true]
    intro x hx
    obtain ⟨j, hj, rfl⟩ := List.mem_iff_getElem.1 hx
    have := ht j (by omega)
    rw [List.getElem?_eq_getElem hj] at this
    injection this with this
    rw [this]
    exact ha (j + 1) (by omega) (by omega)
  simp [bgn, this, h1, h2, show t.length ≤ 15 by omega]

set_option maxRecDepth 100000
theorem okc_iff (c : UInt8) : okc c = true ↔ (97 ≤ (c.toNat : Int) ∧ (c.toNat : Int) ≤ 122) ∨ (65 ≤ (c.toNat : Int) ∧ (c.toNat : Int) ≤ 90) ∨ (48 ≤ (c.toNat : Int) ∧ (c.toNat : Int) ≤ 57) ∨ (c.toNat : Int) = 95 := by
  simp only [okc, Bool.or_eq_true, Bool.and_eq_true, decide_eq_true_eq]
  omega
theorem okc_step {s : ByteArray} {k : Nat} (h : ∀ j (hj : j < s.size), 1 ≤ j → j < k → okc s[j] = true) {hk : k < s.size} (hc : okc s[k] = true) : Hid (∀ j (hj : j < s.size), 1 ≤ j → j < k + 1 → okc s[j] = true) := by
  intro j hj h1 h2
  rcases Nat.lt_or_ge j k with hlt | hge
  · exact h j hj h1 hlt
  · obtain rfl : j = k := by omega
    exact hc
theorem okc_no {c : UInt8} (h : ¬ ((97 ≤ (c.toNat : Int) ∧ (c.toNat : Int) ≤ 122) ∨ (65 ≤ (c.toNat : Int) ∧ (c.toNat : Int) ≤ 90) ∨ (48 ≤ (c.toNat : Int) ∧ (c.toNat : Int) ≤ 57) ∨ (c.toNat : Int) = 95)) : okc c = false := by
  cases hc : okc c with
  | false => rfl
  | true => exact absurd ((okc_iff c).1 hc) h

theorem begins_no (s : ByteArray) (lo hi : Int) (h : s.size = 0 ∨ 16 < s.size ∨ ∃ h0 : 0 < s.size, (s[0].toNat : Int) < lo ∨ hi < (s[0].toNat : Int)) (w : World) :
    Calls Try.prog 59 #[.string s, .int .u8 lo, .int .u8 hi] w fun e w' => e = .returned (.bool (bgnS s lo hi)) ∧ w = w' := by
  have H : Hid (bgnS s lo hi = false) := by
    rcases h with h | h | ⟨h0, h⟩
    · exact bgn_empty h
    · exact bgn_long h
    · exact bgn_first h0 h
  have h' : s.size = 0 ∨ 16 < s.size ∨ (∃ h0 : 0 < s.size, s.size ≤ 16 ∧ (s[0].toNat : Int) < lo) ∨ (∃ h0 : 0 < s.size, s.size ≤ 16 ∧ lo ≤ (s[0].toNat : Int) ∧ decide ((s[0].toNat : Int) ≤ hi) = false) := by
    by_cases h16 : 16 < s.size
    · exact .inr (.inl h16)
    · rcases h with h | h | ⟨h0, h⟩
      · exact .inl h
      · exact .inr (.inl h)
      · by_cases hl : (s[0].toNat : Int) < lo
        · exact .inr (.inr (.inl ⟨h0, by omega, hl⟩))
        · exact .inr (.inr (.inr ⟨h0, by omega, by omega, by simp; omega⟩))
  clear h
  rcases h' with h | h | ⟨h0, h16, h⟩ | ⟨h0, h16, h, h2⟩
  all_goals
    go_enter Try.func59, Try.ntmps59
    go_wp2
    go_step3
    go_wp2
    go_step3
    go_wp2
    go_loop [7] (fun v => v = .bool false) (fun _ => 0)
    case atStart => rfl
    case round =>
      obtain rfl := hrel
      go_wp2
      try rw [Exit.noGoto_ret]
      go_ret
      exact ⟨ret_b H.out.symm, rfl⟩

set_option maxHeartbeats 400000 in
theorem begins_yes (s : ByteArray) (lo hi : Int) (h0 : 0 < s.size) (h16 : s.size ≤ 16) (hl : lo ≤ (s[0].toNat : Int)) (hh : (s[0].toNat : Int) ≤ hi) (w : World) :
    Calls Try.prog 59 #[.string s, .int .u8 lo, .int .u8 hi] w fun e w' => e = .returned (.bool (bgnS s lo hi)) ∧ w = w' := by
  have hd : decide ((s[0].toNat : Int) ≤ hi) = true := by simpa using hh
  have G := Lib.hid (fun ha => bgn_good (lo := lo) (hi := hi) h0 h16 hl hh ha)
  have hs : s.size ≤ 9223372036854775807 := by omega
  go_enter Try.func59, Try.ntmps59
  go_wp2
  go_step3
  go_wp2
  go_step3
  go_wp2
  go_loop [7, 8] (fun b i => ∃ k : Nat, 1 ≤ k ∧ k ≤ s.size ∧ b = .bool true ∧ i = .int .i64 k ∧ Hid (∀ j (hj : j < s.size), 1 ≤ j → j < k → okc s[j] = true)) (fun _ i => s.size - (intOf i).toNat)
  case atStart => exact ⟨1, by omega, by omega, rfl, rfl, fun j hj h1 h2 => by omega⟩
  case round =>
    obtain ⟨k, hk1, hks, rfl, rfl, HA⟩ := hrel
    by_cases hlt : k < s.size
    · rcases (by by_cases h : (s[k].toNat : Int) = 95
                 · exact .inl ⟨h, beq_iff_eq.2 h⟩
                 · exact .inr ⟨h, beq_eq_false_iff_ne.2 h⟩ : (Hid ((s[k].toNat : Int) = 95) ∧ ((s[k].toNat : Int) == 95) = true) ∨ (Hid (¬ (s[k].toNat : Int) = 95) ∧ ((s[k].toNat : Int) == 95) = false)) with ⟨H95, hb95⟩ | ⟨H95, hb95⟩
      all_goals go_wp2
      all_goals first
        | (go_round
           case rel =>
             refine ⟨k + 1, by omega, by omega, rfl, by go_num, okc_step (hk := hlt) HA.out ((okc_iff _).2 ?_)⟩
             have := H95.out; omega
           case measure => simp [intOf]; omega)
        | ((try rw [Exit.noGoto_ret]); go_ret
           refine ⟨ret_b (Eq.symm (bgn_bad hk1 hlt (okc_no ?_))), rfl⟩
           have := H95.out; omega)
    · go_wp2
      (try rw [Exit.noGoto_ret]); go_ret
      exact ⟨ret_b (G.out (fun j hj h1 => HA.out j hj h1 (by omega))).symm, rfl⟩

theorem begins_any (s : ByteArray) (lo hi : Int) (w : World) :
    Calls Try.prog 59 #[.string s, .int .u8 lo, .int .u8 hi] w fun e w' => e = .returned (.bool (bgnS s lo hi)) ∧ w = w' := by
  by_cases h0 : 0 < s.size
  · by_cases h16 : 16 < s.size
    · exact begins_no s lo hi (.inr (.inl h16)) w
    · by_cases h : (s[0].toNat : Int) < lo ∨ hi < (s[0].toNat : Int)
      · exact begins_no s lo hi (.inr (.inr ⟨h0, h⟩)) w
      · exact begins_yes s lo hi h0 (by omega) (by omega) (by omega) w
  · exact begins_no s lo hi (.inl (by omega)) w

/-! The reference's own -/
theorem rbegins_no (s : ByteArray) (lo hi : Int) (h : s.size = 0 ∨ 16 < s.size ∨ ∃ h0 : 0 < s.size, (s[0].toNat : Int) < lo ∨ hi < (s[0].toNat : Int)) (w : World) :
    Calls Try.prog 34 #[.string s, .int .u8 lo, .int .u8 hi] w fun e w' => e = .returned (.bool (bgnS s lo hi)) ∧ w = w' := by
  have H : Hid (bgnS s lo hi = false) := by
    rcases h with h | h | ⟨h0, h⟩
    · exact bgn_empty h
    · exact bgn_long h
    · exact bgn_first h0 h
  have h' : s.size = 0 ∨ 16 < s.size ∨ (∃ h0 : 0 < s.size, s.size ≤ 16 ∧ (s[0].toNat : Int) < lo) ∨ (∃ h0 : 0 < s.size, s.size ≤ 16 ∧ lo ≤ (s[0].toNat : Int) ∧ hi < (s[0].toNat : Int)) := by
    by_cases h16 : 16 < s.size
    · exact .inr (.inl h16)
    · rcases h with h | h | ⟨h0, h⟩
      · exact .inl h
      · exact .inr (.inl h)
      · by_cases hl : (s[0].toNat : Int) < lo
        · exact .inr (.inr (.inl ⟨h0, by omega, hl⟩))
        · exact .inr (.inr (.inr ⟨h0, by omega, by omega, by omega⟩))
  clear h
  rcases h' with h | h | ⟨h0, h16, h⟩ | ⟨h0, h16, h, h2⟩
  all_goals
    go_enter Try.func34, Try.ntmps34
    go_wp2
    go_ret
    exact ⟨ret_b H.out.symm, rfl⟩

set_option maxHeartbeats 400000 in
theorem rbegins_yes (s : ByteArray) (lo hi : Int) (h0 : 0 < s.size) (h16 : s.size ≤ 16) (hl : lo ≤ (s[0].toNat : Int)) (hh : (s[0].toNat : Int) ≤ hi) (w : World) :
    Calls Try.prog 34 #[.string s, .int .u8 lo, .int .u8 hi] w fun e w' => e = .returned (.bool (bgnS s lo hi)) ∧ w = w' := by
  have G := Lib.hid (fun ha => bgn_good (lo := lo) (hi := hi) h0 h16 hl hh ha)
  have hs : s.size ≤ 9223372036854775807 := by omega
  go_enter Try.func34, Try.ntmps34
  go_wp2
  go_loop [7] (fun i => ∃ k : Nat, 1 ≤ k ∧ k ≤ s.size ∧ i = .int .i64 k ∧ Hid (∀ j (hj : j < s.size), 1 ≤ j → j < k → okc s[j] = true)) (fun i => s.size - (intOf i).toNat)
  case atStart => exact ⟨1, by omega, by omega, rfl, fun j hj h1 h2 => by omega⟩
  case round =>
    obtain ⟨k, hk1, hks, rfl, HA⟩ := hrel
    by_cases hlt : k < s.size
    · rcases (by by_cases h : (s[k].toNat : Int) = 95
                 · exact .inl ⟨h, beq_iff_eq.2 h⟩
                 · exact .inr ⟨h, beq_eq_false_iff_ne.2 h⟩ : (Hid ((s[k].toNat : Int) = 95) ∧ ((s[k].toNat : Int) == 95) = true) ∨ (Hid (¬ (s[k].toNat : Int) = 95) ∧ ((s[k].toNat : Int) == 95) = false)) with ⟨H95, hb95⟩ | ⟨H95, hb95⟩
      all_goals go_wp2
      all_goals first
        | (go_round
           case rel =>
             refine ⟨k + 1, by omega, by omega, by go_num, okc_step (hk := hlt) HA.out ((okc_iff _).2 ?_)⟩
             have := H95.out; omega
           case measure => simp [intOf]; omega)
        | (go_ret
           refine ⟨ret_b (Eq.symm (bgn_bad hk1 hlt (okc_no ?_))), rfl⟩
           have := H95.out; omega)
        | (exfalso; simp only [Bool.not_eq_false', decide_eq_true_eq] at *; omega)
    · go_wp2
      go_ret
      exact ⟨ret_b (G.out (fun j hj h1 => HA.out j hj h1 (by omega))).symm, rfl⟩

theorem rbegins_any (s : ByteArray) (lo hi : Int) (w : World) :
    Calls Try.prog 34 #[.string s, .int .u8 lo, .int .u8 hi] w fun e w' => e = .returned (.bool (bgnS s lo hi)) ∧ w = w' := by
  by_cases h0 : 0 < s.size
  · by_cases h16 : 16 < s.size
    · exact rbegins_no s lo hi (.inr (.inl h16)) w
    · by_cases h : (s[0].toNat : Int) < lo ∨ hi < (s[0].toNat : Int)
      · exact rbegins_no s lo hi (.inr (.inr ⟨h0, h⟩)) w
      · exact rbegins_yes s lo hi h0 (by omega) (by omega) (by omega) w
  · exact rbegins_no s lo hi (.inl (by omega)) w

/-! Pair, Unpair -/
theorem word_any (s : ByteArray) (w : World) : Calls Try.prog 50 #[.string s] w fun e w' => e = .returned (.bool (bgnS s 65 90)) ∧ w = w' := by
  go_enter Try.func50, Try.ntmps50
  go_wp2_with (go_at_call 59; refine (begins_any _ _ _ _).mono ?_; rintro e w' ⟨rfl, rfl⟩)
  go_ret
  exact ⟨rfl, rfl⟩
theorem rword_any (s : ByteArray) (w : World) : Calls Try.prog 28 #[.string s] w fun e w' => e = .returned (.bool (bgnS s 65 90)) ∧ w = w' := by
  go_enter Try.func28, Try.ntmps28
  go_wp2_with (go_at_call 34; refine (rbegins_any _ _ _ _).mono ?_; rintro e w' ⟨rfl, rfl⟩)
  go_ret
  exact ⟨rfl, rfl⟩
end Go.Proofs.Ytogbanlfihabpaa
