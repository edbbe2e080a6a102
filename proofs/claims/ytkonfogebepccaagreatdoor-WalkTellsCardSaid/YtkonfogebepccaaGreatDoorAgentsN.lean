/-
  Contracts of package sig over lists of agents: Of, Ports, Check, and of the reference for them.
-/
import Derived.Test.YtkonfogebepccaaGreatDoorChecked
import Derived.Test.YtkonfogebepccaaGreatDoorBase
import Derived.WalkKit
import Derived.Below
import Derived.Lib.Hide
import Derived.Outline
import Derived.Deep.QuietTactic
import Derived.BigQuiet
import Derived.StillTailTactics
/-
  Contracts of package sig: Word, Name, Pair, Unpair, and of the reference for them.
-/
namespace Go.Proofs.YtkonfogebepccaaGreatDoor
open Go.RowKit
attribute [local go_sem] cell_set

def okc (c : UInt8) : Bool := (decide (97 ≤ (c.toNat : Int)) && decide ((c.toNat : Int) ≤ 122)) || (decide (65 ≤ (c.toNat : Int)) && decide ((c.toNat : Int) ≤ 90)) || (decide (48 ≤ (c.toNat : Int)) && decide ((c.toNat : Int) ≤ 57)) || decide ((c.toNat : Int) = 95)
def bgn (lo hi : Int) : List UInt8 → Bool
  | [] => false
  | c :: t => decide (t.length ≤ 15) && decide (lo ≤ (c.toNat : Int)) && decide ((c.toNat : Int) ≤ hi) && t.all okc
def bgnS (s : ByteArray) (lo hi : Int) : Bool := bgn lo hi s.data.toList

theorem bgn_empty {s : ByteArray} {lo hi : Int} (h : s.size = 0) : bgnS s lo hi = false := by
  unfold bgnS
  cases hl : s.data.toList with
  | nil => rfl
  | cons c t => have : s.data.toList.length = 0 := by simpa using h
                rw [hl] at this; simp at this
theorem bgn_cons {s : ByteArray} (h : 0 < s.size) : ∃ t, s.data.toList = s[0] :: t ∧ t.length + 1 = s.size ∧ ∀ k (hk : k + 1 < s.size), t[k]? = some s[k + 1] := by
  cases hl : s.data.toList with
  | nil => have : s.data.toList.length = s.size := by simp
           rw [hl] at this; simp at this; omega
  | cons c t =>
    have hlen : s.data.toList.length = s.size := by simp
    have h0 : s.data.toList[0]? = some s[0] := by rw [List.getElem?_eq_getElem (by omega)]; rfl
    rw [hl] at h0 hlen
    simp at h0
    subst h0
    refine ⟨t, rfl, by simpa using hlen, fun k hk => ?_⟩
    have hk1 : s.data.toList[k + 1]? = some s[k + 1] := by rw [List.getElem?_eq_getElem (by rw [hl]; omega)]; rfl
    rw [hl] at hk1
    simpa using hk1
theorem bgn_long {s : ByteArray} {lo hi : Int} (h : 16 < s.size) : bgnS s lo hi = false := by
  obtain ⟨t, e, hl, _⟩ := bgn_cons (s := s) (by omega)
  unfold bgnS; rw [e]
  simp [bgn, show ¬ t.length ≤ 15 by omega]
theorem bgn_first {s : ByteArray} {lo hi : Int} (h : 0 < s.size) (h1 : (s[0].toNat : Int) < lo ∨ hi < (s[0].toNat : Int)) : bgnS s lo hi = false := by
  obtain ⟨t, e, hl, _⟩ := bgn_cons h
  unfold bgnS; rw [e]
  rcases h1 with h1 | h1
  · simp [bgn, show ¬ lo ≤ (s[0].toNat : Int) by omega]
  · simp [bgn, show ¬ (s[0].toNat : Int) ≤ hi by omega]
theorem bgn_bad {s : ByteArray} {lo hi : Int} {k : Nat} (h1 : 1 ≤ k) (hk : k < s.size) (hc : okc s[k] = false) : bgnS s lo hi = false := by
  obtain ⟨t, e, hl, ht⟩ := bgn_cons (s := s) (by omega)
  unfold bgnS; rw [e]
  obtain ⟨j, rfl⟩ : ∃ j, k = j + 1 := ⟨k - 1, by omega⟩
  have : t.all okc = false := by
    rw [List.all_eq_false]
    exact ⟨s[j + 1], List.mem_of_getElem? (ht j hk), by simp [hc]⟩
  simp [bgn, this]
theorem bgn_good {s : ByteArray} {lo hi : Int} (h : 0 < s.size) (h16 : s.size ≤ 16) (h1 : lo ≤ (s[0].toNat : Int)) (h2 : (s[0].toNat : Int) ≤ hi) (ha : ∀ k (hk : k < s.size), 1 ≤ k → okc s[k] = true) : bgnS s lo hi = true := by
  obtain ⟨t, e, hl, ht⟩ := bgn_cons h
  unfold bgnS; rw [e]
  have : t.all okc = true := by
    rw [List.all_eq_true]
    intro x hx
    obtain ⟨j, hj, rfl⟩ := List.mem_iff_getElem.1 hx
    have := ht j (by omega)
    rw [List.getElem?_eq_getElem hj] at this
    injection this with this
    rw [this]
    exact ha (j + 1) (by omega) (by omega)
  simp [bgn, this, h1, h2, show t.length ≤ 15 by omega]

set_option maxRecDepth 100000
theorem okc_iff (c : UInt8) : okc c = true ↔ (97 ≤ (c.toNat : Int) ∧ (c.toNat : Int) ≤ 122) ∨ (65 ≤ (c.toNat : Int) ∧ (c.toNat : Int) ≤ 90) ∨ (48 ≤ (c.toNat : Int) ∧ (c.toNat : Int) ≤ 57) ∨ (c.toNat : Int) = 95 := by
  simp only [okc, Bool.or_eq_true, Bool.and_eq_true, decide_eq_true_eq]
  omega
theorem okc_step {s : ByteArray} {k : Nat} (h : ∀ j (hj : j < s.size), 1 ≤ j → j < k → okc s[j] = true) {hk : k < s.size} (hc : okc s[k] = true) : Hid (∀ j (hj : j < s.size), 1 ≤ j → j < k + 1 → okc s[j] = true) := by
  intro j hj h1 h2
  rcases Nat.lt_or_ge j k with hlt | hge
  · exact h j hj h1 hlt
  · obtain rfl : j = k := by omega
    exact hc
theorem okc_no {c : UInt8} (h : ¬ ((97 ≤ (c.toNat : Int) ∧ (c.toNat : Int) ≤ 122) ∨ (65 ≤ (c.toNat : Int) ∧ (c.toNat : Int) ≤ 90) ∨ (48 ≤ (c.toNat : Int) ∧ (c.toNat : Int) ≤ 57) ∨ (c.toNat : Int) = 95)) : okc c = false := by
  cases hc : okc c with
  | false => rfl
  | true => exact absurd ((okc_iff c).1 hc) h

theorem begins_no (s : ByteArray) (lo hi : Int) (h : s.size = 0 ∨ 16 < s.size ∨ ∃ h0 : 0 < s.size, (s[0].toNat : Int) < lo ∨ hi < (s[0].toNat : Int)) (w : World) :
    Calls Tryz.prog 92 #[.string s, .int .u8 lo, .int .u8 hi] w fun e w' => e = .returned (.bool (bgnS s lo hi)) ∧ w = w' := by
  have H : Hid (bgnS s lo hi = false) := by
    rcases h with h | h | ⟨h0, h⟩
    · exact bgn_empty h
    · exact bgn_long h
    · exact bgn_first h0 h
  have h' : s.size = 0 ∨ 16 < s.size ∨ (∃ h0 : 0 < s.size, s.size ≤ 16 ∧ (s[0].toNat : Int) < lo) ∨ (∃ h0 : 0 < s.size, s.size ≤ 16 ∧ lo ≤ (s[0].toNat : Int) ∧ decide ((s[0].toNat : Int) ≤ hi) = false) := by
    by_cases h16 : 16 < s.size
    · exact .inr (.inl h16)
    · rcases h with h | h | ⟨h0, h⟩
      · exact .inl h
      · exact .inr (.inl h)
      · by_cases hl : (s[0].toNat : Int) < lo
        · exact .inr (.inr (.inl ⟨h0, by omega, hl⟩))
        · exact .inr (.inr (.inr ⟨h0, by omega, by omega, by simp; omega⟩))
  clear h
  rcases h' with h | h | ⟨h0, h16, h⟩ | ⟨h0, h16, h, h2⟩
  all_goals
    go_enter Tryz.func92, Tryz.ntmps92
    go_wp2
    go_step3
    go_wp2
    go_step3
    go_wp2
    go_loop [7] (fun v => v = .bool false) (fun _ => 0)
    case atStart => rfl
    case round =>
      obtain rfl := hrel
      go_wp2
      try rw [Exit.noGoto_ret]
      go_ret
      exact ⟨ret_b H.out.symm, rfl⟩

set_option maxHeartbeats 400000 in
theorem begins_yes (s : ByteArray) (lo hi : Int) (h0 : 0 < s.size) (h16 : s.size ≤ 16) (hl : lo ≤ (s[0].toNat : Int)) (hh : (s[0].toNat : Int) ≤ hi) (w : World) :
    Calls Tryz.prog 92 #[.string s, .int .u8 lo, .int .u8 hi] w fun e w' => e = .returned (.bool (bgnS s lo hi)) ∧ w = w' := by
  have hd : decide ((s[0].toNat : Int) ≤ hi) = true := by simpa using hh
  have G := Lib.hid (fun ha => bgn_good (lo := lo) (hi := hi) h0 h16 hl hh ha)
  have hs : s.size ≤ 9223372036854775807 := by omega
  go_enter Tryz.func92, Tryz.ntmps92
  go_wp2
  go_step3
  go_wp2
  go_step3
  go_wp2
  go_loop [7, 8] (fun b i => ∃ k : Nat, 1 ≤ k ∧ k ≤ s.size ∧ b = .bool true ∧ i = .int .i64 k ∧ Hid (∀ j (hj : j < s.size), 1 ≤ j → j < k → okc s[j] = true)) (fun _ i => s.size - (intOf i).toNat)
  case atStart => exact ⟨1, by omega, by omega, rfl, rfl, fun j hj h1 h2 => by omega⟩
  case round =>
    obtain ⟨k, hk1, hks, rfl, rfl, HA⟩ := hrel
    by_cases hlt : k < s.size
    · rcases (by by_cases h : (s[k].toNat : Int) = 95
                 · exact .inl ⟨h, beq_iff_eq.2 h⟩
                 · exact .inr ⟨h, beq_eq_false_iff_ne.2 h⟩ : (Hid ((s[k].toNat : Int) = 95) ∧ ((s[k].toNat : Int) == 95) = true) ∨ (Hid (¬ (s[k].toNat : Int) = 95) ∧ ((s[k].toNat : Int) == 95) = false)) with ⟨H95, hb95⟩ | ⟨H95, hb95⟩
      all_goals go_wp2
      all_goals first
        | (go_round
           case rel =>
             refine ⟨k + 1, by omega, by omega, rfl, by go_num, okc_step (hk := hlt) HA.out ((okc_iff _).2 ?_)⟩
             have := H95.out; omega
           case measure => simp [intOf]; omega)
        | ((try rw [Exit.noGoto_ret]); go_ret
           refine ⟨ret_b (Eq.symm (bgn_bad hk1 hlt (okc_no ?_))), rfl⟩
           have := H95.out; omega)
    · go_wp2
      (try rw [Exit.noGoto_ret]); go_ret
      exact ⟨ret_b (G.out (fun j hj h1 => HA.out j hj h1 (by omega))).symm, rfl⟩

theorem begins_any (s : ByteArray) (lo hi : Int) (w : World) :
    Calls Tryz.prog 92 #[.string s, .int .u8 lo, .int .u8 hi] w fun e w' => e = .returned (.bool (bgnS s lo hi)) ∧ w = w' := by
  by_cases h0 : 0 < s.size
  · by_cases h16 : 16 < s.size
    · exact begins_no s lo hi (.inr (.inl h16)) w
    · by_cases h : (s[0].toNat : Int) < lo ∨ hi < (s[0].toNat : Int)
      · exact begins_no s lo hi (.inr (.inr ⟨h0, h⟩)) w
      · exact begins_yes s lo hi h0 (by omega) (by omega) (by omega) w
  · exact begins_no s lo hi (.inl (by omega)) w

/-! The reference's own -/
theorem rbegins_no (s : ByteArray) (lo hi : Int) (h : s.size = 0 ∨ 16 < s.size ∨ ∃ h0 : 0 < s.size, (s[0].toNat : Int) < lo ∨ hi < (s[0].toNat : Int)) (w : World) :
    Calls Tryz.prog 84 #[.string s, .int .u8 lo, .int .u8 hi] w fun e w' => e = .returned (.bool (bgnS s lo hi)) ∧ w = w' := by
  have H : Hid (bgnS s lo hi = false) := by
    rcases h with h | h | ⟨h0, h⟩
    · exact bgn_empty h
    · exact bgn_long h
    · exact bgn_first h0 h
  have h' : s.size = 0 ∨ 16 < s.size ∨ (∃ h0 : 0 < s.size, s.size ≤ 16 ∧ (s[0].toNat : Int) < lo) ∨ (∃ h0 : 0 < s.size, s.size ≤ 16 ∧ lo ≤ (s[0].toNat : Int) ∧ hi < (s[0].toNat : Int)) := by
    by_cases h16 : 16 < s.size
    · exact .inr (.inl h16)
    · rcases h with h | h | ⟨h0, h⟩
      · exact .inl h
      · exact .inr (.inl h)
      · by_cases hl : (s[0].toNat : Int) < lo
        · exact .inr (.inr (.inl ⟨h0, by omega, hl⟩))
        · exact .inr (.inr (.inr ⟨h0, by omega, by omega, by omega⟩))
  clear h
  rcases h' with h | h | ⟨h0, h16, h⟩ | ⟨h0, h16, h, h2⟩
  all_goals
    go_enter Tryz.func84, Tryz.ntmps84
    go_wp2
    go_ret
    exact ⟨ret_b H.out.symm, rfl⟩

set_option maxHeartbeats 400000 in
theorem rbegins_yes (s : ByteArray) (lo hi : Int) (h0 : 0 < s.size) (h16 : s.size ≤ 16) (hl : lo ≤ (s[0].toNat : Int)) (hh : (s[0].toNat : Int) ≤ hi) (w : World) :
    Calls Tryz.prog 84 #[.string s, .int .u8 lo, .int .u8 hi] w fun e w' => e = .returned (.bool (bgnS s lo hi)) ∧ w = w' := by
  have G := Lib.hid (fun ha => bgn_good (lo := lo) (hi := hi) h0 h16 hl hh ha)
  have hs : s.size ≤ 9223372036854775807 := by omega
  go_enter Tryz.func84, Tryz.ntmps84
  go_wp2
  go_loop [7] (fun i => ∃ k : Nat, 1 ≤ k ∧ k ≤ s.size ∧ i = .int .i64 k ∧ Hid (∀ j (hj : j < s.size), 1 ≤ j → j < k → okc s[j] = true)) (fun i => s.size - (intOf i).toNat)
  case atStart => exact ⟨1, by omega, by omega, rfl, fun j hj h1 h2 => by omega⟩
  case round =>
    obtain ⟨k, hk1, hks, rfl, HA⟩ := hrel
    by_cases hlt : k < s.size
    · rcases (by by_cases h : (s[k].toNat : Int) = 95
                 · exact .inl ⟨h, beq_iff_eq.2 h⟩
                 · exact .inr ⟨h, beq_eq_false_iff_ne.2 h⟩ : (Hid ((s[k].toNat : Int) = 95) ∧ ((s[k].toNat : Int) == 95) = true) ∨ (Hid (¬ (s[k].toNat : Int) = 95) ∧ ((s[k].toNat : Int) == 95) = false)) with ⟨H95, hb95⟩ | ⟨H95, hb95⟩
      all_goals go_wp2
      all_goals first
        | (go_round
           case rel =>
             refine ⟨k + 1, by omega, by omega, by go_num, okc_step (hk := hlt) HA.out ((okc_iff _).2 ?_)⟩
             have := H95.out; omega
           case measure => simp [intOf]; omega)
        | (go_ret
           refine ⟨ret_b (Eq.symm (bgn_bad hk1 hlt (okc_no ?_))), rfl⟩
           have := H95.out; omega)
        | (exfalso; simp only [Bool.not_eq_false', decide_eq_true_eq] at *; omega)
    · go_wp2
      go_ret
      exact ⟨ret_b (G.out (fun j hj h1 => HA.out j hj h1 (by omega))).symm, rfl⟩

theorem rbegins_any (s : ByteArray) (lo hi : Int) (w : World) :
    Calls Tryz.prog 84 #[.string s, .int .u8 lo, .int .u8 hi] w fun e w' => e = .returned (.bool (bgnS s lo hi)) ∧ w = w' := by
  by_cases h0 : 0 < s.size
  · by_cases h16 : 16 < s.size
    · exact rbegins_no s lo hi (.inr (.inl h16)) w
    · by_cases h : (s[0].toNat : Int) < lo ∨ hi < (s[0].toNat : Int)
      · exact rbegins_no s lo hi (.inr (.inr ⟨h0, h⟩)) w
      · exact rbegins_yes s lo hi h0 (by omega) (by omega) (by omega) w
  · exact rbegins_no s lo hi (.inl (by omega)) w

/-! Pair, Unpair -/
theorem word_any (s : ByteArray) (w : World) : Calls Tryz.prog 81 #[.string s] w fun e w' => e = .returned (.bool (bgnS s 65 90)) ∧ w = w' := by
  go_enter Tryz.func81, Tryz.ntmps81
  go_wp2_with (go_at_call 92; refine (begins_any _ _ _ _).mono ?_; rintro e w' ⟨rfl, rfl⟩)
  go_ret
  exact ⟨rfl, rfl⟩
theorem rword_any (s : ByteArray) (w : World) : Calls Tryz.prog 67 #[.string s] w fun e w' => e = .returned (.bool (bgnS s 65 90)) ∧ w = w' := by
  go_enter Tryz.func67, Tryz.ntmps67
  go_wp2_with (go_at_call 84; refine (rbegins_any _ _ _ _).mono ?_; rintro e w' ⟨rfl, rfl⟩)
  go_ret
  exact ⟨rfl, rfl⟩
end Go.Proofs.YtkonfogebepccaaGreatDoor
namespace Go.Proofs.YtkonfogebepccaaGreatDoor
open Go.RowKit
attribute [local go_sem] cell_set
set_option maxRecDepth 100000

/-- A list of agents: names and arities. -/
def agN (L : List (ByteArray × Int)) (i : Nat) : ByteArray := (L.getD i (ByteArray.empty, 0)).1
def agA (L : List (ByteArray × Int)) (i : Nat) : Int := (L.getD i (ByteArray.empty, 0)).2
/-- The slice at A reads as L. -/
def AgRd (w : World) (A : Option Addr) (L : List (ByteArray × Int)) : Prop :=
  ∀ i, i < L.length → ∃ b off, A = some ⟨b, off, none⟩ ∧ b < w.heap.size ∧ w.cell? ⟨b, off + i * 2, none⟩ = some (.string (agN L i)) ∧ w.cell? ⟨b, off + i * 2 + 1, none⟩ = some (.int .i64 (agA L i))
theorem AgRd.below {w w' : World} {A : Option Addr} {L : List (ByteArray × Int)} (h : AgRd w A L) (hb : Below w.heap.size w w') : AgRd w' A L := by
  intro i hi
  obtain ⟨b, off, hA, hlt, h0, h1⟩ := h i hi
  exact ⟨b, off, hA, Nat.lt_of_lt_of_le hlt hb.size, by rw [hb.cell (p := ⟨b, off + i * 2, none⟩) hlt]; exact h0, by rw [hb.cell (p := ⟨b, off + i * 2 + 1, none⟩) hlt]; exact h1⟩
theorem agN_take {L : List (ByteArray × Int)} {i k : Nat} (h : i < k) : agN (L.take k) i = agN L i := by
  unfold agN; simp [h]
theorem agA_take {L : List (ByteArray × Int)} {i k : Nat} (h : i < k) : agA (L.take k) i = agA L i := by
  unfold agA; simp [h]
theorem AgRd.take {w : World} {A : Option Addr} {L : List (ByteArray × Int)} (h : AgRd w A L) (k : Nat) : AgRd w A (L.take k) := by
  intro i hi
  have hi' : i < k ∧ i < L.length := by simp at hi; omega
  rw [agN_take hi'.1, agA_take hi'.1]
  exact h i hi'.2

def ofN (L : List (ByteArray × Int)) (s : ByteArray) : Int :=
  match L.findIdx? (fun a => a.1.toList == s.toList) with
  | some i => (i : Int)
  | none => -1
theorem ofN_some {L : List (ByteArray × Int)} {s : ByteArray} {k : Nat} (hk : k < L.length) (h : ((agN L k).toList == s.toList) = true) (hn : ∀ j, j < k → ((agN L j).toList == s.toList) = false) : ofN L s = k := by
  have : L.findIdx? (fun a => a.1.toList == s.toList) = some k := by
    rw [List.findIdx?_eq_some_iff_getElem]
    refine ⟨hk, ?_, fun j hj => ?_⟩
    · simpa [agN, List.getD_eq_getElem?_getD, List.getElem?_eq_getElem hk] using h
    · have := hn j hj
      simpa [agN, List.getD_eq_getElem?_getD, List.getElem?_eq_getElem (show j < L.length by omega)] using this
  unfold ofN; rw [this]
theorem ofN_none {L : List (ByteArray × Int)} {s : ByteArray} (hn : ∀ j, j < L.length → ((agN L j).toList == s.toList) = false) : ofN L s = -1 := by
  have : L.findIdx? (fun a => a.1.toList == s.toList) = none := by
    rw [List.findIdx?_eq_none_iff]
    intro x hx
    obtain ⟨j, hj, rfl⟩ := List.mem_iff_getElem.1 hx
    have := hn j hj
    simpa [agN, List.getD_eq_getElem?_getD, List.getElem?_eq_getElem hj] using this
  unfold ofN; rw [this]

theorem of_any (A : Option Addr) (n cap : Nat) (L : List (ByteArray × Int)) (s : ByteArray) (w : World) (hn : n = L.length) (hl : L.length ≤ maxLen) (HL : Hid (AgRd w A L)) :
    Calls Tryz.prog 82 #[.slice A n cap, .string s] w fun e w' => e = .returned (.int .i64 (ofN L s)) ∧ Below w.heap.size w w' := by
  unfold maxLen at hl
  subst hn
  go_enter Tryz.func82, Tryz.ntmps82
  go_wp2
  go_loopw [9] (fun i wr => ∃ k : Nat, i = .int .i64 k ∧ k ≤ L.length ∧ Hid (∀ j, j < k → ((agN L j).toList == s.toList) = false) ∧ Below w.heap.size w wr) (fun i _ => L.length - (intOf i).toNat)
  case atStart => exact ⟨0, rfl, by omega, fun j hj => by omega, Below.refl _ _⟩
  case round =>
    obtain ⟨k, rfl, hk, HN, hbw⟩ := hrel
    by_cases hlt : k < L.length
    · obtain ⟨b, off, rfl, hb, h0, h1⟩ := HL.out k hlt
      have c0 : wr.cell? ⟨b, off + k * 2, none⟩ = some (.string (agN L k)) := (hbw.cell (p := ⟨b, off + k * 2, none⟩) hb).trans h0
      have c1 : wr.cell? ⟨b, off + k * 2 + 1, none⟩ = some (.int .i64 (agA L k)) := (hbw.cell (p := ⟨b, off + k * 2 + 1, none⟩) hb).trans h1
      have hz := hbw.size
      clear h0 h1
      cases hd : (agN L k).toList == s.toList
      · have HD := Lib.hid hd
        go_wp2
        go_roundw
        case rel => exact ⟨k + 1, by go_num, by omega, fun j hj => by
          rcases Nat.lt_or_ge j k with h | h
          · exact HN.out j h
          · obtain rfl : j = k := by omega
            exact HD.out, by (repeat (first | exact Below.refl _ _ | (with_reducible refine Below.drew ?_) | (with_reducible refine Below.alloc ?_ (by (try simp); (try omega)) _) | (with_reducible refine Below.setCell ?_ (by (try simp); (try omega)) _) | (with_reducible refine Below.trans ?_ (Below.mono (by assumption) (by (try simp); (try omega))))))⟩
        case measure => simp [intOf]; omega
      · have HD := Lib.hid hd
        go_wp2
        go_ret
        exact ⟨retI (ofN_some hlt HD.out HN.out).symm, by (repeat (first | exact Below.refl _ _ | (with_reducible refine Below.drew ?_) | (with_reducible refine Below.alloc ?_ (by (try simp); (try omega)) _) | (with_reducible refine Below.setCell ?_ (by (try simp); (try omega)) _) | (with_reducible refine Below.trans ?_ (Below.mono (by assumption) (by (try simp); (try omega))))))⟩
    · go_wp2
      go_ret
      exact ⟨retI (ofN_none (fun j hj => HN.out j (by omega))).symm, by (repeat (first | exact Below.refl _ _ | (with_reducible refine Below.drew ?_) | (with_reducible refine Below.alloc ?_ (by (try simp); (try omega)) _) | (with_reducible refine Below.setCell ?_ (by (try simp); (try omega)) _) | (with_reducible refine Below.trans ?_ (Below.mono (by assumption) (by (try simp); (try omega))))))⟩

/-- Ports: of an agent's number. -/
def portsN (L : List (ByteArray × Int)) (a : Int) : Int :=
  if a < 0 ∨ (L.length : Int) ≤ a ∨ agA L a.toNat < 0 then 0 else agA L a.toNat + 1
theorem ports_any (A : Option Addr) (n cap : Nat) (L : List (ByteArray × Int)) (a : Int) (w : World) (hn : n = L.length) (hl : L.length ≤ maxLen) (HL : Hid (AgRd w A L)) (ha : a < 0 ∨ (L.length : Int) ≤ a ∨ agA L a.toNat < 9223372036854775807) :
    Calls Tryz.prog 65 #[.slice A n cap, .int .i64 a] w fun e w' => e = .returned (.int .i64 (portsN L a)) ∧ w = w' := by
  unfold maxLen at hl
  subst hn
  by_cases h : a < 0 ∨ (L.length : Int) ≤ a
  · have H : Hid (portsN L a = 0) := by
      show _ = _
      unfold portsN; rw [if_pos (by omega)]
    clear ha
    rcases h with h | h
    all_goals
      go_enter Tryz.func65, Tryz.ntmps65
      go_wp2
      go_ret
      exact ⟨retI H.out.symm, rfl⟩
  · obtain ⟨k, rfl⟩ := Int.eq_ofNat_of_zero_le (show 0 ≤ a by omega)
    have hk : k < L.length := by omega
    obtain ⟨b, off, rfl, hb, h0, h1⟩ := HL.out k hk
    have H : Hid (portsN L (k : Int) = if agA L k < 0 then 0 else agA L k + 1) := by
      show _ = _
      unfold portsN
      by_cases hz : agA L k < 0
      · rw [if_pos (by simp; omega), if_pos hz]
      · rw [if_neg (by simp; omega), if_neg hz]; simp
    have ha' : agA L k < 9223372036854775807 := by simp at ha; omega
    clear ha h
    by_cases hz : agA L k < 0
    · go_enter Tryz.func65, Tryz.ntmps65
      go_wp2
      go_ret
      exact ⟨retI (by rw [H.out, if_pos hz]), rfl⟩
    · have ha1 : Hid (wrap64 (agA L k + 1) = agA L k + 1) := by show _ = _; unfold wrap64; omega
      go_enter Tryz.func65, Tryz.ntmps65
      go_wp2
      go_ret
      exact ⟨retI (by rw [H.out, if_neg (by omega)]), rfl⟩

/-- What is wrong with the agent of a number; 0: nothing. -/
def agBad (L : List (ByteArray × Int)) (i : Nat) : Int :=
  if bgnS (agN L i) 65 90 = false then 12 else if 0 ≤ ofN (L.take i) (agN L i) then 21 else if agA L i < 0 ∨ 6 < agA L i then 22 else 0
theorem agBad_21 {L : List (ByteArray × Int)} {i : Nat} (h : bgnS (agN L i) 65 90 = true) (h2 : 0 ≤ ofN (L.take i) (agN L i)) : agBad L i = 21 := by
  unfold agBad; rw [if_neg (by simp [h]), if_pos h2]
theorem agBad_22 {L : List (ByteArray × Int)} {i : Nat} (h : bgnS (agN L i) 65 90 = true) (h2 : ofN (L.take i) (agN L i) < 0) (h3 : agA L i < 0 ∨ 6 < agA L i) : agBad L i = 22 := by
  unfold agBad; rw [if_neg (by simp [h]), if_neg (by omega), if_pos h3]
theorem agBad_0 {L : List (ByteArray × Int)} {i : Nat} (h : bgnS (agN L i) 65 90 = true) (h2 : ofN (L.take i) (agN L i) < 0) (h3 : 0 ≤ agA L i ∧ agA L i ≤ 6) : agBad L i = 0 := by
  unfold agBad; rw [if_neg (by simp [h]), if_neg (by omega), if_neg (by omega)]
def chk (L : List (ByteArray × Int)) : Int × Int :=
  if L.length = 0 then (20, 0) else if 32 < L.length then (15, 32) else
  match (List.range L.length).find? (fun i => agBad L i != 0) with
  | some i => (agBad L i, i)
  | none => (0, 0)
theorem chk_bad {L : List (ByteArray × Int)} (h0 : 0 < L.length) (h32 : L.length ≤ 32) {k : Nat} (hk : k < L.length) (hn : ∀ j, j < k → agBad L j = 0) (hb : agBad L k ≠ 0) : chk L = (agBad L k, (k : Int)) := by
  have : (List.range L.length).find? (fun i => agBad L i != 0) = some k := by
    rw [List.find?_eq_some_iff_getElem]
    refine ⟨by simpa using hb, k, by simpa using hk, by simp, fun j hj => ?_⟩
    simp [hn j hj]
  unfold chk; rw [if_neg (by omega), if_neg (by omega), this]
theorem chk_good {L : List (ByteArray × Int)} (h0 : 0 < L.length) (h32 : L.length ≤ 32) (hn : ∀ j, j < L.length → agBad L j = 0) : chk L = (0, 0) := by
  have : (List.range L.length).find? (fun i => agBad L i != 0) = none := by
    rw [List.find?_eq_none]
    intro x hx
    simp [hn x (by simpa using hx)]
  unfold chk; rw [if_neg (by omega), if_neg (by omega), this]

theorem check_any (A : Option Addr) (n cap : Nat) (L : List (ByteArray × Int)) (w : World) (hn : n = L.length) (hl : L.length ≤ maxLen) (hcap : L.length ≤ cap) (HL : Hid (AgRd w A L)) :
    Calls Tryz.prog 63 #[.slice A n cap] w fun e w' => e = .returned (.tuple #[.int .i64 (chk L).1, .int .i64 (chk L).2]) ∧ Below w.heap.size w w' := by
  unfold maxLen at hl
  subst hn
  by_cases h0 : L.length = 0
  · have H : Hid (chk L = (20, 0)) := by show _ = _; unfold chk; rw [if_pos h0]
    go_enter Tryz.func63, Tryz.ntmps63
    go_wp2
    go_ret2
    exact ⟨retI2 (by rw [H.out]) (by rw [H.out]), by (repeat (first | exact Below.refl _ _ | (with_reducible refine Below.drew ?_) | (with_reducible refine Below.alloc ?_ (by (try simp); (try omega)) _) | (with_reducible refine Below.setCell ?_ (by (try simp); (try omega)) _) | (with_reducible refine Below.trans ?_ (Below.mono (by assumption) (by (try simp); (try omega))))))⟩
  · by_cases h32 : 32 < L.length
    · have H : Hid (chk L = (15, 32)) := by show _ = _; unfold chk; rw [if_neg h0, if_pos h32]
      have h0' : 0 < L.length := by omega
      clear h0
      go_enter Tryz.func63, Tryz.ntmps63
      go_wp2
      go_ret2
      exact ⟨retI2 (by rw [H.out]) (by rw [H.out]), by (repeat (first | exact Below.refl _ _ | (with_reducible refine Below.drew ?_) | (with_reducible refine Below.alloc ?_ (by (try simp); (try omega)) _) | (with_reducible refine Below.setCell ?_ (by (try simp); (try omega)) _) | (with_reducible refine Below.trans ?_ (Below.mono (by assumption) (by (try simp); (try omega))))))⟩
    · have h0' : ((L.length : Int) == 0) = false := by simpa using h0
      have h32' : L.length ≤ 32 := by omega
      have h0p : 0 < L.length := by omega
      clear h0 h32
      go_enter Tryz.func63, Tryz.ntmps63
      go_wp2
      go_loopw [14] (fun i wr => ∃ k : Nat, i = .int .i64 k ∧ k ≤ L.length ∧ Hid (∀ j, j < k → agBad L j = 0) ∧ Below w.heap.size w wr) (fun i _ => L.length - (intOf i).toNat)
      case atStart => exact ⟨0, rfl, by omega, fun j hj => by omega, Below.refl _ _⟩
      case round =>
        obtain ⟨k, rfl, hk, HN, hbw⟩ := hrel
        by_cases hlt : k < L.length
        · obtain ⟨b, off, rfl, hb, g0, g1⟩ := HL.out k hlt
          have c0 : wr.cell? ⟨b, off + k * 2, none⟩ = some (.string (agN L k)) := (hbw.cell (p := ⟨b, off + k * 2, none⟩) hb).trans g0
          have c1 : wr.cell? ⟨b, off + k * 2 + 1, none⟩ = some (.int .i64 (agA L k)) := (hbw.cell (p := ⟨b, off + k * 2 + 1, none⟩) hb).trans g1
          have hz := hbw.size
          have hkc : (k : Int) ≤ (cap : Int) := by omega
          have hkc' : k ≤ cap := by omega
          clear g0 g1
          cases hw : bgnS (agN L k) 65 90
          · have HW := Lib.hid hw
            go_wp2_with (go_at_call 81; refine (word_any _ _).mono ?_; rintro e w' ⟨rfl, rfl⟩)
            go_ret2
            exact ⟨by
              have e := chk_bad h0p h32' hlt HN.out (by unfold agBad; rw [if_pos HW.out]; decide)
              exact retI2 (by rw [e]; unfold agBad; rw [if_pos HW.out]) (by rw [e]), by (repeat (first | exact Below.refl _ _ | (with_reducible refine Below.drew ?_) | (with_reducible refine Below.alloc ?_ (by (try simp); (try omega)) _) | (with_reducible refine Below.setCell ?_ (by (try simp); (try omega)) _) | (with_reducible refine Below.trans ?_ (Below.mono (by assumption) (by (try simp); (try omega))))))⟩
          · have HW := Lib.hid hw
            go_wp2_with (go_at_call 81; refine (word_any _ _).mono ?_; rintro e w' ⟨rfl, rfl⟩)
            (refine region_tail 5 (by kernel_rfl) (by kernel_rfl) ?_; simp only [List.take_succ_cons, List.take_zero, List.drop_succ_cons, List.drop_zero]; repeat still_step; try refine wpStill_nil ?_)
            have HT : Hid (AgRd (wr.alloc (.cells #[.string (agN L k), .int .i64 (agA L k)] 72)).drew (some ⟨b, off, none⟩) (L.take k)) :=
              ((HL.out.below hbw).below (((Below.refl _ _).alloc (Nat.le_refl _) _).drew)).take k
            have hlt' : k ≤ L.length := hk
            cases ho : decide (0 ≤ ofN (L.take k) (agN L k))
            · have HO := Lib.hid ho
              have ho' : ofN (L.take k) (agN L k) < 0 := by simpa using ho
              clear ho
              go_wp2_with (go_at_call 82; refine (of_any _ _ _ (L.take k) _ _ (by simp; omega) (by simp only [maxLen]; simp; omega) HT).mono ?_; rintro e w1 ⟨rfl, hb1⟩; obtain ⟨hc1, hf1⟩ := bcell hb1; have hz1 := hb1.size; (try simp at hz1); have hz1a : wr.heap.size < w1.heap.size := (by omega))
              · go_ret2
                have e := chk_bad h0p h32' hlt HN.out (by rw [agBad_22 HW.out (by omega) (by omega)]; decide)
                exact ⟨retI2 (by rw [e, agBad_22 HW.out (by omega) (by omega)]) (by rw [e]), by (repeat (first | exact Below.refl _ _ | (with_reducible refine Below.drew ?_) | (with_reducible refine Below.alloc ?_ (by (try simp); (try omega)) _) | (with_reducible refine Below.setCell ?_ (by (try simp); (try omega)) _) | (with_reducible refine Below.trans ?_ (Below.mono (by assumption) (by (try simp); (try omega))))))⟩
              · go_roundw
                case rel => exact ⟨k + 1, by go_num, by omega, fun j hj => by
                  rcases Nat.lt_or_ge j k with h | h
                  · exact HN.out j h
                  · obtain rfl : j = k := by omega
                    exact agBad_0 HW.out (by omega) (by omega), by (repeat (first | exact Below.refl _ _ | (with_reducible refine Below.drew ?_) | (with_reducible refine Below.alloc ?_ (by (try simp); (try omega)) _) | (with_reducible refine Below.setCell ?_ (by (try simp); (try omega)) _) | (with_reducible refine Below.trans ?_ (Below.mono (by assumption) (by (try simp); (try omega))))))⟩
                case measure => simp [intOf]; omega
              · go_ret2
                have e := chk_bad h0p h32' hlt HN.out (by rw [agBad_22 HW.out (by omega) (by omega)]; decide)
                exact ⟨retI2 (by rw [e, agBad_22 HW.out (by omega) (by omega)]) (by rw [e]), by (repeat (first | exact Below.refl _ _ | (with_reducible refine Below.drew ?_) | (with_reducible refine Below.alloc ?_ (by (try simp); (try omega)) _) | (with_reducible refine Below.setCell ?_ (by (try simp); (try omega)) _) | (with_reducible refine Below.trans ?_ (Below.mono (by assumption) (by (try simp); (try omega))))))⟩
            · have HO := Lib.hid ho
              have ho' : 0 ≤ ofN (L.take k) (agN L k) := by simpa using ho
              clear ho
              go_wp2_with (go_at_call 82; refine (of_any _ _ _ (L.take k) _ _ (by simp; omega) (by simp only [maxLen]; simp; omega) HT).mono ?_; rintro e w1 ⟨rfl, hb1⟩; obtain ⟨hc1, hf1⟩ := bcell hb1; have hz1 := hb1.size; (try simp at hz1); have hz1a : wr.heap.size < w1.heap.size := (by omega))
              go_ret2
              have e := chk_bad h0p h32' hlt HN.out (by rw [agBad_21 HW.out (by omega)]; decide)
              exact ⟨retI2 (by rw [e, agBad_21 HW.out (by omega)]) (by rw [e]), by (repeat (first | exact Below.refl _ _ | (with_reducible refine Below.drew ?_) | (with_reducible refine Below.alloc ?_ (by (try simp); (try omega)) _) | (with_reducible refine Below.setCell ?_ (by (try simp); (try omega)) _) | (with_reducible refine Below.trans ?_ (Below.mono (by assumption) (by (try simp); (try omega))))))⟩
        · go_wp2
          go_ret2
          have e := chk_good h0p h32' (fun j hj => HN.out j (by omega))
          exact ⟨retI2 (by rw [e]) (by rw [e]), by (repeat (first | exact Below.refl _ _ | (with_reducible refine Below.drew ?_) | (with_reducible refine Below.alloc ?_ (by (try simp); (try omega)) _) | (with_reducible refine Below.setCell ?_ (by (try simp); (try omega)) _) | (with_reducible refine Below.trans ?_ (Below.mono (by assumption) (by (try simp); (try omega))))))⟩
end Go.Proofs.YtkonfogebepccaaGreatDoor
