/-
  Unpair of package sig and of the reference, and the walks of the laws of layer 2 (sig).
-/
import Derived.Test.YtbdfkgchliakfaaSig
import Derived.Test.YtbdfkgchliakfaaAgents
namespace Go.Proofs.Ytbdfkgchliakfaa
open Go.RowKit
attribute [local go_sem] cell_set
set_option maxRecDepth 100000

/-- What Unpair tells: of a number of a pair the two, else nothing. -/
def Unp (n x y : Int) (ok : Bool) : Prop :=
  (0 ≤ n ∧ n < 528 ∧ ok = true ∧ 0 ≤ x ∧ x ≤ y ∧ y < 32 ∧ y * (y + 1) / 2 + x = n) ∨ ((n < 0 ∨ 528 ≤ n) ∧ ok = false ∧ x = 0 ∧ y = 0)

theorem tri_succ (b : Int) : (b + 1) * (b + 1 + 1) / 2 = b * (b + 1) / 2 + b + 1 := by
  have e : (b + 1) * (b + 1 + 1) = b * (b + 1) + 2 * (b + 1) := by
    simp only [Int.add_mul, Int.mul_add]; omega
  rw [e]; omega
theorem tri_mono {b c : Int} (h : 0 ≤ b) (hbc : b < c) : b * (b + 1) / 2 + b + 1 ≤ c * (c + 1) / 2 := by
  obtain ⟨k, rfl⟩ : ∃ k : Nat, c = b + 1 + k := ⟨(c - b - 1).toNat, by omega⟩
  induction k with
  | zero => have := tri_succ b; simp only [Int.natCast_zero, Int.add_zero]; omega
  | succ k ih =>
    have h1 := tri_succ (b + 1 + k)
    have h2 := ih (by omega)
    rw [show b + 1 + ((k + 1 : Nat) : Int) = b + 1 + k + 1 by omega, h1]
    omega
theorem Unp.same {n x y x' y' : Int} {o o' : Bool} (h : Unp n x y o) (h' : Unp n x' y' o') : x = x' ∧ y = y' ∧ o = o' := by
  rcases h with ⟨h1, h2, rfl, h3, h4, h5, h6⟩ | ⟨h1, rfl, rfl, rfl⟩ <;> rcases h' with ⟨k1, k2, rfl, k3, k4, k5, k6⟩ | ⟨k1, rfl, rfl, rfl⟩
  · rcases Int.lt_trichotomy y y' with hl | rfl | hl
    · have := tri_mono (by omega) hl; omega
    · exact ⟨by omega, rfl, rfl⟩
    · have := tri_mono (by omega) hl; omega
  · omega
  · omega
  · exact ⟨rfl, rfl, rfl⟩

theorem high_any (m n : Int) (B : Nat) (h0 : 0 ≤ m) (h1 : m < 33) (w : World) (hc : w.cell? ⟨B, 0, none⟩ = some (.int .i64 n)) :
    Calls Try.prog 55 #[.int .i64 m, .pointer (some ⟨B, 0, none⟩)] w fun e w' => e = .returned (.bool (decide (m * (m + 1) / 2 ≤ n))) ∧ w = w' := by
  have H := Lib.hid (tri_le h0 h1)
  go_enter Try.func55, Try.ntmps55
  go_wp2
  go_ret
  exact ⟨ret_b (by rw [H.out]), rfl⟩

def UnpPost (n : Int) (W : World) (e : Ending) (w' : World) : Prop := ∃ x y ok, Unp n x y ok ∧ e = .returned (.tuple #[.int .i64 x, .int .i64 y, .bool ok]) ∧ Below W.heap.size W w'

theorem unpair_any (n : Int) (w : World) :
    Calls Try.prog 28 #[.int .i64 n] w (UnpPost n w) := by
  by_cases hn : n < 0 ∨ 528 ≤ n
  · have H := Lib.hid hn
    rcases hn with hn | hn
    all_goals
      go_enter Try.func28, Try.ntmps28
      go_wp2
      go_ret3
      exact ⟨0, 0, false, .inr ⟨H.out, rfl, rfl, rfl⟩, rfl, by (repeat (first | exact Below.refl _ _ | (with_reducible refine Below.drew ?_) | (with_reducible refine Below.alloc ?_ (by (try simp); (try omega)) _) | (with_reducible refine Below.setCell ?_ (by (try simp); (try omega)) _) | (with_reducible refine Below.trans ?_ (Below.mono (by assumption) (by (try simp); (try omega))))))⟩
  · have h0 : 0 ≤ n := by omega
    have h1 : n < 528 := by omega
    clear hn
    go_enter Try.func28, Try.ntmps28
    go_wp2
    go_loop [6, 7] (fun u v => ∃ b t : Int, 0 ≤ b ∧ b < t ∧ t ≤ 32 ∧ u = .int .i64 b ∧ v = .int .i64 t ∧ Hid (b * (b + 1) / 2 ≤ n ∧ n < t * (t + 1) / 2)) (fun u v => (intOf v - intOf u).toNat)
    case atStart => exact ⟨0, 32, by omega, by omega, by omega, rfl, rfl, by simpa using h0, by simpa using h1⟩
    case round =>
      obtain ⟨b, t, hb0, hbt, ht, rfl, rfl, HT⟩ := hrel
      have hm0 : 0 ≤ (b + t) / 2 := by omega
      have hm1 : (b + t) / 2 < 33 := by omega
      by_cases hlt : b + 1 < t
      · have HL := Lib.hid hlt
        go_wp2_with fail
        refine (high_any _ n w.heap.size hm0 hm1 _ (by go_simp)).mono ?_
        rintro e w' ⟨rfl, rfl⟩
        go_wp2
        · go_round
          case rel => exact ⟨(b + t) / 2, t, hm0, by have := HL.out; omega, ht, rfl, rfl, by assumption, HT.out.2⟩
          case measure => have := HL.out; simp [intOf]; omega
        · go_round
          case rel => exact ⟨b, (b + t) / 2, hb0, by have := HL.out; omega, by omega, rfl, rfl, HT.out.1, by omega⟩
          case measure => have := HL.out; simp [intOf]; omega
      · go_wp2
        go_ret3
        have hbt1 : t = b + 1 := by omega
        have g := HT.out
        rw [hbt1, tri_succ b] at g
        exact ⟨n - b * (b + 1) / 2, b, true, .inl ⟨h0, h1, rfl, by omega, by omega, by omega, by omega⟩, ret3 (tri_wrap' hb0 (by omega) h0 (by omega)) rfl rfl, by (repeat (first | exact Below.refl _ _ | (with_reducible refine Below.drew ?_) | (with_reducible refine Below.alloc ?_ (by (try simp); (try omega)) _) | (with_reducible refine Below.setCell ?_ (by (try simp); (try omega)) _) | (with_reducible refine Below.trans ?_ (Below.mono (by assumption) (by (try simp); (try omega))))))⟩

/-- The reference tries every pair. -/
theorem runpair_any (n : Int) (w : World) :
    Calls Try.prog 29 #[.int .i64 n] w (UnpPost n w) := by
  go_enter Try.func29, Try.ntmps29
  go_wp2
  go_loop [5] (fun u => ∃ b : Nat, b ≤ 32 ∧ u = .int .i64 b ∧ Hid (n < 0 ∨ (b : Int) * (b + 1) / 2 ≤ n)) (fun u => 32 - (intOf u).toNat)
  case atStart => exact ⟨0, by omega, rfl, by show _ ∨ _; simp; omega⟩
  case round =>
    obtain ⟨b, hb, rfl, HB⟩ := hrel
    by_cases hlt : b < 32
    · go_wp2
      go_loop [6] (fun v => ∃ a : Nat, a ≤ b + 1 ∧ v = .int .i64 a ∧ Hid (n < 0 ∨ (b : Int) * (b + 1) / 2 + a ≤ n)) (fun v => b + 1 - (intOf v).toNat)
      case atStart => exact ⟨0, by omega, rfl, by simpa using HB⟩
      case round =>
        obtain ⟨a, ha, rfl, HA⟩ := hrel
        by_cases hla : a < b + 1
        · have HP : Hid (pairN (a : Int) (b : Int) = (b : Int) * (b + 1) / 2 + a) := by
            show _ = _
            unfold pairN; rw [if_pos (by omega), if_neg (by omega)]
          have HE : Hid (∀ h : (b : Int) * (b + 1) / 2 + a = n, Unp n a b true) := fun h => .inl ⟨by have := tri_bd (b := (b : Int)) (by omega) (by omega); omega, by
            have h1 := tri_mono (b := (b : Int)) (c := 32) (by omega) (by omega)
            have h2 : (32 : Int) * (32 + 1) / 2 = 528 := by decide
            omega, rfl, by omega, by omega, by omega, h⟩
          go_wp2_with (go_at_call 31; refine (rpair_any _ _ _).mono ?_; rintro e w' ⟨rfl, rfl⟩; rw [HP.out])
          · go_ret3
            exact ⟨a, b, true, HE.out (by simp_all), rfl, by (repeat (first | exact Below.refl _ _ | (with_reducible refine Below.drew ?_) | (with_reducible refine Below.alloc ?_ (by (try simp); (try omega)) _) | (with_reducible refine Below.setCell ?_ (by (try simp); (try omega)) _) | (with_reducible refine Below.trans ?_ (Below.mono (by assumption) (by (try simp); (try omega))))))⟩
          · go_round
            case rel => exact ⟨a + 1, by omega, by go_num, by have := HA.out; show _ ∨ _; simp_all; omega⟩
            case measure => simp [intOf]; omega
        · go_wp2
          go_round
          case rel => exact ⟨b + 1, by omega, by go_num, by
            have h1 := tri_succ (b : Int)
            have h2 := HA.out
            show _ ∨ _
            rw [show ((b + 1 : Nat) : Int) = (b : Int) + 1 by omega, h1]
            omega⟩
          case measure => simp [intOf]; omega
    · go_wp2
      go_ret3
      refine ⟨0, 0, false, .inr ⟨?_, rfl, rfl, rfl⟩, rfl, by (repeat (first | exact Below.refl _ _ | (with_reducible refine Below.drew ?_) | (with_reducible refine Below.alloc ?_ (by (try simp); (try omega)) _) | (with_reducible refine Below.setCell ?_ (by (try simp); (try omega)) _) | (with_reducible refine Below.trans ?_ (Below.mono (by assumption) (by (try simp); (try omega))))))⟩
      have h1 := HB.out
      obtain rfl : b = 32 := by omega
      have h2 : ((32 : Nat) : Int) * (((32 : Nat) : Int) + 1) / 2 = 528 := by decide
      omega

def L02 : List (ByteArray × Int) := [(⟨#[90]⟩, 0), (⟨#[83]⟩, 1)]
theorem works02_facts : chk L02 = (0, 0) ∧ ofN L02 ⟨#[83]⟩ = 1 ∧ portsN L02 1 = 2 ∧ pairN 3 1 = 7 ∧ bgnS ⟨#[65, 100, 100]⟩ 65 90 = true ∧ bgnS ⟨#[97, 100, 100]⟩ 65 90 = false ∧ bgnS ⟨#[97, 100, 100]⟩ 97 122 = true := by decide +kernel

theorem works02 (w : World) : Calls Try.prog 27 #[] w fun e w' => e = .returned (.bool true) ∧ Below w.heap.size w w' := by
  have F := Lib.hid works02_facts
  have HA : Hid (AgRd (w.alloc (.cells #[.string ⟨#[90]⟩, .int .i64 0, .string ⟨#[83]⟩, .int .i64 1] 81)) (some ⟨w.heap.size, 0, none⟩) L02) := by
    intro i hi
    have : i = 0 ∨ i = 1 := by simp [L02] at hi; omega
    rcases this with rfl | rfl
    · exact ⟨w.heap.size, 0, rfl, by simp, by go_simp; rfl, by go_simp; rfl⟩
    · exact ⟨w.heap.size, 0, rfl, by simp, by go_simp; rfl, by go_simp; rfl⟩
  go_enter Try.func27, Try.ntmps27
  go_wp2_with fail
  refine (check_any _ _ _ L02 _ rfl (by decide) (by decide) HA).mono ?_; rintro e w1 ⟨rfl, hb1⟩; rw [F.out.1]; obtain ⟨hc1, hf1⟩ := bcell hb1; have hz1 := hb1.size; (try simp at hz1); have hz1a : w.heap.size < w1.heap.size := (by omega)
  have HA1 := Lib.hid (HA.out.below hb1)
  go_wp2_with fail
  refine (of_any _ _ _ L02 _ _ rfl (by decide) HA1).mono ?_; rintro e w2 ⟨rfl, hb2⟩; rw [F.out.2.1]; obtain ⟨hc2, hf2⟩ := bcell hb2; have hz2 := hb2.size; (try simp at hz2); have hz2a : w.heap.size < w2.heap.size := (by omega)
  have HA2 := Lib.hid (HA1.out.below hb2)
  go_wp2_with (first
    | (go_at_call 54; refine (ports_any _ _ _ L02 _ _ rfl (by decide) HA2 (by right; right; decide)).mono ?_; rintro e w3 ⟨rfl, rfl⟩; rw [F.out.2.2.1])
    | (go_at_call 30; refine (pair_any _ _ _).mono ?_; rintro e w3 ⟨rfl, rfl⟩; rw [F.out.2.2.2.1])
    | (go_at_call 23; refine (word_any _ _).mono ?_; rintro e w3 ⟨rfl, rfl⟩; first | rw [F.out.2.2.2.2.1] | rw [F.out.2.2.2.2.2.1])
    | (go_at_call 25; refine (name_any _ _).mono ?_; rintro e w3 ⟨rfl, rfl⟩; rw [F.out.2.2.2.2.2.2]))
  go_ret
  exact ⟨rfl, by (repeat (first | exact Below.refl _ _ | (with_reducible refine Below.drew ?_) | (with_reducible refine Below.alloc ?_ (by (try simp); (try omega)) _) | (with_reducible refine Below.setCell ?_ (by (try simp); (try omega)) _) | (with_reducible refine Below.trans ?_ (Below.mono (by assumption) (by (try simp); (try omega))))))⟩

theorem bgn_two (s : ByteArray) (h : bgnS s 65 90 = true) : bgnS s 97 122 = false := by
  unfold bgnS at *
  cases hl : s.data.toList with
  | nil => rfl
  | cons c t =>
    rw [hl] at h
    simp only [bgn, Bool.and_eq_true, decide_eq_true_eq] at h
    simp only [bgn, show ¬ (97 : Int) ≤ (c.toNat : Int) by omega, decide_false, Bool.and_false, Bool.false_and]

theorem words_walk (s : ByteArray) (w : World) :
    Calls Try.prog 7 #[.string s] w fun e w' => e = .returned (.bool true) ∧ Below w.heap.size w w' := by
  cases h1 : bgnS s 65 90 <;> cases h2 : bgnS s 97 122
  case true.true => rw [bgn_two s h1] at h2; cases h2
  all_goals
    have H1 := Lib.hid h1
    have H2 := Lib.hid h2
    clear h1 h2
    go_enter Try.func7, Try.ntmps7
    go_wp2_with (first
      | (go_at_call 23; refine (word_any _ _).mono ?_; rintro e w3 ⟨rfl, rfl⟩; rw [H1.out])
      | (go_at_call 25; refine (name_any _ _).mono ?_; rintro e w3 ⟨rfl, rfl⟩; rw [H2.out])
      | (go_at_call 24; refine (rword_any _ _).mono ?_; rintro e w3 ⟨rfl, rfl⟩; rw [H1.out])
      | (go_at_call 26; refine (rname_any _ _).mono ?_; rintro e w3 ⟨rfl, rfl⟩; rw [H2.out])
      | (go_at_call 27; refine (works02 _).mono ?_; rintro e w4 ⟨rfl, hb4⟩))
    go_ret
    exact ⟨rfl, by (repeat (first | exact Below.refl _ _ | (with_reducible refine Below.drew ?_) | (with_reducible refine Below.alloc ?_ (by (try simp); (try omega)) _) | (with_reducible refine Below.setCell ?_ (by (try simp); (try omega)) _) | (with_reducible refine Below.trans ?_ (Below.mono (by assumption) (by (try simp); (try omega))))))⟩


theorem Unp.of_pair {a b : Int} (h : 0 ≤ pairN a b) (hab : a ≤ b) : Unp (pairN a b) a b true := by
  unfold pairN at *
  rw [if_pos hab] at *
  by_cases h2 : a < 0 ∨ 32 ≤ b
  · rw [if_pos h2] at h; omega
  · rw [if_neg h2] at *
    have h1 := tri_mono (b := b) (c := 32) (by omega) (by omega)
    have h2 : (32 : Int) * (32 + 1) / 2 = 528 := by decide
    exact .inl ⟨h, by omega, rfl, by omega, hab, by omega, rfl⟩
theorem Unp.pair {n x y : Int} (h : Unp n x y true) : pairN x y = n ∧ 0 ≤ x ∧ x ≤ y ∧ y < 32 := by
  rcases h with ⟨h1, h2, _, h3, h4, h5, h6⟩ | ⟨_, h, _⟩
  · refine ⟨?_, h3, h4, h5⟩
    unfold pairN; rw [if_pos h4, if_neg (by omega)]; exact h6
  · cases h
theorem Unp.no {n x y : Int} (h : Unp n x y false) : n < 0 ∨ 528 ≤ n := by
  rcases h with ⟨_, _, h, _⟩ | ⟨h, _⟩
  · cases h
  · exact h

theorem mx_b {a b : Int} (h : a ≤ b) : (b != if a < b then b else a) = false := by
  rw [bne_eq_false_iff_eq]; split <;> omega
set_option maxHeartbeats 2000000 in
theorem pairs_walk (a b n : Int) (w : World) :
    Calls Try.prog 8 #[.int .i64 a, .int .i64 b, .int .i64 n] w fun e w' => e = .returned (.bool true) ∧ Below w.heap.size w w' := by
  have HC := Lib.hid (pairN_comm a b)
  rcases (by
    by_cases h1 : pairN a b < 0
    · exact .inl ⟨h1, trivial⟩
    · by_cases h2 : a ≤ b
      · exact .inr (.inl ⟨by omega, h2, Unp.of_pair (by omega) h2⟩)
      · exact .inr (.inr ⟨by omega, by omega, by rw [pairN_comm a b]; exact Unp.of_pair (by rw [pairN_comm b a]; omega) (by omega)⟩)
    : (pairN a b < 0 ∧ Hid True) ∨ (0 ≤ pairN a b ∧ a ≤ b ∧ Hid (Unp (pairN a b) a b true)) ∨ (0 ≤ pairN a b ∧ b < a ∧ Hid (Unp (pairN a b) b a true))) with ⟨hk, KK⟩ | ⟨hk, hab, KK⟩ | ⟨hk, hab, KK⟩
  all_goals
    try have hm := mx_b hab
    go_enter Try.func8, Try.ntmps8
    go_wp2_with fail
    refine (unpair_any _ _).mono ?_; rintro e w1 ⟨x, y, ok, hU, rfl, hb1⟩; have HU := Lib.hid hU; clear hU; obtain ⟨hc1, hf1⟩ := bcell hb1; have hz1 := hb1.size; (try simp at hz1)
    go_wp2_with fail
    refine (runpair_any _ _).mono ?_; rintro e w2 ⟨x', y', ok', hU', rfl, hb2⟩
    obtain ⟨rfl, rfl, rfl⟩ := HU.out.same hU'
    clear hU'; obtain ⟨hc2, hf2⟩ := bcell hb2; have hz2 := hb2.size; (try simp at hz2)
    go_wp2_with fail
    refine (pair_any _ _ _).mono ?_; rintro e w3 ⟨rfl, rfl⟩
    go_wp2_with fail
    refine (rpair_any _ _ _).mono ?_; rintro e w3 ⟨rfl, rfl⟩
    go_wp2_with fail
    refine (pair_any _ _ _).mono ?_; rintro e w3 ⟨rfl, rfl⟩; rw [← HC.out]
    go_wp2_with fail
    refine (pair_any _ _ _).mono ?_; rintro e w3 ⟨rfl, rfl⟩
    cases ok
    · have HN := Lib.hid HU.out.no
      have hn : n < 0 ∨ 528 ≤ n := HN.out
      go_wp2_with fail
      all_goals
        refine (pair_any _ _ _).mono ?_; rintro e w3 ⟨rfl, rfl⟩
        go_wp2_with fail
        first
          | ((with_reducible refine (works02 _).mono ?_); rintro e w4 ⟨rfl, hb4⟩; have hz4 := hb4.size; go_wp2; go_ret; exact ⟨rfl, by (repeat (first | exact Below.refl _ _ | (with_reducible refine Below.drew ?_) | (with_reducible refine Below.alloc ?_ (by (try simp); (try omega)) _) | (with_reducible refine Below.setCell ?_ (by (try simp); (try omega)) _) | (with_reducible refine Below.trans ?_ (Below.mono (by assumption) (by (try simp); (try omega))))))⟩)
          | (refine (unpair_any _ _).mono ?_; rintro e w4 ⟨x4, y4, ok4, hU4, rfl, hb4⟩
             obtain ⟨rfl, rfl, rfl⟩ := KK.out.same hU4
             clear hU4; obtain ⟨hc4, hf4⟩ := bcell hb4; have hz4 := hb4.size; (try simp at hz4)
             go_wp2_with fail
             all_goals (refine (works02 _).mono ?_; rintro e w5 ⟨rfl, hb5⟩; have hz5 := hb5.size; go_wp2; go_ret; exact ⟨rfl, by (repeat (first | exact Below.refl _ _ | (with_reducible refine Below.drew ?_) | (with_reducible refine Below.alloc ?_ (by (try simp); (try omega)) _) | (with_reducible refine Below.setCell ?_ (by (try simp); (try omega)) _) | (with_reducible refine Below.trans ?_ (Below.mono (by assumption) (by (try simp); (try omega))))))⟩))
    · obtain ⟨u1, u2, u3, u4⟩ := HU.out.pair
      have U1 := Lib.hid u1
      clear u1
      go_wp2_with fail
      refine (pair_any _ _ _).mono ?_; rintro e w3 ⟨rfl, rfl⟩; rw [U1.out]
      go_wp2_with fail
      all_goals
        refine (pair_any _ _ _).mono ?_; rintro e w3 ⟨rfl, rfl⟩
        go_wp2_with fail
        first
          | ((with_reducible refine (works02 _).mono ?_); rintro e w4 ⟨rfl, hb4⟩; have hz4 := hb4.size; go_wp2; go_ret; exact ⟨rfl, by (repeat (first | exact Below.refl _ _ | (with_reducible refine Below.drew ?_) | (with_reducible refine Below.alloc ?_ (by (try simp); (try omega)) _) | (with_reducible refine Below.setCell ?_ (by (try simp); (try omega)) _) | (with_reducible refine Below.trans ?_ (Below.mono (by assumption) (by (try simp); (try omega))))))⟩)
          | (refine (unpair_any _ _).mono ?_; rintro e w4 ⟨x4, y4, ok4, hU4, rfl, hb4⟩
             obtain ⟨rfl, rfl, rfl⟩ := KK.out.same hU4
             clear hU4; obtain ⟨hc4, hf4⟩ := bcell hb4; have hz4 := hb4.size; (try simp at hz4)
             go_wp2_with fail
             all_goals (refine (works02 _).mono ?_; rintro e w5 ⟨rfl, hb5⟩; have hz5 := hb5.size; go_wp2; go_ret; exact ⟨rfl, by (repeat (first | exact Below.refl _ _ | (with_reducible refine Below.drew ?_) | (with_reducible refine Below.alloc ?_ (by (try simp); (try omega)) _) | (with_reducible refine Below.setCell ?_ (by (try simp); (try omega)) _) | (with_reducible refine Below.trans ?_ (Below.mono (by assumption) (by (try simp); (try omega))))))⟩))
end Go.Proofs.Ytbdfkgchliakfaa
