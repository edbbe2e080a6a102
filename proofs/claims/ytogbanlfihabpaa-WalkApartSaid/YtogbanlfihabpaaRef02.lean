/-
  Contracts of skeinref02 (Of, Ports, Check); nets by value.
-/
import Derived.Test.YtogbanlfihabpaaReads
import Derived.StillTailTactics
import Derived.Deep.QuietTactic
import Derived.BigQuiet
import Derived.Deep.RegionHeld3
import Derived.Deep.RegionLaw
import Derived.WalkSmall
import Derived.Deep.OwnRows
namespace Go.Proofs.Ytogbanlfihabpaa
open Go.RowKit
attribute [local go_sem] cell_set
set_option maxRecDepth 100000

theorem rof_any (A : Option Addr) (n cap : Nat) (L : List (ByteArray × Int)) (s : ByteArray) (w : World) (hn : n = L.length) (hl : L.length ≤ maxLen) (HL : Hid (AgRd w A L)) :
    Calls Try.prog 29 #[.slice A n cap, .string s] w fun e w' => e = .returned (.int .i64 (ofN L s)) ∧ Below w.heap.size w w' := by
  unfold maxLen at hl
  subst hn
  go_enter Try.func29, Try.ntmps29
  go_wp2
  go_loopw [5] (fun i wr => ∃ k : Nat, i = .int .i64 k ∧ k ≤ L.length ∧ Hid (∀ j, j < k → ((agN L j).toList == s.toList) = false) ∧ Below w.heap.size w wr) (fun i _ => L.length - (intOf i).toNat)
  case atStart => exact ⟨0, rfl, by omega, fun j hj => by omega, Below.refl _ _⟩
  case round =>
    obtain ⟨k, rfl, hk, HN, hbw⟩ := hrel
    by_cases hlt : k < L.length
    · obtain ⟨b, off, rfl, hb, h0, h1⟩ := HL.out k hlt
      have c0 : wr.cell? ⟨b, off + k * 2, none⟩ = some (.string (agN L k)) := (hbw.cell (p := ⟨b, off + k * 2, none⟩) hb).trans h0
      have hz := hbw.size
      clear h0 h1
      cases hd : (agN L k).toList == s.toList
      · have HD := Lib.hid hd
        go_wp2
        go_roundw
        case rel => exact ⟨k + 1, by go_num, by omega, fun j hj => by
          rcases Nat.lt_or_ge j k with h | h
          · exact HN.out j h
          · obtain rfl : j = k := by omega
            exact HD.out, by (repeat (first | exact Below.refl _ _ | (with_reducible refine Below.drew ?_) | (with_reducible refine Below.alloc ?_ (by (try simp); (try omega)) _) | (with_reducible refine Below.setCell ?_ (by (try simp); (try omega)) _) | (with_reducible refine Below.trans ?_ (Below.mono (by assumption) (by (try simp); (try omega))))))⟩
        case measure => simp [intOf]; omega
      · have HD := Lib.hid hd
        go_wp2
        go_ret
        exact ⟨retI (ofN_some hlt HD.out HN.out).symm, by (repeat (first | exact Below.refl _ _ | (with_reducible refine Below.drew ?_) | (with_reducible refine Below.alloc ?_ (by (try simp); (try omega)) _) | (with_reducible refine Below.setCell ?_ (by (try simp); (try omega)) _) | (with_reducible refine Below.trans ?_ (Below.mono (by assumption) (by (try simp); (try omega))))))⟩
    · go_wp2
      go_ret
      exact ⟨retI (ofN_none (fun j hj => HN.out j (by omega))).symm, by (repeat (first | exact Below.refl _ _ | (with_reducible refine Below.drew ?_) | (with_reducible refine Below.alloc ?_ (by (try simp); (try omega)) _) | (with_reducible refine Below.setCell ?_ (by (try simp); (try omega)) _) | (with_reducible refine Below.trans ?_ (Below.mono (by assumption) (by (try simp); (try omega))))))⟩
theorem rports_any (A : Option Addr) (n cap : Nat) (L : List (ByteArray × Int)) (a : Int) (w : World) (hn : n = L.length) (hl : L.length ≤ maxLen) (HL : Hid (AgRd w A L)) (ha : a < 0 ∨ (L.length : Int) ≤ a ∨ agA L a.toNat < 9223372036854775807) :
    Calls Try.prog 27 #[.slice A n cap, .int .i64 a] w fun e w' => e = .returned (.int .i64 (portsN L a)) ∧ w = w' := by
  unfold maxLen at hl
  subst hn
  by_cases h : a < 0 ∨ (L.length : Int) ≤ a
  · have H : Hid (portsN L a = 0) := by
      show _ = _
      unfold portsN; rw [if_pos (by omega)]
    clear ha
    rcases h with h | h
    all_goals
      go_enter Try.func27, Try.ntmps27
      go_wp2
      go_ret
      exact ⟨retI H.out.symm, rfl⟩
  · obtain ⟨k, rfl⟩ := Int.eq_ofNat_of_zero_le (show 0 ≤ a by omega)
    have hk : k < L.length := by omega
    obtain ⟨b, off, rfl, hb, h0, h1⟩ := HL.out k hk
    have H : Hid (portsN L (k : Int) = if agA L k < 0 then 0 else agA L k + 1) := by
      show _ = _
      unfold portsN
      by_cases hz : agA L k < 0
      · rw [if_pos (by simp; omega), if_pos hz]
      · rw [if_neg (by simp; omega), if_neg hz]; simp
    have ha' : agA L k < 9223372036854775807 := by simp at ha; omega
    clear ha h
    by_cases hz : agA L k < 0
    · go_enter Try.func27, Try.ntmps27
      go_wp2
      go_ret
      exact ⟨retI (by rw [H.out, if_pos hz]), rfl⟩
    · go_enter Try.func27, Try.ntmps27
      go_wp2
      go_ret
      exact ⟨retI (by rw [H.out, if_neg (by omega)]; (try unfold wrap64); omega), rfl⟩
theorem rcheck_any (A : Option Addr) (n cap : Nat) (L : List (ByteArray × Int)) (w : World) (hn : n = L.length) (hl : L.length ≤ maxLen) (hcap : L.length ≤ cap) (HL : Hid (AgRd w A L)) :
    Calls Try.prog 13 #[.slice A n cap] w fun e w' => e = .returned (.tuple #[.int .i64 (chk L).1, .int .i64 (chk L).2]) ∧ Below w.heap.size w w' := by
  unfold maxLen at hl
  subst hn
  by_cases h0 : L.length = 0
  · have H : Hid (chk L = (20, 0)) := by show _ = _; unfold chk; rw [if_pos h0]
    go_enter Try.func13, Try.ntmps13
    go_wp2
    go_ret2
    exact ⟨retI2 (by rw [H.out]) (by rw [H.out]), by (repeat (first | exact Below.refl _ _ | (with_reducible refine Below.drew ?_) | (with_reducible refine Below.alloc ?_ (by (try simp); (try omega)) _) | (with_reducible refine Below.setCell ?_ (by (try simp); (try omega)) _) | (with_reducible refine Below.trans ?_ (Below.mono (by assumption) (by (try simp); (try omega))))))⟩
  · by_cases h32 : 32 < L.length
    · have H : Hid (chk L = (15, 32)) := by show _ = _; unfold chk; rw [if_neg h0, if_pos h32]
      have h0' : 0 < L.length := by omega
      clear h0
      go_enter Try.func13, Try.ntmps13
      go_wp2
      go_ret2
      exact ⟨retI2 (by rw [H.out]) (by rw [H.out]), by (repeat (first | exact Below.refl _ _ | (with_reducible refine Below.drew ?_) | (with_reducible refine Below.alloc ?_ (by (try simp); (try omega)) _) | (with_reducible refine Below.setCell ?_ (by (try simp); (try omega)) _) | (with_reducible refine Below.trans ?_ (Below.mono (by assumption) (by (try simp); (try omega))))))⟩
    · have h0' : ((L.length : Int) == 0) = false := by simpa using h0
      have h32' : L.length ≤ 32 := by omega
      have h0p : 0 < L.length := by omega
      clear h0 h32
      go_enter Try.func13, Try.ntmps13
      go_wp2
      go_loopw [4] (fun i wr => ∃ k : Nat, i = .int .i64 k ∧ k ≤ L.length ∧ Hid (∀ j, j < k → agBad L j = 0) ∧ Below w.heap.size w wr) (fun i _ => L.length - (intOf i).toNat)
      case atStart => exact ⟨0, rfl, by omega, fun j hj => by omega, Below.refl _ _⟩
      case round =>
        obtain ⟨k, rfl, hk, HN, hbw⟩ := hrel
        by_cases hlt : k < L.length
        · obtain ⟨b, off, rfl, hb, g0, g1⟩ := HL.out k hlt
          have c0 : wr.cell? ⟨b, off + k * 2, none⟩ = some (.string (agN L k)) := (hbw.cell (p := ⟨b, off + k * 2, none⟩) hb).trans g0
          have c1 : wr.cell? ⟨b, off + k * 2 + 1, none⟩ = some (.int .i64 (agA L k)) := (hbw.cell (p := ⟨b, off + k * 2 + 1, none⟩) hb).trans g1
          have hz := hbw.size
          have hbr : b < wr.heap.size := by omega
          have hkc : (k : Int) ≤ (cap : Int) := by omega
          have hkc' : k ≤ cap := by omega
          clear g0 g1
          cases hw : bgnS (agN L k) 65 90
          · have HW := Lib.hid hw
            go_wp2_with (go_at_call 28; refine (rword_any _ _).mono ?_; rintro e w' ⟨rfl, rfl⟩)
            go_ret2
            exact ⟨by
              have e := chk_bad h0p h32' hlt HN.out (by unfold agBad; rw [if_pos HW.out]; decide)
              exact retI2 (by rw [e]; unfold agBad; rw [if_pos HW.out]) (by rw [e]), by (repeat (first | exact Below.refl _ _ | (with_reducible refine Below.drew ?_) | (with_reducible refine Below.alloc ?_ (by (try simp); (try omega)) _) | (with_reducible refine Below.setCell ?_ (by (try simp); (try omega)) _) | (with_reducible refine Below.trans ?_ (Below.mono (by assumption) (by (try simp); (try omega))))))⟩
          · have HW := Lib.hid hw
            go_wp2_with (go_at_call 28; refine (rword_any _ _).mono ?_; rintro e w' ⟨rfl, rfl⟩)
            (refine region_tail 8 (by kernel_rfl) (by kernel_rfl) ?_; simp only [List.take_succ_cons, List.take_zero, List.drop_succ_cons, List.drop_zero]; repeat still_step; try refine wpStill_nil ?_)
            have HT : Hid (AgRd wr.drew (some ⟨b, off, none⟩) (L.take k)) := ((HL.out.below hbw).below ((Below.refl _ _).drew)).take k
            have hlt' : k ≤ L.length := hk
            cases ho : decide (0 ≤ ofN (L.take k) (agN L k))
            · have HO := Lib.hid ho
              have ho' : ofN (L.take k) (agN L k) < 0 := by simpa using ho
              clear ho
              go_wp2_with (go_at_call 29; refine (rof_any _ _ _ (L.take k) _ _ (by simp; omega) (by simp only [maxLen]; simp; omega) HT).mono ?_; rintro e w1 ⟨rfl, hb1⟩; have hz1 := hb1.size; (try simp at hz1); have d1 : w1.cell? ⟨b, off + k * 2 + 1, none⟩ = some (.int .i64 (agA L k)) := (hb1.cell (p := ⟨b, off + k * 2 + 1, none⟩) hbr).trans c1)
              · go_ret2
                have e := chk_bad h0p h32' hlt HN.out (by rw [agBad_22 HW.out (by omega) (by omega)]; decide)
                exact ⟨retI2 (by rw [e, agBad_22 HW.out (by omega) (by omega)]) (by rw [e]), by (repeat (first | exact Below.refl _ _ | (with_reducible refine Below.drew ?_) | (with_reducible refine Below.alloc ?_ (by (try simp); (try omega)) _) | (with_reducible refine Below.setCell ?_ (by (try simp); (try omega)) _) | (with_reducible refine Below.trans ?_ (Below.mono (by assumption) (by (try simp); (try omega))))))⟩
              · go_roundw
                case rel => exact ⟨k + 1, by go_num, by omega, fun j hj => by
                  rcases Nat.lt_or_ge j k with h | h
                  · exact HN.out j h
                  · obtain rfl : j = k := by omega
                    exact agBad_0 HW.out (by omega) (by omega), by (repeat (first | exact Below.refl _ _ | (with_reducible refine Below.drew ?_) | (with_reducible refine Below.alloc ?_ (by (try simp); (try omega)) _) | (with_reducible refine Below.setCell ?_ (by (try simp); (try omega)) _) | (with_reducible refine Below.trans ?_ (Below.mono (by assumption) (by (try simp); (try omega))))))⟩
                case measure => simp [intOf]; omega
              · go_ret2
                have e := chk_bad h0p h32' hlt HN.out (by rw [agBad_22 HW.out (by omega) (by omega)]; decide)
                exact ⟨retI2 (by rw [e, agBad_22 HW.out (by omega) (by omega)]) (by rw [e]), by (repeat (first | exact Below.refl _ _ | (with_reducible refine Below.drew ?_) | (with_reducible refine Below.alloc ?_ (by (try simp); (try omega)) _) | (with_reducible refine Below.setCell ?_ (by (try simp); (try omega)) _) | (with_reducible refine Below.trans ?_ (Below.mono (by assumption) (by (try simp); (try omega))))))⟩
            · have HO := Lib.hid ho
              have ho' : 0 ≤ ofN (L.take k) (agN L k) := by simpa using ho
              clear ho
              go_wp2_with (go_at_call 29; refine (rof_any _ _ _ (L.take k) _ _ (by simp; omega) (by simp only [maxLen]; simp; omega) HT).mono ?_; rintro e w1 ⟨rfl, hb1⟩; have hz1 := hb1.size; (try simp at hz1))
              go_ret2
              have e := chk_bad h0p h32' hlt HN.out (by rw [agBad_21 HW.out (by omega)]; decide)
              exact ⟨retI2 (by rw [e, agBad_21 HW.out (by omega)]) (by rw [e]), by (repeat (first | exact Below.refl _ _ | (with_reducible refine Below.drew ?_) | (with_reducible refine Below.alloc ?_ (by (try simp); (try omega)) _) | (with_reducible refine Below.setCell ?_ (by (try simp); (try omega)) _) | (with_reducible refine Below.trans ?_ (Below.mono (by assumption) (by (try simp); (try omega))))))⟩
        · go_wp2
          go_ret2
          have e := chk_good h0p h32' (fun j hj => HN.out j (by omega))
          exact ⟨retI2 (by rw [e]) (by rw [e]), by (repeat (first | exact Below.refl _ _ | (with_reducible refine Below.drew ?_) | (with_reducible refine Below.alloc ?_ (by (try simp); (try omega)) _) | (with_reducible refine Below.setCell ?_ (by (try simp); (try omega)) _) | (with_reducible refine Below.trans ?_ (Below.mono (by assumption) (by (try simp); (try omega))))))⟩

/-! ### Nets by value -/
theorem Fresh.app {w W w5 : World} {e : TypeId} {size n m : Nat} {v v5 : Value} {xs news : List Value} {o : Obj} (h : Fresh w W e size n v xs) (k5 : Kp (ownB v) (W.alloc o) w5) (o5 : ownB v5 = ownB v ∨ ownB v5 = [(W.alloc o).heap.size])
    (r5 : Row w5 e size v5 (n + m) (xs ++ news)) : Fresh w w5 e size (n + m) v5 (xs ++ news) := by
  obtain ⟨h1, h2, h3⟩ := h
  have hs := h3.size
  refine ⟨r5, fun b hb => ?_, (h3.alloc hs o).trans (k5.below (by simp; omega) h2)⟩
  rcases o5 with e | e
  · rw [e] at hb; exact h2 b hb
  · rw [e] at hb; simp at hb; omega
theorem Fresh.nil (w : World) (e : TypeId) (size : Nat) : Fresh w w e size 0 (.slice none 0 0) [] := ⟨Row.nil _ _ _, by simp [ownB], Below.refl _ _⟩
theorem Fresh.later {w W w' : World} {e : TypeId} {size n : Nat} {v : Value} {xs : List Value} (h : Fresh w W e size n v xs) (hb : Below W.heap.size W w') : Fresh w w' e size n v xs :=
  ⟨h.1.keep fun b hm => hb.block b (h.1.lt b hm), h.2.1, h.2.2.trans (hb.mono h.2.2.size)⟩
theorem Fresh.from {w0 w W : World} {e : TypeId} {size n : Nat} {v : Value} {xs : List Value} (h : Fresh w W e size n v xs) (hb : Below w0.heap.size w0 w) : Fresh w0 W e size n v xs :=
  ⟨h.1, fun b hm => Nat.le_trans hb.size (h.2.1 b hm), hb.trans (h.2.2.mono hb.size)⟩
abbrev netV (VA : Option Addr) (ca : Nat) (cells : List Int) (free : Int) (VB : Option Addr) (cb : Nat) (W : List (Pt × Pt)) : Value := .agg #[.slice VA cells.length ca, .int .i64 free, .slice VB W.length cb]
/-- A net in a box. -/
structure NBox (w : World) (b : Nat) (VA : Option Addr) (n1 ca : Nat) (free : Int) (VB : Option Addr) (n2 cb : Nat) : Prop where
  lt : b < w.heap.size
  c0 : w.cell? ⟨b, 0, none⟩ = some (.slice VA n1 ca)
  c1 : w.cell? ⟨b, 1, none⟩ = some (.int .i64 free)
  c2 : w.cell? ⟨b, 2, none⟩ = some (.slice VB n2 cb)
theorem NBox.below {w w' : World} {b : Nat} {VA VB : Option Addr} {n1 ca n2 cb : Nat} {free : Int} (h : NBox w b VA n1 ca free VB n2 cb) (hb : Below w.heap.size w w') : NBox w' b VA n1 ca free VB n2 cb :=
  ⟨Nat.lt_of_lt_of_le h.lt hb.size, (hb.cell (p := ⟨b, 0, none⟩) h.lt).trans h.c0, (hb.cell (p := ⟨b, 1, none⟩) h.lt).trans h.c1, (hb.cell (p := ⟨b, 2, none⟩) h.lt).trans h.c2⟩
/-- A signature whose arities are as they may be. -/
structure SigOk (L : List (ByteArray × Int)) : Prop where
  len : L.length ≤ 32
  ar : ∀ i, i < L.length → 0 ≤ agA L i ∧ agA L i ≤ 6
def pnL (L : List (ByteArray × Int)) (a : Int) : Nat := (portsN L a).toNat
theorem SigOk.ports {L : List (ByteArray × Int)} (h : SigOk L) (a : Int) : 0 ≤ portsN L a ∧ portsN L a ≤ 7 ∧ (a < 0 ∨ (L.length : Int) ≤ a ∨ agA L a.toNat < 9223372036854775807) := by
  unfold portsN
  by_cases h1 : a < 0 ∨ (L.length : Int) ≤ a ∨ agA L a.toNat < 0
  · rw [if_pos h1]
    refine ⟨by omega, by omega, ?_⟩
    rcases h1 with h1 | h1 | h1
    · exact .inl h1
    · exact .inr (.inl h1)
    · exact .inr (.inr (by omega))
  · rw [if_neg h1]
    have := h.ar a.toNat (by omega)
    exact ⟨by omega, by omega, .inr (.inr (by omega))⟩
theorem chk_sig {L : List (ByteArray × Int)} (h : (chk L).1 = 0) : SigOk L := by
  unfold chk at h
  by_cases h0 : L.length = 0
  · rw [if_pos h0] at h; simp at h
  rw [if_neg h0] at h
  by_cases h32 : 32 < L.length
  · rw [if_pos h32] at h; simp at h
  rw [if_neg h32] at h
  refine ⟨by omega, fun i hi => ?_⟩
  cases hf : (List.range L.length).find? (fun i => agBad L i != 0) with
  | some k =>
    rw [hf] at h
    have := List.find?_some hf
    simp only at h
    simp [h] at this
  | none =>
    have := List.find?_eq_none.1 hf i (List.mem_range.2 hi)
    simp only [bne_iff_ne, ne_eq, Decidable.not_not] at this
    unfold agBad at this
    by_cases c1 : bgnS (agN L i) 65 90 = false
    · rw [if_pos c1] at this; omega
    rw [if_neg c1] at this
    by_cases c2 : 0 ≤ ofN (L.take i) (agN L i)
    · rw [if_pos c2] at this; omega
    rw [if_neg c2] at this
    by_cases c3 : agA L i < 0 ∨ 6 < agA L i
    · rw [if_pos c3] at this; omega
    · omega
end Go.Proofs.Ytogbanlfihabpaa
