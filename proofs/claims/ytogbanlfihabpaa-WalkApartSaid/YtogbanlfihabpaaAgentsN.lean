/-
  Contracts of package sig over lists of agents: Of, Ports, Check, and of the reference for them.
-/
import Derived.Test.YtogbanlfihabpaaSigW
import Derived.Deep.QuietTactic
import Derived.BigQuiet
import Derived.StillTailTactics
namespace Go.Proofs.Ytogbanlfihabpaa
open Go.RowKit
attribute [local go_sem] cell_set
set_option maxRecDepth 100000

/-- A list of agents: names and arities. -/
def agN (L : List (ByteArray × Int)) (i : Nat) : ByteArray := (L.getD i (ByteArray.empty, 0)).1
def agA (L : List (ByteArray × Int)) (i : Nat) : Int := (L.getD i (ByteArray.empty, 0)).2
/-- The slice at A reads as L. -/
def AgRd (w : World) (A : Option Addr) (L : List (ByteArray × Int)) : Prop :=
  ∀ i, i < L.length → ∃ b off, A = some ⟨b, off, none⟩ ∧ b < w.heap.size ∧ w.cell? ⟨b, off + i * 2, none⟩ = some (.string (agN L i)) ∧ w.cell? ⟨b, off + i * 2 + 1, none⟩ = some (.int .i64 (agA L i))
theorem AgRd.below {w w' : World} {A : Option Addr} {L : List (ByteArray × Int)} (h : AgRd w A L) (hb : Below w.heap.size w w') : AgRd w' A L := by
  intro i hi
  obtain ⟨b, off, hA, hlt, h0, h1⟩ := h i hi
  exact ⟨b, off, hA, Nat.lt_of_lt_of_le hlt hb.size, by rw [hb.cell (p := ⟨b, off + i * 2, none⟩) hlt]; exact h0, by rw [hb.cell (p := ⟨b, off + i * 2 + 1, none⟩) hlt]; exact h1⟩
theorem agN_take {L : List (ByteArray × Int)} {i k : Nat} (h : i < k) : agN (L.take k) i = agN L i := by
  unfold agN; simp [h]
theorem agA_take {L : List (ByteArray × Int)} {i k : Nat} (h : i < k) : agA (L.take k) i = agA L i := by
  unfold agA; simp [h]
theorem AgRd.take {w : World} {A : Option Addr} {L : List (ByteArray × Int)} (h : AgRd w A L) (k : Nat) : AgRd w A (L.take k) := by
  intro i hi
  have hi' : i < k ∧ i < L.length := by simp at hi; omega
  rw [agN_take hi'.1, agA_take hi'.1]
  exact h i hi'.2

def ofN (L : List (ByteArray × Int)) (s : ByteArray) : Int :=
  match L.findIdx? (fun a => a.1.toList == s.toList) with
  | some i => (i : Int)
  | none => -1
theorem ofN_some {L : List (ByteArray × Int)} {s : ByteArray} {k : Nat} (hk : k < L.length) (h : ((agN L k).toList == s.toList) = true) (hn : ∀ j, j < k → ((agN L j).toList == s.toList) = false) : ofN L s = k := by
  have : L.findIdx? (fun a => a.1.toList == s.toList) = some k := by
    rw [List.findIdx?_eq_some_iff_getElem]
    refine ⟨hk, ?_, fun j hj => ?_⟩
    · simpa [agN, List.getD_eq_getElem?_getD, List.getElem?_eq_getElem hk] using h
    · have := hn j hj
      simpa [agN, List.getD_eq_getElem?_getD, List.getElem?_eq_getElem (show j < L.length by omega)] using this
  unfold ofN; rw [this]
theorem ofN_none {L : List (ByteArray × Int)} {s : ByteArray} (hn : ∀ j, j < L.length → ((agN L j).toList == s.toList) = false) : ofN L s = -1 := by
  have : L.findIdx? (fun a => a.1.toList == s.toList) = none := by
    rw [List.findIdx?_eq_none_iff]
    intro x hx
    obtain ⟨j, hj, rfl⟩ := List.mem_iff_getElem.1 hx
    have := hn j hj
    simpa [agN, List.getD_eq_getElem?_getD, List.getElem?_eq_getElem hj] using this
  unfold ofN; rw [this]

theorem of_any (A : Option Addr) (n cap : Nat) (L : List (ByteArray × Int)) (s : ByteArray) (w : World) (hn : n = L.length) (hl : L.length ≤ maxLen) (HL : Hid (AgRd w A L)) :
    Calls Try.prog 51 #[.slice A n cap, .string s] w fun e w' => e = .returned (.int .i64 (ofN L s)) ∧ Below w.heap.size w w' := by
  unfold maxLen at hl
  subst hn
  go_enter Try.func51, Try.ntmps51
  go_wp2
  go_loopw [9] (fun i wr => ∃ k : Nat, i = .int .i64 k ∧ k ≤ L.length ∧ Hid (∀ j, j < k → ((agN L j).toList == s.toList) = false) ∧ Below w.heap.size w wr) (fun i _ => L.length - (intOf i).toNat)
  case atStart => exact ⟨0, rfl, by omega, fun j hj => by omega, Below.refl _ _⟩
  case round =>
    obtain ⟨k, rfl, hk, HN, hbw⟩ := hrel
    by_cases hlt : k < L.length
    · obtain ⟨b, off, rfl, hb, h0, h1⟩ := HL.out k hlt
      have c0 : wr.cell? ⟨b, off + k * 2, none⟩ = some (.string (agN L k)) := (hbw.cell (p := ⟨b, off + k * 2, none⟩) hb).trans h0
      have c1 : wr.cell? ⟨b, off + k * 2 + 1, none⟩ = some (.int .i64 (agA L k)) := (hbw.cell (p := ⟨b, off + k * 2 + 1, none⟩) hb).trans h1
      have hz := hbw.size
      clear h0 h1
      cases hd : (agN L k).toList == s.toList
      · have HD := Lib.hid hd
        go_wp2
        go_roundw
        case rel => exact ⟨k + 1, by go_num, by omega, fun j hj => by
          rcases Nat.lt_or_ge j k with h | h
          · exact HN.out j h
          · obtain rfl : j = k := by omega
            exact HD.out, by (repeat (first | exact Below.refl _ _ | (with_reducible refine Below.drew ?_) | (with_reducible refine Below.alloc ?_ (by (try simp); (try omega)) _) | (with_reducible refine Below.setCell ?_ (by (try simp); (try omega)) _) | (with_reducible refine Below.trans ?_ (Below.mono (by assumption) (by (try simp); (try omega))))))⟩
        case measure => simp [intOf]; omega
      · have HD := Lib.hid hd
        go_wp2
        go_ret
        exact ⟨retI (ofN_some hlt HD.out HN.out).symm, by (repeat (first | exact Below.refl _ _ | (with_reducible refine Below.drew ?_) | (with_reducible refine Below.alloc ?_ (by (try simp); (try omega)) _) | (with_reducible refine Below.setCell ?_ (by (try simp); (try omega)) _) | (with_reducible refine Below.trans ?_ (Below.mono (by assumption) (by (try simp); (try omega))))))⟩
    · go_wp2
      go_ret
      exact ⟨retI (ofN_none (fun j hj => HN.out j (by omega))).symm, by (repeat (first | exact Below.refl _ _ | (with_reducible refine Below.drew ?_) | (with_reducible refine Below.alloc ?_ (by (try simp); (try omega)) _) | (with_reducible refine Below.setCell ?_ (by (try simp); (try omega)) _) | (with_reducible refine Below.trans ?_ (Below.mono (by assumption) (by (try simp); (try omega))))))⟩

/-- Ports: of an agent's number. -/
def portsN (L : List (ByteArray × Int)) (a : Int) : Int :=
  if a < 0 ∨ (L.length : Int) ≤ a ∨ agA L a.toNat < 0 then 0 else agA L a.toNat + 1
theorem ports_any (A : Option Addr) (n cap : Nat) (L : List (ByteArray × Int)) (a : Int) (w : World) (hn : n = L.length) (hl : L.length ≤ maxLen) (HL : Hid (AgRd w A L)) (ha : a < 0 ∨ (L.length : Int) ≤ a ∨ agA L a.toNat < 9223372036854775807) :
    Calls Try.prog 37 #[.slice A n cap, .int .i64 a] w fun e w' => e = .returned (.int .i64 (portsN L a)) ∧ w = w' := by
  unfold maxLen at hl
  subst hn
  by_cases h : a < 0 ∨ (L.length : Int) ≤ a
  · have H : Hid (portsN L a = 0) := by
      show _ = _
      unfold portsN; rw [if_pos (by omega)]
    clear ha
    rcases h with h | h
    all_goals
      go_enter Try.func37, Try.ntmps37
      go_wp2
      go_ret
      exact ⟨retI H.out.symm, rfl⟩
  · obtain ⟨k, rfl⟩ := Int.eq_ofNat_of_zero_le (show 0 ≤ a by omega)
    have hk : k < L.length := by omega
    obtain ⟨b, off, rfl, hb, h0, h1⟩ := HL.out k hk
    have H : Hid (portsN L (k : Int) = if agA L k < 0 then 0 else agA L k + 1) := by
      show _ = _
      unfold portsN
      by_cases hz : agA L k < 0
      · rw [if_pos (by simp; omega), if_pos hz]
      · rw [if_neg (by simp; omega), if_neg hz]; simp
    have ha' : agA L k < 9223372036854775807 := by simp at ha; omega
    clear ha h
    by_cases hz : agA L k < 0
    · go_enter Try.func37, Try.ntmps37
      go_wp2
      go_ret
      exact ⟨retI (by rw [H.out, if_pos hz]), rfl⟩
    · have ha1 : Hid (wrap64 (agA L k + 1) = agA L k + 1) := by show _ = _; unfold wrap64; omega
      go_enter Try.func37, Try.ntmps37
      go_wp2
      go_ret
      exact ⟨retI (by rw [H.out, if_neg (by omega)]), rfl⟩

/-- What is wrong with the agent of a number; 0: nothing. -/
def agBad (L : List (ByteArray × Int)) (i : Nat) : Int :=
  if bgnS (agN L i) 65 90 = false then 12 else if 0 ≤ ofN (L.take i) (agN L i) then 21 else if agA L i < 0 ∨ 6 < agA L i then 22 else 0
theorem agBad_21 {L : List (ByteArray × Int)} {i : Nat} (h : bgnS (agN L i) 65 90 = true) (h2 : 0 ≤ ofN (L.take i) (agN L i)) : agBad L i = 21 := by
  unfold agBad; rw [if_neg (by simp [h]), if_pos h2]
theorem agBad_22 {L : List (ByteArray × Int)} {i : Nat} (h : bgnS (agN L i) 65 90 = true) (h2 : ofN (L.take i) (agN L i) < 0) (h3 : agA L i < 0 ∨ 6 < agA L i) : agBad L i = 22 := by
  unfold agBad; rw [if_neg (by simp [h]), if_neg (by omega), if_pos h3]
theorem agBad_0 {L : List (ByteArray × Int)} {i : Nat} (h : bgnS (agN L i) 65 90 = true) (h2 : ofN (L.take i) (agN L i) < 0) (h3 : 0 ≤ agA L i ∧ agA L i ≤ 6) : agBad L i = 0 := by
  unfold agBad; rw [if_neg (by simp [h]), if_neg (by omega), if_neg (by omega)]
def chk (L : List (ByteArray × Int)) : Int × Int :=
  if L.length = 0 then (20, 0) else if 32 < L.length then (15, 32) else
  match (List.range L.length).find? (fun i => agBad L i != 0) with
  | some i => (agBad L i, i)
  | none => (0, 0)
theorem chk_bad {L : List (ByteArray × Int)} (h0 : 0 < L.length) (h32 : L.length ≤ 32) {k : Nat} (hk : k < L.length) (hn : ∀ j, j < k → agBad L j = 0) (hb : agBad L k ≠ 0) : chk L = (agBad L k, (k : Int)) := by
  have : (List.range L.length).find? (fun i => agBad L i != 0) = some k := by
    rw [List.find?_eq_some_iff_getElem]
    refine ⟨by simpa using hb, k, by simpa using hk, by simp, fun j hj => ?_⟩
    simp [hn j hj]
  unfold chk; rw [if_neg (by omega), if_neg (by omega), this]
theorem chk_good {L : List (ByteArray × Int)} (h0 : 0 < L.length) (h32 : L.length ≤ 32) (hn : ∀ j, j < L.length → agBad L j = 0) : chk L = (0, 0) := by
  have : (List.range L.length).find? (fun i => agBad L i != 0) = none := by
    rw [List.find?_eq_none]
    intro x hx
    simp [hn x (by simpa using hx)]
  unfold chk; rw [if_neg (by omega), if_neg (by omega), this]

theorem check_any (A : Option Addr) (n cap : Nat) (L : List (ByteArray × Int)) (w : World) (hn : n = L.length) (hl : L.length ≤ maxLen) (hcap : L.length ≤ cap) (HL : Hid (AgRd w A L)) :
    Calls Try.prog 35 #[.slice A n cap] w fun e w' => e = .returned (.tuple #[.int .i64 (chk L).1, .int .i64 (chk L).2]) ∧ Below w.heap.size w w' := by
  unfold maxLen at hl
  subst hn
  by_cases h0 : L.length = 0
  · have H : Hid (chk L = (20, 0)) := by show _ = _; unfold chk; rw [if_pos h0]
    go_enter Try.func35, Try.ntmps35
    go_wp2
    go_ret2
    exact ⟨retI2 (by rw [H.out]) (by rw [H.out]), by (repeat (first | exact Below.refl _ _ | (with_reducible refine Below.drew ?_) | (with_reducible refine Below.alloc ?_ (by (try simp); (try omega)) _) | (with_reducible refine Below.setCell ?_ (by (try simp); (try omega)) _) | (with_reducible refine Below.trans ?_ (Below.mono (by assumption) (by (try simp); (try omega))))))⟩
  · by_cases h32 : 32 < L.length
    · have H : Hid (chk L = (15, 32)) := by show _ = _; unfold chk; rw [if_neg h0, if_pos h32]
      have h0' : 0 < L.length := by omega
      clear h0
      go_enter Try.func35, Try.ntmps35
      go_wp2
      go_ret2
      exact ⟨retI2 (by rw [H.out]) (by rw [H.out]), by (repeat (first | exact Below.refl _ _ | (with_reducible refine Below.drew ?_) | (with_reducible refine Below.alloc ?_ (by (try simp); (try omega)) _) | (with_reducible refine Below.setCell ?_ (by (try simp); (try omega)) _) | (with_reducible refine Below.trans ?_ (Below.mono (by assumption) (by (try simp); (try omega))))))⟩
    · have h0' : ((L.length : Int) == 0) = false := by simpa using h0
      have h32' : L.length ≤ 32 := by omega
      have h0p : 0 < L.length := by omega
      clear h0 h32
      go_enter Try.func35, Try.ntmps35
      go_wp2
      go_loopw [14] (fun i wr => ∃ k : Nat, i = .int .i64 k ∧ k ≤ L.length ∧ Hid (∀ j, j < k → agBad L j = 0) ∧ Below w.heap.size w wr) (fun i _ => L.length - (intOf i).toNat)
      case atStart => exact ⟨0, rfl, by omega, fun j hj => by omega, Below.refl _ _⟩
      case round =>
        obtain ⟨k, rfl, hk, HN, hbw⟩ := hrel
        by_cases hlt : k < L.length
        · obtain ⟨b, off, rfl, hb, g0, g1⟩ := HL.out k hlt
          have c0 : wr.cell? ⟨b, off + k * 2, none⟩ = some (.string (agN L k)) := (hbw.cell (p := ⟨b, off + k * 2, none⟩) hb).trans g0
          have c1 : wr.cell? ⟨b, off + k * 2 + 1, none⟩ = some (.int .i64 (agA L k)) := (hbw.cell (p := ⟨b, off + k * 2 + 1, none⟩) hb).trans g1
          have hz := hbw.size
          have hkc : (k : Int) ≤ (cap : Int) := by omega
          have hkc' : k ≤ cap := by omega
          clear g0 g1
          cases hw : bgnS (agN L k) 65 90
          · have HW := Lib.hid hw
            go_wp2_with (go_at_call 50; refine (word_any _ _).mono ?_; rintro e w' ⟨rfl, rfl⟩)
            go_ret2
            exact ⟨by
              have e := chk_bad h0p h32' hlt HN.out (by unfold agBad; rw [if_pos HW.out]; decide)
              exact retI2 (by rw [e]; unfold agBad; rw [if_pos HW.out]) (by rw [e]), by (repeat (first | exact Below.refl _ _ | (with_reducible refine Below.drew ?_) | (with_reducible refine Below.alloc ?_ (by (try simp); (try omega)) _) | (with_reducible refine Below.setCell ?_ (by (try simp); (try omega)) _) | (with_reducible refine Below.trans ?_ (Below.mono (by assumption) (by (try simp); (try omega))))))⟩
          · have HW := Lib.hid hw
            go_wp2_with (go_at_call 50; refine (word_any _ _).mono ?_; rintro e w' ⟨rfl, rfl⟩)
            (refine region_tail 5 (by kernel_rfl) (by kernel_rfl) ?_; simp only [List.take_succ_cons, List.take_zero, List.drop_succ_cons, List.drop_zero]; repeat still_step; try refine wpStill_nil ?_)
            have HT : Hid (AgRd (wr.alloc (.cells #[.string (agN L k), .int .i64 (agA L k)] 74)).drew (some ⟨b, off, none⟩) (L.take k)) :=
              ((HL.out.below hbw).below (((Below.refl _ _).alloc (Nat.le_refl _) _).drew)).take k
            have hlt' : k ≤ L.length := hk
            cases ho : decide (0 ≤ ofN (L.take k) (agN L k))
            · have HO := Lib.hid ho
              have ho' : ofN (L.take k) (agN L k) < 0 := by simpa using ho
              clear ho
              go_wp2_with (go_at_call 51; refine (of_any _ _ _ (L.take k) _ _ (by simp; omega) (by simp only [maxLen]; simp; omega) HT).mono ?_; rintro e w1 ⟨rfl, hb1⟩; obtain ⟨hc1, hf1⟩ := bcell hb1; have hz1 := hb1.size; (try simp at hz1); have hz1a : wr.heap.size < w1.heap.size := (by omega))
              · go_ret2
                have e := chk_bad h0p h32' hlt HN.out (by rw [agBad_22 HW.out (by omega) (by omega)]; decide)
                exact ⟨retI2 (by rw [e, agBad_22 HW.out (by omega) (by omega)]) (by rw [e]), by (repeat (first | exact Below.refl _ _ | (with_reducible refine Below.drew ?_) | (with_reducible refine Below.alloc ?_ (by (try simp); (try omega)) _) | (with_reducible refine Below.setCell ?_ (by (try simp); (try omega)) _) | (with_reducible refine Below.trans ?_ (Below.mono (by assumption) (by (try simp); (try omega))))))⟩
              · go_roundw
                case rel => exact ⟨k + 1, by go_num, by omega, fun j hj => by
                  rcases Nat.lt_or_ge j k with h | h
                  · exact HN.out j h
                  · obtain rfl : j = k := by omega
                    exact agBad_0 HW.out (by omega) (by omega), by (repeat (first | exact Below.refl _ _ | (with_reducible refine Below.drew ?_) | (with_reducible refine Below.alloc ?_ (by (try simp); (try omega)) _) | (with_reducible refine Below.setCell ?_ (by (try simp); (try omega)) _) | (with_reducible refine Below.trans ?_ (Below.mono (by assumption) (by (try simp); (try omega))))))⟩
                case measure => simp [intOf]; omega
              · go_ret2
                have e := chk_bad h0p h32' hlt HN.out (by rw [agBad_22 HW.out (by omega) (by omega)]; decide)
                exact ⟨retI2 (by rw [e, agBad_22 HW.out (by omega) (by omega)]) (by rw [e]), by (repeat (first | exact Below.refl _ _ | (with_reducible refine Below.drew ?_) | (with_reducible refine Below.alloc ?_ (by (try simp); (try omega)) _) | (with_reducible refine Below.setCell ?_ (by (try simp); (try omega)) _) | (with_reducible refine Below.trans ?_ (Below.mono (by assumption) (by (try simp); (try omega))))))⟩
            · have HO := Lib.hid ho
              have ho' : 0 ≤ ofN (L.take k) (agN L k) := by simpa using ho
              clear ho
              go_wp2_with (go_at_call 51; refine (of_any _ _ _ (L.take k) _ _ (by simp; omega) (by simp only [maxLen]; simp; omega) HT).mono ?_; rintro e w1 ⟨rfl, hb1⟩; obtain ⟨hc1, hf1⟩ := bcell hb1; have hz1 := hb1.size; (try simp at hz1); have hz1a : wr.heap.size < w1.heap.size := (by omega))
              go_ret2
              have e := chk_bad h0p h32' hlt HN.out (by rw [agBad_21 HW.out (by omega)]; decide)
              exact ⟨retI2 (by rw [e, agBad_21 HW.out (by omega)]) (by rw [e]), by (repeat (first | exact Below.refl _ _ | (with_reducible refine Below.drew ?_) | (with_reducible refine Below.alloc ?_ (by (try simp); (try omega)) _) | (with_reducible refine Below.setCell ?_ (by (try simp); (try omega)) _) | (with_reducible refine Below.trans ?_ (Below.mono (by assumption) (by (try simp); (try omega))))))⟩
        · go_wp2
          go_ret2
          have e := chk_good h0p h32' (fun j hj => HN.out j (by omega))
          exact ⟨retI2 (by rw [e]) (by rw [e]), by (repeat (first | exact Below.refl _ _ | (with_reducible refine Below.drew ?_) | (with_reducible refine Below.alloc ?_ (by (try simp); (try omega)) _) | (with_reducible refine Below.setCell ?_ (by (try simp); (try omega)) _) | (with_reducible refine Below.trans ?_ (Below.mono (by assumption) (by (try simp); (try omega))))))⟩
end Go.Proofs.Ytogbanlfihabpaa
