/-
  Lists in memory as lists: of ints, of wires; copies of them; '=='.
-/
import Derived.Test.YtcebejcdfdahjaaSigW
import Derived.Deep.QuietTactic
import Derived.BigQuiet
import Derived.StillTailTactics
import Derived.Test.YtcebejcdfdahjaaChecked
import Derived.Test.YtcebejcdfdahjaaOwn
import Derived.Test.YtcebejcdfdahjaaNetSpec
/-
  Contracts of package sig over lists of agents: Of, Ports, Check, and of the reference for them.
-/
namespace Go.Proofs.Ytcebejcdfdahjaa
open Go.RowKit
attribute [local go_sem] cell_set
set_option maxRecDepth 100000

/-- A list of agents: names and arities. -/
def agN (L : List (ByteArray × Int)) (i : Nat) : ByteArray := (L.getD i (ByteArray.empty, 0)).1
def agA (L : List (ByteArray × Int)) (i : Nat) : Int := (L.getD i (ByteArray.empty, 0)).2
/-- The slice at A reads as L. -/
def AgRd (w : World) (A : Option Addr) (L : List (ByteArray × Int)) : Prop :=
  ∀ i, i < L.length → ∃ b off, A = some ⟨b, off, none⟩ ∧ b < w.heap.size ∧ w.cell? ⟨b, off + i * 2, none⟩ = some (.string (agN L i)) ∧ w.cell? ⟨b, off + i * 2 + 1, none⟩ = some (.int .i64 (agA L i))
theorem AgRd.below {w w' : World} {A : Option Addr} {L : List (ByteArray × Int)} (h : AgRd w A L) (hb : Below w.heap.size w w') : AgRd w' A L := by
  intro i hi
  obtain ⟨b, off, hA, hlt, h0, h1⟩ := h i hi
  exact ⟨b, off, hA, Nat.lt_of_lt_of_le hlt hb.size, by rw [hb.cell (p := ⟨b, off + i * 2, none⟩) hlt]; exact h0, by rw [hb.cell (p := ⟨b, off + i * 2 + 1, none⟩) hlt]; exact h1⟩
theorem agN_take {L : List (ByteArray × Int)} {i k : Nat} (h : i < k) : agN (L.take k) i = agN L i := by
  unfold agN; simp [h]
theorem agA_take {L : List (ByteArray × Int)} {i k : Nat} (h : i < k) : agA (L.take k) i = agA L i := by
  unfold agA; simp [h]
theorem AgRd.take {w : World} {A : Option Addr} {L : List (ByteArray × Int)} (h : AgRd w A L) (k : Nat) : AgRd w A (L.take k) := by
  intro i hi
  have hi' : i < k ∧ i < L.length := by simp at hi; omega
  rw [agN_take hi'.1, agA_take hi'.1]
  exact h i hi'.2

def ofN (L : List (ByteArray × Int)) (s : ByteArray) : Int :=
  match L.findIdx? (fun a => a.1.toList == s.toList) with
  | some i => (i : Int)
  | none => -1
theorem ofN_some {L : List (ByteArray × Int)} {s : ByteArray} {k : Nat} (hk : k < L.length) (h : ((agN L k).toList == s.toList) = true) (hn : ∀ j, j < k → ((agN L j).toList == s.toList) = false) : ofN L s = k := by
  have : L.findIdx? (fun a => a.1.toList == s.toList) = some k := by
    rw [List.findIdx?_eq_some_iff_getElem]
    refine ⟨hk, ?_, fun j hj => ?_⟩
    · simpa [agN, List.getD_eq_getElem?_getD, List.getElem?_eq_getElem hk] using h
    · have := hn j hj
      simpa [agN, List.getD_eq_getElem?_getD, List.getElem?_eq_getElem (show j < L.length by omega)] using this
  unfold ofN; rw [this]
theorem ofN_none {L : List (ByteArray × Int)} {s : ByteArray} (hn : ∀ j, j < L.length → ((agN L j).toList == s.toList) = false) : ofN L s = -1 := by
  have : L.findIdx? (fun a => a.1.toList == s.toList) = none := by
    rw [List.findIdx?_eq_none_iff]
    intro x hx
    obtain ⟨j, hj, rfl⟩ := List.mem_iff_getElem.1 hx
    have := hn j hj
    simpa [agN, List.getD_eq_getElem?_getD, List.getElem?_eq_getElem hj] using this
  unfold ofN; rw [this]

theorem of_any (A : Option Addr) (n cap : Nat) (L : List (ByteArray × Int)) (s : ByteArray) (w : World) (hn : n = L.length) (hl : L.length ≤ maxLen) (HL : Hid (AgRd w A L)) :
    Calls Try.prog 103 #[.slice A n cap, .string s] w fun e w' => e = .returned (.int .i64 (ofN L s)) ∧ Below w.heap.size w w' := by
  unfold maxLen at hl
  subst hn
  go_enter Try.func103, Try.ntmps103
  go_wp2
  go_loopw [9] (fun i wr => ∃ k : Nat, i = .int .i64 k ∧ k ≤ L.length ∧ Hid (∀ j, j < k → ((agN L j).toList == s.toList) = false) ∧ Below w.heap.size w wr) (fun i _ => L.length - (intOf i).toNat)
  case atStart => exact ⟨0, rfl, by omega, fun j hj => by omega, Below.refl _ _⟩
  case round =>
    obtain ⟨k, rfl, hk, HN, hbw⟩ := hrel
    by_cases hlt : k < L.length
    · obtain ⟨b, off, rfl, hb, h0, h1⟩ := HL.out k hlt
      have c0 : wr.cell? ⟨b, off + k * 2, none⟩ = some (.string (agN L k)) := (hbw.cell (p := ⟨b, off + k * 2, none⟩) hb).trans h0
      have c1 : wr.cell? ⟨b, off + k * 2 + 1, none⟩ = some (.int .i64 (agA L k)) := (hbw.cell (p := ⟨b, off + k * 2 + 1, none⟩) hb).trans h1
      have hz := hbw.size
      clear h0 h1
      cases hd : (agN L k).toList == s.toList
      · have HD := Lib.hid hd
        go_wp2
        go_roundw
        case rel => exact ⟨k + 1, by go_num, by omega, fun j hj => by
          rcases Nat.lt_or_ge j k with h | h
          · exact HN.out j h
          · obtain rfl : j = k := by omega
            exact HD.out, by (repeat (first | exact Below.refl _ _ | (with_reducible refine Below.drew ?_) | (with_reducible refine Below.alloc ?_ (by (try simp); (try omega)) _) | (with_reducible refine Below.setCell ?_ (by (try simp); (try omega)) _) | (with_reducible refine Below.trans ?_ (Below.mono (by assumption) (by (try simp); (try omega))))))⟩
        case measure => simp [intOf]; omega
      · have HD := Lib.hid hd
        go_wp2
        go_ret
        exact ⟨retI (ofN_some hlt HD.out HN.out).symm, by (repeat (first | exact Below.refl _ _ | (with_reducible refine Below.drew ?_) | (with_reducible refine Below.alloc ?_ (by (try simp); (try omega)) _) | (with_reducible refine Below.setCell ?_ (by (try simp); (try omega)) _) | (with_reducible refine Below.trans ?_ (Below.mono (by assumption) (by (try simp); (try omega))))))⟩
    · go_wp2
      go_ret
      exact ⟨retI (ofN_none (fun j hj => HN.out j (by omega))).symm, by (repeat (first | exact Below.refl _ _ | (with_reducible refine Below.drew ?_) | (with_reducible refine Below.alloc ?_ (by (try simp); (try omega)) _) | (with_reducible refine Below.setCell ?_ (by (try simp); (try omega)) _) | (with_reducible refine Below.trans ?_ (Below.mono (by assumption) (by (try simp); (try omega))))))⟩

/-- Ports: of an agent's number. -/
def portsN (L : List (ByteArray × Int)) (a : Int) : Int :=
  if a < 0 ∨ (L.length : Int) ≤ a ∨ agA L a.toNat < 0 then 0 else agA L a.toNat + 1
theorem ports_any (A : Option Addr) (n cap : Nat) (L : List (ByteArray × Int)) (a : Int) (w : World) (hn : n = L.length) (hl : L.length ≤ maxLen) (HL : Hid (AgRd w A L)) (ha : a < 0 ∨ (L.length : Int) ≤ a ∨ agA L a.toNat < 9223372036854775807) :
    Calls Try.prog 96 #[.slice A n cap, .int .i64 a] w fun e w' => e = .returned (.int .i64 (portsN L a)) ∧ w = w' := by
  unfold maxLen at hl
  subst hn
  by_cases h : a < 0 ∨ (L.length : Int) ≤ a
  · have H : Hid (portsN L a = 0) := by
      show _ = _
      unfold portsN; rw [if_pos (by omega)]
    clear ha
    rcases h with h | h
    all_goals
      go_enter Try.func96, Try.ntmps96
      go_wp2
      go_ret
      exact ⟨retI H.out.symm, rfl⟩
  · obtain ⟨k, rfl⟩ := Int.eq_ofNat_of_zero_le (show 0 ≤ a by omega)
    have hk : k < L.length := by omega
    obtain ⟨b, off, rfl, hb, h0, h1⟩ := HL.out k hk
    have H : Hid (portsN L (k : Int) = if agA L k < 0 then 0 else agA L k + 1) := by
      show _ = _
      unfold portsN
      by_cases hz : agA L k < 0
      · rw [if_pos (by simp; omega), if_pos hz]
      · rw [if_neg (by simp; omega), if_neg hz]; simp
    have ha' : agA L k < 9223372036854775807 := by simp at ha; omega
    clear ha h
    by_cases hz : agA L k < 0
    · go_enter Try.func96, Try.ntmps96
      go_wp2
      go_ret
      exact ⟨retI (by rw [H.out, if_pos hz]), rfl⟩
    · have ha1 : Hid (wrap64 (agA L k + 1) = agA L k + 1) := by show _ = _; unfold wrap64; omega
      go_enter Try.func96, Try.ntmps96
      go_wp2
      go_ret
      exact ⟨retI (by rw [H.out, if_neg (by omega)]), rfl⟩

/-- What is wrong with the agent of a number; 0: nothing. -/
def agBad (L : List (ByteArray × Int)) (i : Nat) : Int :=
  if bgnS (agN L i) 65 90 = false then 12 else if 0 ≤ ofN (L.take i) (agN L i) then 21 else if agA L i < 0 ∨ 6 < agA L i then 22 else 0
theorem agBad_21 {L : List (ByteArray × Int)} {i : Nat} (h : bgnS (agN L i) 65 90 = true) (h2 : 0 ≤ ofN (L.take i) (agN L i)) : agBad L i = 21 := by
  unfold agBad; rw [if_neg (by simp [h]), if_pos h2]
theorem agBad_22 {L : List (ByteArray × Int)} {i : Nat} (h : bgnS (agN L i) 65 90 = true) (h2 : ofN (L.take i) (agN L i) < 0) (h3 : agA L i < 0 ∨ 6 < agA L i) : agBad L i = 22 := by
  unfold agBad; rw [if_neg (by simp [h]), if_neg (by omega), if_pos h3]
theorem agBad_0 {L : List (ByteArray × Int)} {i : Nat} (h : bgnS (agN L i) 65 90 = true) (h2 : ofN (L.take i) (agN L i) < 0) (h3 : 0 ≤ agA L i ∧ agA L i ≤ 6) : agBad L i = 0 := by
  unfold agBad; rw [if_neg (by simp [h]), if_neg (by omega), if_neg (by omega)]
def chk (L : List (ByteArray × Int)) : Int × Int :=
  if L.length = 0 then (20, 0) else if 32 < L.length then (15, 32) else
  match (List.range L.length).find? (fun i => agBad L i != 0) with
  | some i => (agBad L i, i)
  | none => (0, 0)
theorem chk_bad {L : List (ByteArray × Int)} (h0 : 0 < L.length) (h32 : L.length ≤ 32) {k : Nat} (hk : k < L.length) (hn : ∀ j, j < k → agBad L j = 0) (hb : agBad L k ≠ 0) : chk L = (agBad L k, (k : Int)) := by
  have : (List.range L.length).find? (fun i => agBad L i != 0) = some k := by
    rw [List.find?_eq_some_iff_getElem]
    refine ⟨by simpa using hb, k, by simpa using hk, by simp, fun j hj => ?_⟩
    simp [hn j hj]
  unfold chk; rw [if_neg (by omega), if_neg (by omega), this]
theorem chk_good {L : List (ByteArray × Int)} (h0 : 0 < L.length) (h32 : L.length ≤ 32) (hn : ∀ j, j < L.length → agBad L j = 0) : chk L = (0, 0) := by
  have : (List.range L.length).find? (fun i => agBad L i != 0) = none := by
    rw [List.find?_eq_none]
    intro x hx
    simp [hn x (by simpa using hx)]
  unfold chk; rw [if_neg (by omega), if_neg (by omega), this]

theorem check_any (A : Option Addr) (n cap : Nat) (L : List (ByteArray × Int)) (w : World) (hn : n = L.length) (hl : L.length ≤ maxLen) (hcap : L.length ≤ cap) (HL : Hid (AgRd w A L)) :
    Calls Try.prog 89 #[.slice A n cap] w fun e w' => e = .returned (.tuple #[.int .i64 (chk L).1, .int .i64 (chk L).2]) ∧ Below w.heap.size w w' := by
  unfold maxLen at hl
  subst hn
  by_cases h0 : L.length = 0
  · have H : Hid (chk L = (20, 0)) := by show _ = _; unfold chk; rw [if_pos h0]
    go_enter Try.func89, Try.ntmps89
    go_wp2
    go_ret2
    exact ⟨retI2 (by rw [H.out]) (by rw [H.out]), by (repeat (first | exact Below.refl _ _ | (with_reducible refine Below.drew ?_) | (with_reducible refine Below.alloc ?_ (by (try simp); (try omega)) _) | (with_reducible refine Below.setCell ?_ (by (try simp); (try omega)) _) | (with_reducible refine Below.trans ?_ (Below.mono (by assumption) (by (try simp); (try omega))))))⟩
  · by_cases h32 : 32 < L.length
    · have H : Hid (chk L = (15, 32)) := by show _ = _; unfold chk; rw [if_neg h0, if_pos h32]
      have h0' : 0 < L.length := by omega
      clear h0
      go_enter Try.func89, Try.ntmps89
      go_wp2
      go_ret2
      exact ⟨retI2 (by rw [H.out]) (by rw [H.out]), by (repeat (first | exact Below.refl _ _ | (with_reducible refine Below.drew ?_) | (with_reducible refine Below.alloc ?_ (by (try simp); (try omega)) _) | (with_reducible refine Below.setCell ?_ (by (try simp); (try omega)) _) | (with_reducible refine Below.trans ?_ (Below.mono (by assumption) (by (try simp); (try omega))))))⟩
    · have h0' : ((L.length : Int) == 0) = false := by simpa using h0
      have h32' : L.length ≤ 32 := by omega
      have h0p : 0 < L.length := by omega
      clear h0 h32
      go_enter Try.func89, Try.ntmps89
      go_wp2
      go_loopw [14] (fun i wr => ∃ k : Nat, i = .int .i64 k ∧ k ≤ L.length ∧ Hid (∀ j, j < k → agBad L j = 0) ∧ Below w.heap.size w wr) (fun i _ => L.length - (intOf i).toNat)
      case atStart => exact ⟨0, rfl, by omega, fun j hj => by omega, Below.refl _ _⟩
      case round =>
        obtain ⟨k, rfl, hk, HN, hbw⟩ := hrel
        by_cases hlt : k < L.length
        · obtain ⟨b, off, rfl, hb, g0, g1⟩ := HL.out k hlt
          have c0 : wr.cell? ⟨b, off + k * 2, none⟩ = some (.string (agN L k)) := (hbw.cell (p := ⟨b, off + k * 2, none⟩) hb).trans g0
          have c1 : wr.cell? ⟨b, off + k * 2 + 1, none⟩ = some (.int .i64 (agA L k)) := (hbw.cell (p := ⟨b, off + k * 2 + 1, none⟩) hb).trans g1
          have hz := hbw.size
          have hkc : (k : Int) ≤ (cap : Int) := by omega
          have hkc' : k ≤ cap := by omega
          clear g0 g1
          cases hw : bgnS (agN L k) 65 90
          · have HW := Lib.hid hw
            go_wp2_with (go_at_call 102; refine (word_any _ _).mono ?_; rintro e w' ⟨rfl, rfl⟩)
            go_ret2
            exact ⟨by
              have e := chk_bad h0p h32' hlt HN.out (by unfold agBad; rw [if_pos HW.out]; decide)
              exact retI2 (by rw [e]; unfold agBad; rw [if_pos HW.out]) (by rw [e]), by (repeat (first | exact Below.refl _ _ | (with_reducible refine Below.drew ?_) | (with_reducible refine Below.alloc ?_ (by (try simp); (try omega)) _) | (with_reducible refine Below.setCell ?_ (by (try simp); (try omega)) _) | (with_reducible refine Below.trans ?_ (Below.mono (by assumption) (by (try simp); (try omega))))))⟩
          · have HW := Lib.hid hw
            go_wp2_with (go_at_call 102; refine (word_any _ _).mono ?_; rintro e w' ⟨rfl, rfl⟩)
            (refine region_tail 5 (by kernel_rfl) (by kernel_rfl) ?_; simp only [List.take_succ_cons, List.take_zero, List.drop_succ_cons, List.drop_zero]; repeat still_step; try refine wpStill_nil ?_)
            have HT : Hid (AgRd (wr.alloc (.cells #[.string (agN L k), .int .i64 (agA L k)] 94)).drew (some ⟨b, off, none⟩) (L.take k)) :=
              ((HL.out.below hbw).below (((Below.refl _ _).alloc (Nat.le_refl _) _).drew)).take k
            have hlt' : k ≤ L.length := hk
            cases ho : decide (0 ≤ ofN (L.take k) (agN L k))
            · have HO := Lib.hid ho
              have ho' : ofN (L.take k) (agN L k) < 0 := by simpa using ho
              clear ho
              go_wp2_with (go_at_call 103; refine (of_any _ _ _ (L.take k) _ _ (by simp; omega) (by simp only [maxLen]; simp; omega) HT).mono ?_; rintro e w1 ⟨rfl, hb1⟩; obtain ⟨hc1, hf1⟩ := bcell hb1; have hz1 := hb1.size; (try simp at hz1); have hz1a : wr.heap.size < w1.heap.size := (by omega))
              · go_ret2
                have e := chk_bad h0p h32' hlt HN.out (by rw [agBad_22 HW.out (by omega) (by omega)]; decide)
                exact ⟨retI2 (by rw [e, agBad_22 HW.out (by omega) (by omega)]) (by rw [e]), by (repeat (first | exact Below.refl _ _ | (with_reducible refine Below.drew ?_) | (with_reducible refine Below.alloc ?_ (by (try simp); (try omega)) _) | (with_reducible refine Below.setCell ?_ (by (try simp); (try omega)) _) | (with_reducible refine Below.trans ?_ (Below.mono (by assumption) (by (try simp); (try omega))))))⟩
              · go_roundw
                case rel => exact ⟨k + 1, by go_num, by omega, fun j hj => by
                  rcases Nat.lt_or_ge j k with h | h
                  · exact HN.out j h
                  · obtain rfl : j = k := by omega
                    exact agBad_0 HW.out (by omega) (by omega), by (repeat (first | exact Below.refl _ _ | (with_reducible refine Below.drew ?_) | (with_reducible refine Below.alloc ?_ (by (try simp); (try omega)) _) | (with_reducible refine Below.setCell ?_ (by (try simp); (try omega)) _) | (with_reducible refine Below.trans ?_ (Below.mono (by assumption) (by (try simp); (try omega))))))⟩
                case measure => simp [intOf]; omega
              · go_ret2
                have e := chk_bad h0p h32' hlt HN.out (by rw [agBad_22 HW.out (by omega) (by omega)]; decide)
                exact ⟨retI2 (by rw [e, agBad_22 HW.out (by omega) (by omega)]) (by rw [e]), by (repeat (first | exact Below.refl _ _ | (with_reducible refine Below.drew ?_) | (with_reducible refine Below.alloc ?_ (by (try simp); (try omega)) _) | (with_reducible refine Below.setCell ?_ (by (try simp); (try omega)) _) | (with_reducible refine Below.trans ?_ (Below.mono (by assumption) (by (try simp); (try omega))))))⟩
            · have HO := Lib.hid ho
              have ho' : 0 ≤ ofN (L.take k) (agN L k) := by simpa using ho
              clear ho
              go_wp2_with (go_at_call 103; refine (of_any _ _ _ (L.take k) _ _ (by simp; omega) (by simp only [maxLen]; simp; omega) HT).mono ?_; rintro e w1 ⟨rfl, hb1⟩; obtain ⟨hc1, hf1⟩ := bcell hb1; have hz1 := hb1.size; (try simp at hz1); have hz1a : wr.heap.size < w1.heap.size := (by omega))
              go_ret2
              have e := chk_bad h0p h32' hlt HN.out (by rw [agBad_21 HW.out (by omega)]; decide)
              exact ⟨retI2 (by rw [e, agBad_21 HW.out (by omega)]) (by rw [e]), by (repeat (first | exact Below.refl _ _ | (with_reducible refine Below.drew ?_) | (with_reducible refine Below.alloc ?_ (by (try simp); (try omega)) _) | (with_reducible refine Below.setCell ?_ (by (try simp); (try omega)) _) | (with_reducible refine Below.trans ?_ (Below.mono (by assumption) (by (try simp); (try omega))))))⟩
        · go_wp2
          go_ret2
          have e := chk_good h0p h32' (fun j hj => HN.out j (by omega))
          exact ⟨retI2 (by rw [e]) (by rw [e]), by (repeat (first | exact Below.refl _ _ | (with_reducible refine Below.drew ?_) | (with_reducible refine Below.alloc ?_ (by (try simp); (try omega)) _) | (with_reducible refine Below.setCell ?_ (by (try simp); (try omega)) _) | (with_reducible refine Below.trans ?_ (Below.mono (by assumption) (by (try simp); (try omega))))))⟩
end Go.Proofs.Ytcebejcdfdahjaa
namespace Go.Proofs.Ytcebejcdfdahjaa
open Go.RowKit
attribute [local go_sem] cell_set
set_option maxRecDepth 100000

/-- The slice at A reads as l. -/
def IntsRd (w : World) (A : Option Addr) (l : List Int) : Prop := ∀ i, i < l.length → ∃ b off, A = some ⟨b, off, none⟩ ∧ b < w.heap.size ∧ w.cell? ⟨b, off + i, none⟩ = some (.int .i64 (l.getD i 0))
def WrRd (w : World) (A : Option Addr) (W : List (Pt × Pt)) : Prop := ∀ i, i < W.length → ∃ b off, A = some ⟨b, off, none⟩ ∧ b < w.heap.size ∧ w.cell? ⟨b, off + i * 4, none⟩ = some (.int .i64 (W.getD i default).1.1) ∧ w.cell? ⟨b, off + i * 4 + 1, none⟩ = some (.int .i64 (W.getD i default).1.2) ∧
  w.cell? ⟨b, off + i * 4 + 2, none⟩ = some (.int .i64 (W.getD i default).2.1) ∧ w.cell? ⟨b, off + i * 4 + 3, none⟩ = some (.int .i64 (W.getD i default).2.2)
theorem IntsRd.below {w w' : World} {A : Option Addr} {l : List Int} (h : IntsRd w A l) (hb : Below w.heap.size w w') : IntsRd w' A l := fun i hi => by
  obtain ⟨b, off, hA, hlt, h0⟩ := h i hi
  exact ⟨b, off, hA, Nat.lt_of_lt_of_le hlt hb.size, (hb.cell (p := ⟨b, off + i, none⟩) hlt).trans h0⟩
theorem WrRd.below {w w' : World} {A : Option Addr} {W : List (Pt × Pt)} (h : WrRd w A W) (hb : Below w.heap.size w w') : WrRd w' A W := fun i hi => by
  obtain ⟨b, off, hA, hlt, h0, h1, h2, h3⟩ := h i hi
  exact ⟨b, off, hA, Nat.lt_of_lt_of_le hlt hb.size, (hb.cell (p := ⟨b, off + i * 4, none⟩) hlt).trans h0, (hb.cell (p := ⟨b, off + i * 4 + 1, none⟩) hlt).trans h1, (hb.cell (p := ⟨b, off + i * 4 + 2, none⟩) hlt).trans h2, (hb.cell (p := ⟨b, off + i * 4 + 3, none⟩) hlt).trans h3⟩
def ivals (l : List Int) : List Value := l.map fun x => Value.int .i64 x
def wrvals (W : List (Pt × Pt)) : List Value := W.flatMap fun x => [Value.int .i64 x.1.1, .int .i64 x.1.2, .int .i64 x.2.1, .int .i64 x.2.2]
def agvals (L : List (ByteArray × Int)) : List Value := L.flatMap fun x => [Value.string x.1, .int .i64 x.2]
theorem wrvals_len (W : List (Pt × Pt)) : (wrvals W).length = W.length * 4 := by
  induction W with
  | nil => rfl
  | cons p r ih => simp only [wrvals, List.flatMap_cons, List.length_append, List.length_cons, List.length_nil] at ih ⊢; omega
theorem agvals_len (L : List (ByteArray × Int)) : (agvals L).length = L.length * 2 := by
  induction L with
  | nil => rfl
  | cons p r ih => simp only [agvals, List.flatMap_cons, List.length_append, List.length_cons, List.length_nil] at ih ⊢; omega
theorem wrvals_at (W : List (Pt × Pt)) {i : Nat} (hi : i < W.length) : (wrvals W)[i * 4]? = some (.int .i64 (W.getD i default).1.1) ∧ (wrvals W)[i * 4 + 1]? = some (.int .i64 (W.getD i default).1.2) ∧ (wrvals W)[i * 4 + 2]? = some (.int .i64 (W.getD i default).2.1) ∧ (wrvals W)[i * 4 + 3]? = some (.int .i64 (W.getD i default).2.2) := by
  induction W generalizing i with
  | nil => simp at hi
  | cons p r ih =>
    have hc : wrvals (p :: r) = .int .i64 p.1.1 :: .int .i64 p.1.2 :: .int .i64 p.2.1 :: .int .i64 p.2.2 :: wrvals r := rfl
    cases i with
    | zero => rw [hc]; exact ⟨rfl, rfl, rfl, rfl⟩
    | succ i =>
      rw [hc, show (i + 1) * 4 = i * 4 + 1 + 1 + 1 + 1 by omega]
      have := ih (i := i) (by simpa using hi)
      simpa using this
theorem agvals_at (L : List (ByteArray × Int)) {i : Nat} (hi : i < L.length) : (agvals L)[i * 2]? = some (.string (agN L i)) ∧ (agvals L)[i * 2 + 1]? = some (.int .i64 (agA L i)) := by
  induction L generalizing i with
  | nil => simp at hi
  | cons p r ih =>
    have hc : agvals (p :: r) = .string p.1 :: .int .i64 p.2 :: agvals r := rfl
    cases i with
    | zero => rw [hc]; exact ⟨rfl, rfl⟩
    | succ i =>
      rw [hc, show (i + 1) * 2 = i * 2 + 1 + 1 by omega]
      have := ih (i := i) (by simpa using hi)
      simpa [agN, agA] using this
theorem Row.ints {w : World} {V : Option Addr} {cap : Nat} {l : List Int} (h : Row w 3 1 (.slice V l.length cap) l.length (ivals l)) : IntsRd w V l := fun i hi => by
  obtain ⟨g, c, cur, e, hg, _⟩ := h.some_ (by omega)
  simp only [Value.slice.injEq, true_and] at e
  obtain ⟨rfl, rfl⟩ := e
  refine ⟨g, 0, rfl, heap_lt hg, ?_⟩
  rw [Nat.zero_add, h.cellAt i (by omega)]
  simp [ivals, hi]
theorem Row.wires {w : World} {V : Option Addr} {cap : Nat} {W : List (Pt × Pt)} (h : Row w 90 4 (.slice V W.length cap) W.length (wrvals W)) : WrRd w V W := fun i hi => by
  obtain ⟨g, c, cur, e, hg, _⟩ := h.some_ (by omega)
  simp only [Value.slice.injEq, true_and] at e
  obtain ⟨rfl, rfl⟩ := e
  obtain ⟨a0, a1, a2, a3⟩ := wrvals_at W hi
  refine ⟨g, 0, rfl, heap_lt hg, ?_, ?_, ?_, ?_⟩
  · rw [Nat.zero_add, h.cellAt _ (by omega)]; exact a0
  · rw [Nat.zero_add, h.cellAt _ (by omega)]; exact a1
  · rw [Nat.zero_add, h.cellAt _ (by omega)]; exact a2
  · rw [Nat.zero_add, h.cellAt _ (by omega)]; exact a3
theorem Row.agents {w : World} {V : Option Addr} {cap : Nat} {L : List (ByteArray × Int)} (h : Row w 94 2 (.slice V L.length cap) L.length (agvals L)) : AgRd w V L := fun i hi => by
  obtain ⟨g, c, cur, e, hg, _⟩ := h.some_ (by omega)
  simp only [Value.slice.injEq, true_and] at e
  obtain ⟨rfl, rfl⟩ := e
  obtain ⟨a0, a1⟩ := agvals_at L hi
  refine ⟨g, 0, rfl, heap_lt hg, ?_, ?_⟩
  · rw [Nat.zero_add, h.cellAt _ (by omega)]; exact a0
  · rw [Nat.zero_add, h.cellAt _ (by omega)]; exact a1
theorem IntsRd.src {w : World} {A : Option Addr} {l : List Int} (h : IntsRd w A l) : Src w A l.length 1 (ivals l) := by
  refine ⟨by simp [ivals], fun u hu => ?_, ?_⟩
  · simp only [ivals, List.mem_map] at hu; obtain ⟨x, _, rfl⟩ := hu; rfl
  · cases A with
    | none =>
      by_cases hl : l.length = 0
      · exact .inl ⟨rfl, hl⟩
      · obtain ⟨_, _, e, _⟩ := h 0 (by omega); cases e
    | some ad =>
      refine .inr ⟨ad, rfl, fun j u hu => ?_⟩
      have hj : j < l.length := by
        rcases Nat.lt_or_ge j l.length with hl | hl
        · exact hl
        · rw [List.getElem?_eq_none (by simpa [ivals] using hl)] at hu; cases hu
      obtain ⟨b, off, e, _, h0⟩ := h j hj
      injection e with e
      subst e
      rw [Addr.add_lit, h0]
      simpa [ivals, hj] using hu
theorem WrRd.src {w : World} {A : Option Addr} {W : List (Pt × Pt)} (h : WrRd w A W) : Src w A W.length 4 (wrvals W) := by
  refine ⟨wrvals_len W, fun u hu => ?_, ?_⟩
  · simp only [wrvals, List.mem_flatMap, List.mem_cons, List.not_mem_nil, or_false] at hu
    obtain ⟨x, _, rfl | rfl | rfl | rfl⟩ := hu <;> rfl
  · cases A with
    | none =>
      by_cases hl : W.length = 0
      · exact .inl ⟨rfl, hl⟩
      · obtain ⟨_, _, e, _⟩ := h 0 (by omega); cases e
    | some ad =>
      refine .inr ⟨ad, rfl, fun j u hu => ?_⟩
      have hj : j < W.length * 4 := by
        rcases Nat.lt_or_ge j (W.length * 4) with hl | hl
        · exact hl
        · rw [List.getElem?_eq_none (by rw [wrvals_len]; omega)] at hu; cases hu
      obtain ⟨b, off, e, _, h0, h1, h2, h3⟩ := h (j / 4) (by omega)
      injection e with e
      subst e
      rw [Addr.add_lit]
      obtain ⟨a0, a1, a2, a3⟩ := wrvals_at W (i := j / 4) (by omega)
      rcases (by omega : j = j / 4 * 4 ∨ j = j / 4 * 4 + 1 ∨ j = j / 4 * 4 + 2 ∨ j = j / 4 * 4 + 3) with hj4 | hj4 | hj4 | hj4
      · rw [hj4] at hu ⊢; rw [h0, ← a0]; exact hu
      · rw [hj4] at hu ⊢; rw [← Nat.add_assoc, h1, ← a1]; exact hu
      · rw [hj4] at hu ⊢; rw [← Nat.add_assoc, h2, ← a2]; exact hu
      · rw [hj4] at hu ⊢; rw [← Nat.add_assoc, h3, ← a3]; exact hu
theorem AgRd.src {w : World} {A : Option Addr} {L : List (ByteArray × Int)} (h : AgRd w A L) : Src w A L.length 2 (agvals L) := by
  refine ⟨agvals_len L, fun u hu => ?_, ?_⟩
  · simp only [agvals, List.mem_flatMap, List.mem_cons, List.not_mem_nil, or_false] at hu
    obtain ⟨x, _, rfl | rfl⟩ := hu <;> rfl
  · cases A with
    | none =>
      by_cases hl : L.length = 0
      · exact .inl ⟨rfl, hl⟩
      · obtain ⟨_, _, e, _⟩ := h 0 (by omega); cases e
    | some ad =>
      refine .inr ⟨ad, rfl, fun j u hu => ?_⟩
      have hj : j < L.length * 2 := by
        rcases Nat.lt_or_ge j (L.length * 2) with hl | hl
        · exact hl
        · rw [List.getElem?_eq_none (by rw [agvals_len]; omega)] at hu; cases hu
      obtain ⟨b, off, e, _, h0, h1⟩ := h (j / 2) (by omega)
      injection e with e
      subst e
      rw [Addr.add_lit]
      obtain ⟨a0, a1⟩ := agvals_at L (i := j / 2) (by omega)
      rcases (by omega : j = j / 2 * 2 ∨ j = j / 2 * 2 + 1) with hj4 | hj4
      · rw [hj4] at hu ⊢; rw [h0, ← a0]; exact hu
      · rw [hj4] at hu ⊢; rw [← Nat.add_assoc, h1, ← a1]; exact hu

theorem int_info : (Try.prog.info? 3).map (fun i => (i.zero, i.size, i.bytes)) = some (some (.int .i64 0), 1, 8) := by kernel_rfl
theorem wire_info : (Try.prog.info? 90).map (fun i => (i.zero, i.size, i.bytes)) = some (some (.agg #[.int .i64 0, .int .i64 0, .int .i64 0, .int .i64 0]), 4, 32) := by kernel_rfl
theorem agent_info : (Try.prog.info? 94).map (fun i => (i.zero, i.size, i.bytes)) = some (some (.agg #[.string ByteArray.empty, .int .i64 0]), 2, 24) := by kernel_rfl

/-- A fresh row. -/
def Fresh (w w' : World) (e : TypeId) (size n : Nat) (v : Value) (xs : List Value) : Prop := Row w' e size v n xs ∧ (∀ b ∈ ownB v, w.heap.size ≤ b) ∧ Below w.heap.size w w'
theorem fresh_of {w w' : World} {e : TypeId} {size n : Nat} {v : Value} {xs : List Value} (h : Row w' e size v n xs) (k : Kp (ownB (.slice none 0 0)) w w') (o : ownB v = ownB (.slice none 0 0) ∨ ownB v = [w.heap.size]) : Fresh w w' e size n v xs := by
  refine ⟨h, fun b hb => ?_, k.below (Nat.le_refl _) (by simp [ownB])⟩
  rcases o with e | e
  · rw [e] at hb; simp [ownB] at hb
  · rw [e] at hb; simp at hb; omega

theorem copy_ints (A : Option Addr) (cap : Nat) (l : List Int) (w : World) (h : IntsRd w A l) (hl : l.length ≤ 100000) :
    Calls Try.prog 16 #[.slice A l.length cap] w fun e w' => ∃ V c, e = .returned (.slice V l.length c) ∧ Fresh w w' 3 1 l.length (.slice V l.length c) (ivals l) := by
  obtain ⟨i0, hi0, hi1, hi2, hi3⟩ := info_parts int_info
  have HS := Lib.hid h.src
  have HB63 : 0 + l.length ≤ maxLen := by simp only [maxLen]; omega
  have HB47 : (0 + l.length) * 8 ≤ 140737488355328 := by omega
  go_enter Try.func16, Try.ntmps16
  go_wp2_with (at_builtin; go_loud (refine inPlain rfl (wpo_row_append _ _ _ rfl i0 _ 8 Try.underlying23 hi0 hi1 hi2 hi3 rfl rfl (Row.nil w 3 1) _ l.length _ rfl (ivals l) HS.out HB63 HB47 ?_)); intro sv5 w5 r5 k5 o5; rw [Nat.zero_add, List.nil_append] at r5; obtain ⟨V5, cp5, rfl, hc5⟩ := r5.len)
  go_ret
  exact ⟨V5, cp5, rfl, fresh_of r5 k5 o5⟩
theorem copy_wires (A : Option Addr) (cap : Nat) (W : List (Pt × Pt)) (w : World) (h : WrRd w A W) (hl : W.length ≤ 100000) :
    Calls Try.prog 65 #[.slice A W.length cap] w fun e w' => ∃ V c, e = .returned (.slice V W.length c) ∧ Fresh w w' 90 4 W.length (.slice V W.length c) (wrvals W) := by
  obtain ⟨i0, hi0, hi1, hi2, hi3⟩ := info_parts wire_info
  have HS := Lib.hid h.src
  have HB63 : 0 + W.length ≤ maxLen := by simp only [maxLen]; omega
  have HB47 : (0 + W.length) * 32 ≤ 140737488355328 := by omega
  go_enter Try.func65, Try.ntmps65
  go_wp2_with (at_builtin; go_loud (refine inPlain rfl (wpo_row_append _ _ _ rfl i0 _ 32 Try.underlying24 hi0 hi1 hi2 hi3 rfl rfl (Row.nil w 90 4) _ W.length _ rfl (wrvals W) HS.out HB63 HB47 ?_)); intro sv5 w5 r5 k5 o5; rw [Nat.zero_add, List.nil_append] at r5; obtain ⟨V5, cp5, rfl, hc5⟩ := r5.len)
  go_ret
  exact ⟨V5, cp5, rfl, fresh_of r5 k5 o5⟩
theorem copy_agents (A : Option Addr) (cap : Nat) (L : List (ByteArray × Int)) (w : World) (h : AgRd w A L) (hl : L.length ≤ 100000) :
    Calls Try.prog 14 #[.slice A L.length cap] w fun e w' => ∃ V c, e = .returned (.slice V L.length c) ∧ Fresh w w' 94 2 L.length (.slice V L.length c) (agvals L) := by
  obtain ⟨i0, hi0, hi1, hi2, hi3⟩ := info_parts agent_info
  have HS := Lib.hid h.src
  have HB63 : 0 + L.length ≤ maxLen := by simp only [maxLen]; omega
  have HB47 : (0 + L.length) * 24 ≤ 140737488355328 := by omega
  go_enter Try.func14, Try.ntmps14
  go_wp2_with (at_builtin; go_loud (refine inPlain rfl (wpo_row_append _ _ _ rfl i0 _ 24 Try.underlying22 hi0 hi1 hi2 hi3 rfl rfl (Row.nil w 94 2) _ L.length _ rfl (agvals L) HS.out HB63 HB47 ?_)); intro sv5 w5 r5 k5 o5; rw [Nat.zero_add, List.nil_append] at r5; obtain ⟨V5, cp5, rfl, hc5⟩ := r5.len)
  go_ret
  exact ⟨V5, cp5, rfl, fresh_of r5 k5 o5⟩
end Go.Proofs.Ytcebejcdfdahjaa
