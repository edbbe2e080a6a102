/-
  Contracts of skeinref02 (Of, Ports, Check); nets by value.
-/
import Derived.Test.YthbobooiedcofaaChecked
import Derived.Test.YthbobooiedcofaaOwn
import Derived.Test.YthbobooiedcofaaAgentsN
import Derived.Test.YthbobooiedcofaaNetSpec
import Derived.StillTailTactics
import Derived.Deep.QuietTactic
import Derived.BigQuiet
import Derived.Deep.RegionHeld3
import Derived.Deep.RegionLaw
import Derived.WalkSmall
import Derived.Deep.OwnRows
/-
  Lists in memory as lists: of ints, of wires; copies of them; '=='.
-/
namespace Go.Proofs.Ythbobooiedcofaa
open Go.RowKit
attribute [local go_sem] cell_set
set_option maxRecDepth 100000

/-- The slice at A reads as l. -/
def IntsRd (w : World) (A : Option Addr) (l : List Int) : Prop := ∀ i, i < l.length → ∃ b off, A = some ⟨b, off, none⟩ ∧ b < w.heap.size ∧ w.cell? ⟨b, off + i, none⟩ = some (.int .i64 (l.getD i 0))
def WrRd (w : World) (A : Option Addr) (W : List (Pt × Pt)) : Prop := ∀ i, i < W.length → ∃ b off, A = some ⟨b, off, none⟩ ∧ b < w.heap.size ∧ w.cell? ⟨b, off + i * 4, none⟩ = some (.int .i64 (W.getD i default).1.1) ∧ w.cell? ⟨b, off + i * 4 + 1, none⟩ = some (.int .i64 (W.getD i default).1.2) ∧
  w.cell? ⟨b, off + i * 4 + 2, none⟩ = some (.int .i64 (W.getD i default).2.1) ∧ w.cell? ⟨b, off + i * 4 + 3, none⟩ = some (.int .i64 (W.getD i default).2.2)
theorem IntsRd.below {w w' : World} {A : Option Addr} {l : List Int} (h : IntsRd w A l) (hb : Below w.heap.size w w') : IntsRd w' A l := fun i hi => by
  obtain ⟨b, off, hA, hlt, h0⟩ := h i hi
  exact ⟨b, off, hA, Nat.lt_of_lt_of_le hlt hb.size, (hb.cell (p := ⟨b, off + i, none⟩) hlt).trans h0⟩
theorem WrRd.below {w w' : World} {A : Option Addr} {W : List (Pt × Pt)} (h : WrRd w A W) (hb : Below w.heap.size w w') : WrRd w' A W := fun i hi => by
  obtain ⟨b, off, hA, hlt, h0, h1, h2, h3⟩ := h i hi
  exact ⟨b, off, hA, Nat.lt_of_lt_of_le hlt hb.size, (hb.cell (p := ⟨b, off + i * 4, none⟩) hlt).trans h0, (hb.cell (p := ⟨b, off + i * 4 + 1, none⟩) hlt).trans h1, (hb.cell (p := ⟨b, off + i * 4 + 2, none⟩) hlt).trans h2, (hb.cell (p := ⟨b, off + i * 4 + 3, none⟩) hlt).trans h3⟩
/-- The slice at A reads as these ports. -/
def PtsRd (w : World) (A : Option Addr) (P : List Pt) : Prop := ∀ i, i < P.length → ∃ b off, A = some ⟨b, off, none⟩ ∧ b < w.heap.size ∧ w.cell? ⟨b, off + i * 2, none⟩ = some (.int .i64 (P.getD i default).1) ∧ w.cell? ⟨b, off + i * 2 + 1, none⟩ = some (.int .i64 (P.getD i default).2)
theorem PtsRd.below {w w' : World} {A : Option Addr} {P : List Pt} (h : PtsRd w A P) (hb : Below w.heap.size w w') : PtsRd w' A P := fun i hi => by
  obtain ⟨b, off, hA, hlt, h0, h1⟩ := h i hi
  exact ⟨b, off, hA, Nat.lt_of_lt_of_le hlt hb.size, (hb.cell (p := ⟨b, off + i * 2, none⟩) hlt).trans h0, (hb.cell (p := ⟨b, off + i * 2 + 1, none⟩) hlt).trans h1⟩
def ivals (l : List Int) : List Value := l.map fun x => Value.int .i64 x
def wrvals (W : List (Pt × Pt)) : List Value := W.flatMap fun x => [Value.int .i64 x.1.1, .int .i64 x.1.2, .int .i64 x.2.1, .int .i64 x.2.2]
def agvals (L : List (ByteArray × Int)) : List Value := L.flatMap fun x => [Value.string x.1, .int .i64 x.2]
theorem wrvals_len (W : List (Pt × Pt)) : (wrvals W).length = W.length * 4 := by
  induction W with
  | nil => rfl
  | cons p r ih => simp only [wrvals, List.flatMap_cons, List.length_append, List.length_cons, List.length_nil] at ih ⊢; omega
theorem agvals_len (L : List (ByteArray × Int)) : (agvals L).length = L.length * 2 := by
  induction L with
  | nil => rfl
  | cons p r ih => simp only [agvals, List.flatMap_cons, List.length_append, List.length_cons, List.length_nil] at ih ⊢; omega
theorem wrvals_at (W : List (Pt × Pt)) {i : Nat} (hi : i < W.length) : (wrvals W)[i * 4]? = some (.int .i64 (W.getD i default).1.1) ∧ (wrvals W)[i * 4 + 1]? = some (.int .i64 (W.getD i default).1.2) ∧ (wrvals W)[i * 4 + 2]? = some (.int .i64 (W.getD i default).2.1) ∧ (wrvals W)[i * 4 + 3]? = some (.int .i64 (W.getD i default).2.2) := by
  induction W generalizing i with
  | nil => simp at hi
  | cons p r ih =>
    have hc : wrvals (p :: r) = .int .i64 p.1.1 :: .int .i64 p.1.2 :: .int .i64 p.2.1 :: .int .i64 p.2.2 :: wrvals r := rfl
    cases i with
    | zero => rw [hc]; exact ⟨rfl, rfl, rfl, rfl⟩
    | succ i =>
      rw [hc, show (i + 1) * 4 = i * 4 + 1 + 1 + 1 + 1 by omega]
      have := ih (i := i) (by simpa using hi)
      simpa using this
theorem agvals_at (L : List (ByteArray × Int)) {i : Nat} (hi : i < L.length) : (agvals L)[i * 2]? = some (.string (agN L i)) ∧ (agvals L)[i * 2 + 1]? = some (.int .i64 (agA L i)) := by
  induction L generalizing i with
  | nil => simp at hi
  | cons p r ih =>
    have hc : agvals (p :: r) = .string p.1 :: .int .i64 p.2 :: agvals r := rfl
    cases i with
    | zero => rw [hc]; exact ⟨rfl, rfl⟩
    | succ i =>
      rw [hc, show (i + 1) * 2 = i * 2 + 1 + 1 by omega]
      have := ih (i := i) (by simpa using hi)
      simpa [agN, agA] using this
theorem Row.ints {w : World} {V : Option Addr} {cap : Nat} {l : List Int} (h : Row w 3 1 (.slice V l.length cap) l.length (ivals l)) : IntsRd w V l := fun i hi => by
  obtain ⟨g, c, cur, e, hg, _⟩ := h.some_ (by omega)
  simp only [Value.slice.injEq, true_and] at e
  obtain ⟨rfl, rfl⟩ := e
  refine ⟨g, 0, rfl, heap_lt hg, ?_⟩
  rw [Nat.zero_add, h.cellAt i (by omega)]
  simp [ivals, hi]
theorem Row.wires {w : World} {V : Option Addr} {cap : Nat} {W : List (Pt × Pt)} (h : Row w 55 4 (.slice V W.length cap) W.length (wrvals W)) : WrRd w V W := fun i hi => by
  obtain ⟨g, c, cur, e, hg, _⟩ := h.some_ (by omega)
  simp only [Value.slice.injEq, true_and] at e
  obtain ⟨rfl, rfl⟩ := e
  obtain ⟨a0, a1, a2, a3⟩ := wrvals_at W hi
  refine ⟨g, 0, rfl, heap_lt hg, ?_, ?_, ?_, ?_⟩
  · rw [Nat.zero_add, h.cellAt _ (by omega)]; exact a0
  · rw [Nat.zero_add, h.cellAt _ (by omega)]; exact a1
  · rw [Nat.zero_add, h.cellAt _ (by omega)]; exact a2
  · rw [Nat.zero_add, h.cellAt _ (by omega)]; exact a3
theorem Row.agents {w : World} {V : Option Addr} {cap : Nat} {L : List (ByteArray × Int)} (h : Row w 89 2 (.slice V L.length cap) L.length (agvals L)) : AgRd w V L := fun i hi => by
  obtain ⟨g, c, cur, e, hg, _⟩ := h.some_ (by omega)
  simp only [Value.slice.injEq, true_and] at e
  obtain ⟨rfl, rfl⟩ := e
  obtain ⟨a0, a1⟩ := agvals_at L hi
  refine ⟨g, 0, rfl, heap_lt hg, ?_, ?_⟩
  · rw [Nat.zero_add, h.cellAt _ (by omega)]; exact a0
  · rw [Nat.zero_add, h.cellAt _ (by omega)]; exact a1
theorem IntsRd.src {w : World} {A : Option Addr} {l : List Int} (h : IntsRd w A l) : Src w A l.length 1 (ivals l) := by
  refine ⟨by simp [ivals], fun u hu => ?_, ?_⟩
  · simp only [ivals, List.mem_map] at hu; obtain ⟨x, _, rfl⟩ := hu; rfl
  · cases A with
    | none =>
      by_cases hl : l.length = 0
      · exact .inl ⟨rfl, hl⟩
      · obtain ⟨_, _, e, _⟩ := h 0 (by omega); cases e
    | some ad =>
      refine .inr ⟨ad, rfl, fun j u hu => ?_⟩
      have hj : j < l.length := by
        rcases Nat.lt_or_ge j l.length with hl | hl
        · exact hl
        · rw [List.getElem?_eq_none (by simpa [ivals] using hl)] at hu; cases hu
      obtain ⟨b, off, e, _, h0⟩ := h j hj
      injection e with e
      subst e
      rw [Addr.add_lit, h0]
      simpa [ivals, hj] using hu
theorem WrRd.src {w : World} {A : Option Addr} {W : List (Pt × Pt)} (h : WrRd w A W) : Src w A W.length 4 (wrvals W) := by
  refine ⟨wrvals_len W, fun u hu => ?_, ?_⟩
  · simp only [wrvals, List.mem_flatMap, List.mem_cons, List.not_mem_nil, or_false] at hu
    obtain ⟨x, _, rfl | rfl | rfl | rfl⟩ := hu <;> rfl
  · cases A with
    | none =>
      by_cases hl : W.length = 0
      · exact .inl ⟨rfl, hl⟩
      · obtain ⟨_, _, e, _⟩ := h 0 (by omega); cases e
    | some ad =>
      refine .inr ⟨ad, rfl, fun j u hu => ?_⟩
      have hj : j < W.length * 4 := by
        rcases Nat.lt_or_ge j (W.length * 4) with hl | hl
        · exact hl
        · rw [List.getElem?_eq_none (by rw [wrvals_len]; omega)] at hu; cases hu
      obtain ⟨b, off, e, _, h0, h1, h2, h3⟩ := h (j / 4) (by omega)
      injection e with e
      subst e
      rw [Addr.add_lit]
      obtain ⟨a0, a1, a2, a3⟩ := wrvals_at W (i := j / 4) (by omega)
      rcases (by omega : j = j / 4 * 4 ∨ j = j / 4 * 4 + 1 ∨ j = j / 4 * 4 + 2 ∨ j = j / 4 * 4 + 3) with hj4 | hj4 | hj4 | hj4
      · rw [hj4] at hu ⊢; rw [h0, ← a0]; exact hu
      · rw [hj4] at hu ⊢; rw [← Nat.add_assoc, h1, ← a1]; exact hu
      · rw [hj4] at hu ⊢; rw [← Nat.add_assoc, h2, ← a2]; exact hu
      · rw [hj4] at hu ⊢; rw [← Nat.add_assoc, h3, ← a3]; exact hu
theorem AgRd.src {w : World} {A : Option Addr} {L : List (ByteArray × Int)} (h : AgRd w A L) : Src w A L.length 2 (agvals L) := by
  refine ⟨agvals_len L, fun u hu => ?_, ?_⟩
  · simp only [agvals, List.mem_flatMap, List.mem_cons, List.not_mem_nil, or_false] at hu
    obtain ⟨x, _, rfl | rfl⟩ := hu <;> rfl
  · cases A with
    | none =>
      by_cases hl : L.length = 0
      · exact .inl ⟨rfl, hl⟩
      · obtain ⟨_, _, e, _⟩ := h 0 (by omega); cases e
    | some ad =>
      refine .inr ⟨ad, rfl, fun j u hu => ?_⟩
      have hj : j < L.length * 2 := by
        rcases Nat.lt_or_ge j (L.length * 2) with hl | hl
        · exact hl
        · rw [List.getElem?_eq_none (by rw [agvals_len]; omega)] at hu; cases hu
      obtain ⟨b, off, e, _, h0, h1⟩ := h (j / 2) (by omega)
      injection e with e
      subst e
      rw [Addr.add_lit]
      obtain ⟨a0, a1⟩ := agvals_at L (i := j / 2) (by omega)
      rcases (by omega : j = j / 2 * 2 ∨ j = j / 2 * 2 + 1) with hj4 | hj4
      · rw [hj4] at hu ⊢; rw [h0, ← a0]; exact hu
      · rw [hj4] at hu ⊢; rw [← Nat.add_assoc, h1, ← a1]; exact hu

theorem int_info : (Try.prog.info? 3).map (fun i => (i.zero, i.size, i.bytes)) = some (some (.int .i64 0), 1, 8) := by kernel_rfl
theorem wire_info : (Try.prog.info? 55).map (fun i => (i.zero, i.size, i.bytes)) = some (some (.agg #[.int .i64 0, .int .i64 0, .int .i64 0, .int .i64 0]), 4, 32) := by kernel_rfl
theorem agent_info : (Try.prog.info? 89).map (fun i => (i.zero, i.size, i.bytes)) = some (some (.agg #[.string ByteArray.empty, .int .i64 0]), 2, 24) := by kernel_rfl

/-- A fresh row. -/
def Fresh (w w' : World) (e : TypeId) (size n : Nat) (v : Value) (xs : List Value) : Prop := Row w' e size v n xs ∧ (∀ b ∈ ownB v, w.heap.size ≤ b) ∧ Below w.heap.size w w'
theorem fresh_of {w w' : World} {e : TypeId} {size n : Nat} {v : Value} {xs : List Value} (h : Row w' e size v n xs) (k : Kp (ownB (.slice none 0 0)) w w') (o : ownB v = ownB (.slice none 0 0) ∨ ownB v = [w.heap.size]) : Fresh w w' e size n v xs := by
  refine ⟨h, fun b hb => ?_, k.below (Nat.le_refl _) (by simp [ownB])⟩
  rcases o with e | e
  · rw [e] at hb; simp [ownB] at hb
  · rw [e] at hb; simp at hb; omega

theorem copy_ints (A : Option Addr) (cap : Nat) (l : List Int) (w : World) (h : IntsRd w A l) (hl : l.length ≤ 100000) :
    Calls Try.prog 94 #[.slice A l.length cap] w fun e w' => ∃ V c, e = .returned (.slice V l.length c) ∧ Fresh w w' 3 1 l.length (.slice V l.length c) (ivals l) := by
  obtain ⟨i0, hi0, hi1, hi2, hi3⟩ := info_parts int_info
  have HS := Lib.hid h.src
  have HB63 : 0 + l.length ≤ maxLen := by simp only [maxLen]; omega
  have HB47 : (0 + l.length) * 8 ≤ 140737488355328 := by omega
  go_enter Try.func94, Try.ntmps94
  go_wp2_with (at_builtin; go_loud (refine inPlain rfl (wpo_row_append _ _ _ rfl i0 _ 8 Try.underlying64 hi0 hi1 hi2 hi3 rfl rfl (Row.nil w 3 1) _ l.length _ rfl (ivals l) HS.out HB63 HB47 ?_)); intro sv5 w5 r5 k5 o5; rw [Nat.zero_add, List.nil_append] at r5; obtain ⟨V5, cp5, rfl, hc5⟩ := r5.len)
  go_ret
  exact ⟨V5, cp5, rfl, fresh_of r5 k5 o5⟩
theorem copy_wires (A : Option Addr) (cap : Nat) (W : List (Pt × Pt)) (w : World) (h : WrRd w A W) (hl : W.length ≤ 100000) :
    Calls Try.prog 95 #[.slice A W.length cap] w fun e w' => ∃ V c, e = .returned (.slice V W.length c) ∧ Fresh w w' 55 4 W.length (.slice V W.length c) (wrvals W) := by
  obtain ⟨i0, hi0, hi1, hi2, hi3⟩ := info_parts wire_info
  have HS := Lib.hid h.src
  have HB63 : 0 + W.length ≤ maxLen := by simp only [maxLen]; omega
  have HB47 : (0 + W.length) * 32 ≤ 140737488355328 := by omega
  go_enter Try.func95, Try.ntmps95
  go_wp2_with (at_builtin; go_loud (refine inPlain rfl (wpo_row_append _ _ _ rfl i0 _ 32 Try.underlying65 hi0 hi1 hi2 hi3 rfl rfl (Row.nil w 55 4) _ W.length _ rfl (wrvals W) HS.out HB63 HB47 ?_)); intro sv5 w5 r5 k5 o5; rw [Nat.zero_add, List.nil_append] at r5; obtain ⟨V5, cp5, rfl, hc5⟩ := r5.len)
  go_ret
  exact ⟨V5, cp5, rfl, fresh_of r5 k5 o5⟩
theorem copy_agents (A : Option Addr) (cap : Nat) (L : List (ByteArray × Int)) (w : World) (h : AgRd w A L) (hl : L.length ≤ 100000) :
    Calls Try.prog 34 #[.slice A L.length cap] w fun e w' => ∃ V c, e = .returned (.slice V L.length c) ∧ Fresh w w' 89 2 L.length (.slice V L.length c) (agvals L) := by
  obtain ⟨i0, hi0, hi1, hi2, hi3⟩ := info_parts agent_info
  have HS := Lib.hid h.src
  have HB63 : 0 + L.length ≤ maxLen := by simp only [maxLen]; omega
  have HB47 : (0 + L.length) * 24 ≤ 140737488355328 := by omega
  go_enter Try.func34, Try.ntmps34
  go_wp2_with (at_builtin; go_loud (refine inPlain rfl (wpo_row_append _ _ _ rfl i0 _ 24 Try.underlying63 hi0 hi1 hi2 hi3 rfl rfl (Row.nil w 89 2) _ L.length _ rfl (agvals L) HS.out HB63 HB47 ?_)); intro sv5 w5 r5 k5 o5; rw [Nat.zero_add, List.nil_append] at r5; obtain ⟨V5, cp5, rfl, hc5⟩ := r5.len)
  go_ret
  exact ⟨V5, cp5, rfl, fresh_of r5 k5 o5⟩
end Go.Proofs.Ythbobooiedcofaa
namespace Go.Proofs.Ythbobooiedcofaa
open Go.RowKit
attribute [local go_sem] cell_set
set_option maxRecDepth 100000

theorem rof_any (A : Option Addr) (n cap : Nat) (L : List (ByteArray × Int)) (s : ByteArray) (w : World) (hn : n = L.length) (hl : L.length ≤ maxLen) (HL : Hid (AgRd w A L)) :
    Calls Try.prog 126 #[.slice A n cap, .string s] w fun e w' => e = .returned (.int .i64 (ofN L s)) ∧ Below w.heap.size w w' := by
  unfold maxLen at hl
  subst hn
  go_enter Try.func126, Try.ntmps126
  go_wp2
  go_loopw [5] (fun i wr => ∃ k : Nat, i = .int .i64 k ∧ k ≤ L.length ∧ Hid (∀ j, j < k → ((agN L j).toList == s.toList) = false) ∧ Below w.heap.size w wr) (fun i _ => L.length - (intOf i).toNat)
  case atStart => exact ⟨0, rfl, by omega, fun j hj => by omega, Below.refl _ _⟩
  case round =>
    obtain ⟨k, rfl, hk, HN, hbw⟩ := hrel
    by_cases hlt : k < L.length
    · obtain ⟨b, off, rfl, hb, h0, h1⟩ := HL.out k hlt
      have c0 : wr.cell? ⟨b, off + k * 2, none⟩ = some (.string (agN L k)) := (hbw.cell (p := ⟨b, off + k * 2, none⟩) hb).trans h0
      have hz := hbw.size
      clear h0 h1
      cases hd : (agN L k).toList == s.toList
      · have HD := Lib.hid hd
        go_wp2
        go_roundw
        case rel => exact ⟨k + 1, by go_num, by omega, fun j hj => by
          rcases Nat.lt_or_ge j k with h | h
          · exact HN.out j h
          · obtain rfl : j = k := by omega
            exact HD.out, by (repeat (first | exact Below.refl _ _ | (with_reducible refine Below.drew ?_) | (with_reducible refine Below.alloc ?_ (by (try simp); (try omega)) _) | (with_reducible refine Below.setCell ?_ (by (try simp); (try omega)) _) | (with_reducible refine Below.trans ?_ (Below.mono (by assumption) (by (try simp); (try omega))))))⟩
        case measure => simp [intOf]; omega
      · have HD := Lib.hid hd
        go_wp2
        go_ret
        exact ⟨retI (ofN_some hlt HD.out HN.out).symm, by (repeat (first | exact Below.refl _ _ | (with_reducible refine Below.drew ?_) | (with_reducible refine Below.alloc ?_ (by (try simp); (try omega)) _) | (with_reducible refine Below.setCell ?_ (by (try simp); (try omega)) _) | (with_reducible refine Below.trans ?_ (Below.mono (by assumption) (by (try simp); (try omega))))))⟩
    · go_wp2
      go_ret
      exact ⟨retI (ofN_none (fun j hj => HN.out j (by omega))).symm, by (repeat (first | exact Below.refl _ _ | (with_reducible refine Below.drew ?_) | (with_reducible refine Below.alloc ?_ (by (try simp); (try omega)) _) | (with_reducible refine Below.setCell ?_ (by (try simp); (try omega)) _) | (with_reducible refine Below.trans ?_ (Below.mono (by assumption) (by (try simp); (try omega))))))⟩
theorem rports_any (A : Option Addr) (n cap : Nat) (L : List (ByteArray × Int)) (a : Int) (w : World) (hn : n = L.length) (hl : L.length ≤ maxLen) (HL : Hid (AgRd w A L)) (ha : a < 0 ∨ (L.length : Int) ≤ a ∨ agA L a.toNat < 9223372036854775807) :
    Calls Try.prog 113 #[.slice A n cap, .int .i64 a] w fun e w' => e = .returned (.int .i64 (portsN L a)) ∧ w = w' := by
  unfold maxLen at hl
  subst hn
  by_cases h : a < 0 ∨ (L.length : Int) ≤ a
  · have H : Hid (portsN L a = 0) := by
      show _ = _
      unfold portsN; rw [if_pos (by omega)]
    clear ha
    rcases h with h | h
    all_goals
      go_enter Try.func113, Try.ntmps113
      go_wp2
      go_ret
      exact ⟨retI H.out.symm, rfl⟩
  · obtain ⟨k, rfl⟩ := Int.eq_ofNat_of_zero_le (show 0 ≤ a by omega)
    have hk : k < L.length := by omega
    obtain ⟨b, off, rfl, hb, h0, h1⟩ := HL.out k hk
    have H : Hid (portsN L (k : Int) = if agA L k < 0 then 0 else agA L k + 1) := by
      show _ = _
      unfold portsN
      by_cases hz : agA L k < 0
      · rw [if_pos (by simp; omega), if_pos hz]
      · rw [if_neg (by simp; omega), if_neg hz]; simp
    have ha' : agA L k < 9223372036854775807 := by simp at ha; omega
    clear ha h
    by_cases hz : agA L k < 0
    · go_enter Try.func113, Try.ntmps113
      go_wp2
      go_ret
      exact ⟨retI (by rw [H.out, if_pos hz]), rfl⟩
    · go_enter Try.func113, Try.ntmps113
      go_wp2
      go_ret
      exact ⟨retI (by rw [H.out, if_neg (by omega)]; (try unfold wrap64); omega), rfl⟩
theorem rcheck_any (A : Option Addr) (n cap : Nat) (L : List (ByteArray × Int)) (w : World) (hn : n = L.length) (hl : L.length ≤ maxLen) (hcap : L.length ≤ cap) (HL : Hid (AgRd w A L)) :
    Calls Try.prog 103 #[.slice A n cap] w fun e w' => e = .returned (.tuple #[.int .i64 (chk L).1, .int .i64 (chk L).2]) ∧ Below w.heap.size w w' := by
  unfold maxLen at hl
  subst hn
  by_cases h0 : L.length = 0
  · have H : Hid (chk L = (20, 0)) := by show _ = _; unfold chk; rw [if_pos h0]
    go_enter Try.func103, Try.ntmps103
    go_wp2
    go_ret2
    exact ⟨retI2 (by rw [H.out]) (by rw [H.out]), by (repeat (first | exact Below.refl _ _ | (with_reducible refine Below.drew ?_) | (with_reducible refine Below.alloc ?_ (by (try simp); (try omega)) _) | (with_reducible refine Below.setCell ?_ (by (try simp); (try omega)) _) | (with_reducible refine Below.trans ?_ (Below.mono (by assumption) (by (try simp); (try omega))))))⟩
  · by_cases h32 : 32 < L.length
    · have H : Hid (chk L = (15, 32)) := by show _ = _; unfold chk; rw [if_neg h0, if_pos h32]
      have h0' : 0 < L.length := by omega
      clear h0
      go_enter Try.func103, Try.ntmps103
      go_wp2
      go_ret2
      exact ⟨retI2 (by rw [H.out]) (by rw [H.out]), by (repeat (first | exact Below.refl _ _ | (with_reducible refine Below.drew ?_) | (with_reducible refine Below.alloc ?_ (by (try simp); (try omega)) _) | (with_reducible refine Below.setCell ?_ (by (try simp); (try omega)) _) | (with_reducible refine Below.trans ?_ (Below.mono (by assumption) (by (try simp); (try omega))))))⟩
    · have h0' : ((L.length : Int) == 0) = false := by simpa using h0
      have h32' : L.length ≤ 32 := by omega
      have h0p : 0 < L.length := by omega
      clear h0 h32
      go_enter Try.func103, Try.ntmps103
      go_wp2
      go_loopw [4] (fun i wr => ∃ k : Nat, i = .int .i64 k ∧ k ≤ L.length ∧ Hid (∀ j, j < k → agBad L j = 0) ∧ Below w.heap.size w wr) (fun i _ => L.length - (intOf i).toNat)
      case atStart => exact ⟨0, rfl, by omega, fun j hj => by omega, Below.refl _ _⟩
      case round =>
        obtain ⟨k, rfl, hk, HN, hbw⟩ := hrel
        by_cases hlt : k < L.length
        · obtain ⟨b, off, rfl, hb, g0, g1⟩ := HL.out k hlt
          have c0 : wr.cell? ⟨b, off + k * 2, none⟩ = some (.string (agN L k)) := (hbw.cell (p := ⟨b, off + k * 2, none⟩) hb).trans g0
          have c1 : wr.cell? ⟨b, off + k * 2 + 1, none⟩ = some (.int .i64 (agA L k)) := (hbw.cell (p := ⟨b, off + k * 2 + 1, none⟩) hb).trans g1
          have hz := hbw.size
          have hbr : b < wr.heap.size := by omega
          have hkc : (k : Int) ≤ (cap : Int) := by omega
          have hkc' : k ≤ cap := by omega
          clear g0 g1
          cases hw : bgnS (agN L k) 65 90
          · have HW := Lib.hid hw
            go_wp2_with (go_at_call 125; refine (rword_any _ _).mono ?_; rintro e w' ⟨rfl, rfl⟩)
            go_ret2
            exact ⟨by
              have e := chk_bad h0p h32' hlt HN.out (by unfold agBad; rw [if_pos HW.out]; decide)
              exact retI2 (by rw [e]; unfold agBad; rw [if_pos HW.out]) (by rw [e]), by (repeat (first | exact Below.refl _ _ | (with_reducible refine Below.drew ?_) | (with_reducible refine Below.alloc ?_ (by (try simp); (try omega)) _) | (with_reducible refine Below.setCell ?_ (by (try simp); (try omega)) _) | (with_reducible refine Below.trans ?_ (Below.mono (by assumption) (by (try simp); (try omega))))))⟩
          · have HW := Lib.hid hw
            go_wp2_with (go_at_call 125; refine (rword_any _ _).mono ?_; rintro e w' ⟨rfl, rfl⟩)
            (refine region_tail 8 (by kernel_rfl) (by kernel_rfl) ?_; simp only [List.take_succ_cons, List.take_zero, List.drop_succ_cons, List.drop_zero]; repeat still_step; try refine wpStill_nil ?_)
            have HT : Hid (AgRd wr.drew (some ⟨b, off, none⟩) (L.take k)) := ((HL.out.below hbw).below ((Below.refl _ _).drew)).take k
            have hlt' : k ≤ L.length := hk
            cases ho : decide (0 ≤ ofN (L.take k) (agN L k))
            · have HO := Lib.hid ho
              have ho' : ofN (L.take k) (agN L k) < 0 := by simpa using ho
              clear ho
              go_wp2_with (go_at_call 126; refine (rof_any _ _ _ (L.take k) _ _ (by simp; omega) (by simp only [maxLen]; simp; omega) HT).mono ?_; rintro e w1 ⟨rfl, hb1⟩; have hz1 := hb1.size; (try simp at hz1); have d1 : w1.cell? ⟨b, off + k * 2 + 1, none⟩ = some (.int .i64 (agA L k)) := (hb1.cell (p := ⟨b, off + k * 2 + 1, none⟩) hbr).trans c1)
              · go_ret2
                have e := chk_bad h0p h32' hlt HN.out (by rw [agBad_22 HW.out (by omega) (by omega)]; decide)
                exact ⟨retI2 (by rw [e, agBad_22 HW.out (by omega) (by omega)]) (by rw [e]), by (repeat (first | exact Below.refl _ _ | (with_reducible refine Below.drew ?_) | (with_reducible refine Below.alloc ?_ (by (try simp); (try omega)) _) | (with_reducible refine Below.setCell ?_ (by (try simp); (try omega)) _) | (with_reducible refine Below.trans ?_ (Below.mono (by assumption) (by (try simp); (try omega))))))⟩
              · go_roundw
                case rel => exact ⟨k + 1, by go_num, by omega, fun j hj => by
                  rcases Nat.lt_or_ge j k with h | h
                  · exact HN.out j h
                  · obtain rfl : j = k := by omega
                    exact agBad_0 HW.out (by omega) (by omega), by (repeat (first | exact Below.refl _ _ | (with_reducible refine Below.drew ?_) | (with_reducible refine Below.alloc ?_ (by (try simp); (try omega)) _) | (with_reducible refine Below.setCell ?_ (by (try simp); (try omega)) _) | (with_reducible refine Below.trans ?_ (Below.mono (by assumption) (by (try simp); (try omega))))))⟩
                case measure => simp [intOf]; omega
              · go_ret2
                have e := chk_bad h0p h32' hlt HN.out (by rw [agBad_22 HW.out (by omega) (by omega)]; decide)
                exact ⟨retI2 (by rw [e, agBad_22 HW.out (by omega) (by omega)]) (by rw [e]), by (repeat (first | exact Below.refl _ _ | (with_reducible refine Below.drew ?_) | (with_reducible refine Below.alloc ?_ (by (try simp); (try omega)) _) | (with_reducible refine Below.setCell ?_ (by (try simp); (try omega)) _) | (with_reducible refine Below.trans ?_ (Below.mono (by assumption) (by (try simp); (try omega))))))⟩
            · have HO := Lib.hid ho
              have ho' : 0 ≤ ofN (L.take k) (agN L k) := by simpa using ho
              clear ho
              go_wp2_with (go_at_call 126; refine (rof_any _ _ _ (L.take k) _ _ (by simp; omega) (by simp only [maxLen]; simp; omega) HT).mono ?_; rintro e w1 ⟨rfl, hb1⟩; have hz1 := hb1.size; (try simp at hz1))
              go_ret2
              have e := chk_bad h0p h32' hlt HN.out (by rw [agBad_21 HW.out (by omega)]; decide)
              exact ⟨retI2 (by rw [e, agBad_21 HW.out (by omega)]) (by rw [e]), by (repeat (first | exact Below.refl _ _ | (with_reducible refine Below.drew ?_) | (with_reducible refine Below.alloc ?_ (by (try simp); (try omega)) _) | (with_reducible refine Below.setCell ?_ (by (try simp); (try omega)) _) | (with_reducible refine Below.trans ?_ (Below.mono (by assumption) (by (try simp); (try omega))))))⟩
        · go_wp2
          go_ret2
          have e := chk_good h0p h32' (fun j hj => HN.out j (by omega))
          exact ⟨retI2 (by rw [e]) (by rw [e]), by (repeat (first | exact Below.refl _ _ | (with_reducible refine Below.drew ?_) | (with_reducible refine Below.alloc ?_ (by (try simp); (try omega)) _) | (with_reducible refine Below.setCell ?_ (by (try simp); (try omega)) _) | (with_reducible refine Below.trans ?_ (Below.mono (by assumption) (by (try simp); (try omega))))))⟩

/-! ### Nets by value -/
theorem Fresh.app {w W w5 : World} {e : TypeId} {size n m : Nat} {v v5 : Value} {xs news : List Value} {o : Obj} (h : Fresh w W e size n v xs) (k5 : Kp (ownB v) (W.alloc o) w5) (o5 : ownB v5 = ownB v ∨ ownB v5 = [(W.alloc o).heap.size])
    (r5 : Row w5 e size v5 (n + m) (xs ++ news)) : Fresh w w5 e size (n + m) v5 (xs ++ news) := by
  obtain ⟨h1, h2, h3⟩ := h
  have hs := h3.size
  refine ⟨r5, fun b hb => ?_, (h3.alloc hs o).trans (k5.below (by simp; omega) h2)⟩
  rcases o5 with e | e
  · rw [e] at hb; exact h2 b hb
  · rw [e] at hb; simp at hb; omega
theorem Fresh.nil (w : World) (e : TypeId) (size : Nat) : Fresh w w e size 0 (.slice none 0 0) [] := ⟨Row.nil _ _ _, by simp [ownB], Below.refl _ _⟩
theorem Fresh.from {w0 w W : World} {e : TypeId} {size n : Nat} {v : Value} {xs : List Value} (h : Fresh w W e size n v xs) (hb : Below w0.heap.size w0 w) : Fresh w0 W e size n v xs :=
  ⟨h.1, fun b hm => Nat.le_trans hb.size (h.2.1 b hm), hb.trans (h.2.2.mono hb.size)⟩
abbrev netV (VA : Option Addr) (ca : Nat) (cells : List Int) (free : Int) (VB : Option Addr) (cb : Nat) (W : List (Pt × Pt)) : Value := .agg #[.slice VA cells.length ca, .int .i64 free, .slice VB W.length cb]
/-- A net in a box. -/
structure NBox (w : World) (b : Nat) (VA : Option Addr) (n1 ca : Nat) (free : Int) (VB : Option Addr) (n2 cb : Nat) : Prop where
  lt : b < w.heap.size
  c0 : w.cell? ⟨b, 0, none⟩ = some (.slice VA n1 ca)
  c1 : w.cell? ⟨b, 1, none⟩ = some (.int .i64 free)
  c2 : w.cell? ⟨b, 2, none⟩ = some (.slice VB n2 cb)
theorem NBox.below {w w' : World} {b : Nat} {VA VB : Option Addr} {n1 ca n2 cb : Nat} {free : Int} (h : NBox w b VA n1 ca free VB n2 cb) (hb : Below w.heap.size w w') : NBox w' b VA n1 ca free VB n2 cb :=
  ⟨Nat.lt_of_lt_of_le h.lt hb.size, (hb.cell (p := ⟨b, 0, none⟩) h.lt).trans h.c0, (hb.cell (p := ⟨b, 1, none⟩) h.lt).trans h.c1, (hb.cell (p := ⟨b, 2, none⟩) h.lt).trans h.c2⟩
/-- A signature whose arities are as they may be. -/
structure SigOk (L : List (ByteArray × Int)) : Prop where
  len : L.length ≤ 32
  ar : ∀ i, i < L.length → 0 ≤ agA L i ∧ agA L i ≤ 6
def pnL (L : List (ByteArray × Int)) (a : Int) : Nat := (portsN L a).toNat
theorem SigOk.ports {L : List (ByteArray × Int)} (h : SigOk L) (a : Int) : 0 ≤ portsN L a ∧ portsN L a ≤ 7 ∧ (a < 0 ∨ (L.length : Int) ≤ a ∨ agA L a.toNat < 9223372036854775807) := by
  unfold portsN
  by_cases h1 : a < 0 ∨ (L.length : Int) ≤ a ∨ agA L a.toNat < 0
  · rw [if_pos h1]
    refine ⟨by omega, by omega, ?_⟩
    rcases h1 with h1 | h1 | h1
    · exact .inl h1
    · exact .inr (.inl h1)
    · exact .inr (.inr (by omega))
  · rw [if_neg h1]
    have := h.ar a.toNat (by omega)
    exact ⟨by omega, by omega, .inr (.inr (by omega))⟩
theorem chk_sig {L : List (ByteArray × Int)} (h : (chk L).1 = 0) : SigOk L := by
  unfold chk at h
  by_cases h0 : L.length = 0
  · rw [if_pos h0] at h; simp at h
  rw [if_neg h0] at h
  by_cases h32 : 32 < L.length
  · rw [if_pos h32] at h; simp at h
  rw [if_neg h32] at h
  refine ⟨by omega, fun i hi => ?_⟩
  cases hf : (List.range L.length).find? (fun i => agBad L i != 0) with
  | some k =>
    rw [hf] at h
    have := List.find?_some hf
    simp only at h
    simp [h] at this
  | none =>
    have := List.find?_eq_none.1 hf i (List.mem_range.2 hi)
    simp only [bne_iff_ne, ne_eq, Decidable.not_not] at this
    unfold agBad at this
    by_cases c1 : bgnS (agN L i) 65 90 = false
    · rw [if_pos c1] at this; omega
    rw [if_neg c1] at this
    by_cases c2 : 0 ≤ ofN (L.take i) (agN L i)
    · rw [if_pos c2] at this; omega
    rw [if_neg c2] at this
    by_cases c3 : agA L i < 0 ∨ 6 < agA L i
    · rw [if_pos c3] at this; omega
    · omega
end Go.Proofs.Ythbobooiedcofaa
