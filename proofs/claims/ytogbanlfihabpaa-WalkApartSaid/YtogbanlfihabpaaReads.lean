/-
  Lists in memory as lists: of ints, of wires; copies of them; '=='.
-/
import Derived.Test.YtogbanlfihabpaaChecked
import Derived.Test.YtogbanlfihabpaaOwn
import Derived.Test.YtogbanlfihabpaaAgentsN
import Derived.Test.YtogbanlfihabpaaNetSpec
namespace Go.Proofs.Ytogbanlfihabpaa
open Go.RowKit
attribute [local go_sem] cell_set
set_option maxRecDepth 100000

/-- The slice at A reads as l. -/
def IntsRd (w : World) (A : Option Addr) (l : List Int) : Prop := ∀ i, i < l.length → ∃ b off, A = some ⟨b, off, none⟩ ∧ b < w.heap.size ∧ w.cell? ⟨b, off + i, none⟩ = some (.int .i64 (l.getD i 0))
def WrRd (w : World) (A : Option Addr) (W : List (Pt × Pt)) : Prop := ∀ i, i < W.length → ∃ b off, A = some ⟨b, off, none⟩ ∧ b < w.heap.size ∧ w.cell? ⟨b, off + i * 4, none⟩ = some (.int .i64 (W.getD i default).1.1) ∧ w.cell? ⟨b, off + i * 4 + 1, none⟩ = some (.int .i64 (W.getD i default).1.2) ∧
  w.cell? ⟨b, off + i * 4 + 2, none⟩ = some (.int .i64 (W.getD i default).2.1) ∧ w.cell? ⟨b, off + i * 4 + 3, none⟩ = some (.int .i64 (W.getD i default).2.2)
theorem IntsRd.below {w w' : World} {A : Option Addr} {l : List Int} (h : IntsRd w A l) (hb : Below w.heap.size w w') : IntsRd w' A l := fun i hi => by
  obtain ⟨b, off, hA, hlt, h0⟩ := h i hi
  exact ⟨b, off, hA, Nat.lt_of_lt_of_le hlt hb.size, (hb.cell (p := ⟨b, off + i, none⟩) hlt).trans h0⟩
theorem WrRd.below {w w' : World} {A : Option Addr} {W : List (Pt × Pt)} (h : WrRd w A W) (hb : Below w.heap.size w w') : WrRd w' A W := fun i hi => by
  obtain ⟨b, off, hA, hlt, h0, h1, h2, h3⟩ := h i hi
  exact ⟨b, off, hA, Nat.lt_of_lt_of_le hlt hb.size, (hb.cell (p := ⟨b, off + i * 4, none⟩) hlt).trans h0, (hb.cell (p := ⟨b, off + i * 4 + 1, none⟩) hlt).trans h1, (hb.cell (p := ⟨b, off + i * 4 + 2, none⟩) hlt).trans h2, (hb.cell (p := ⟨b, off + i * 4 + 3, none⟩) hlt).trans h3⟩
/-- The slice at A reads as these ports. -/
def PtsRd (w : World) (A : Option Addr) (P : List Pt) : Prop := ∀ i, i < P.length → ∃ b off, A = some ⟨b, off, none⟩ ∧ b < w.heap.size ∧ w.cell? ⟨b, off + i * 2, none⟩ = some (.int .i64 (P.getD i default).1) ∧ w.cell? ⟨b, off + i * 2 + 1, none⟩ = some (.int .i64 (P.getD i default).2)
theorem PtsRd.below {w w' : World} {A : Option Addr} {P : List Pt} (h : PtsRd w A P) (hb : Below w.heap.size w w') : PtsRd w' A P := fun i hi => by
  obtain ⟨b, off, hA, hlt, h0, h1⟩ := h i hi
  exact ⟨b, off, hA, Nat.lt_of_lt_of_le hlt hb.size, (hb.cell (p := ⟨b, off + i * 2, none⟩) hlt).trans h0, (hb.cell (p := ⟨b, off + i * 2 + 1, none⟩) hlt).trans h1⟩
def ivals (l : List Int) : List Value := l.map fun x => Value.int .i64 x
def wrvals (W : List (Pt × Pt)) : List Value := W.flatMap fun x => [Value.int .i64 x.1.1, .int .i64 x.1.2, .int .i64 x.2.1, .int .i64 x.2.2]
def agvals (L : List (ByteArray × Int)) : List Value := L.flatMap fun x => [Value.string x.1, .int .i64 x.2]
theorem wrvals_len (W : List (Pt × Pt)) : (wrvals W).length = W.length * 4 := by
  induction W with
  | nil => rfl
  | cons p r ih => simp only [wrvals, List.flatMap_cons, List.length_append, List.length_cons, List.length_nil] at ih ⊢; omega
theorem agvals_len (L : List (ByteArray × Int)) : (agvals L).length = L.length * 2 := by
  induction L with
  | nil => rfl
  | cons p r ih => simp only [agvals, List.flatMap_cons, List.length_append, List.length_cons, List.length_nil] at ih ⊢; omega
theorem wrvals_at (W : List (Pt × Pt)) {i : Nat} (hi : i < W.length) : (wrvals W)[i * 4]? = some (.int .i64 (W.getD i default).1.1) ∧ (wrvals W)[i * 4 + 1]? = some (.int .i64 (W.getD i default).1.2) ∧ (wrvals W)[i * 4 + 2]? = some (.int .i64 (W.getD i default).2.1) ∧ (wrvals W)[i * 4 + 3]? = some (.int .i64 (W.getD i default).2.2) := by
  induction W generalizing i with
  | nil => simp at hi
  | cons p r ih =>
    have hc : wrvals (p :: r) = .int .i64 p.1.1 :: .int .i64 p.1.2 :: .int .i64 p.2.1 :: .int .i64 p.2.2 :: wrvals r := rfl
    cases i with
    | zero => rw [hc]; exact ⟨rfl, rfl, rfl, rfl⟩
    | succ i =>
      rw [hc, show (i + 1) * 4 = i * 4 + 1 + 1 + 1 + 1 by omega]
      have := ih (i := i) (by simpa using hi)
      simpa using this
theorem agvals_at (L : List (ByteArray × Int)) {i : Nat} (hi : i < L.length) : (agvals L)[i * 2]? = some (.string (agN L i)) ∧ (agvals L)[i * 2 + 1]? = some (.int .i64 (agA L i)) := by
  induction L generalizing i with
  | nil => simp at hi
  | cons p r ih =>
    have hc : agvals (p :: r) = .string p.1 :: .int .i64 p.2 :: agvals r := rfl
    cases i with
    | zero => rw [hc]; exact ⟨rfl, rfl⟩
    | succ i =>
      rw [hc, show (i + 1) * 2 = i * 2 + 1 + 1 by omega]
      have := ih (i := i) (by simpa using hi)
      simpa [agN, agA] using this
theorem Row.ints {w : World} {V : Option Addr} {cap : Nat} {l : List Int} (h : Row w 3 1 (.slice V l.length cap) l.length (ivals l)) : IntsRd w V l := fun i hi => by
  obtain ⟨g, c, cur, e, hg, _⟩ := h.some_ (by omega)
  simp only [Value.slice.injEq, true_and] at e
  obtain ⟨rfl, rfl⟩ := e
  refine ⟨g, 0, rfl, heap_lt hg, ?_⟩
  rw [Nat.zero_add, h.cellAt i (by omega)]
  simp [ivals, hi]
theorem Row.wires {w : World} {V : Option Addr} {cap : Nat} {W : List (Pt × Pt)} (h : Row w 43 4 (.slice V W.length cap) W.length (wrvals W)) : WrRd w V W := fun i hi => by
  obtain ⟨g, c, cur, e, hg, _⟩ := h.some_ (by omega)
  simp only [Value.slice.injEq, true_and] at e
  obtain ⟨rfl, rfl⟩ := e
  obtain ⟨a0, a1, a2, a3⟩ := wrvals_at W hi
  refine ⟨g, 0, rfl, heap_lt hg, ?_, ?_, ?_, ?_⟩
  · rw [Nat.zero_add, h.cellAt _ (by omega)]; exact a0
  · rw [Nat.zero_add, h.cellAt _ (by omega)]; exact a1
  · rw [Nat.zero_add, h.cellAt _ (by omega)]; exact a2
  · rw [Nat.zero_add, h.cellAt _ (by omega)]; exact a3
theorem Row.agents {w : World} {V : Option Addr} {cap : Nat} {L : List (ByteArray × Int)} (h : Row w 74 2 (.slice V L.length cap) L.length (agvals L)) : AgRd w V L := fun i hi => by
  obtain ⟨g, c, cur, e, hg, _⟩ := h.some_ (by omega)
  simp only [Value.slice.injEq, true_and] at e
  obtain ⟨rfl, rfl⟩ := e
  obtain ⟨a0, a1⟩ := agvals_at L hi
  refine ⟨g, 0, rfl, heap_lt hg, ?_, ?_⟩
  · rw [Nat.zero_add, h.cellAt _ (by omega)]; exact a0
  · rw [Nat.zero_add, h.cellAt _ (by omega)]; exact a1
theorem IntsRd.src {w : World} {A : Option Addr} {l : List Int} (h : IntsRd w A l) : Src w A l.length 1 (ivals l) := by
  refine ⟨by simp [ivals], fun u hu => ?_, ?_⟩
  · simp only [ivals, List.mem_map] at hu; obtain ⟨x, _, rfl⟩ := hu; rfl
  · cases A with
    | none =>
      by_cases hl : l.length = 0
      · exact .inl ⟨rfl, hl⟩
      · obtain ⟨_, _, e, _⟩ := h 0 (by omega); cases e
    | some ad =>
      refine .inr ⟨ad, rfl, fun j u hu => ?_⟩
      have hj : j < l.length := by
        rcases Nat.lt_or_ge j l.length with hl | hl
        · exact hl
        · rw [List.getElem?_eq_none (by simpa [ivals] using hl)] at hu; cases hu
      obtain ⟨b, off, e, _, h0⟩ := h j hj
      injection e with e
      subst e
      rw [Addr.add_lit, h0]
      simpa [ivals, hj] using hu
theorem WrRd.src {w : World} {A : Option Addr} {W : List (Pt × Pt)} (h : WrRd w A W) : Src w A W.length 4 (wrvals W) := by
  refine ⟨wrvals_len W, fun u hu => ?_, ?_⟩
  · simp only [wrvals, List.mem_flatMap, List.mem_cons, List.not_mem_nil, or_false] at hu
    obtain ⟨x, _, rfl | rfl | rfl | rfl⟩ := hu <;> rfl
  · cases A with
    | none =>
      by_cases hl : W.length = 0
      · exact .inl ⟨rfl, hl⟩
      · obtain ⟨_, _, e, _⟩ := h 0 (by omega); cases e
    | some ad =>
      refine .inr ⟨ad, rfl, fun j u hu => ?_⟩
      have hj : j < W.length * 4 := by
        rcases Nat.lt_or_ge j (W.length * 4) with hl | hl
        · exact hl
        · rw [List.getElem?_eq_none (by rw [wrvals_len]; omega)] at hu; cases hu
      obtain ⟨b, off, e, _, h0, h1, h2, h3⟩ := h (j / 4) (by omega)
      injection e with e
      subst e
      rw [Addr.add_lit]
      obtain ⟨a0, a1, a2, a3⟩ := wrvals_at W (i := j / 4) (by omega)
      rcases (by omega : j = j / 4 * 4 ∨ j = j / 4 * 4 + 1 ∨ j = j / 4 * 4 + 2 ∨ j = j / 4 * 4 + 3) with hj4 | hj4 | hj4 | hj4
      · rw [hj4] at hu ⊢; rw [h0, ← a0]; exact hu
      · rw [hj4] at hu ⊢; rw [← Nat.add_assoc, h1, ← a1]; exact hu
      · rw [hj4] at hu ⊢; rw [← Nat.add_assoc, h2, ← a2]; exact hu
      · rw [hj4] at hu ⊢; rw [← Nat.add_assoc, h3, ← a3]; exact hu
theorem AgRd.src {w : World} {A : Option Addr} {L : List (ByteArray × Int)} (h : AgRd w A L) : Src w A L.length 2 (agvals L) := by
  refine ⟨agvals_len L, fun u hu => ?_, ?_⟩
  · simp only [agvals, List.mem_flatMap, List.mem_cons, List.not_mem_nil, or_false] at hu
    obtain ⟨x, _, rfl | rfl⟩ := hu <;> rfl
  · cases A with
    | none =>
      by_cases hl : L.length = 0
      · exact .inl ⟨rfl, hl⟩
      · obtain ⟨_, _, e, _⟩ := h 0 (by omega); cases e
    | some ad =>
      refine .inr ⟨ad, rfl, fun j u hu => ?_⟩
      have hj : j < L.length * 2 := by
        rcases Nat.lt_or_ge j (L.length * 2) with hl | hl
        · exact hl
        · rw [List.getElem?_eq_none (by rw [agvals_len]; omega)] at hu; cases hu
      obtain ⟨b, off, e, _, h0, h1⟩ := h (j / 2) (by omega)
      injection e with e
      subst e
      rw [Addr.add_lit]
      obtain ⟨a0, a1⟩ := agvals_at L (i := j / 2) (by omega)
      rcases (by omega : j = j / 2 * 2 ∨ j = j / 2 * 2 + 1) with hj4 | hj4
      · rw [hj4] at hu ⊢; rw [h0, ← a0]; exact hu
      · rw [hj4] at hu ⊢; rw [← Nat.add_assoc, h1, ← a1]; exact hu

theorem int_info : (Try.prog.info? 3).map (fun i => (i.zero, i.size, i.bytes)) = some (some (.int .i64 0), 1, 8) := by kernel_rfl
theorem wire_info : (Try.prog.info? 43).map (fun i => (i.zero, i.size, i.bytes)) = some (some (.agg #[.int .i64 0, .int .i64 0, .int .i64 0, .int .i64 0]), 4, 32) := by kernel_rfl
theorem agent_info : (Try.prog.info? 74).map (fun i => (i.zero, i.size, i.bytes)) = some (some (.agg #[.string ByteArray.empty, .int .i64 0]), 2, 24) := by kernel_rfl

/-- A fresh row. -/
def Fresh (w w' : World) (e : TypeId) (size n : Nat) (v : Value) (xs : List Value) : Prop := Row w' e size v n xs ∧ (∀ b ∈ ownB v, w.heap.size ≤ b) ∧ Below w.heap.size w w'
theorem fresh_of {w w' : World} {e : TypeId} {size n : Nat} {v : Value} {xs : List Value} (h : Row w' e size v n xs) (k : Kp (ownB (.slice none 0 0)) w w') (o : ownB v = ownB (.slice none 0 0) ∨ ownB v = [w.heap.size]) : Fresh w w' e size n v xs := by
  refine ⟨h, fun b hb => ?_, k.below (Nat.le_refl _) (by simp [ownB])⟩
  rcases o with e | e
  · rw [e] at hb; simp [ownB] at hb
  · rw [e] at hb; simp at hb; omega

theorem copy_ints (A : Option Addr) (cap : Nat) (l : List Int) (w : World) (h : IntsRd w A l) (hl : l.length ≤ 100000) :
    Calls Try.prog 25 #[.slice A l.length cap] w fun e w' => ∃ V c, e = .returned (.slice V l.length c) ∧ Fresh w w' 3 1 l.length (.slice V l.length c) (ivals l) := by
  obtain ⟨i0, hi0, hi1, hi2, hi3⟩ := info_parts int_info
  have HS := Lib.hid h.src
  have HB63 : 0 + l.length ≤ maxLen := by simp only [maxLen]; omega
  have HB47 : (0 + l.length) * 8 ≤ 140737488355328 := by omega
  go_enter Try.func25, Try.ntmps25
  go_wp2_with (at_builtin; go_loud (refine inPlain rfl (wpo_row_append _ _ _ rfl i0 _ 8 Try.underlying23 hi0 hi1 hi2 hi3 rfl rfl (Row.nil w 3 1) _ l.length _ rfl (ivals l) HS.out HB63 HB47 ?_)); intro sv5 w5 r5 k5 o5; rw [Nat.zero_add, List.nil_append] at r5; obtain ⟨V5, cp5, rfl, hc5⟩ := r5.len)
  go_ret
  exact ⟨V5, cp5, rfl, fresh_of r5 k5 o5⟩
theorem copy_wires (A : Option Addr) (cap : Nat) (W : List (Pt × Pt)) (w : World) (h : WrRd w A W) (hl : W.length ≤ 100000) :
    Calls Try.prog 26 #[.slice A W.length cap] w fun e w' => ∃ V c, e = .returned (.slice V W.length c) ∧ Fresh w w' 43 4 W.length (.slice V W.length c) (wrvals W) := by
  obtain ⟨i0, hi0, hi1, hi2, hi3⟩ := info_parts wire_info
  have HS := Lib.hid h.src
  have HB63 : 0 + W.length ≤ maxLen := by simp only [maxLen]; omega
  have HB47 : (0 + W.length) * 32 ≤ 140737488355328 := by omega
  go_enter Try.func26, Try.ntmps26
  go_wp2_with (at_builtin; go_loud (refine inPlain rfl (wpo_row_append _ _ _ rfl i0 _ 32 Try.underlying24 hi0 hi1 hi2 hi3 rfl rfl (Row.nil w 43 4) _ W.length _ rfl (wrvals W) HS.out HB63 HB47 ?_)); intro sv5 w5 r5 k5 o5; rw [Nat.zero_add, List.nil_append] at r5; obtain ⟨V5, cp5, rfl, hc5⟩ := r5.len)
  go_ret
  exact ⟨V5, cp5, rfl, fresh_of r5 k5 o5⟩
theorem copy_agents (A : Option Addr) (cap : Nat) (L : List (ByteArray × Int)) (w : World) (h : AgRd w A L) (hl : L.length ≤ 100000) :
    Calls Try.prog 8 #[.slice A L.length cap] w fun e w' => ∃ V c, e = .returned (.slice V L.length c) ∧ Fresh w w' 74 2 L.length (.slice V L.length c) (agvals L) := by
  obtain ⟨i0, hi0, hi1, hi2, hi3⟩ := info_parts agent_info
  have HS := Lib.hid h.src
  have HB63 : 0 + L.length ≤ maxLen := by simp only [maxLen]; omega
  have HB47 : (0 + L.length) * 24 ≤ 140737488355328 := by omega
  go_enter Try.func8, Try.ntmps8
  go_wp2_with (at_builtin; go_loud (refine inPlain rfl (wpo_row_append _ _ _ rfl i0 _ 24 Try.underlying22 hi0 hi1 hi2 hi3 rfl rfl (Row.nil w 74 2) _ L.length _ rfl (agvals L) HS.out HB63 HB47 ?_)); intro sv5 w5 r5 k5 o5; rw [Nat.zero_add, List.nil_append] at r5; obtain ⟨V5, cp5, rfl, hc5⟩ := r5.len)
  go_ret
  exact ⟨V5, cp5, rfl, fresh_of r5 k5 o5⟩
end Go.Proofs.Ytogbanlfihabpaa
