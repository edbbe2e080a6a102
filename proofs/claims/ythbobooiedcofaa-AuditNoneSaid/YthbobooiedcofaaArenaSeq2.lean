/-
  Contracts of package arena, continued: what All hands back, as an iterator whose rounds know that what they are handed is one of the list.
-/
import Derived.Test.YthbobooiedcofaaArenaSeq
import Derived.RangeFuncBound
namespace Go.Proofs.Ythbobooiedcofaa
open Go.RowKit Go.Shelf
attribute [local go_sem] Oper.semAt_some
set_option maxRecDepth 100000
set_option linter.unusedVariables false

/-! Where a walk in a round stands. -/
theorem at_seqIn {F : Fence} {fn : Nat} {P : Program} {Q : Exit → Act → World → Prop} {a : Act} {w : World} (n : Nat) {l : Array Oper} {d : Bool} {c : Code} (h : (Code.seq (.region n l d) c).wpIn F fn P Q a w) : (Code.seq (.region n l d) c).wpIn F fn P Q a w := h
theorem at_seqIn2 {F : Fence} {fn : Nat} {P : Program} {Q : Exit → Act → World → Prop} {a : Act} {w : World} (n : Nat) {l : Array Oper} {d : Bool} {c c2 : Code} (h : (Code.seq (Code.seq (.region n l d) c) c2).wpIn F fn P Q a w) : (Code.seq (Code.seq (.region n l d) c) c2).wpIn F fn P Q a w := h
theorem absWIn {F : Fence} {fn : Nat} {P : Program} {c : Code} {Q : Exit → Act → World → Prop} {a : Act} {w : World} (φ : World → Prop) (h : φ w) (k : ∀ W, φ W → c.wpIn F fn P Q a W) : c.wpIn F fn P Q a w := k w h
set_option maxHeartbeats 2000000 in
theorem all2_in (n l B P : Nat) (v : Value) (xs : List (Nat × Int)) (hlen : xs.length ≤ 5000) (J Jx : List (Nat × Int) → World → Prop) (W : World) (hJ : AbidesFrom W.heap.size J)
    (hY : ∀ pre x W1, J pre W1 → pre.length < xs.length → x ∈ xs → YieldAt Fence.wide (n - 1) Try.prog l #[.int .i64 (x.1 : Int), .int .i64 x.2] W1 fun e W' =>
      (e = .returned (.bool true) ∧ J (pre ++ [x]) W' ∧ KQ (P :: ownB v) W1 W') ∨ (e = .returned (.bool false) ∧ Jx (pre ++ [x]) W'))
    (hb : Box2 W B P v xs) (h0 : J [] W) :
    CallsIn Fence.wide n Try.prog 117 #[.func (.yield l) #[] #[], .pointer (some ⟨P, 0, none⟩)] W fun e W' => (∃ v, e = .returned v) ∧
      ((∃ ys, ys = xs ∧ J ys W') ∨ (∃ pre, (∃ k, k ≤ xs.length ∧ pre = xs.take k) ∧ Jx pre W')) := by
  obtain ⟨V, cp, hv, _⟩ := hb.row.len
  have HV := Lib.hid hv
  have bc : W.cell? ⟨P, 0, none⟩ = some (.slice V xs.length cp) := by simp [World.cell?, hb.cell, hv]
  refine callsIn_of_wp Try.func117 rfl trivial ?_ rfl
  simp only [Try.ntmps117, List.size_toArray, List.length_cons, List.length_nil, Nat.reduceAdd, Nat.reduceSub, Array.replicate_succ, Array.replicate_zero, List.push_toArray, List.append_toArray, List.nil_append, List.cons_append]
  gi_wp2
  gi_loopw [7] (fun i wr => ∃ k : Nat, k ≤ xs.length ∧ i = .int .i64 k ∧ Hid (J (xs.take k) wr ∧ Box2 wr B P v xs ∧ W.heap.size ≤ wr.heap.size)) (fun i _ => xs.length - (intOf i).toNat)
  case atStart => exact ⟨0, Nat.zero_le _, rfl, Lib.hid ⟨h0, hb, Nat.le_refl _⟩⟩
  case round =>
    obtain ⟨k, hk, rfl, X⟩ := hrel
    by_cases hlt : k < xs.length
    · obtain ⟨hJk, hbk, hsz⟩ := X.out
      obtain ⟨g, cap, cur, hv2, _⟩ := hbk.row.some_ (by omega)
      have hv3 := HV.out
      rw [hv2] at hv3
      simp only [Value.slice.injEq, true_and] at hv3
      obtain ⟨rfl, rfl⟩ := hv3
      have hrow := hbk.row
      rw [hv2] at hrow
      have e0 : wr.cell? ⟨g, k * 2, none⟩ = some (.int .i64 (xs[k].1 : Int)) := (hrow.cellAt _ (by omega)).trans (ncells_at xs hlt).1
      have e1 : wr.cell? ⟨g, k * 2 + 1, none⟩ = some (.int .i64 (xs[k]).2) := (hrow.cellAt _ (by omega)).trans (ncells_at xs hlt).2
      have HJ2 : Hid (J (xs.take k) (wr.alloc (.cells #[.int .i64 (xs[k].1 : Int), .int .i64 (xs[k]).2] 174))) := hJ _ _ _ none hJk (World.grownBy_alloc _ _ _) (fun r e => by cases e)
      have HB2 := Lib.hid (hbk.alloc (.cells #[.int .i64 (xs[k].1 : Int), .int .i64 (xs[k]).2] 174))
      obtain ⟨fn, tmps, assign, body, hy, hR⟩ := hY _ xs[k] _ HJ2.out (by rw [List.length_take]; omega) (List.getElem_mem hlt)
      have HR := Lib.hid hR
      clear hR hrow hv2 hJk hbk hY hb h0 bc
      gi_wp2
      refine ⟨fun h => (by cases h), HR.out.mono ?_⟩
      rintro e W3 (⟨rfl, hJ3, hk3⟩ | ⟨rfl, hJx3⟩)
      · have X3 : Hid (J (xs.take (k + 1)) W3 ∧ Box2 W3 B P v xs ∧ W.heap.size ≤ W3.heap.size) := Lib.hid ⟨by rw [take_snoc xs hlt]; exact hJ3, HB2.out.keep hk3.same, by have := hk3.size; simp at this; omega⟩
        clear hJ3 hk3
        gi_wp2
        go_roundw
        case rel => exact ⟨k + 1, by omega, by simp, X3⟩
        case measure => simp [intOf]; omega
      · have XX : Hid (Jx (xs.take (k + 1)) W3) := by show Jx _ _; rw [take_snoc xs hlt]; exact hJx3
        clear hJx3
        gi_wp2
        refine bodyPost_ret (results_none rfl _ _ _) rfl ?_
        exact ⟨⟨_, rfl⟩, .inr ⟨_, ⟨k + 1, by omega, rfl⟩, XX.out⟩⟩
    · obtain rfl : k = xs.length := by omega
      clear hb h0
      gi_wp2
      go_end0
      exact ⟨⟨_, rfl⟩, .inl ⟨_, rfl, by have := X.out.1; rwa [List.take_length] at this⟩⟩

/-- The members of a list, as a type. -/
abbrev Mem (xs : List (Nat × Int)) : Type := { x : Nat × Int // x ∈ xs }
def vals {xs : List (Nat × Int)} (l : List (Mem xs)) : List (Nat × Int) := l.map Subtype.val
theorem vals_snoc {xs : List (Nat × Int)} (l : List (Mem xs)) (x : Mem xs) : vals (l ++ [x]) = vals l ++ [x.1] := by simp [vals]
theorem seq_mem (n B P : Nat) (v : Value) (xs : List (Nat × Int)) (hlen : xs.length ≤ 5000) (w : World) (hb : Box2 w B P v xs) :
    SeqStopsK Fence.wide n Try.prog 117 #[.pointer (some ⟨P, 0, none⟩)] (fun x : Mem xs => #[Value.int .i64 (x.1.1 : Int), Value.int .i64 x.1.2]) (KQ (P :: ownB v)) (fun ys => vals ys = xs) (fun pre => ∃ k, k ≤ xs.length ∧ vals pre = xs.take k) xs.length w :=
  fun l J Jx W hW hJ _ hY h0 => by
    refine (all2_in n l B P v xs hlen (fun ys W => ∃ zs : List (Mem xs), vals zs = ys ∧ J zs W) (fun ys W => ∃ zs : List (Mem xs), vals zs = ys ∧ Jx zs W) W ?_ ?_ (hb.keep fun b hm => hW.block b ?_) ⟨[], rfl, h0⟩).mono ?_
    · rintro s A B row ⟨zs, hz, hs⟩ hg hr
      exact ⟨zs, hz, hJ zs A B row hs hg hr⟩
    · rintro pre x W1 ⟨zs, hz, hs⟩ hl hm
      refine YieldAt.mono (hY zs ⟨x, hm⟩ W1 hs (by rw [← hz] at hl; simpa [vals] using hl)) ?_
      rintro e W' (⟨he, h1, h2⟩ | ⟨he, h1⟩)
      · exact .inl ⟨he, ⟨_, by rw [vals_snoc, hz], h1⟩, h2⟩
      · exact .inr ⟨he, _, by rw [vals_snoc, hz], h1⟩
    · simp only [List.mem_cons] at hm
      rcases hm with rfl | hm
      · exact hb.lt
      · exact hb.row.lt b hm
    · rintro e W' ⟨he, (⟨ys, rfl, zs, hz, h1⟩ | ⟨pre, ⟨k, hk, rfl⟩, zs, hz, h1⟩)⟩
      · exact ⟨he, .inl ⟨zs, hz, h1⟩⟩
      · exact ⟨he, .inr ⟨zs, ⟨k, hk, hz⟩, h1⟩⟩
end Go.Proofs.Ythbobooiedcofaa
