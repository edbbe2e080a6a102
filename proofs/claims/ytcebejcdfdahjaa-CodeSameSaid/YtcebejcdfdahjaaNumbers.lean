/-
  Contract of net.numbers.
-/
import Derived.Test.YtcebejcdfdahjaaRef03L
namespace Go.Proofs.Ytcebejcdfdahjaa
open Go.RowKit
attribute [local go_sem] cell_set
set_option maxRecDepth 100000
set_option linter.unusedVariables false

theorem kint : KOk Try.prog 3 (fun n : Int => Value.int .i64 n) := KOk.int Try.underlying3
theorem zbool : ∀ W, (zeroValue 4).run Try.prog W = .ok (.bool false) W := fun W => by kernel_rfl
def seenM (l : List Int) (k : Nat) (x : Int) : Option Value := if x ∈ l.take k then some (.bool true) else none
theorem seenM_succ {l : List Int} {k : Nat} (hk : k < l.length) : seenM l (k + 1) = upd (seenM l k) (l.getD k 0) (.bool true) := by
  funext x
  have e : l.take (k + 1) = l.take k ++ [l.getD k 0] := by rw [List.take_add_one, List.getElem?_eq_getElem hk, List.getD_eq_getElem?_getD, List.getElem?_eq_getElem hk]; rfl
  unfold seenM upd
  rw [e]
  by_cases h : x = l.getD k 0
  · rw [if_pos h, if_pos (by simp [h])]
  · rw [if_neg h]; simp only [List.mem_append, List.mem_singleton, h, or_false]

set_option maxHeartbeats 1000000 in
theorem numbers_is (A : Option Addr) (n cap : Nat) (l : List Int) (most : Nat) (w : World) (hn : n = l.length) (hl : l.length ≤ 100000) (hm : most ≤ 100000) (HA : Hid (IntsRd w A l)) :
    Calls Try.prog 62 #[.slice A n cap, .int .i64 (most : Int)] w fun e w' => (∃ r : Bool, e = .returned (.bool r) ∧ (r = true ↔ eachN l most)) ∧ Below w.heap.size w w' := by
  subst hn
  go_enter Try.func62, Try.ntmps62
  have hmm := @run_makeMap Try.prog
  go_wp2
  clear hmm
  have HM0 : Hid (MP (fun n : Int => Value.int .i64 n) (w.alloc (.map #[] 0)) w.heap.size (seenM l 0) ∧ Below w.heap.size w (w.alloc (.map #[] 0))) := by
    have e : seenM l 0 = fun _ => none := by funext x; simp [seenM]
    exact ⟨by rw [e]; exact MP.made w, (Below.refl _ _).alloc (Nat.le_refl _) _⟩
  go_loopw [7, 11] (fun x i wr => ∃ k : Nat, i = .int .i64 k ∧ k ≤ l.length ∧ Hid (eachK l most k) ∧ Hid (MP (fun n : Int => Value.int .i64 n) wr w.heap.size (seenM l k) ∧ Below w.heap.size w wr)) (fun _ i _ => l.length - (intOf i).toNat)
  case atStart => exact ⟨0, rfl, by omega, ⟨by simp, by simp⟩, HM0⟩
  case round =>
    obtain ⟨k, rfl, hk, HE, HR⟩ := hrel
    by_cases hlt : k < l.length
    · obtain ⟨b, off, rfl, hb, e0⟩ := HA.out k hlt
      have c0 := (HR.out.2.cell (p := ⟨b, off + k, none⟩) hb).trans e0
      clear e0
      have hbad : Hid (l.getD k 0 < 0 ∨ (most : Int) ≤ l.getD k 0 ∨ l.getD k 0 ∈ l.take k → ¬ eachN l most) := eachN_not hlt
      have hgood : Hid (0 ≤ l.getD k 0 → l.getD k 0 < most → l.getD k 0 ∉ l.take k → eachK l most (k + 1)) := fun h0 h1 h2 => eachK_succ HE.out hlt h0 h1 h2
      have hnx : Hid (seenM l (k + 1) = upd (seenM l k) (l.getD k 0) (.bool true)) := seenM_succ hlt
      generalize l.getD k 0 = x at c0 hbad hgood hnx
      have lk := HR.out.1.lookup kint Try.underlying150 zbool x false
      simp only [Bool.false_eq_true, if_false] at lk
      rcases (by omega : x < 0 ∨ (0 ≤ x ∧ (most : Int) ≤ x) ∨ (0 ≤ x ∧ x < most)) with h | ⟨h, h'⟩ | ⟨h, h'⟩
      · clear lk
        go_wp2
        go_ret
        exact ⟨⟨_, rfl, by have := hbad.out (.inl h); simpa using this⟩, by have := HR.out.2; (repeat (first | exact Below.refl _ _ | (with_reducible refine Below.drew ?_) | (with_reducible refine Below.alloc ?_ (by (try simp); (try omega)) _) | (with_reducible refine Below.setCell ?_ (by (try simp); (try omega)) _) | (with_reducible refine Below.trans ?_ (Below.mono (by assumption) (by (try simp); (try omega))))))⟩
      · clear lk
        go_wp2
        go_ret
        exact ⟨⟨_, rfl, by have := hbad.out (.inr (.inl h')); simpa using this⟩, by have := HR.out.2; (repeat (first | exact Below.refl _ _ | (with_reducible refine Below.drew ?_) | (with_reducible refine Below.alloc ?_ (by (try simp); (try omega)) _) | (with_reducible refine Below.setCell ?_ (by (try simp); (try omega)) _) | (with_reducible refine Below.trans ?_ (Below.mono (by assumption) (by (try simp); (try omega))))))⟩
      · cases hs : decide (x ∈ l.take k)
        · have HS : Hid (x ∉ l.take k) := Lib.hid (by simpa using hs)
          have e : seenM l k x = none := by unfold seenM; rw [if_neg HS.out]
          rw [e] at lk
          simp only [Option.getD_none] at lk
          clear hs e
          go_wp2_with (refine inPlain rfl (wpo_map_update (k := x) rfl HR.out.1 kint Try.underlying150 rfl rfl rfl ?_); intro w3 m3 k3 z3)
          go_roundw
          case rel => exact ⟨k + 1, by go_num, by omega, hgood.out h h' HS.out, by rw [hnx.out]; exact m3, HR.out.2.trans (k3.below HR.out.2.size (by simp))⟩
          case measure => simp [intOf]; omega
        · have HS : Hid (x ∈ l.take k) := Lib.hid (by simpa using hs)
          have e : seenM l k x = some (.bool true) := by unfold seenM; rw [if_pos HS.out]
          rw [e] at lk
          simp only [Option.getD_some] at lk
          clear hs e
          go_wp2
          go_ret
          exact ⟨⟨_, rfl, by have := hbad.out (.inr (.inr HS.out)); simpa using this⟩, by have := HR.out.2; (repeat (first | exact Below.refl _ _ | (with_reducible refine Below.drew ?_) | (with_reducible refine Below.alloc ?_ (by (try simp); (try omega)) _) | (with_reducible refine Below.setCell ?_ (by (try simp); (try omega)) _) | (with_reducible refine Below.trans ?_ (Below.mono (by assumption) (by (try simp); (try omega))))))⟩
    · obtain rfl : k = l.length := by omega
      have hall : Hid (l.length = most ↔ eachN l most) := ⟨fun h => eachK_all HE.out h, fun h => h.1⟩
      go_wp2
      go_ret
      exact ⟨⟨_, rfl, by rw [← hall.out]; simp; omega⟩, by have := HR.out.2; (repeat (first | exact Below.refl _ _ | (with_reducible refine Below.drew ?_) | (with_reducible refine Below.alloc ?_ (by (try simp); (try omega)) _) | (with_reducible refine Below.setCell ?_ (by (try simp); (try omega)) _) | (with_reducible refine Below.trans ?_ (Below.mono (by assumption) (by (try simp); (try omega))))))⟩
end Go.Proofs.Ytcebejcdfdahjaa
