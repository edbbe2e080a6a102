/-
  Plain wires: net.Wires, skeinref03.Lines.
-/
import Derived.Test.YtcebejcdfdahjaaPlugLines
import Derived.Test.YtcebejcdfdahjaaNetTop
namespace Go.Proofs.Ytcebejcdfdahjaa
open Go.RowKit
attribute [local go_sem] cell_set
set_option maxRecDepth 100000
set_option linter.unusedVariables false

theorem line_snoc {f k : Nat} (hk : k < f) : (lineW f).take (k + 1) = (lineW f).take k ++ [((((-1 : Int), (k : Int)), ((-1 : Int), ((f + k : Nat) : Int))) : Pt × Pt)] := by
  have h : (lineW f)[k]? = some (((-1 : Int), (k : Int)), ((-1 : Int), ((f + k : Nat) : Int))) := by
    unfold lineW
    rw [List.getElem?_map, List.getElem?_range hk]; rfl
  rw [List.take_add_one, h]; rfl
theorem lines_bad (n : Int) (w : World) (h : n < 0 ∨ 32 < n) : Calls Try.prog 59 #[.int .i64 n] w fun e w' => e = .returned (netV none 0 [] 0 none 0 []) ∧ Below w.heap.size w w' := by
  by_cases h1 : n < 0
  · go_enter Try.func59, Try.ntmps59
    go_wp2_with fail
    exact bodyPost_ret (v := netV none 0 [] 0 none 0 []) (by simp only [results, Try.results59]; go_simp) rfl ⟨rfl, by (repeat (first | exact Below.refl _ _ | (with_reducible refine Below.drew ?_) | (with_reducible refine Below.alloc ?_ (by (try simp); (try omega)) _) | (with_reducible refine Below.setCell ?_ (by (try simp); (try omega)) _) | (with_reducible refine Below.trans ?_ (Below.mono (by assumption) (by (try simp); (try omega))))))⟩
  · have h2 : 32 < n := by omega
    go_enter Try.func59, Try.ntmps59
    go_wp2_with fail
    exact bodyPost_ret (v := netV none 0 [] 0 none 0 []) (by simp only [results, Try.results59]; go_simp) rfl ⟨rfl, by (repeat (first | exact Below.refl _ _ | (with_reducible refine Below.drew ?_) | (with_reducible refine Below.alloc ?_ (by (try simp); (try omega)) _) | (with_reducible refine Below.setCell ?_ (by (try simp); (try omega)) _) | (with_reducible refine Below.trans ?_ (Below.mono (by assumption) (by (try simp); (try omega))))))⟩
theorem wires_bad (n : Int) (w : World) (h : n < 0 ∨ 32 < n) : Calls Try.prog 58 #[.int .i64 n] w fun e w' => e = .returned (netV none 0 [] 0 none 0 []) ∧ Below w.heap.size w w' := by
  by_cases h1 : n < 0
  · go_enter Try.func58, Try.ntmps58
    go_wp2_with fail
    exact bodyPost_ret (v := netV none 0 [] 0 none 0 []) (by simp only [results, Try.results58]; go_simp) rfl ⟨rfl, by (repeat (first | exact Below.refl _ _ | (with_reducible refine Below.drew ?_) | (with_reducible refine Below.alloc ?_ (by (try simp); (try omega)) _) | (with_reducible refine Below.setCell ?_ (by (try simp); (try omega)) _) | (with_reducible refine Below.trans ?_ (Below.mono (by assumption) (by (try simp); (try omega))))))⟩
  · have h2 : 32 < n := by omega
    go_enter Try.func58, Try.ntmps58
    go_wp2_with fail
    exact bodyPost_ret (v := netV none 0 [] 0 none 0 []) (by simp only [results, Try.results58]; go_simp) rfl ⟨rfl, by (repeat (first | exact Below.refl _ _ | (with_reducible refine Below.drew ?_) | (with_reducible refine Below.alloc ?_ (by (try simp); (try omega)) _) | (with_reducible refine Below.setCell ?_ (by (try simp); (try omega)) _) | (with_reducible refine Below.trans ?_ (Below.mono (by assumption) (by (try simp); (try omega))))))⟩
set_option maxHeartbeats 1000000 in
theorem lines_ok (f : Nat) (w : World) (hf : f ≤ 32) : Calls Try.prog 59 #[.int .i64 (f : Int)] w fun e w' => ∃ V c, e = .returned (netV none 0 [] ((2 * f : Nat) : Int) V c (lineW f)) ∧ NetFresh w w' none 0 [] V c (lineW f) := by
  obtain ⟨j0, hj0, hj1, hj2, hj3⟩ := info_parts wire_info
  have hb0 : ¬ (f : Int) < 0 := by omega
  have hb1 : ¬ (32 : Int) < (f : Int) := by omega
  have hw2 : IntKind.i64.wrap (2 * (f : Int)) = ((2 * f : Nat) : Int) := by rw [IntWalk.i64_in _ (by omega)]; omega
  have hBI : BI ((w.alloc (.cells #[.slice none 0 0, .int .i64 0, .slice none 0 0] 26)).alloc (.cells #[.slice none 0 0, .int .i64 ((2 * f : Nat) : Int), .slice none 0 0] 26)) (w.heap.size + 1) none 0 0 ((2 * f : Nat) : Int) ((lineW f).take 0) ((w.alloc (.cells #[.slice none 0 0, .int .i64 0, .slice none 0 0] 26)).alloc (.cells #[.slice none 0 0, .int .i64 ((2 * f : Nat) : Int), .slice none 0 0] 26)) := by
    refine ⟨Kp.refl _ _, by simp, none, 0, ?_, Row.nil _ _ _, by simp [ownB]⟩
    have := heap_alloc_new (w.alloc (.cells #[.slice none 0 0, .int .i64 0, .slice none 0 0] 26)) (.cells #[.slice none 0 0, .int .i64 ((2 * f : Nat) : Int), .slice none 0 0] 26)
    rwa [World.size_alloc] at this
  have HB0 := Lib.hid hBI
  clear hBI
  go_enter Try.func59, Try.ntmps59
  go_wp2_with fail
  go_loopw [4] (fun i wr => ∃ k : Nat, i = .int .i64 k ∧ k ≤ f ∧ Hid (BI ((w.alloc (.cells #[.slice none 0 0, .int .i64 0, .slice none 0 0] 26)).alloc (.cells #[.slice none 0 0, .int .i64 ((2 * f : Nat) : Int), .slice none 0 0] 26)) (w.heap.size + 1) none 0 0 ((2 * f : Nat) : Int) ((lineW f).take k) wr)) (fun i wr => f - (intOf i).toNat)
  case atStart => exact ⟨0, rfl, by omega, HB0⟩
  case round =>
    obtain ⟨k, rfl, hk, HR⟩ := hrel
    clear HB0
    by_cases hlt : k < f
    · obtain ⟨hk2, hBn, V2, c2, hh, hrow, hown⟩ := HR.out
      have hsn := line_snoc hlt
      have hln : ((lineW f).take k).length = k := by rw [List.length_take, lineW_len]; omega
      generalize (lineW f).take k = ws at hh hrow hown hsn hln hk2
      have HSn := Lib.hid hsn
      have n2 : wr.cell? ⟨w.heap.size + 1, 2, none⟩ = some (.slice V2 ws.length c2) := by simp [World.cell?, hh]
      have ek : IntKind.i64.wrap ((f : Int) + (k : Int)) = ((f + k : Nat) : Int) := by rw [IntWalk.i64_in _ (by omega)]; omega
      obtain ⟨fk, hfk⟩ : ∃ x : Int, ((f + k : Nat) : Int) = x := ⟨_, rfl⟩
      rw [hfk] at ek HSn
      clear hfk
      have HRw : Hid (Row (wr.alloc (.cells #[.int .i64 (-1), .int .i64 (k : Int), .int .i64 (-1), .int .i64 fk] 90)) 90 4 (.slice V2 ws.length c2) ws.length (wrvals ws)) := hrow.alloc _
      have HSr : Hid (Src (wr.alloc (.cells #[.int .i64 (-1), .int .i64 (k : Int), .int .i64 (-1), .int .i64 fk] 90)) (some ⟨wr.heap.size, 0, none⟩) 1 4 [.int .i64 (-1), .int .i64 (k : Int), .int .i64 (-1), .int .i64 fk]) :=
        Src.block (cs := #[.int .i64 (-1), .int .i64 (k : Int), .int .i64 (-1), .int .i64 fk]) (t := 90) (fr := (0, 0)) (heap_alloc_new wr _) rfl (by simp [Value.oneCell'])
      have HH6 := Lib.hid (And.intro (hk2.alloc (.cells #[.int .i64 (-1), .int .i64 (k : Int), .int .i64 (-1), .int .i64 fk] 90)) (And.intro hBn (And.intro ((Below.heap_alloc wr (.cells #[.int .i64 (-1), .int .i64 (k : Int), .int .i64 (-1), .int .i64 fk] 90) _ (heap_lt hh)).trans hh) hown)))
      have hg63 : ws.length + 1 ≤ maxLen := by simp only [maxLen]; omega
      have hg47 : (ws.length + 1) * 32 ≤ 140737488355328 := by omega
      have hBz : w.heap.size + 1 < wr.heap.size := heap_lt hh
      clear hk2 hh hrow hown HR hsn hln
      go_wp2_with (at_builtin; go_loud (refine inPlain rfl (wpo_row_append _ _ _ rfl j0 _ 32 Try.underlying24 hj0 hj1 hj2 hj3 rfl rfl HRw.out _ 1 1 rfl [.int .i64 (-1), .int .i64 (k : Int), .int .i64 (-1), .int .i64 fk] HSr.out hg63 hg47 ?_)); intro sv5 w7 r5 k5 o5; obtain ⟨V5, cp5, rfl, hc5⟩ := r5.len
                   have A5 := BI.app HH6.out.1 HH6.out.2.1 HH6.out.2.2.1 HH6.out.2.2.2 (p := (-1, (k : Int))) (q := (-1, fk)) k5 o5 r5
                   have z2 := A5.1
                   have z3 := A5.2.1
                   have HA5 := Lib.hid A5.2.2.2
                   clear A5 k5 o5 r5)
      go_roundw
      case rel => exact ⟨k + 1, by go_num, by omega, by rw [HSn.out]; exact HA5⟩
      case measure => simp [intOf]; omega
    · have hkf : k = f := by omega
      subst hkf
      have hbi := HR.out
      rw [List.take_of_length_le (by rw [lineW_len]; omega)] at hbi
      obtain ⟨hk2, hBn, V2, c2, hh, hrow, hown⟩ := hbi
      have m0 : wr.cell? ⟨w.heap.size + 1, 0, none⟩ = some (.slice none 0 0) := by simp [World.cell?, hh]
      have m1 : wr.cell? ⟨w.heap.size + 1, 1, none⟩ = some (.int .i64 ((2 * k : Nat) : Int)) := by simp [World.cell?, hh]
      have m2 : wr.cell? ⟨w.heap.size + 1, 2, none⟩ = some (.slice V2 (lineW k).length c2) := by simp [World.cell?, hh]
      have hq : wr.heap[w.heap.size]? = some (.cells #[.slice none 0 0, .int .i64 0, .slice none 0 0] 26 (0, 0)) := (hk2.block _ (by simp; omega) (by simp)).trans ((Below.heap_alloc _ _ _ (by simp)).trans (heap_alloc_new w _))
      have q0 : wr.cell? ⟨w.heap.size, 0, none⟩ = some (.slice none 0 0) := by simp [World.cell?, hq]
      have q1 : wr.cell? ⟨w.heap.size, 1, none⟩ = some (.int .i64 0) := by simp [World.cell?, hq]
      have q2 : wr.cell? ⟨w.heap.size, 2, none⟩ = some (.slice none 0 0) := by simp [World.cell?, hq]
      have q3 : wr.frozen? ⟨w.heap.size, 0, none⟩ = false := by simp [World.frozen?, hq]
      have q4 : wr.frozen? ⟨w.heap.size, 1, none⟩ = false := by simp [World.frozen?, hq]
      have q5 : wr.frozen? ⟨w.heap.size, 2, none⟩ = false := by simp [World.frozen?, hq]
      have hl2 := heap_lt hq
      have HH := Lib.hid (And.intro hk2 (And.intro hrow hown))
      obtain ⟨fr, hfr⟩ : ∃ x : Int, ((2 * k : Nat) : Int) = x := ⟨_, rfl⟩
      have HFr := Lib.hid hfr
      rw [hfr] at m1
      clear hk2 hrow hown hh hq HR hfr
      go_wp2_with fail
      have hne : ∀ b, b ≠ w.heap.size → (((wr.setCell ⟨w.heap.size, 0, none⟩ (.slice none 0 0)).setCell ⟨w.heap.size, 1, none⟩ (.int .i64 fr)).setCell ⟨w.heap.size, 2, none⟩ (.slice V2 (lineW k).length c2)).heap[b]? = wr.heap[b]? := fun b hb =>
        (Below.heap_setCell _ _ _ b hb).trans ((Below.heap_setCell _ _ _ b hb).trans (Below.heap_setCell _ _ _ b hb))
      have hbw : Below w.heap.size w wr := (((Below.refl w.heap.size w).alloc (Nat.le_refl _) _).alloc (by simp) _).trans (HH.out.1.below (by simp <;> omega) (by simp))
      have hbx : Below w.heap.size w (((wr.setCell ⟨w.heap.size, 0, none⟩ (.slice none 0 0)).setCell ⟨w.heap.size, 1, none⟩ (.int .i64 fr)).setCell ⟨w.heap.size, 2, none⟩ (.slice V2 (lineW k).length c2)) := ((hbw.setCell (p := ⟨w.heap.size, 0, none⟩) (by simp) _).setCell (p := ⟨w.heap.size, 1, none⟩) (by simp) _).setCell (p := ⟨w.heap.size, 2, none⟩) (by simp) _
      refine bodyPost_ret (v := .agg #[.slice none 0 0, .int .i64 fr, .slice V2 (lineW k).length c2]) (by simp only [results, Try.results59]; go_simp) rfl ⟨V2, c2, ?_, ⟨Row.nil _ _ _, by simp [ownB], hbx⟩, ⟨HH.out.2.1.keep fun b hb => hne b (by have := HH.out.2.2 b hb; simp at this; omega), fun b hb => by have := HH.out.2.2 b hb; simp at this; omega, hbx⟩⟩
      rw [HFr.out]
      rfl
set_option maxHeartbeats 1000000 in
theorem wires_ok (f : Nat) (w : World) (hf : f ≤ 32) : Calls Try.prog 58 #[.int .i64 (f : Int)] w fun e w' => ∃ V c, e = .returned (netV none 0 [] ((2 * f : Nat) : Int) V c (lineW f)) ∧ NetFresh w w' none 0 [] V c (lineW f) := by
  obtain ⟨j0, hj0, hj1, hj2, hj3⟩ := info_parts wire_info
  have hb0 : ¬ (f : Int) < 0 := by omega
  have hb1 : ¬ (32 : Int) < (f : Int) := by omega
  have hw2 : IntKind.i64.wrap (2 * (f : Int)) = ((2 * f : Nat) : Int) := by rw [IntWalk.i64_in _ (by omega)]; omega
  have hBI : BI ((w.alloc (.cells #[.slice none 0 0, .int .i64 0, .slice none 0 0] 26)).alloc (.cells #[.slice none 0 0, .int .i64 ((2 * f : Nat) : Int), .slice none 0 0] 26)) (w.heap.size + 1) none 0 0 ((2 * f : Nat) : Int) ((lineW f).take 0) ((w.alloc (.cells #[.slice none 0 0, .int .i64 0, .slice none 0 0] 26)).alloc (.cells #[.slice none 0 0, .int .i64 ((2 * f : Nat) : Int), .slice none 0 0] 26)) := by
    refine ⟨Kp.refl _ _, by simp, none, 0, ?_, Row.nil _ _ _, by simp [ownB]⟩
    have := heap_alloc_new (w.alloc (.cells #[.slice none 0 0, .int .i64 0, .slice none 0 0] 26)) (.cells #[.slice none 0 0, .int .i64 ((2 * f : Nat) : Int), .slice none 0 0] 26)
    rwa [World.size_alloc] at this
  have HB0 := Lib.hid hBI
  clear hBI
  go_enter Try.func58, Try.ntmps58
  go_wp2_with fail
  go_loopw [4, 16] (fun _ i wr => ∃ k : Nat, i = .int .i64 k ∧ k ≤ f ∧ Hid (BI ((w.alloc (.cells #[.slice none 0 0, .int .i64 0, .slice none 0 0] 26)).alloc (.cells #[.slice none 0 0, .int .i64 ((2 * f : Nat) : Int), .slice none 0 0] 26)) (w.heap.size + 1) none 0 0 ((2 * f : Nat) : Int) ((lineW f).take k) wr)) (fun _ i wr => f - (intOf i).toNat)
  case atStart => exact ⟨0, rfl, by omega, HB0⟩
  case round =>
    obtain ⟨k, rfl, hk, HR⟩ := hrel
    clear HB0
    by_cases hlt : k < f
    · obtain ⟨hk2, hBn, V2, c2, hh, hrow, hown⟩ := HR.out
      have hsn := line_snoc hlt
      have hln : ((lineW f).take k).length = k := by rw [List.length_take, lineW_len]; omega
      generalize (lineW f).take k = ws at hh hrow hown hsn hln hk2
      have HSn := Lib.hid hsn
      have n2 : wr.cell? ⟨w.heap.size + 1, 2, none⟩ = some (.slice V2 ws.length c2) := by simp [World.cell?, hh]
      have ek : IntKind.i64.wrap ((f : Int) + (k : Int)) = ((f + k : Nat) : Int) := by rw [IntWalk.i64_in _ (by omega)]; omega
      obtain ⟨fk, hfk⟩ : ∃ x : Int, ((f + k : Nat) : Int) = x := ⟨_, rfl⟩
      rw [hfk] at ek HSn
      clear hfk
      have HRw : Hid (Row (wr.alloc (.cells #[.int .i64 (-1), .int .i64 (k : Int), .int .i64 (-1), .int .i64 fk] 90)) 90 4 (.slice V2 ws.length c2) ws.length (wrvals ws)) := hrow.alloc _
      have HSr : Hid (Src (wr.alloc (.cells #[.int .i64 (-1), .int .i64 (k : Int), .int .i64 (-1), .int .i64 fk] 90)) (some ⟨wr.heap.size, 0, none⟩) 1 4 [.int .i64 (-1), .int .i64 (k : Int), .int .i64 (-1), .int .i64 fk]) :=
        Src.block (cs := #[.int .i64 (-1), .int .i64 (k : Int), .int .i64 (-1), .int .i64 fk]) (t := 90) (fr := (0, 0)) (heap_alloc_new wr _) rfl (by simp [Value.oneCell'])
      have HH6 := Lib.hid (And.intro (hk2.alloc (.cells #[.int .i64 (-1), .int .i64 (k : Int), .int .i64 (-1), .int .i64 fk] 90)) (And.intro hBn (And.intro ((Below.heap_alloc wr (.cells #[.int .i64 (-1), .int .i64 (k : Int), .int .i64 (-1), .int .i64 fk] 90) _ (heap_lt hh)).trans hh) hown)))
      have hg63 : ws.length + 1 ≤ maxLen := by simp only [maxLen]; omega
      have hg47 : (ws.length + 1) * 32 ≤ 140737488355328 := by omega
      have hBz : w.heap.size + 1 < wr.heap.size := heap_lt hh
      clear hk2 hh hrow hown HR hsn hln
      go_wp2_with (at_builtin; go_loud (refine inPlain rfl (wpo_row_append _ _ _ rfl j0 _ 32 Try.underlying24 hj0 hj1 hj2 hj3 rfl rfl HRw.out _ 1 1 rfl [.int .i64 (-1), .int .i64 (k : Int), .int .i64 (-1), .int .i64 fk] HSr.out hg63 hg47 ?_)); intro sv5 w7 r5 k5 o5; obtain ⟨V5, cp5, rfl, hc5⟩ := r5.len
                   have A5 := BI.app HH6.out.1 HH6.out.2.1 HH6.out.2.2.1 HH6.out.2.2.2 (p := (-1, (k : Int))) (q := (-1, fk)) k5 o5 r5
                   have z2 := A5.1
                   have z3 := A5.2.1
                   have HA5 := Lib.hid A5.2.2.2
                   clear A5 k5 o5 r5)
      go_roundw
      case rel => exact ⟨k + 1, by go_num, by omega, by rw [HSn.out]; exact HA5⟩
      case measure => simp [intOf]; omega
    · have hkf : k = f := by omega
      subst hkf
      have hbi := HR.out
      rw [List.take_of_length_le (by rw [lineW_len]; omega)] at hbi
      obtain ⟨hk2, hBn, V2, c2, hh, hrow, hown⟩ := hbi
      have m0 : wr.cell? ⟨w.heap.size + 1, 0, none⟩ = some (.slice none 0 0) := by simp [World.cell?, hh]
      have m1 : wr.cell? ⟨w.heap.size + 1, 1, none⟩ = some (.int .i64 ((2 * k : Nat) : Int)) := by simp [World.cell?, hh]
      have m2 : wr.cell? ⟨w.heap.size + 1, 2, none⟩ = some (.slice V2 (lineW k).length c2) := by simp [World.cell?, hh]
      have hq : wr.heap[w.heap.size]? = some (.cells #[.slice none 0 0, .int .i64 0, .slice none 0 0] 26 (0, 0)) := (hk2.block _ (by simp; omega) (by simp)).trans ((Below.heap_alloc _ _ _ (by simp)).trans (heap_alloc_new w _))
      have q0 : wr.cell? ⟨w.heap.size, 0, none⟩ = some (.slice none 0 0) := by simp [World.cell?, hq]
      have q1 : wr.cell? ⟨w.heap.size, 1, none⟩ = some (.int .i64 0) := by simp [World.cell?, hq]
      have q2 : wr.cell? ⟨w.heap.size, 2, none⟩ = some (.slice none 0 0) := by simp [World.cell?, hq]
      have q3 : wr.frozen? ⟨w.heap.size, 0, none⟩ = false := by simp [World.frozen?, hq]
      have q4 : wr.frozen? ⟨w.heap.size, 1, none⟩ = false := by simp [World.frozen?, hq]
      have q5 : wr.frozen? ⟨w.heap.size, 2, none⟩ = false := by simp [World.frozen?, hq]
      have hl2 := heap_lt hq
      have HH := Lib.hid (And.intro hk2 (And.intro hrow hown))
      obtain ⟨fr, hfr⟩ : ∃ x : Int, ((2 * k : Nat) : Int) = x := ⟨_, rfl⟩
      have HFr := Lib.hid hfr
      rw [hfr] at m1
      clear hk2 hrow hown hh hq HR hfr
      go_wp2_with fail
      have hne : ∀ b, b ≠ w.heap.size → (((wr.setCell ⟨w.heap.size, 0, none⟩ (.slice none 0 0)).setCell ⟨w.heap.size, 1, none⟩ (.int .i64 fr)).setCell ⟨w.heap.size, 2, none⟩ (.slice V2 (lineW k).length c2)).heap[b]? = wr.heap[b]? := fun b hb =>
        (Below.heap_setCell _ _ _ b hb).trans ((Below.heap_setCell _ _ _ b hb).trans (Below.heap_setCell _ _ _ b hb))
      have hbw : Below w.heap.size w wr := (((Below.refl w.heap.size w).alloc (Nat.le_refl _) _).alloc (by simp) _).trans (HH.out.1.below (by simp <;> omega) (by simp))
      have hbx : Below w.heap.size w (((wr.setCell ⟨w.heap.size, 0, none⟩ (.slice none 0 0)).setCell ⟨w.heap.size, 1, none⟩ (.int .i64 fr)).setCell ⟨w.heap.size, 2, none⟩ (.slice V2 (lineW k).length c2)) := ((hbw.setCell (p := ⟨w.heap.size, 0, none⟩) (by simp) _).setCell (p := ⟨w.heap.size, 1, none⟩) (by simp) _).setCell (p := ⟨w.heap.size, 2, none⟩) (by simp) _
      refine bodyPost_ret (v := .agg #[.slice none 0 0, .int .i64 fr, .slice V2 (lineW k).length c2]) (by simp only [results, Try.results58]; go_simp) rfl ⟨V2, c2, ?_, ⟨Row.nil _ _ _, by simp [ownB], hbx⟩, ⟨HH.out.2.1.keep fun b hb => hne b (by have := HH.out.2.2 b hb; simp at this; omega), fun b hb => by have := HH.out.2.2 b hb; simp at this; omega, hbx⟩⟩
      rw [HFr.out]
      rfl
end Go.Proofs.Ytcebejcdfdahjaa
