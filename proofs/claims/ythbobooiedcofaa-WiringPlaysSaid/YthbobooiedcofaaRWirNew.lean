/-
  The document's wiring: New.
-/
import Derived.Test.YthbobooiedcofaaRWirDrop
import Derived.Deep.DeepCutAuto
namespace Go.Proofs.Ythbobooiedcofaa
open Go.RowKit
attribute [local go_sem] cell_set
set_option maxRecDepth 100000
set_option linter.unusedVariables false

theorem u32_infoW : (Try.prog.info? 49).map (fun i => (i.zero, i.size, i.bytes)) = some (some (.int .u32 0), 1, 4) := by kernel_rfl
theorem wvals_snoc (l : List Int) (x : Int) : wvals (l ++ [x]) = wvals l ++ [.int .u32 x] := by simp [wvals]
section
variable (A : Nat) (S : Ars) (FA : List Nat) (w : World)
theorem rw_new_bad (free : Int) (hf : free < 0 ∨ 64 < free) (p : Value) :
    Calls Try.prog 14 #[p, .int .i64 free] w fun e w' => e = .returned (.tuple #[.pointer none, .int .i64 1]) ∧ Below w.heap.size w w' := by
  rcases (by omega : free < 0 ∨ (¬ free < 0 ∧ 64 < free)) with h1 | ⟨h1, h2⟩
  all_goals
    go_enter Try.func14, Try.ntmps14
    go_wp2_with fail
    go_ret2
    exact ⟨rfl, Below.refl _ _⟩
/-- The document's wiring, being laid. -/
def NR (w : World) (A k : Nat) (W : World) : Prop := Below w.heap.size w W ∧ ∃ (V : Option Addr) (c : Nat), W.heap[w.heap.size]? = some (.cells #[.pointer (some ⟨A, 0, none⟩), .slice V k c] 99 (0, 0)) ∧ Row W 49 1 (.slice V k c) k (wvals (List.replicate k 4294967295)) ∧ ∀ b ∈ ownB (.slice V k c), w.heap.size ≤ b
set_option maxHeartbeats 2000000 in
theorem rw_new_ok (f : Nat) (hf : f ≤ 64) (h : RA w A S FA) :
    Calls Try.prog 14 #[.pointer (some ⟨A, 0, none⟩), .int .i64 (f : Int)] w fun e w' => e = .returned (.tuple #[.pointer (some ⟨w.heap.size, 0, none⟩), .int .i64 0]) ∧ (∃ F', RG w' w.heap.size A (Wir.new S f) F' ∧ ∀ b ∈ F', b ∈ FA ∨ w.heap.size ≤ b) ∧ Below w.heap.size w w' := by
  have HG := Lib.hid h
  obtain ⟨j0, hj0, hj1, hj2, hj3⟩ := info_parts u32_infoW
  have h1 : ¬ (f : Int) < 0 := by omega
  have h2 : ¬ (64 : Int) < (f : Int) := by omega
  go_enter Try.func14, Try.ntmps14
  go_upto_region 4 with fail
  refine absW (fun X => NR w A 0 X) ⟨by (repeat (first | exact Below.refl _ _ | (with_reducible refine Below.drew ?_) | (with_reducible refine Below.alloc ?_ (by (try simp); (try omega)) _) | (with_reducible refine Below.setCell ?_ (by (try simp); (try omega)) _) | (with_reducible refine Below.trans ?_ (Below.mono (by assumption) (by (try simp); (try omega)))))), none, 0, heap_alloc_new _ _, Row.nil _ _ _, by simp [ownB]⟩ ?_
  intro X hX
  have HN0 := Lib.hid hX
  clear hX
  go_wp2_with fail
  go_loopw [7] (fun i wr => ∃ k : Nat, i = .int .i64 k ∧ k ≤ f ∧ Hid (NR w A k wr)) (fun i _ => f - (intOf i).toNat)
  case atStart => exact ⟨0, rfl, Nat.zero_le _, HN0⟩
  case round =>
    obtain ⟨k, rfl, hk, HR⟩ := hrel
    clear HN0
    by_cases hlt : k < f
    · obtain ⟨hb, V, c, hh, hrow, hown⟩ := HR.out
      have k0 : wr.cell? ⟨w.heap.size, 1, none⟩ = some (.slice V k c) := by simp [World.cell?, hh]
      have hsz := heap_lt hh
      have HRw : Hid (Row (wr.alloc (.cells #[.int .u32 4294967295] 49)) 49 1 (.slice V k c) k (wvals (List.replicate k 4294967295))) := hrow.alloc _
      have HSr : Hid (Src (wr.alloc (.cells #[.int .u32 4294967295] 49)) (some ⟨wr.heap.size, 0, none⟩) 1 1 [.int .u32 4294967295]) :=
        Src.block (cs := #[.int .u32 4294967295]) (t := 49) (fr := (0, 0)) (heap_alloc_new wr _) rfl (by simp [Value.oneCell'])
      have hg63 : k + 1 ≤ maxLen := by simp only [maxLen]; omega
      have hg47 : (k + 1) * 4 ≤ 140737488355328 := by omega
      have hbn : w.heap.size ∉ ownB (.slice V k c) := fun hm => by obtain ⟨cur, h2⟩ := hrow.ty hm; exact ty_ne hh h2 (by decide) rfl
      have HH := Lib.hid (And.intro hb (And.intro hh (And.intro hown hbn)))
      clear hb hh hrow hown hbn HR
      go_wp2_with (at_builtin; go_loud (refine inPlain rfl (wpo_row_append _ _ _ rfl j0 _ 4 Try.underlying97 hj0 hj1 hj2 hj3 rfl rfl HRw.out _ 1 1 rfl [.int .u32 4294967295] HSr.out hg63 hg47 ?_)); intro sv5 w7 r5 k5 o5; obtain ⟨V5, cp5, rfl, hc5⟩ := r5.len
                   change Kp (ownB (.slice V k c)) _ w7 at k5
                   have hh7 : w7.heap[w.heap.size]? = some (.cells #[.pointer (some ⟨A, 0, none⟩), .slice V k c] 99 (0, 0)) := (k5.block _ (by simp; omega) HH.out.2.2.2).trans ((Below.heap_alloc _ _ _ hsz).trans HH.out.2.1)
                   have z0 : w7.cell? ⟨w.heap.size, 1, none⟩ = some (.slice V k c) := by simp [World.cell?, hh7]
                   have z1 : w7.frozen? ⟨w.heap.size, 1, none⟩ = false := by simp [World.frozen?, hh7]
                   have HA5 : Hid (NR w A (k + 1) (w7.setCell ⟨w.heap.size, 1, none⟩ (.slice V5 (k + 1) cp5))) := by
                     have hba : Below w.heap.size w (wr.alloc (.cells #[.int .u32 4294967295] 49)) := HH.out.1.alloc HH.out.1.size _
                     have hb7 : Below w.heap.size w w7 := hba.trans (k5.below hba.size (fun b hb => HH.out.2.2.1 b hb))
                     have hown5 : ∀ b ∈ ownB (.slice V5 (k + 1) cp5), w.heap.size ≤ b := fun b hb => by
                       rcases o5 with o5 | o5
                       · rw [o5] at hb; exact HH.out.2.2.1 b hb
                       · rw [o5] at hb; simp at hb; omega
                     refine ⟨hb7.setCell (p := ⟨w.heap.size, 1, none⟩) (Nat.le_refl _) _, V5, cp5, ?_, ?_, hown5⟩
                     · simp [World.setCell, Array.getElem?_modify, hh7]
                     · rw [List.replicate_succ', wvals_snoc]
                       exact r5.keep fun b hb => Below.heap_setCell _ _ _ b (fun e => by
                         obtain ⟨cur, h9⟩ := r5.ty hb
                         exact ty_ne hh7 h9 (by decide) e.symm)
                   clear k5 o5 r5 hh7)
      go_roundw
      case measure => simp [intOf]; omega
      case rel => exact ⟨k + 1, by go_num, by omega, HA5⟩
    · obtain rfl : k = f := by omega
      go_wp2_with fail
      go_ret2
      obtain ⟨hb, V, c, hh, hrow, hown⟩ := HR.out
      have hP : (Wir.new S k).P = List.replicate k 4294967295 := rfl
      refine ⟨rfl, ⟨ownB (.slice V k c) ++ FA, ⟨⟨FA, .slice V k c, hh, ?_, HG.out.below hb, fun b hb2 hm => ?_, rfl⟩, Wir.Ok.new HG.out.ok hf⟩, fun b hb2 => ?_⟩, hb⟩
      · rw [hP, List.length_replicate]; exact hrow
      · have h8 := hown b hb2
        have h9 := HG.out.lt b hm
        omega
      · rcases List.mem_append.1 hb2 with hb2 | hb2
        · exact .inr (hown b hb2)
        · exact .inl hb2
end
end Go.Proofs.Ythbobooiedcofaa
