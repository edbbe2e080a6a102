/-
  The document's agenda: Remove of a place.
-/
import Derived.Test.YtkonfogebepccaaDoorRAgenda
import Derived.Test.YtkonfogebepccaaDoorAgPlain
import Derived.Test.YtkonfogebepccaaDoorRef02
import Derived.Deep.Cut
namespace Go.Proofs.YtkonfogebepccaaDoor
open Go.RowKit
attribute [local go_sem] cell_set
set_option maxRecDepth 100000
set_option linter.unusedVariables false

/-- What is kept of the first i pairs. -/
def preE (ps : List (Int × Int)) (k i : Nat) : List (Int × Int) := (ps.take i).eraseIdx k
theorem preE_0 (ps : List (Int × Int)) (k : Nat) : preE ps k 0 = [] := by simp [preE]
theorem preE_all (ps : List (Int × Int)) (k : Nat) : preE ps k ps.length = ps.eraseIdx k := by simp [preE]
theorem preE_at {ps : List (Int × Int)} {k i : Nat} (hk : k < ps.length) (hi : i < ps.length) (h : i = k) : preE ps k (i + 1) = preE ps k i := by
  subst h
  unfold preE
  rw [List.take_add_one, List.getElem?_eq_getElem hi, List.eraseIdx_append_of_length_le (by simp; omega)]
  simp only [List.length_take, Nat.min_eq_left (Nat.le_of_lt hi), Nat.sub_self, Option.toList_some, List.eraseIdx_zero, List.tail_cons, List.append_nil]
  rw [List.eraseIdx_of_length_le (by simp; omega)]
theorem preE_ne {ps : List (Int × Int)} {k i : Nat} (hk : k < ps.length) (hi : i < ps.length) (h : i ≠ k) : preE ps k (i + 1) = preE ps k i ++ [ps[i]] := by
  unfold preE
  rw [List.take_add_one, List.getElem?_eq_getElem hi]
  rcases Nat.lt_or_gt_of_ne h with hlt | hlt
  · rw [List.eraseIdx_of_length_le (by simp; omega), List.eraseIdx_of_length_le (by simp; omega)]; rfl
  · rw [List.eraseIdx_append_of_lt_length (by simp; omega)]; rfl
theorem rag_close2 {w X : World} {R : Nat} {n cap : Nat} {V : Option Addr} {sv : Value} {qs : List (Int × Int)} (hR : X.heap[R]? = some (.cells #[.slice V n cap] 29 (0, 0))) (hb : Below w.heap.size w X) (hRl : R < w.heap.size)
    (hr : Row X 35 2 sv qs.length (pcells qs)) (ho : ∀ b ∈ ownB sv, w.heap.size ≤ b) (F : List Nat) :
    (∃ F', RAG (X.setCell ⟨R, 0, none⟩ sv) R qs F' ∧ ∀ b ∈ F', b ∈ R :: F ∨ w.heap.size ≤ b) ∧ Kp (R :: F) w (X.setCell ⟨R, 0, none⟩ sv) := by
  refine ⟨⟨R :: ownB sv, ⟨sv, ?_, ?_, rfl⟩, ?_⟩, ((Kp.of_below hb).mono (by intro b hb; exact hb)).setCell (by simp) _⟩
  · simp [World.setCell, Array.getElem?_modify, hR]
  · exact hr.keep (fun b hb => Below.heap_setCell _ _ _ b (fun (e : b = R) => by have := ho b hb; omega))
  · intro b hb
    rcases List.mem_cons.1 hb with rfl | hb
    · exact .inl (by simp)
    · exact .inr (ho b hb)
theorem rag_box2 {Z : World} {R m : Nat} {ps : List (Int × Int)} {F : List Nat} (h : RAG Z R ps F) (hm : m ∉ F) (u v : Int) : RAG ((Z.setCell ⟨m, 0, none⟩ (.int .i64 u)).setCell ⟨m, 1, none⟩ (.int .i64 v)) R ps F :=
  h.keep fun b hb => (Below.heap_setCell _ _ _ b (fun (e : b = m) => hm (by rw [← e]; exact hb))).trans (Below.heap_setCell _ _ _ b (fun (e : b = m) => hm (by rw [← e]; exact hb)))
set_option maxHeartbeats 2000000 in
theorem rag_remove (R : Nat) (ps : List (Int × Int)) (F : List Nat) (k : Nat) (w : World) (h : RAG w R ps F) (hk : k < ps.length) (hl : ps.length < 65536) :
    Calls Tryd.prog 11 #[.pointer (some ⟨R, 0, none⟩), .int .i64 (k : Int)] w fun e w' => e = .returned (.tuple #[.agg #[.int .i64 ps[k].1, .int .i64 ps[k].2], .int .i64 0]) ∧ (∃ F', RAG w' R (ps.eraseIdx k) F' ∧ ∀ b ∈ F', b ∈ F ∨ w.heap.size ≤ b) ∧ Kp F w w' := by
  obtain ⟨i0, hi0, hz0, hz1, hz2⟩ := info_parts pair_infoA
  obtain ⟨p0, p1⟩ := pcells_at hk
  generalize hpv : ps[k] = pv at *
  obtain ⟨u, v⟩ := pv
  obtain ⟨sv, c0, z0, hr, rfl, hR⟩ := h.head
  obtain ⟨g, cap, cur, rfl, hg, hcap, _⟩ := hr.some_ (by omega)
  have hgl := heap_lt hg
  have hRl := heap_lt hR
  have r0 := (hr.cellAt (k * 2) (by omega)).trans p0
  have r1 := (hr.cellAt (k * 2 + 1) (by omega)).trans p1
  have HH := Lib.hid (And.intro hR hr)
  have HEQ := Lib.hid (And.intro (@preE_at ps k) (@preE_ne ps k))
  clear hr hg hR p0 p1 h hpv
  obtain ⟨n, hn⟩ : ∃ n, ps.length = n := ⟨_, rfl⟩
  have HN := Lib.hid hn
  rw [hn] at hk hl hcap c0
  clear hn
  have hkn : (k : Int) < (n : Int) := by omega
  have d0 : decide ((k : Int) < 0) = false := by simp
  have d1 : decide (n ≤ k) = false := by simp; omega
  go_enter Tryd.func11, Tryd.ntmps11
  go_upto_region 4 with fail
  refine absW (fun X => Below w.heap.size w X ∧ X.heap[w.heap.size]? = some (.cells #[.int .i64 0, .int .i64 0] 35 (0, 0)) ∧ X.heap[w.heap.size + 1]? = some (.cells #[.int .i64 u, .int .i64 v] 35 (0, 0))) ⟨by (repeat (first | exact Below.refl _ _ | (with_reducible refine Below.drew ?_) | (with_reducible refine Below.alloc ?_ (by (try simp); (try omega)) _) | (with_reducible refine Below.setCell ?_ (by (try simp); (try omega)) _) | (with_reducible refine Below.trans ?_ (Below.mono (by assumption) (by (try simp); (try omega)))))), ?_, ?_⟩ ?_
  · exact (Below.heap_alloc _ _ _ (by simp)).trans (heap_alloc_new w _)
  · have := heap_alloc_new (w.alloc (.cells #[.int .i64 0, .int .i64 0] 35)) (.cells #[.int .i64 u, .int .i64 v] 35)
    rw [World.size_alloc] at this
    exact this
  rintro X ⟨hbX, hx0, hx1⟩
  have HX := Lib.hid (And.intro hbX (And.intro hx0 hx1))
  have H0 : Hid (Fresh X X 35 2 (preE ps k 0).length (.slice none 0 0) (pcells (preE ps k 0))) := ⟨by rw [preE_0]; exact Row.nil _ _ _, by simp [ownB], Below.refl _ _⟩
  clear hbX hx0 hx1 r0 r1 c0 z0
  go_wp2_with fail
  go_loopw [7, 8] (fun l i wr => ∃ (j q : Nat) (V : Option Addr) (c : Nat), i = .int .i64 j ∧ j ≤ n ∧ l = .slice V q c ∧ q ≤ j ∧ Hid (q = (preE ps k j).length ∧ Fresh X wr 35 2 q (.slice V q c) (pcells (preE ps k j)))) (fun _ i _ => n - (intOf i).toNat)
  case atStart => exact ⟨0, 0, none, 0, rfl, Nat.zero_le _, rfl, Nat.le_refl _, by rw [preE_0]; rfl, by have := H0.out; rw [preE_0] at this ⊢; exact this⟩
  case round =>
    obtain ⟨j, q, V, c, rfl, hj, rfl, hqj, HF⟩ := hrel
    clear H0
    have HBw : Hid (Below w.heap.size w wr) := HX.out.1.trans (HF.out.2.2.2.mono HX.out.1.size)
    have hRb : wr.heap[R]? = some (.cells #[.slice (some ⟨g, 0, none⟩) n cap] 29 (0, 0)) := by
      have := (HBw.out.block _ hRl).trans HH.out.1
      rw [HN.out] at this; exact this
    have HRb := Lib.hid hRb
    have c1 : wr.cell? ⟨R, 0, none⟩ = some (.slice (some ⟨g, 0, none⟩) n cap) := by simp [World.cell?, hRb]
    have z1 : wr.frozen? ⟨R, 0, none⟩ = false := by simp [World.frozen?, hRb]
    have hRw := heap_lt hRb
    clear hRb
    by_cases hlt : j < n
    · have hrw := HH.out.2.keep (w' := wr) fun b hb => HBw.out.block b (HH.out.2.lt b hb)
      have hgw : g < wr.heap.size := Nat.lt_of_lt_of_le hgl HBw.out.size
      obtain ⟨q0, q1⟩ := pcells_at (ps := ps) (i := j) (by rw [HN.out]; exact hlt)
      have r0 := (hrw.cellAt (j * 2) (by rw [HN.out]; omega)).trans q0
      have r1 := (hrw.cellAt (j * 2 + 1) (by rw [HN.out]; omega)).trans q1
      have hE := HEQ.out
      have hj1 : (j : Int) < (n : Int) := by omega
      by_cases hjk : j = k
      · have HP : Hid (preE ps k (j + 1) = preE ps k j) := hE.1 (by rw [HN.out]; exact hk) (by rw [HN.out]; exact hlt) hjk
        clear hE q0 q1 hrw r0 r1
        subst hjk
        go_wp2_with fail
        go_roundw
        case measure => simp [intOf]; omega
        case rel => exact ⟨j + 1, q, V, c, by go_num, by omega, rfl, by omega, by rw [HP.out]; exact HF.out⟩
      · have HP : Hid (preE ps k (j + 1) = preE ps k j ++ [ps[j]'(by rw [HN.out]; exact hlt)]) := hE.2 (by rw [HN.out]; exact hk) (by rw [HN.out]; exact hlt) hjk
        clear hE q0 q1 hrw
        generalize ps[j]'(by rw [HN.out]; exact hlt) = y at HP r0 r1
        obtain ⟨y0, y1⟩ := y
        dsimp only at r0 r1
        have hne : ((j : Int) != (k : Int)) = true := by simp; omega
        have HB63 : q + 1 ≤ maxLen := by simp only [maxLen]; omega
        have HB47 : (q + 1) * 16 ≤ 140737488355328 := by omega
        have HRow := Lib.hid (HF.out.2.1.alloc (.cells #[.int .i64 y0, .int .i64 y1] 35))
        have HSrc : Hid (Src (wr.alloc (.cells #[.int .i64 y0, .int .i64 y1] 35)) (some ⟨wr.heap.size, 0, none⟩) 1 2 [.int .i64 y0, .int .i64 y1]) := Src.block (cs := #[.int .i64 y0, .int .i64 y1]) (t := 35) (fr := (0, 0)) (heap_alloc_new wr _) (by rfl) (by simp [Value.oneCell'])
        go_wp2_with (at_builtin; go_loud (refine inPlain rfl (wpo_row_append _ _ _ rfl i0 _ 16 Tryd.underlying27 hi0 hz0 hz1 hz2 rfl rfl HRow.out _ 1 1 rfl [.int .i64 y0, .int .i64 y1] HSrc.out HB63 HB47 ?_)); intro sv5 w5 r5 k5 o5; obtain ⟨V5, cp5, rfl, hc5⟩ := r5.len
                     go_loud (have F5 : Hid (Fresh X w5 35 2 (q + 1) (.slice V5 (q + 1) cp5) (pcells (preE ps k (j + 1)))) := by rw [HP.out, pcells_snoc]; exact HF.out.2.app k5 o5 r5))
        go_roundw
        case measure => simp [intOf]; omega
        case rel => exact ⟨j + 1, q + 1, V5, cp5, by go_num, by omega, rfl, by omega, by rw [HP.out, List.length_append, ← HF.out.1]; rfl, F5.out⟩
    · obtain rfl : j = n := by omega
      have hx0 := (HF.out.2.2.2.block _ (heap_lt HX.out.2.1)).trans HX.out.2.1
      have hx1 := (HF.out.2.2.2.block _ (heap_lt HX.out.2.2)).trans HX.out.2.2
      have hxl := heap_lt hx1
      have x0 : wr.cell? ⟨w.heap.size + 1, 0, none⟩ = some (.int .i64 u) := by simp [World.cell?, hx1]
      have x1 : wr.cell? ⟨w.heap.size + 1, 1, none⟩ = some (.int .i64 v) := by simp [World.cell?, hx1]
      have y0 : wr.cell? ⟨w.heap.size, 0, none⟩ = some (.int .i64 0) := by simp [World.cell?, hx0]
      have y1 : wr.cell? ⟨w.heap.size, 1, none⟩ = some (.int .i64 0) := by simp [World.cell?, hx0]
      have f0 : wr.frozen? ⟨w.heap.size, 0, none⟩ = false := by simp [World.frozen?, hx0]
      have f1 : wr.frozen? ⟨w.heap.size, 1, none⟩ = false := by simp [World.frozen?, hx0]
      have HZ := Lib.hid (show (∃ F', RAG (wr.setCell ⟨R, 0, none⟩ (.slice V q c)) R (ps.eraseIdx k) F' ∧ ∀ b ∈ F', b ∈ R :: ownB (.slice (some ⟨g, 0, none⟩) j cap) ∨ w.heap.size + 2 ≤ b) ∧ Kp (R :: ownB (.slice (some ⟨g, 0, none⟩) j cap)) w (wr.setCell ⟨R, 0, none⟩ (.slice V q c)) from by
        have e : preE ps k j = ps.eraseIdx k := by rw [← HN.out]; exact preE_all ps k
        have h1 := HF.out
        rw [e] at h1
        have hX2 := heap_lt HX.out.2.2
        obtain ⟨⟨F', a1, a2⟩, a3⟩ := rag_close2 (w := X) HRb.out h1.2.2.2 (Nat.lt_of_lt_of_le hRl HX.out.1.size) (by rw [← h1.1]; exact h1.2.1) h1.2.2.1 (ownB (.slice (some ⟨g, 0, none⟩) j cap))
        exact ⟨⟨F', a1, fun b hb => (a2 b hb).imp id (fun h => by omega)⟩, (Kp.of_below HX.out.1).trans a3 (fun b hb => .inl hb)⟩)
      have hlm : w.heap.size < X.heap.size := by have := heap_lt HX.out.2.2; omega
      clear hx0 hx1 HF
      go_wp2_with fail
      obtain ⟨⟨F', a1, a2⟩, a3⟩ := HZ.out
      have hm : w.heap.size ∉ F' := fun hb => by
        rcases a2 _ hb with h | h
        · simp [ownB] at h
          rcases h with h | h <;> omega
        · omega
      have a4 := rag_box2 a1 hm u v
      exact bodyPost_ret (v := .tuple #[.agg #[.int .i64 u, .int .i64 v], .int .i64 0]) (by simp only [results, Tryd.results11]; go_simp) rfl ⟨rfl, ⟨F', a4, fun b hb => by rw [HN.out]; exact (a2 b hb).imp id (fun h => by omega)⟩, by rw [HN.out]; exact (a3.setCell (.inr (Nat.le_refl _)) _).setCell (.inr (Nat.le_refl _)) _⟩
end Go.Proofs.YtkonfogebepccaaDoor
