/-
  The document's Of: its loop over the cells.
-/
import Derived.Test.YtkonfogebepccaaGreatDoorPartsDoc
import Derived.Deep.LoopGhost
/-
  The document's Of: its part in a box.
-/
/-
  The document's Of: its loop over the walk.
-/
namespace Go.Proofs.YtkonfogebepccaaGreatDoor
open Go.RowKit
attribute [local go_sem] cell_set
attribute [local go_sem] Oper.semAt_some
set_option maxRecDepth 100000
set_option linter.unusedVariables false
noncomputable def ofT (n : Nat) : Code := ((Tryz.f61.body).bind (tailQ n)).getD .skip
def FrOF (ds : List Deferred) (U : Nat → Value) : Act := { tmps := (U 0 :: U 1 :: U 2 :: U 3 :: U 4 :: U 5 :: U 6 :: U 7 :: U 8 :: U 9 :: U 10 :: U 11 :: U 12 :: U 13 :: U 14 :: U 15 :: U 16 :: U 17 :: U 18 :: U 19 :: U 20 :: U 21 :: U 22 :: U 23 :: U 24 :: U 25 :: U 26 :: U 27 :: U 28 :: U 29 :: U 30 :: U 31 :: U 32 :: U 33 :: U 34 :: U 35 :: U 36 :: U 37 :: U 38 :: U 39 :: U 40 :: U 41 :: U 42 :: U 43 :: U 44 :: U 45 :: U 46 :: U 47 :: U 48 :: U 49 :: U 50 :: U 51 :: U 52 :: U 53 :: U 54 :: U 55 :: U 56 :: U 57 :: U 58 :: U 59 :: U 60 :: U 61 :: U 62 :: U 63 :: U 64 :: U 65 :: U 66 :: U 67 :: U 68 :: U 69 :: U 70 :: U 71 :: U 72 :: U 73 :: U 74 :: U 75 :: U 76 :: U 77 :: U 78 :: U 79 :: U 80 :: U 81 :: U 82 :: U 83 :: U 84 :: U 85 :: U 86 :: U 87 :: U 88 :: U 89 :: U 90 :: U 91 :: U 92 :: U 93 :: U 94 :: U 95 :: U 96 :: U 97 :: U 98 :: U 99 :: U 100 :: U 101 :: U 102 :: U 103 :: U 104 :: U 105 :: []).toArray, defers := ds }
theorem FrN.openOF {ds : List Deferred} {L : List (Nat × Value)} {a : Act} (h : FrN 106 ds L a) : ∃ U, a = FrOF ds U ∧ Us U L := h.open_
/-- Of's bools: those of the list xs are set; all else stands as at X0. -/
def OfB (X0 X : World) (g n : Nat) (xs : List Int) : Prop := Kp [g] X0 X ∧ Row X 4 1 (.slice (some ⟨g, 0, none⟩) n n) n (seenB n xs)
section
variable (Q : Exit → Act → World → Prop) (X0 : World) (g n b2 b4 : Nat) (V : Option Addr) (c : Nat) (at' : Int) (wl : List Int)
set_option maxHeartbeats 2000000 in
theorem of_4 (m : Nat) (a : Act) (X : World) (k : Nat) (hm : wl.length = m) (hk : k ≤ m) (hm5 : m ≤ 100000) (hf : Hid (Fnd n wl)) (hr : Hid (Row X0 3 1 (.slice V m c) m (ivals wl))) (hg : g ∉ ownB (.slice V m c)) (hI : Hid (OfB X0 X g n (wl.take k)))
    (hgo : Hid (∀ a' X', k < m → FrN 106 [] [(1, .int .i64 at'), (2, .pointer (some ⟨b2, 0, none⟩)), (4, .pointer (some ⟨b4, 0, none⟩)), (5, .slice (some ⟨g, 0, none⟩) n n), (6, .slice V m c), (7, .int .i64 ((k + 1 : Nat) : Int))] a' → OfB X0 X' g n (wl.take (k + 1)) → Q .normal a' X'))
    (hout : Hid (∀ a' X', FrN 106 [] [(1, .int .i64 at'), (2, .pointer (some ⟨b2, 0, none⟩)), (4, .pointer (some ⟨b4, 0, none⟩)), (5, .slice (some ⟨g, 0, none⟩) n n), (6, .slice V m c)] a' → k = m → OfB X0 X' g n (wl.take k) → Q (.exit 0) a' X'))
    (ha : FrN 106 [] [(1, .int .i64 at'), (2, .pointer (some ⟨b2, 0, none⟩)), (4, .pointer (some ⟨b4, 0, none⟩)), (5, .slice (some ⟨g, 0, none⟩) n n), (6, .slice V m c), (7, .int .i64 (k : Int))] a) : (ofT 4).wp Tryz.prog Q a X := by
  obtain ⟨U, rfl, e1, e2, e4, e5, e6, e7, -⟩ := ha.openOF
  unfold FrOF
  simp only [e1, e2, e4, e5, e6, e7]
  clear e1 e2 e4 e5 e6 e7 ha
  show (Code.seq _ _).wp _ _ _ _
  have HM := Lib.hid hm
  by_cases hlt : k < m
  · have hkm : (k : Int) < (m : Int) := by omega
    have HLT : Hid (k < m) := hlt
    have hkl : k < wl.length := by omega
    obtain ⟨hI1, hI2⟩ := hI.out
    have hrX : Row X 3 1 (.slice V m c) m (ivals wl) := hr.out.kp hI1 (fun b hb => by simp; intro e; exact hg (e ▸ hb))
    obtain ⟨gv, rfl⟩ : ∃ gv, V = some ⟨gv, 0, none⟩ := by
      rcases hrX.2 with ⟨e, h0⟩ | ⟨gv, cap', cur, e, _⟩
      · omega
      · injection e with e1; exact ⟨gv, e1⟩
    have c0 : X.cell? ⟨gv, k, none⟩ = some (.int .i64 (wl[k]'hkl)) := by
      rw [hrX.cellAt k (by omega)]
      simp [ivals, hkl]
    have HX : Hid (wl.take (k + 1) = wl.take k ++ [wl[k]'hkl]) := by
      show _ = _
      rw [List.take_add_one, List.getElem?_eq_getElem hkl]; rfl
    obtain ⟨hx0, hxn⟩ := hf.out.lt (wl[k]'hkl) (List.getElem_mem hkl)
    generalize wl[k]'hkl = x at c0 HX hx0 hxn
    obtain ⟨y, rfl⟩ := Int.eq_ofNat_of_zero_le hx0
    have hyn : y < n := by omega
    have hs1 := (hI2.cellAt y (by omega)).trans (seenB_at (wl.take k) hyn)
    have hs2 := hI2.frozenAt y
    have HS : Hid (OfB X0 (X.setCell ⟨g, y, none⟩ (.bool true)) g n (wl.take (k + 1))) := by
      refine ⟨hI1.setCell (.inl (by simp)) _, ?_⟩
      have h1 := hI2.set y (.bool true)
      rw [← seenB_snoc] at h1
      rw [HX.out]; exact h1
    clear hm hlt hkl hI1 hI2 hrX hx0
    repeat (first | ((with_reducible refine hgo.out _ _ ?_ ?_ ?_); (· exact HLT.out); (· exact ⟨rfl, rfl, rfl, rfl, rfl, rfl, rfl, rfl, trivial⟩); (· exact HS.out)) | go_values | go_skip | go_guarded | go_step | go_upon | go_back)
  · obtain rfl : k = m := by omega
    have hkm : ¬ (k : Int) < (k : Int) := by omega
    clear hm hlt
    repeat (first | ((with_reducible refine hout.out _ _ ?_ ?_ ?_); (· exact ⟨rfl, rfl, rfl, rfl, rfl, rfl, rfl, trivial⟩); (· rfl); (· exact hI.out)) | go_values | go_skip | go_guarded | go_step | go_upon | go_back)
end
end Go.Proofs.YtkonfogebepccaaGreatDoor
namespace Go.Proofs.YtkonfogebepccaaGreatDoor
open Go.RowKit
set_option maxRecDepth 100000
set_option linter.unusedVariables false
/-- A Part in the box b8: its two lists, made since X0; all else stands as at X0. -/
def OfP (X0 X : World) (b8 : Nat) (xs ys : List Int) : Prop := Kp [b8] X0 X ∧ b8 < X0.heap.size ∧ ∃ a b, X.heap[b8]? = some (.cells #[a, b] 97 (0, 0)) ∧ Row X 3 1 a xs.length (ivals xs) ∧ Row X 3 1 b ys.length (ivals ys) ∧
  (∀ y ∈ ownB a, X0.heap.size ≤ y) ∧ (∀ y ∈ ownB b, X0.heap.size ≤ y) ∧ ∀ y ∈ ownB a, y ∉ ownB b
section
variable {X0 X : World} {b8 : Nat} {xs ys : List Int} {a b : Value} {o : Obj} {w5 : World} {x : Int}
theorem OfP.app0 {a' : Value} (hk : Kp [b8] X0 X) (hb8 : b8 < X0.heap.size) (hb : X.heap[b8]? = some (.cells #[a, b] 97 (0, 0))) (rb : Row X 3 1 b ys.length (ivals ys)) (ha : ∀ y ∈ ownB a, X0.heap.size ≤ y) (hbo : ∀ y ∈ ownB b, X0.heap.size ≤ y) (hd : ∀ y ∈ ownB a, y ∉ ownB b)
    (r : Row w5 3 1 a' (xs.length + 1) (ivals xs ++ [.int .i64 x])) (k : Kp (ownB a) (X.alloc o) w5) (ho : ownB a' = ownB a ∨ ∀ y ∈ ownB a', X.heap.size ≤ y) :
    (w5.cell? ⟨b8, 0, none⟩ = some a ∧ w5.frozen? ⟨b8, 0, none⟩ = false) ∧ OfP X0 (w5.setCell ⟨b8, 0, none⟩ a') b8 (xs ++ [x]) ys := by
  have hz := hk.size
  have e5 : w5.heap[b8]? = some (.cells #[a, b] 97 (0, 0)) := (k.block b8 (by simp; omega) (fun hm => by have := ha b8 hm; omega)).trans ((Below.heap_alloc _ _ _ (by omega)).trans hb)
  have ha' : ∀ y ∈ ownB a', X0.heap.size ≤ y := fun y hy => by
    rcases ho with e | e
    · rw [e] at hy; exact ha y hy
    · have := e y hy; omega
  refine ⟨⟨by simp [World.cell?, e5], by simp [World.frozen?, e5]⟩, ?_, hb8, a', b, by simp [World.setCell, Array.getElem?_modify, e5], ?_, ?_, ha', hbo, fun y hy hm => ?_⟩
  · refine ((hk.alloc o).trans k (fun y hy => .inr (ha y hy))).setCell (.inl (by simp)) _
  · rw [List.length_append, List.length_singleton, ivals_snoc]
    exact r.keep (fun y hy => Below.heap_setCell _ _ _ y (fun (e : y = b8) => by have := ha' y hy; omega))
  · exact rb.keep (fun y hy => (Below.heap_setCell _ _ _ y (fun (e : y = b8) => by have := hbo y hy; omega)).trans ((k.block y (by have := rb.lt y hy; simp; omega) (fun hm => hd y hm hy)).trans (Below.heap_alloc _ _ _ (rb.lt y hy))))
  · rcases ho with e | e
    · rw [e] at hy; exact hd y hy hm
    · have := e y hy; have := rb.lt y hm; omega
theorem OfP.app1 {b' : Value} (hk : Kp [b8] X0 X) (hb8 : b8 < X0.heap.size) (hb : X.heap[b8]? = some (.cells #[a, b] 97 (0, 0))) (ra : Row X 3 1 a xs.length (ivals xs)) (ha : ∀ y ∈ ownB a, X0.heap.size ≤ y) (hbo : ∀ y ∈ ownB b, X0.heap.size ≤ y) (hd : ∀ y ∈ ownB a, y ∉ ownB b)
    (r : Row w5 3 1 b' (ys.length + 1) (ivals ys ++ [.int .i64 x])) (k : Kp (ownB b) (X.alloc o) w5) (ho : ownB b' = ownB b ∨ ∀ y ∈ ownB b', X.heap.size ≤ y) :
    (w5.cell? ⟨b8, 1, none⟩ = some b ∧ w5.frozen? ⟨b8, 1, none⟩ = false) ∧ OfP X0 (w5.setCell ⟨b8, 1, none⟩ b') b8 xs (ys ++ [x]) := by
  have hz := hk.size
  have e5 : w5.heap[b8]? = some (.cells #[a, b] 97 (0, 0)) := (k.block b8 (by simp; omega) (fun hm => by have := hbo b8 hm; omega)).trans ((Below.heap_alloc _ _ _ (by omega)).trans hb)
  have hb' : ∀ y ∈ ownB b', X0.heap.size ≤ y := fun y hy => by
    rcases ho with e | e
    · rw [e] at hy; exact hbo y hy
    · have := e y hy; omega
  refine ⟨⟨by simp [World.cell?, e5], by simp [World.frozen?, e5]⟩, ?_, hb8, a, b', by simp [World.setCell, Array.getElem?_modify, e5], ?_, ?_, ha, hb', fun y hy hm => ?_⟩
  · refine ((hk.alloc o).trans k (fun y hy => .inr (hbo y hy))).setCell (.inl (by simp)) _
  · exact ra.keep (fun y hy => (Below.heap_setCell _ _ _ y (fun (e : y = b8) => by have := ha y hy; omega)).trans ((k.block y (by have := ra.lt y hy; simp; omega) (hd y hy)).trans (Below.heap_alloc _ _ _ (ra.lt y hy))))
  · rw [List.length_append, List.length_singleton, ivals_snoc]
    exact r.keep (fun y hy => Below.heap_setCell _ _ _ y (fun (e : y = b8) => by have := hb' y hy; omega))
  · rcases ho with e | e
    · rw [e] at hm; exact hd y hy hm
    · have := e y hm; have := ra.lt y hy; omega
end
end Go.Proofs.YtkonfogebepccaaGreatDoor
namespace Go.Proofs.YtkonfogebepccaaGreatDoor
open Go.RowKit
attribute [local go_sem] cell_set
attribute [local go_sem] Oper.semAt_some
set_option maxRecDepth 100000
set_option linter.unusedVariables false
section
variable (Q : Exit → Act → World → Prop) (X0 : World) (g n b2 b4 b8 : Nat) (V : Option Addr) (c : Nat) (at' : Int) (wl : List Int)
set_option maxHeartbeats 2000000 in
theorem of_9 (m : Nat) (a : Act) (X : World) (k : Nat) (hk : k ≤ n) (hn5 : n ≤ 100000) (hb2 : X0.cell? ⟨b2, 3, none⟩ = some (.int .i64 (n : Int))) (hb2l : b2 < X0.heap.size ∧ b2 ≠ b8) (hr : Hid (Row X0 4 1 (.slice (some ⟨g, 0, none⟩) n n) n (seenB n wl))) (hg : g ≠ b8) (hI : Hid (OfP X0 X b8 (srtC k wl) []))
    (hgo : Hid (∀ a' X', k < n → FrN 106 [] [(1, .int .i64 at'), (2, .pointer (some ⟨b2, 0, none⟩)), (4, .pointer (some ⟨b4, 0, none⟩)), (5, .slice (some ⟨g, 0, none⟩) n n), (6, .slice V m c), (8, .pointer (some ⟨b8, 0, none⟩)), (9, .int .i64 ((k + 1 : Nat) : Int))] a' → OfP X0 X' b8 (srtC (k + 1) wl) [] → Q .normal a' X'))
    (hout : Hid (∀ a' X', FrN 106 [] [(1, .int .i64 at'), (2, .pointer (some ⟨b2, 0, none⟩)), (4, .pointer (some ⟨b4, 0, none⟩)), (5, .slice (some ⟨g, 0, none⟩) n n), (6, .slice V m c), (8, .pointer (some ⟨b8, 0, none⟩))] a' → k = n → OfP X0 X' b8 (srtC k wl) [] → Q (.exit 2) a' X'))
    (ha : FrN 106 [] [(1, .int .i64 at'), (2, .pointer (some ⟨b2, 0, none⟩)), (4, .pointer (some ⟨b4, 0, none⟩)), (5, .slice (some ⟨g, 0, none⟩) n n), (6, .slice V m c), (8, .pointer (some ⟨b8, 0, none⟩)), (9, .int .i64 (k : Int))] a) : (ofT 9).wp Tryz.prog Q a X := by
  obtain ⟨U, rfl, e1, e2, e4, e5, e6, e8, e9, -⟩ := ha.openOF
  unfold FrOF
  simp only [e1, e2, e4, e5, e6, e8, e9]
  clear e1 e2 e4 e5 e6 e8 e9 ha
  show (Code.seq _ _).wp _ _ _ _
  obtain ⟨hI1, hI2, av, bv, hI3, hI4, hI5, hI6, hI7, hI8⟩ := hI.out
  have x3 : X.cell? ⟨b2, 3, none⟩ = some (.int .i64 (n : Int)) := (hI1.cell (p := ⟨b2, 3, none⟩) hb2l.1 (by simp; exact hb2l.2)).trans hb2
  have x8 : X.cell? ⟨b8, 0, none⟩ = some av := by simp [World.cell?, hI3]
  by_cases hlt : k < n
  · have hkn : (k : Int) < (n : Int) := by omega
    have HLT : Hid (k < n) := hlt
    have hrX : Row X 4 1 (.slice (some ⟨g, 0, none⟩) n n) n (seenB n wl) := hr.out.kp hI1 (fun b hb => by simp [ownB] at hb; subst hb; simp; exact hg)
    have hs1 := (hrX.cellAt k (by omega)).trans (seenB_at wl hlt)
    by_cases hin : (k : Int) ∈ wl
    · have HS : Hid (srtC (k + 1) wl = srtC k wl ++ [(k : Int)]) := srtC_in hin
      rw [decide_eq_true hin] at hs1
      obtain ⟨i0, hi0, hi1, hi2, hi3⟩ := info_parts int_info
      obtain ⟨xs, hxs⟩ : ∃ xs, srtC k wl = xs := ⟨_, rfl⟩
      have hxl : xs.length ≤ k := by rw [← hxs]; exact srtC_len _ _
      rw [hxs] at hI4 HS
      obtain ⟨q, hq⟩ : ∃ q, xs.length = q := ⟨_, rfl⟩
      have HQ := Lib.hid hq
      obtain ⟨Va, cva, rfl, _⟩ := hI4.len
      have HRw : Hid (Row (X.alloc (.cells #[.int .i64 (k : Int)] 3)) 3 1 (.slice Va q cva) q (ivals xs)) := by
        rw [hq] at hI4; exact hI4.alloc _
      have HSr : Hid (Src (X.alloc (.cells #[.int .i64 (k : Int)] 3)) (some ⟨X.heap.size, 0, none⟩) 1 1 [.int .i64 (k : Int)]) := Src.block (cs := #[.int .i64 (k : Int)]) (t := 3) (fr := (0, 0)) (heap_alloc_new X _) rfl (by simp [Value.oneCell'])
      have hg63 : q + 1 ≤ maxLen := by simp only [maxLen]; omega
      have hg47 : (q + 1) * 8 ≤ 140737488355328 := by omega
      have HI9 := Lib.hid (And.intro hI1 (And.intro hI2 (And.intro hI3 (And.intro hI5 (And.intro hI6 (And.intro hI7 hI8))))))
      rw [hq] at x8
      clear hlt hI1 hI2 hI3 hI4 hI5 hI6 hI7 hI8 hrX hin hxs hq
      go_wp2_with (at_builtin; go_loud (refine inPlain rfl (wpo_row_append _ _ _ rfl i0 _ 8 Tryz.underlying23 hi0 hi1 hi2 hi3 rfl rfl HRw.out _ 1 1 rfl [.int .i64 (k : Int)] HSr.out hg63 hg47 ?_)); intro sv5 w5 r5 k5 o5; obtain ⟨V5, cp5, rfl, hc5⟩ := r5.len
                   change Kp (ownB (.slice Va q cva)) _ w5 at k5
                   change ownB (.slice V5 (q + 1) cp5) = ownB (.slice Va q cva) ∨ ownB (.slice V5 (q + 1) cp5) = [_] at o5
                   obtain ⟨h1, h2, h3, h5, h6, h7, h8⟩ := HI9.out
                   rw [HQ.out] at h3 h6 h8
                   have A5 := OfP.app0 (xs := xs) h1 h2 h3 h5 h6 h7 h8 (by rw [HQ.out]; exact r5) k5 (o5.imp id fun e y hy => by rw [e] at hy; simp at hy; omega)
                   obtain ⟨⟨z2, z3⟩, A6⟩ := A5
                   have HA6 := Lib.hid A6
                   clear A6 k5 o5 r5 h1 h2 h3 h5 h6 h7 h8)
      exact hgo.out _ _ HLT.out ⟨rfl, rfl, rfl, rfl, rfl, rfl, rfl, rfl, rfl, trivial⟩ (by rw [HS.out]; exact HA6.out)
    · have HS : Hid (srtC (k + 1) wl = srtC k wl) := srtC_out hin
      rw [decide_eq_false hin] at hs1
      clear hlt hI1 hI2 hI3 hI4 hI5 hI6 hI7 hI8 hrX hin
      repeat (first | ((with_reducible refine hgo.out _ _ ?_ ?_ ?_); (· exact HLT.out); (· exact ⟨rfl, rfl, rfl, rfl, rfl, rfl, rfl, rfl, rfl, trivial⟩); (· (rw [HS.out]; exact hI.out))) | go_values | go_skip | go_guarded | go_step | go_upon | go_back)
  · obtain rfl : k = n := by omega
    have hkn : ¬ (k : Int) < (k : Int) := by omega
    clear hlt hI1 hI2 hI3 hI4 hI5 hI6 hI7 hI8
    repeat (first | ((with_reducible refine hout.out _ _ ?_ ?_ ?_); (· exact ⟨rfl, rfl, rfl, rfl, rfl, rfl, rfl, rfl, trivial⟩); (· rfl); (· exact hI.out)) | go_values | go_skip | go_guarded | go_step | go_upon | go_back)
end
end Go.Proofs.YtkonfogebepccaaGreatDoor
