/-
  Contracts of package arena, continued: All.
-/
import Derived.Test.YthbobooiedcofaaArenaGive
namespace Go.Proofs.Ythbobooiedcofaa
open Go.RowKit
attribute [local go_sem] cell_set
set_option maxRecDepth 100000

/-- The live cells among the first k, each with its agent. -/
def Ars.upto (S : Ars) : Nat → List (Nat × Int)
  | 0 => []
  | k + 1 => Ars.upto S k ++ (match S.cells[k]? with
    | some (some (ag, _)) => [(k, ag)]
    | _ => [])
def ncells (l : List (Nat × Int)) : List Value := l.flatMap fun p => [Value.int .i64 (p.1 : Int), .int .i64 p.2]
theorem ncells_snoc (l : List (Nat × Int)) (p : Nat × Int) : ncells (l ++ [p]) = ncells l ++ [Value.int .i64 (p.1 : Int), .int .i64 p.2] := by simp [ncells]
theorem ncells_at (l : List (Nat × Int)) {j : Nat} (hj : j < l.length) : (ncells l)[j * 2]? = some (.int .i64 ((l[j]).1 : Int)) ∧ (ncells l)[j * 2 + 1]? = some (.int .i64 (l[j]).2) := by
  induction l generalizing j with
  | nil => simp at hj
  | cons p r ih =>
    have hc : ncells (p :: r) = Value.int .i64 (p.1 : Int) :: .int .i64 p.2 :: ncells r := rfl
    cases j with
    | zero => rw [hc]; exact ⟨rfl, rfl⟩
    | succ j =>
      rw [hc, show (j + 1) * 2 = j * 2 + 1 + 1 by omega]
      have := ih (j := j) (by simpa using hj)
      simpa using this
theorem Ars.upto_len (S : Ars) (k : Nat) : (S.upto k).length ≤ k := by
  induction k with
  | zero => simp [Ars.upto]
  | succ k ih =>
    rw [Ars.upto, List.length_append]
    split <;> simp <;> omega

/-- A slice variable in a box of its own. -/
structure Box2 (W : World) (B P : Nat) (v : Value) (l : List (Nat × Int)) : Prop where
  ge : B ≤ P
  lt : P < W.heap.size
  cell : W.heap[P]? = some (.cells #[v] 176 (0, 0))
  row : Row W 174 2 v l.length (ncells l)
  own : ∀ b ∈ ownB v, B ≤ b
theorem Box2.keep {W W' : World} {B P : Nat} {v : Value} {l : List (Nat × Int)} (h : Box2 W B P v l) (hk : ∀ b ∈ P :: ownB v, W'.heap[b]? = W.heap[b]?) : Box2 W' B P v l :=
  ⟨h.ge, heap_lt ((hk P (by simp)).trans h.cell), (hk P (by simp)).trans h.cell, h.row.keep (fun b hb => hk b (by simp [hb])), h.own⟩
theorem Box2.alloc {W : World} {B P : Nat} {v : Value} {l : List (Nat × Int)} (h : Box2 W B P v l) (o : Obj) : Box2 (W.alloc o) B P v l :=
  h.keep fun b hb => Below.heap_alloc W o b (by
    simp only [List.mem_cons] at hb
    rcases hb with rfl | hb
    · exact h.lt
    · exact h.row.lt b hb)
theorem Box2.apart {W : World} {B P : Nat} {v : Value} {l : List (Nat × Int)} (h : Box2 W B P v l) : P ∉ ownB v := fun hb => by
  obtain ⟨_, hh⟩ := h.row.ty hb; exact ty_ne h.cell hh (by decide) rfl

theorem Box2.append {W w5 : World} {B P : Nat} {v v5 : Value} {l : List (Nat × Int)} (h : Box2 W B P v l) (k5 : Kp (ownB v) W w5) (o5 : ownB v5 = ownB v ∨ ownB v5 = [W.heap.size]) {p : Nat × Int}
    (r5 : Row w5 174 2 v5 (l.length + 1) (ncells l ++ [Value.int .i64 (p.1 : Int), .int .i64 p.2])) : Box2 (w5.setCell ⟨P, 0, none⟩ v5) B P v5 (l ++ [p]) := by
  have hP5 : w5.heap[P]? = some (.cells #[v] 176 (0, 0)) := (k5.block P h.lt h.apart).trans h.cell
  have hsz := k5.size
  have hlt := h.lt
  refine ⟨h.ge, by simpa using Nat.lt_of_lt_of_le h.lt k5.size, by simp [World.setCell, Array.getElem?_modify, hP5], ?_, fun b hb => ?_⟩
  · rw [ncells_snoc, List.length_append]
    refine r5.keep fun b hb => Below.heap_setCell w5 _ _ b (fun e => ?_)
    have e' : b = P := e
    subst e'
    obtain ⟨_, hh⟩ := r5.ty hb
    exact ty_ne hP5 hh (by decide) rfl
  · rcases o5 with e | e
    · rw [e] at hb; exact h.own b hb
    · rw [e] at hb; simp at hb; have := h.ge; omega
theorem Box2.appendBelow {w W w5 : World} {P : Nat} {v v5 : Value} {l : List (Nat × Int)} (h : Box2 W w.heap.size P v l) (hb : Below w.heap.size w W) (k5 : Kp (ownB v) W w5) : Below w.heap.size w (w5.setCell ⟨P, 0, none⟩ v5) :=
  (hb.trans (k5.below hb.size h.own)).setCell h.ge _
theorem pair2_info : (Try.prog.info? 174).map (fun i => (i.zero, i.size, i.bytes)) = some (some (.agg #[.int .i64 0, .int .i64 0]), 2, 16) := by kernel_rfl

set_option maxHeartbeats 1000000 in
theorem ar_all (A : Nat) (S : Ars) (F : List Nat) (w : World) (h : PA w A S F) :
    Calls Try.prog 74 #[.pointer (some ⟨A, 0, none⟩)] w fun e w' => ∃ v, e = .returned (.func (.func 117) #[] #[.pointer (some ⟨w.heap.size, 0, none⟩)]) ∧ Below w.heap.size w w' ∧ Box2 w' w.heap.size w.heap.size v (S.upto S.cells.length) := by
  obtain ⟨VC, VB, cc, cb, c0, c1, c2, c3, hAl⟩ := h.head
  have hne := ok_ne h.ok
  have hm2 := h.ok.most2
  have hcl := h.ok.len
  have H := Lib.hid h
  clear h
  go_enter Try.func74, Try.ntmps74
  go_wp2_with (go_at_call 91; refine (ar_none_is _ S.most _ hne (by go_simp)).mono ?_; rintro e w' ⟨rfl, rfl⟩)
  go_loopw [14] (fun i wr => ∃ k : Nat, i = .int .i64 k ∧ k ≤ S.cells.length ∧ Hid (Below w.heap.size w wr ∧ ∃ v, Box2 wr w.heap.size w.heap.size v (S.upto k))) (fun i _ => S.cells.length - (intOf i).toNat)
  case atStart => exact ⟨0, rfl, by omega, Lib.hid ⟨(Below.refl _ _).alloc (Nat.le_refl _) _, _, Nat.le_refl _, by simp, heap_alloc_new w _, Row.nil _ _ _, by simp [ownB]⟩⟩
  case round =>
    obtain ⟨k, rfl, hk, X⟩ := hrel
    by_cases hlt : k < S.cells.length
    · obtain ⟨hbr, v, hv⟩ := X.out
      have HP := H.out.below hbr
      obtain ⟨c, hck⟩ : ∃ c, S.cells[k]? = some c := ⟨_, List.getElem?_eq_getElem hlt⟩
      obtain ⟨g, cc', r, k1, hgl, ha, hr, hf, _⟩ := HP.at_ hck
      have c1r : wr.cell? ⟨A, 1, none⟩ = some (.slice VC S.cells.length cc) := (hbr.cell (p := ⟨A, 1, none⟩) hAl).trans c1
      rw [k1] at c1r
      simp only [Option.some.injEq, Value.slice.injEq, true_and] at c1r
      obtain ⟨rfl, rfl⟩ := c1r
      obtain ⟨r0, r1, r2, r3, r4, r5, r6, r7, r8, rfl⟩ := ha.shaped
      have z0 : wr.cell? ⟨g, k * 9, none⟩ = some (.int .i64 r0) := hr 0 (by omega)
      have z1 : wr.cell? ⟨g, k * 9 + 1, none⟩ = some (.int .i64 r1) := hr 1 (by omega)
      have z2 : wr.cell? ⟨g, k * 9 + 2, none⟩ = some (.int .u32 r2) := hr 2 (by omega)
      have z3 : wr.cell? ⟨g, k * 9 + 3, none⟩ = some (.int .u32 r3) := hr 3 (by omega)
      have z4 : wr.cell? ⟨g, k * 9 + 4, none⟩ = some (.int .u32 r4) := hr 4 (by omega)
      have z5 : wr.cell? ⟨g, k * 9 + 5, none⟩ = some (.int .u32 r5) := hr 5 (by omega)
      have z6 : wr.cell? ⟨g, k * 9 + 6, none⟩ = some (.int .u32 r6) := hr 6 (by omega)
      have z7 : wr.cell? ⟨g, k * 9 + 7, none⟩ = some (.int .u32 r7) := hr 7 (by omega)
      have z8 : wr.cell? ⟨g, k * 9 + 8, none⟩ = some (.int .u32 r8) := hr 8 (by omega)
      have hzr := hbr.size
      have HB := Lib.hid hbr
      have HV := Lib.hid hv
      clear hr k1 hbr HP X hv
      cases c with
      | none =>
        obtain ⟨_, ha0, _⟩ := ha
        simp only [List.getElem?_cons_zero, Option.some.injEq, Value.int.injEq, true_and] at ha0
        subst ha0
        go_wp2
        go_roundw
        case rel => exact ⟨k + 1, by go_num, by omega, Lib.hid ⟨HB.out.alloc hzr _, v, by rw [Ars.upto, hck]; simpa using HV.out.alloc _⟩⟩
        case measure => simp [intOf]; omega
      | some x =>
        obtain ⟨ag, ws⟩ := x
        have hag := (H.out.ok.cell _ _ _ hck).1
        obtain ⟨_, ha0, _⟩ := ha
        simp only [List.getElem?_cons_zero, Option.some.injEq, Value.int.injEq, true_and] at ha0
        obtain rfl := ha0.symm
        obtain ⟨i0, hi0, hi1, hi2, hi3⟩ := info_parts pair2_info
        have hul := S.upto_len k
        have HW : Hid (Box2 ((wr.alloc (.cells #[.int .i64 ag, .int .i64 r1, .int .u32 r2, .int .u32 r3, .int .u32 r4, .int .u32 r5, .int .u32 r6, .int .u32 r7, .int .u32 r8] 150)).alloc (.cells #[.int .i64 (k : Int), .int .i64 ag] 174)) w.heap.size w.heap.size v (S.upto k)) := (HV.out.alloc _).alloc _
        have HSrc : Hid (Src ((wr.alloc (.cells #[.int .i64 ag, .int .i64 r1, .int .u32 r2, .int .u32 r3, .int .u32 r4, .int .u32 r5, .int .u32 r6, .int .u32 r7, .int .u32 r8] 150)).alloc (.cells #[.int .i64 (k : Int), .int .i64 ag] 174)) (some ⟨wr.heap.size + 1, 0, none⟩) 1 2 [.int .i64 (k : Int), .int .i64 ag]) := by
          have := Src.block (cs := #[.int .i64 (k : Int), .int .i64 ag]) (t := 174) (fr := (0, 0)) (m := 1) (size := 2) (heap_alloc_new (wr.alloc (.cells #[.int .i64 ag, .int .i64 r1, .int .u32 r2, .int .u32 r3, .int .u32 r4, .int .u32 r5, .int .u32 r6, .int .u32 r7, .int .u32 r8] 150)) _) rfl (by simp [Value.oneCell'])
          exact Lib.hid (by simpa using this)
        have HB63 : (S.upto k).length + 1 ≤ maxLen := by simp only [maxLen]; omega
        have HB47 : ((S.upto k).length + 1) * 16 ≤ 140737488355328 := by omega
        obtain ⟨V2, cp2, rfl, hcp⟩ := HV.out.row.len
        have v0 : wr.cell? ⟨w.heap.size, 0, none⟩ = some (.slice V2 (S.upto k).length cp2) := by simp [World.cell?, HV.out.cell]
        have v1 : wr.frozen? ⟨w.heap.size, 0, none⟩ = false := by simp [World.frozen?, HV.out.cell]
        have hPl := HV.out.lt
        go_wp2_with (at_builtin; go_loud (refine inPlain rfl (wpo_row_append _ _ _ rfl i0 _ 16 Try.underlying176 hi0 hi1 hi2 hi3 rfl rfl HW.out.row _ 1 1 rfl [.int .i64 (k : Int), .int .i64 ag] HSrc.out HB63 HB47 ?_)); intro sv5 w5 s5 k5 o5; obtain ⟨V5, cp5, rfl, hc5⟩ := s5.len
                     go_loud (have q2 : w5.cell? ⟨w.heap.size, 0, none⟩ = some (.slice V2 (S.upto k).length cp2) := (k5.cell (p := ⟨w.heap.size, 0, none⟩) HW.out.lt HW.out.apart).trans (by go_simp))
                     go_loud (have q3 : w5.frozen? ⟨w.heap.size, 0, none⟩ = false := (k5.frozen (p := ⟨w.heap.size, 0, none⟩) HW.out.lt HW.out.apart).trans (by go_simp)))
        go_roundw
        case rel => exact ⟨k + 1, by go_num, by omega, Lib.hid ⟨HW.out.appendBelow ((HB.out.alloc hzr _).alloc (by simp; omega) _) k5, _, by rw [Ars.upto, hck]; exact HW.out.append k5 o5 (p := (k, ag)) s5⟩⟩
        case measure => simp [intOf]; omega
    · obtain rfl : k = S.cells.length := by omega
      obtain ⟨hbr, v, hv⟩ := X.out
      go_wp2
      go_ret
      exact ⟨v, rfl, hbr, hv⟩
end Go.Proofs.Ythbobooiedcofaa
