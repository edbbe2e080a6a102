/-
  Contracts of package agenda.
-/
import Derived.Test.YtkonfogebepccaaDoorChecked
import Derived.Test.YtkonfogebepccaaDoorOwn
import Derived.StillTailTactics
import Derived.WalkSpells
import Derived.Deep.QuietTactic
import Derived.BigQuiet
import Derived.Deep.RegionHeld3
import Derived.Deep.RegionLaw
import Derived.WalkSmall
namespace Go.Proofs.YtkonfogebepccaaDoor
open Go.RowKit
attribute [local go_sem] cell_set
set_option maxRecDepth 100000
set_option linter.unusedVariables false

def ik (n : Int) : Value := .int .i64 n
theorem kintA : KOk Tryd.prog 3 ik := KOk.int Tryd.underlying3
theorem zboolA : ∀ W, (zeroValue 4).run Tryd.prog W = .ok (.bool false) W := fun W => by kernel_rfl
theorem pair_infoA : (Tryd.prog.info? 35).map (fun i => (i.zero, i.size, i.bytes)) = some (some (.agg #[.int .i64 0, .int .i64 0]), 2, 16) := by kernel_rfl

/-- The cells of a list of pairs. -/
def pcells (ps : List (Int × Int)) : List Value := ps.flatMap fun p => [.int .i64 p.1, .int .i64 p.2]
/-- The cells that stand in one. -/
def agW (ps : List (Int × Int)) : Int → Option Value := fun k => if ∃ p ∈ ps, k = p.1 ∨ k = p.2 then some (.bool true) else none
/-- An agenda at block A: ps, in order; F: its blocks. -/
def AG (w : World) (A : Nat) (ps : List (Int × Int)) (F : List Nat) : Prop :=
  ∃ sv B, w.heap[A]? = some (.cells #[sv, .map (some B)] 101 (0, 0)) ∧ Row w 35 2 sv ps.length (pcells ps) ∧ MP ik w B (agW ps) ∧ F = A :: B :: ownB sv

theorem pcells_at {ps : List (Int × Int)} {i : Nat} (h : i < ps.length) : (pcells ps)[i * 2]? = some (.int .i64 ps[i].1) ∧ (pcells ps)[i * 2 + 1]? = some (.int .i64 ps[i].2) := by
  induction ps generalizing i with
  | nil => simp at h
  | cons p r ih =>
    cases i with
    | zero => simp [pcells]
    | succ i =>
      have := ih (i := i) (by simpa using h)
      simpa [pcells, Nat.add_mul] using this
theorem pcells_snoc (ps : List (Int × Int)) (p : Int × Int) : pcells (ps ++ [p]) = pcells ps ++ [.int .i64 p.1, .int .i64 p.2] := by simp [pcells]

theorem AG.lt {w : World} {A : Nat} {ps : List (Int × Int)} {F : List Nat} (h : AG w A ps F) : ∀ b ∈ F, b < w.heap.size := by
  obtain ⟨sv, B, hA, hr, hm, rfl⟩ := h
  intro b hb
  simp only [List.mem_cons] at hb
  rcases hb with rfl | rfl | hb
  · exact heap_lt hA
  · exact hm.lt
  · exact hr.lt b hb
theorem AG.keep {w w' : World} {A : Nat} {ps : List (Int × Int)} {F : List Nat} (h : AG w A ps F) (hk : ∀ b ∈ F, w'.heap[b]? = w.heap[b]?) : AG w' A ps F := by
  obtain ⟨sv, B, hA, hr, hm, rfl⟩ := h
  exact ⟨sv, B, (hk A (by simp)).trans hA, hr.keep (fun b hb => hk b (by simp [hb])), hm.keep (hk B (by simp)), rfl⟩
theorem AG.kp {w w' : World} {A : Nat} {ps : List (Int × Int)} {F G : List Nat} (h : AG w A ps F) (hk : Kp G w w') (hG : ∀ b ∈ F, b ∉ G) : AG w' A ps F :=
  h.keep fun b hb => hk.block b (h.lt b hb) (hG b hb)

theorem ag_new (w : World) : Calls Tryd.prog 7 #[] w fun e w' => ∃ A, e = .returned (.pointer (some ⟨A, 0, none⟩)) ∧ w.heap.size ≤ A ∧ Below w.heap.size w w' ∧ ∃ F, AG w' A [] F ∧ ∀ b ∈ F, w.heap.size ≤ b := by
  have hmm := @run_makeMap Tryd.prog
  go_enter Tryd.func7, Tryd.ntmps7
  go_wp2
  go_ret
  refine ⟨w.heap.size + 1, rfl, by omega, by (repeat (first | exact Below.refl _ _ | (with_reducible refine Below.drew ?_) | (with_reducible refine Below.alloc ?_ (by (try simp); (try omega)) _) | (with_reducible refine Below.setCell ?_ (by (try simp); (try omega)) _) | (with_reducible refine Below.trans ?_ (Below.mono (by assumption) (by (try simp); (try omega)))))), [w.heap.size + 1, w.heap.size], ⟨.slice none 0 0, w.heap.size, ?_, Row.nil _ _ _, ?_, rfl⟩, by simp⟩
  · have := heap_alloc_new (w.alloc (.map #[] 0)) (.cells #[.slice none 0 0, .map (some w.heap.size)] 101)
    simpa using this
  · have h : MP ik (w.alloc (.map #[] 0)) w.heap.size (agW []) := by
      have := MP.made (enc := ik) w
      have e : agW [] = fun _ => none := by funext k; simp [agW]
      rw [e]; exact this
    exact h.keep (by rw [Below.heap_alloc _ _ _ (by simp)])

theorem ag_none_is (A B : Nat) (w : World) (hc : w.cell? ⟨A, 1, none⟩ = some (.map (some B))) : Calls Tryd.prog 51 #[.pointer (some ⟨A, 0, none⟩)] w fun e w' => e = .returned (.bool false) ∧ w = w' := by
  have hm := fun (W : World) (r : Option Nat) => run_eql_map_nil (P := Tryd.prog) W 99 _ _ r Tryd.underlying99
  go_enter Tryd.func51, Tryd.ntmps51
  go_wp2
  go_ret
  exact ⟨rfl, rfl⟩

/-- A cell of the agenda's own block. -/
theorem AG.head {w : World} {A : Nat} {ps : List (Int × Int)} {F : List Nat} (h : AG w A ps F) : ∃ sv B, w.cell? ⟨A, 0, none⟩ = some sv ∧ w.cell? ⟨A, 1, none⟩ = some (.map (some B)) ∧ w.frozen? ⟨A, 0, none⟩ = false ∧ Row w 35 2 sv ps.length (pcells ps) ∧ MP ik w B (agW ps) ∧ F = A :: B :: ownB sv ∧ w.heap[A]? = some (.cells #[sv, .map (some B)] 101 (0, 0)) := by
  obtain ⟨sv, B, hA, hr, hm, rfl⟩ := h
  exact ⟨sv, B, by simp [World.cell?, hA], by simp [World.cell?, hA], by simp [World.frozen?, hA], hr, hm, rfl, hA⟩

def inAg (ps : List (Int × Int)) (k : Int) : Prop := ∃ p ∈ ps, k = p.1 ∨ k = p.2
theorem agW_in {ps : List (Int × Int)} {k : Int} (h : inAg ps k) : agW ps k = some (.bool true) := if_pos h
theorem agW_out {ps : List (Int × Int)} {k : Int} (h : ¬ inAg ps k) : agW ps k = none := if_neg h
theorem agW_snoc {ps : List (Int × Int)} {x y : Int} : upd (upd (agW ps) x (.bool true)) y (.bool true) = agW (ps ++ [(x, y)]) := by
  funext k
  unfold upd agW
  by_cases h1 : k = y
  · rw [if_pos h1, if_pos ⟨(x, y), by simp, .inr h1⟩]
  · rw [if_neg h1]
    by_cases h2 : k = x
    · rw [if_pos h2, if_pos ⟨(x, y), by simp, .inl h2⟩]
    · rw [if_neg h2]
      by_cases h3 : ∃ p ∈ ps, k = p.1 ∨ k = p.2
      · obtain ⟨p, hp, hk⟩ := h3
        rw [if_pos ⟨p, hp, hk⟩, if_pos ⟨p, by simp [hp], hk⟩]
      · rw [if_neg h3, if_neg]
        rintro ⟨p, hp, hk⟩
        rcases List.mem_append.1 hp with hp | hp
        · exact h3 ⟨p, hp, hk⟩
        · simp at hp; subst hp
          rcases hk with hk | hk
          · exact h2 hk
          · exact h1 hk

theorem ag_S {A bx B : Nat} {w1 w2 : World} {u v1 v2 : Value} (k : Kp [B] w1 w2) (hA : A < w1.heap.size) (hbx : bx < w1.heap.size) (hAB : A ≠ B) (hxB : bx ≠ B)
    (S : w1.cell? ⟨A, 1, none⟩ = some u ∧ w1.cell? ⟨bx, 0, none⟩ = some v1 ∧ w1.cell? ⟨bx, 1, none⟩ = some v2) : w2.cell? ⟨A, 1, none⟩ = some u ∧ w2.cell? ⟨bx, 0, none⟩ = some v1 ∧ w2.cell? ⟨bx, 1, none⟩ = some v2 :=
  ⟨(k.cell (p := ⟨A, 1, none⟩) hA (by simpa using hAB)).trans S.1, (k.cell (p := ⟨bx, 0, none⟩) hbx (by simpa using hxB)).trans S.2.1, (k.cell (p := ⟨bx, 1, none⟩) hbx (by simpa using hxB)).trans S.2.2⟩
theorem ag_S2 {A bx : Nat} {w1 w2 : World} {F : List Nat} {o : Obj} {u v1 v2 : Value} (k : Kp F (w1.alloc o).drew w2) (hA : A < w1.heap.size) (hbx : bx < w1.heap.size) (hAF : A ∉ F) (hxF : bx ∉ F)
    (h0 : w1.cell? ⟨A, 0, none⟩ = some u) (h1 : w1.cell? ⟨bx, 0, none⟩ = some v1) (h2 : w1.cell? ⟨bx, 1, none⟩ = some v2) (h3 : w1.frozen? ⟨A, 0, none⟩ = false) :
    w2.cell? ⟨A, 0, none⟩ = some u ∧ w2.cell? ⟨bx, 0, none⟩ = some v1 ∧ w2.cell? ⟨bx, 1, none⟩ = some v2 ∧ w2.frozen? ⟨A, 0, none⟩ = false := by
  have key : ∀ b, b < w1.heap.size → b ∉ F → w2.heap[b]? = w1.heap[b]? := fun b hb hF => (k.block b (by simp; omega) hF).trans (Below.heap_alloc w1 o b hb)
  exact ⟨(World.cell?_of_block (a := ⟨A, 0, none⟩) (key A hA hAF)).trans h0, (World.cell?_of_block (a := ⟨bx, 0, none⟩) (key bx hbx hxF)).trans h1, (World.cell?_of_block (a := ⟨bx, 1, none⟩) (key bx hbx hxF)).trans h2,
    (World.frozen?_of_block (a := ⟨A, 0, none⟩) (key A hA hAF)).trans h3⟩
theorem upd_out {f : Int → Option Value} {x y : Int} {v : Value} (h : x ≠ y) (hf : f y = none) : upd f x v y = none := by
  unfold upd; rw [if_neg (Ne.symm h)]; exact hf
theorem upd_upd {f : Int → Option Value} {x : Int} {v u : Value} : upd (upd f x v) x u = upd f x u := by
  funext k; unfold upd; split <;> simp_all

theorem ag_add_close {w w4 w5 : World} {A B : Nat} {x y : Int} {sv sv5 : Value} {ps : List (Int × Int)} {o : Obj} (hA : w.heap[A]? = some (.cells #[sv, .map (some B)] 101 (0, 0)))
    (HR : Row w 35 2 sv ps.length (pcells ps)) (hBl : B < w.heap.size) (kp4 : Kp [B] w w4) (hAB : A ≠ B) (hAV : A ∉ ownB sv) (hBV : B ∉ ownB sv) (HM4 : MP ik w4 B (agW (ps ++ [(x, y)])))
    (r5 : Row w5 35 2 sv5 (ps.length + 1) (pcells ps ++ [.int .i64 x, .int .i64 y])) (k5 : Kp (ownB sv) (w4.alloc o).drew w5) (o5 : ownB sv5 = ownB sv ∨ ownB sv5 = [(w4.alloc o).drew.heap.size]) :
    (∃ F', AG (w5.setCell ⟨A, 0, none⟩ sv5) A (ps ++ [(x, y)]) F' ∧ ∀ b ∈ F', b ∈ A :: B :: ownB sv ∨ w.heap.size ≤ b) ∧ Kp (A :: B :: ownB sv) w (w5.setCell ⟨A, 0, none⟩ sv5) := by
  have hAl := heap_lt hA
  have hsz : (w4.alloc o).drew.heap.size = w4.heap.size + 1 := by simp [World.drew]
  have z4 := kp4.size
  have k45 : ∀ b, b < w4.heap.size → b ∉ ownB sv → w5.heap[b]? = w4.heap[b]? := fun b hb hn => (k5.block b (by omega) hn).trans (Below.heap_alloc w4 o b hb)
  have a5 : w5.heap[A]? = some (.cells #[sv, .map (some B)] 101 (0, 0)) := (k45 A (by omega) hAV).trans ((kp4.block A hAl (by simpa using hAB)).trans hA)
  have hA5 : A ∉ ownB sv5 := by
    rcases o5 with e | e <;> rw [e]
    · exact hAV
    · simp [hsz]; omega
  have hB5 : B ∉ ownB sv5 := by
    rcases o5 with e | e <;> rw [e]
    · exact hBV
    · simp [hsz]; omega
  have hk : Kp (A :: B :: ownB sv) w w5 := (kp4.mono (by simp)).trans ((((Kp.refl (ownB sv) w4).alloc o).drew).trans k5 (fun b hb => .inl hb)) (fun b hb => .inl (by simp [hb]))
  refine ⟨⟨A :: B :: ownB sv5, ⟨sv5, B, ?_, ?_, ?_, rfl⟩, ?_⟩, hk.setCell (by simp) _⟩
  · simp [World.setCell, Array.getElem?_modify, a5]
  · have := r5.keep (w' := w5.setCell ⟨A, 0, none⟩ sv5) (fun b hb => Below.heap_setCell w5 _ _ b (fun e => by subst e; exact hA5 hb))
    rw [pcells_snoc]; simpa using this
  · exact HM4.keep ((Below.heap_setCell w5 _ _ B (fun e => hAB e.symm)).trans (k45 B (by omega) hBV))
  · intro b hb
    simp only [List.mem_cons] at hb ⊢
    rcases hb with h | h | h
    · exact .inl (.inl h)
    · exact .inl (.inr (.inl h))
    · rcases o5 with e | e <;> rw [e] at h
      · exact .inl (.inr (.inr h))
      · simp [hsz] at h; right; omega

set_option maxHeartbeats 1000000 in
/-- Add, of a pair of cells that stand in none. -/
theorem ag_add_new (A : Nat) (ps : List (Int × Int)) (F : List Nat) (x y lo hi : Int) (w : World) (h : AG w A ps F) (hlo : 0 ≤ lo) (hlh : lo < hi) (hxy : (x = lo ∧ y = hi) ∨ (x = hi ∧ y = lo)) (ol : ¬ inAg ps lo) (oh : ¬ inAg ps hi) (hl : ps.length < 65536) :
    Calls Tryd.prog 8 #[.pointer (some ⟨A, 0, none⟩), .agg #[.int .i64 x, .int .i64 y]] w fun e w' => e = .returned (.int .i64 0) ∧ (∃ F', AG w' A (ps ++ [(lo, hi)]) F' ∧ ∀ b ∈ F', b ∈ F ∨ w.heap.size ≤ b) ∧ Kp F w w' := by
  obtain ⟨sv, B, c0, c1, z0, hr, hm, rfl, hA⟩ := h.head
  have hAl : A < w.heap.size := heap_lt hA
  obtain ⟨V, hV, n, cap, rfl, hn, hcap⟩ : ∃ V : Option Addr, True ∧ ∃ n cap, sv = .slice V n cap ∧ n = ps.length ∧ n ≤ cap := by
    obtain ⟨V, cap, e, hc⟩ := hr.len
    exact ⟨V, trivial, _, cap, e, rfl, hc⟩
  have HH := Lib.hid (And.intro hA (And.intro hr hm))
  have lk : ∀ k nq, (Instr.lookup 99 (.map (some B)) (.int .i64 k) false).run Tryd.prog ((w.alloc (.cells #[.int .i64 x, .int .i64 y] 35)).drewN nq) = .ok ((agW ps k).getD (.bool false)) ((w.alloc (.cells #[.int .i64 x, .int .i64 y] 35)).drewN nq) := by
    intro k nq
    have hm' : MP ik ((w.alloc (.cells #[.int .i64 x, .int .i64 y] 35)).drewN nq) B (agW ps) := hm.keep (Below.heap_alloc _ _ _ hm.lt)
    have := hm'.lookup kintA Tryd.underlying99 zboolA k false
    simp only [Bool.false_eq_true, if_false] at this
    exact this
  have hne : lo ≠ hi := by omega
  have hAB : A ≠ B := by
    rintro rfl
    obtain ⟨E, c, hb, _⟩ := hm
    rw [hA] at hb; cases hb
  have hBl := hm.lt
  have hpl : ps.length = n := hn.symm
  have HN := Lib.hid (And.intro hn (And.intro hne hl))
  obtain ⟨i0, hi0, hz0, hz1, hz2⟩ := info_parts pair_infoA
  rcases hxy with ⟨rfl, rfl⟩ | ⟨rfl, rfl⟩
  all_goals
    have l1 := lk x; have l2 := lk y; simp only [agW_out ol, agW_out oh] at l1 l2
    have OL := Lib.hid ol; have OH := Lib.hid oh
    clear lk hr hm hA hV ol oh hne hpl hn hl
    have d1 : decide (x < 0) = false := by simp; omega
    have d2 : decide (y < 0) = false := by simp; omega
    have d3 : (x == y) = false := by rw [beq_eq_false_iff_ne]; omega
    go_enter Tryd.func8, Tryd.ntmps8
    go_wp2_with (go_at_call 51; refine (ag_none_is _ B _ (by go_simp)).mono ?_; rintro e w' ⟨rfl, rfl⟩)
    go_quiet (fail)
    clear d1 d2 d3 l1 l2
    go_wp2
  · refine absW (fun W => Kp [] w W ∧ w.heap.size < W.heap.size ∧ W.cell? ⟨w.heap.size, 0, none⟩ = some (.int .i64 x) ∧ W.cell? ⟨w.heap.size, 1, none⟩ = some (.int .i64 y)) ⟨((Kp.refl _ w).alloc _).drewN _, by simp, by go_simp, by go_simp⟩ ?_
    rintro W ⟨kp, hz, b0, b1⟩
    have HM : Hid (MP ik W B (agW ps)) := HH.out.2.2.keep (kp.block B HH.out.2.2.lt (by simp))
    have g0 : W.cell? ⟨A, 0, none⟩ = some (.slice V n cap) := (kp.cell (p := ⟨A, 0, none⟩) hAl (by simp)).trans c0
    have g1 : W.cell? ⟨A, 1, none⟩ = some (.map (some B)) := (kp.cell (p := ⟨A, 1, none⟩) hAl (by simp)).trans c1
    have hAW : A < W.heap.size := by omega
    have hbB : w.heap.size ≠ B := by omega
    go_region_held3 (fun w' => w'.cell? ⟨A, 1, none⟩ = some (.map (some B)) ∧ w'.cell? ⟨w.heap.size, 0, none⟩ = some (.int .i64 x) ∧ w'.cell? ⟨w.heap.size, 1, none⟩ = some (.int .i64 y)) (first | exact S4 | exact S3 | exact S2 | exact S1 | exact ⟨g1, b0, b1⟩)
      (first
        | (refine up_map_entry (k := x) (HM.out.drew) kintA Tryd.underlying99 zboolA (agW_out OL.out) ?_; intro s1 w1 m1 k1 z1
           have S1 := ag_S k1 hAW hz hAB hbB ⟨g1, b0, b1⟩)
        | (refine up_map_store m1 ?_; intro w2 m2 k2 z2
           have S2 := ag_S k2 (by rw [z1]; exact hAW) (by rw [z1]; exact hz) hAB hbB S1)
        | (refine up_map_entry (k := y) m2 kintA Tryd.underlying99 zboolA (upd_out HN.out.2.1 (upd_out HN.out.2.1 (agW_out OH.out))) ?_; intro s3 w3 m3 k3 z3
           have S3 := ag_S k3 (by rw [z2, z1]; exact hAW) (by rw [z2, z1]; exact hz) hAB hbB S2)
        | (refine up_map_store m3 ?_; intro w4 m4 k4 z4
           have S4 := ag_S k4 (by rw [z3, z2, z1]; exact hAW) (by rw [z3, z2, z1]; exact hz) hAB hbB S3))
    have KW : Kp [B] W w4 := (((((Kp.refl [B] W).drew).trans k1 (by simp)).trans k2 (by simp)).trans k3 (by simp)).trans k4 (by simp)
    have hsz : w4.heap.size = W.heap.size := by rw [z4, z3, z2, z1]; rfl
    have HM4 : Hid (MP ik w4 B (agW (ps ++ [(x, y)]))) := by
      have := m4
      rw [upd_upd, upd_upd, agW_snoc] at this
      exact this
    have hVB : ∀ b ∈ ownB (.slice V n cap), b ∉ [B] := by
      intro b hb hbB
      simp at hbB; subst hbB
      obtain ⟨_, hr | ⟨g, c', cur, e, hh, _⟩⟩ := HH.out.2.1
      · rw [hr.1] at hb; simp [ownB] at hb
      · rw [e] at hb; simp [ownB] at hb; subst hb
        obtain ⟨E, c, hb, _⟩ := HH.out.2.2
        rw [hh] at hb; cases hb
    have HV : Hid (A ∉ ownB (.slice V n cap) ∧ w.heap.size ∉ ownB (.slice V n cap) ∧ B ∉ ownB (.slice V n cap)) := by
      refine ⟨fun hb => ?_, fun hb => absurd (HH.out.2.1.lt _ hb) (by omega), fun hb => hVB B hb (by simp)⟩
      obtain ⟨_, hr | ⟨g, c', cur, e, hh, _⟩⟩ := HH.out.2.1
      · rw [hr.1] at hb; simp [ownB] at hb
      · rw [e] at hb; simp [ownB] at hb; subst hb
        rw [HH.out.1] at hh; injection hh with hh; injection hh with _ ht; exact absurd ht (by decide)
    have HB63 : ps.length + 1 ≤ maxLen := by have := HN.out.2.2; simp only [maxLen]; omega
    have HB47 : (ps.length + 1) * 16 ≤ 140737488355328 := by have := HN.out.2.2; omega
    have kp4 : Kp [B] w w4 := ((kp.mono (by simp)).trans KW (by simp))
    have HR4 : Hid (Row w4 35 2 (.slice V n cap) ps.length (pcells ps)) := HH.out.2.1.kp kp4 hVB
    have q0 : w4.cell? ⟨A, 0, none⟩ = some (.slice V n cap) := (kp4.cell (p := ⟨A, 0, none⟩) hAl (by simpa using hAB)).trans c0
    have q1 : w4.frozen? ⟨A, 0, none⟩ = false := (kp4.frozen (p := ⟨A, 0, none⟩) hAl (by simpa using hAB)).trans z0
    have q2 := S4.2.1
    have q3 := S4.2.2
    have hz4 : w.heap.size < w4.heap.size := by rw [hsz]; exact hz
    have HZ4 := Lib.hid hsz
    have hA4 : A < w4.heap.size := by rw [hsz]; exact hAW
    clear m1 k1 z1 m2 k2 z2 m3 k3 z3 m4 k4 z4 S1 S2 S3 S4 g0 g1 b0 b1 hsz KW hVB
    go_wp2_with fail
    go_region_law
      ((refine inDraw (by rfl) (wpo_row_append _ _ _ (by rfl) i0 _ 16 Tryd.underlying27 hi0 hz0 hz1 hz2 (by rfl) (by rfl) (HR4.out.alloc (.cells #[.int .i64 x, .int .i64 y] 35)).drew _ 1 1 (by rfl) [.int .i64 x, .int .i64 y] (Src.block (cs := #[.int .i64 x, .int .i64 y]) (t := 35) (fr := (0, 0)) (heap_alloc_new w4 _) (by rfl) (by simp [Value.oneCell'])).drew HB63 HB47 ?_); intro sv5 w5 r5 k5 o5; obtain ⟨V5, cp5, rfl, hc5⟩ := r5.len; have S5 := ag_S2 k5 hA4 hz4 HV.out.1 HV.out.2.1 q0 q2 q3 q1))
    all_goals (go_wp2; go_ret; exact ⟨rfl, ag_add_close HH.out.1 HH.out.2.1 hBl kp4 hAB HV.out.1 HV.out.2.2 HM4.out r5 k5 o5⟩)
  · refine absW (fun W => Kp [] w W ∧ w.heap.size < W.heap.size ∧ W.cell? ⟨w.heap.size, 0, none⟩ = some (.int .i64 y) ∧ W.cell? ⟨w.heap.size, 1, none⟩ = some (.int .i64 x)) ⟨((((Kp.refl _ w).alloc _).drewN _).setCell (by simp) _).setCell (by simp) _, by simp, by go_simp, by go_simp⟩ ?_
    rintro W ⟨kp, hz, b0, b1⟩
    have HM : Hid (MP ik W B (agW ps)) := HH.out.2.2.keep (kp.block B HH.out.2.2.lt (by simp))
    have g0 : W.cell? ⟨A, 0, none⟩ = some (.slice V n cap) := (kp.cell (p := ⟨A, 0, none⟩) hAl (by simp)).trans c0
    have g1 : W.cell? ⟨A, 1, none⟩ = some (.map (some B)) := (kp.cell (p := ⟨A, 1, none⟩) hAl (by simp)).trans c1
    have hAW : A < W.heap.size := by omega
    have hbB : w.heap.size ≠ B := by omega
    go_region_held3 (fun w' => w'.cell? ⟨A, 1, none⟩ = some (.map (some B)) ∧ w'.cell? ⟨w.heap.size, 0, none⟩ = some (.int .i64 y) ∧ w'.cell? ⟨w.heap.size, 1, none⟩ = some (.int .i64 x)) (first | exact S4 | exact S3 | exact S2 | exact S1 | exact ⟨g1, b0, b1⟩)
      (first
        | (refine up_map_entry (k := y) (HM.out.drew) kintA Tryd.underlying99 zboolA (agW_out OL.out) ?_; intro s1 w1 m1 k1 z1
           have S1 := ag_S k1 hAW hz hAB hbB ⟨g1, b0, b1⟩)
        | (refine up_map_store m1 ?_; intro w2 m2 k2 z2
           have S2 := ag_S k2 (by rw [z1]; exact hAW) (by rw [z1]; exact hz) hAB hbB S1)
        | (refine up_map_entry (k := x) m2 kintA Tryd.underlying99 zboolA (upd_out HN.out.2.1 (upd_out HN.out.2.1 (agW_out OH.out))) ?_; intro s3 w3 m3 k3 z3
           have S3 := ag_S k3 (by rw [z2, z1]; exact hAW) (by rw [z2, z1]; exact hz) hAB hbB S2)
        | (refine up_map_store m3 ?_; intro w4 m4 k4 z4
           have S4 := ag_S k4 (by rw [z3, z2, z1]; exact hAW) (by rw [z3, z2, z1]; exact hz) hAB hbB S3))
    have KW : Kp [B] W w4 := (((((Kp.refl [B] W).drew).trans k1 (by simp)).trans k2 (by simp)).trans k3 (by simp)).trans k4 (by simp)
    have hsz : w4.heap.size = W.heap.size := by rw [z4, z3, z2, z1]; rfl
    have HM4 : Hid (MP ik w4 B (agW (ps ++ [(y, x)]))) := by
      have := m4
      rw [upd_upd, upd_upd, agW_snoc] at this
      exact this
    have hVB : ∀ b ∈ ownB (.slice V n cap), b ∉ [B] := by
      intro b hb hbB
      simp at hbB; subst hbB
      obtain ⟨_, hr | ⟨g, c', cur, e, hh, _⟩⟩ := HH.out.2.1
      · rw [hr.1] at hb; simp [ownB] at hb
      · rw [e] at hb; simp [ownB] at hb; subst hb
        obtain ⟨E, c, hb, _⟩ := HH.out.2.2
        rw [hh] at hb; cases hb
    have HV : Hid (A ∉ ownB (.slice V n cap) ∧ w.heap.size ∉ ownB (.slice V n cap) ∧ B ∉ ownB (.slice V n cap)) := by
      refine ⟨fun hb => ?_, fun hb => absurd (HH.out.2.1.lt _ hb) (by omega), fun hb => hVB B hb (by simp)⟩
      obtain ⟨_, hr | ⟨g, c', cur, e, hh, _⟩⟩ := HH.out.2.1
      · rw [hr.1] at hb; simp [ownB] at hb
      · rw [e] at hb; simp [ownB] at hb; subst hb
        rw [HH.out.1] at hh; injection hh with hh; injection hh with _ ht; exact absurd ht (by decide)
    have HB63 : ps.length + 1 ≤ maxLen := by have := HN.out.2.2; simp only [maxLen]; omega
    have HB47 : (ps.length + 1) * 16 ≤ 140737488355328 := by have := HN.out.2.2; omega
    have kp4 : Kp [B] w w4 := ((kp.mono (by simp)).trans KW (by simp))
    have HR4 : Hid (Row w4 35 2 (.slice V n cap) ps.length (pcells ps)) := HH.out.2.1.kp kp4 hVB
    have q0 : w4.cell? ⟨A, 0, none⟩ = some (.slice V n cap) := (kp4.cell (p := ⟨A, 0, none⟩) hAl (by simpa using hAB)).trans c0
    have q1 : w4.frozen? ⟨A, 0, none⟩ = false := (kp4.frozen (p := ⟨A, 0, none⟩) hAl (by simpa using hAB)).trans z0
    have q2 := S4.2.1
    have q3 := S4.2.2
    have hz4 : w.heap.size < w4.heap.size := by rw [hsz]; exact hz
    have HZ4 := Lib.hid hsz
    have hA4 : A < w4.heap.size := by rw [hsz]; exact hAW
    clear m1 k1 z1 m2 k2 z2 m3 k3 z3 m4 k4 z4 S1 S2 S3 S4 g0 g1 b0 b1 hsz KW hVB
    go_wp2_with fail
    go_region_law
      ((refine inDraw (by rfl) (wpo_row_append _ _ _ (by rfl) i0 _ 16 Tryd.underlying27 hi0 hz0 hz1 hz2 (by rfl) (by rfl) (HR4.out.alloc (.cells #[.int .i64 y, .int .i64 x] 35)).drew _ 1 1 (by rfl) [.int .i64 y, .int .i64 x] (Src.block (cs := #[.int .i64 y, .int .i64 x]) (t := 35) (fr := (0, 0)) (heap_alloc_new w4 _) (by rfl) (by simp [Value.oneCell'])).drew HB63 HB47 ?_); intro sv5 w5 r5 k5 o5; obtain ⟨V5, cp5, rfl, hc5⟩ := r5.len; have S5 := ag_S2 k5 hA4 hz4 HV.out.1 HV.out.2.1 q0 q2 q3 q1))
    all_goals (go_wp2; go_ret; exact ⟨rfl, ag_add_close HH.out.1 HH.out.2.1 hBl kp4 hAB HV.out.1 HV.out.2.2 HM4.out r5 k5 o5⟩)

theorem ag_lk {A : Nat} {ps : List (Int × Int)} {F : List Nat} {w : World} {B : Nat} (hm : MP ik w B (agW ps)) (o : Obj) : ∀ k nq, (Instr.lookup 99 (.map (some B)) (.int .i64 k) false).run Tryd.prog ((w.alloc o).drewN nq) = .ok ((agW ps k).getD (.bool false)) ((w.alloc o).drewN nq) := by
  intro k nq
  have hm' : MP ik ((w.alloc o).drewN nq) B (agW ps) := hm.keep (Below.heap_alloc _ _ _ hm.lt)
  have := hm'.lookup kintA Tryd.underlying99 zboolA k false
  simp only [Bool.false_eq_true, if_false] at this
  exact this
set_option maxHeartbeats 1000000 in
/-- Add, of a pair one of whose cells stands in one. -/
theorem ag_add_twice (A : Nat) (ps : List (Int × Int)) (F : List Nat) (x y : Int) (w : World) (h : AG w A ps F) (hx : 0 ≤ x) (hy : 0 ≤ y) (hne : x ≠ y) (hin : inAg ps x ∨ inAg ps y) :
    Calls Tryd.prog 8 #[.pointer (some ⟨A, 0, none⟩), .agg #[.int .i64 x, .int .i64 y]] w fun e w' => e = .returned (.int .i64 21) ∧ Below w.heap.size w w' := by
  obtain ⟨sv, B, c0, c1, z0, hr, hm, rfl, hA⟩ := h.head
  have hAl : A < w.heap.size := heap_lt hA
  have lk := ag_lk (A := A) (F := []) hm (.cells #[.int .i64 x, .int .i64 y] 35)
  have d1 : decide (x < 0) = false := by simpa using hx
  have d2 : decide (y < 0) = false := by simpa using hy
  have d3 : (x == y) = false := by rw [beq_eq_false_iff_ne]; exact hne
  rcases (by by_cases hxi : inAg ps x
             · exact .inl hxi
             · exact .inr ⟨hxi, hin.resolve_left hxi⟩ : inAg ps x ∨ (¬ inAg ps x ∧ inAg ps y)) with hi | ⟨ho, hi⟩
  · have l1 := lk x; simp only [agW_in hi] at l1
    clear lk hr hm hi hin hne
    go_enter Tryd.func8, Tryd.ntmps8
    go_wp2_with (go_at_call 51; refine (ag_none_is _ B _ (by go_simp)).mono ?_; rintro e w' ⟨rfl, rfl⟩)
    go_quiet (fail)
    go_wp2
    go_ret
    exact ⟨rfl, (((Below.refl _ w).alloc (Nat.le_refl _) _).trans (below_drewN (Below.refl _ _) _))⟩
  · have l1 := lk x; simp only [agW_out ho] at l1
    have l2 := lk y; simp only [agW_in hi] at l2
    clear lk hr hm hi ho hin hne
    go_enter Tryd.func8, Tryd.ntmps8
    go_wp2_with (go_at_call 51; refine (ag_none_is _ B _ (by go_simp)).mono ?_; rintro e w' ⟨rfl, rfl⟩)
    go_quiet (fail)
    go_wp2
    go_ret
    exact ⟨rfl, (((Below.refl _ w).alloc (Nat.le_refl _) _).trans (below_drewN (Below.refl _ _) _))⟩
/-- Len. -/
theorem ag_len (A : Nat) (ps : List (Int × Int)) (F : List Nat) (w : World) (h : AG w A ps F) :
    Calls Tryd.prog 14 #[.pointer (some ⟨A, 0, none⟩)] w fun e w' => e = .returned (.int .i64 ps.length) ∧ Below w.heap.size w w' := by
  obtain ⟨sv, B, c0, c1, z0, hr, hm, rfl, hA⟩ := h.head
  obtain ⟨V, cap, rfl, hcap⟩ := hr.len
  clear hr hm hA
  go_enter Tryd.func14, Tryd.ntmps14
  go_wp2_with (go_at_call 51; refine (ag_none_is _ B _ (by go_simp)).mono ?_; rintro e w' ⟨rfl, rfl⟩)
  go_ret
  exact ⟨rfl, by (repeat (first | exact Below.refl _ _ | (with_reducible refine Below.drew ?_) | (with_reducible refine Below.alloc ?_ (by (try simp); (try omega)) _) | (with_reducible refine Below.setCell ?_ (by (try simp); (try omega)) _) | (with_reducible refine Below.trans ?_ (Below.mono (by assumption) (by (try simp); (try omega))))))⟩
end Go.Proofs.YtkonfogebepccaaDoor
