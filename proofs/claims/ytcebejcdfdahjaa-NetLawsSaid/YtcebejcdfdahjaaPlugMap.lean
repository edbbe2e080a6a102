/-
  Maps whose keys are sides; a range over a map of the program's own.
-/
import Derived.Test.YtcebejcdfdahjaaPlugSame
import Derived.Test.YtcebejcdfdahjaaNetMap
import Derived.Maps.RangeRun
namespace Go.Proofs.Ytcebejcdfdahjaa
open Go.RowKit
open Go.ChangeMaps (setBlock)
set_option maxRecDepth 100000
set_option linter.unusedVariables false

def encS (x : Sd) : Value := .agg #[.bool x.1, .int .i64 x.2.1, .int .i64 x.2.2]
theorem zside : ∀ W, (zeroValue 117).run Try.prog W = .ok (encS (false, (0, 0))) W := fun W => by kernel_rfl
theorem chk_bool (b : Bool) (n : Nat) (x : Bool) (W : World) : (Instr.checkKey b (n + 1) 4 (.bool x)).run Try.prog W = .ok () W := by
  rw [Instr.checkKey]
  simp [run_underlying Try.underlying4]
theorem run_equal_side (d : Nat) (x y : Sd) (w : World) : (Op.equalIn (d + 5) 117 (encS x) (encS y)).run Try.prog w = .ok (decide (x = y)) w := by
  obtain ⟨a, b, c⟩ := x
  obtain ⟨a', b', c'⟩ := y
  unfold encS
  go_simp
  by_cases h1 : a = a' <;> by_cases h2 : b = b' <;> by_cases h3 : c = c' <;> simp [h1, h2, h3]
theorem chk_port (b : Bool) (n : Nat) (x : Pt) (W : World) : (Instr.checkKey b (n + 2) 78 (.agg #[.int .i64 x.1, .int .i64 x.2])).run Try.prog W = .ok () W := by
  rw [show n + 2 = (n + 1) + 1 from rfl, Instr.checkKey]
  go_simp
  have h1 := chk_int b n x.1 W
  have h2 := chk_int b n x.2 W
  rw [h1]
  exact h2
theorem kside : KOk Try.prog 117 encS :=
  KOk.agg (fun x => #[.bool x.1, .int .i64 x.2.1, .int .i64 x.2.2]) (fun _ => rfl) Try.underlying117
    (fun a b W => by
      have := run_equal_side 9995 a b W
      exact this)
    (fun b a W => by
      unfold encS
      rw [show (10000 : Nat) = 9999 + 1 from rfl, Instr.checkKey]
      go_simp
      have h0 := chk_bool b 9998 a.1 W
      have h1 := chk_port b 9997 a.2 W
      simp only [Nat.reduceAdd] at h0 h1
      rw [h0]
      exact h1)
    (fun a => by
      unfold encS
      simp [Instr.sameBits])

/-! ### A range over a map -/
/-- Block R goes over the map in block B, which gives f; 'lf': which keys are still to come; n: how many. -/
def MI {κ : Type} [DecidableEq κ] (enc : κ → Value) (w : World) (R B : Nat) (f : κ → Option Value) (lf : κ → Bool) (n : Nat) : Prop :=
  ∃ (E : List (κ × Value × Nat)) (c since c0 : Nat) (seen : Array Nat), w.heap[B]? = some (.map (E.map (ment enc)).toArray c) ∧ (E.map (·.2.2)).Nodup ∧ (∀ x ∈ E, x.2.2 < c) ∧ (E.map (·.1)).Nodup ∧ (∀ a, mget E a = f a) ∧
    w.heap[R]? = some (.mapIter (some B) since seen c0) ∧ (∀ x ∈ E, x.2.2 < since) ∧ since ≤ c0 ∧ since ≤ c ∧ (∀ a, lf a = true ↔ ∃ x ∈ E, x.1 = a ∧ seen.contains x.2.2 = false) ∧ n = (leftOf (E.map (ment enc)).toArray seen).size
section
variable {κ : Type} [DecidableEq κ] {enc : κ → Value} {w : World} {R B : Nat} {f : κ → Option Value} {lf : κ → Bool} {n : Nat}
theorem MI.mp (h : MI enc w R B f lf n) : MP enc w B f := by
  obtain ⟨E, c, since, c0, seen, h1, h2, h3, h4, h5, _⟩ := h
  exact ⟨E, c, h1, h2, h3, h4, h5⟩
theorem MI.keep {w' : World} (h : MI enc w R B f lf n) (hB : w'.heap[B]? = w.heap[B]?) (hR : w'.heap[R]? = w.heap[R]?) : MI enc w' R B f lf n := by
  obtain ⟨E, c, since, c0, seen, h1, h2, h3, h4, h5, h6, r⟩ := h
  exact ⟨E, c, since, c0, seen, hB.trans h1, h2, h3, h4, h5, hR.trans h6, r⟩
theorem MI.lt (h : MI enc w R B f lf n) : R < w.heap.size := by
  obtain ⟨E, c, since, c0, seen, h1, h2, h3, h4, h5, h6, r⟩ := h
  rcases Nat.lt_or_ge R w.heap.size with h | h
  · exact h
  · rw [Array.getElem?_eq_none h] at h6; cases h6
theorem mget_mem {E : List (κ × Value × Nat)} {x : κ × Value × Nat} (hx : x ∈ E) (hk : (E.map (·.1)).Nodup) : mget E x.1 = some x.2.1 := by
  unfold mget
  have key : ∀ (E : List (κ × Value × Nat)) (j : Nat), x ∈ E → (E.map (·.1)).Nodup → (fnd x.1 E j).map (·.2) = some x.2.1 := by
    intro E
    induction E with
    | nil => intro j h; simp at h
    | cons y r ih =>
      intro j h hk
      simp only [List.map_cons, List.nodup_cons] at hk
      simp only [fnd]
      rcases List.mem_cons.1 h with e | h
      · subst e; simp
      · rw [if_neg (fun e => hk.1 (List.mem_map.2 ⟨x, h, e.symm⟩))]
        exact ih _ h hk.2
  exact key E 0 hx hk
/-- 'range m'. -/
theorem MP.range {P : Program} {T K E : TypeId} (h : MP enc w B f) (hT : P.underlying T = some (.map K E)) :
    ∃ (w' : World) (n : Nat), (Instr.range T (.map (some B))).run P w = .ok (.pointer (some ⟨w.heap.size, 0, none⟩)) w' ∧ MI enc w' w.heap.size B f (fun a => (f a).isSome) n ∧ Below w.heap.size w w' ∧ w'.heap.size = w.heap.size + 1 := by
  have hlt := h.lt
  obtain ⟨l, c, hb, hn, hc, hk, hf⟩ := h
  refine ⟨w.alloc (.mapIter (some B) c #[] c), _, run_range_map w T K E B _ c hT hb, ⟨l, c, c, c, #[], (heap_alloc_old w _ hlt).trans hb, hn, hc, hk, hf, heap_alloc_new w _, hc, Nat.le_refl _, Nat.le_refl _, fun a => ?_, rfl⟩, (Below.refl _ _).alloc (Nat.le_refl _) _, by simp⟩
  show (f a).isSome = true ↔ _
  rw [← hf a]
  constructor
  · intro h
    cases hg : mget l a with
    | none => rw [hg] at h; cases h
    | some v =>
      unfold mget at hg
      cases hfd : fnd a l 0 with
      | none => rw [hfd] at hg; cases hg
      | some y =>
        obtain ⟨i, u⟩ := y
        obtain ⟨_, s, hs⟩ := fnd_some hfd
        exact ⟨_, List.mem_of_getElem? hs, rfl, by simp⟩
  · rintro ⟨x, hx, rfl, _⟩
    rw [mget_mem hx hk]; rfl
/-- The next one: none is left, or one that is left comes, whichever. -/
theorem MI.next {P : Program} (h : MI enc w R B f lf n) (ty : TypeId) (hRB : R ≠ B) :
    ((Instr.next (.pointer (some ⟨R, 0, none⟩)) false ty).run P w = .ok (.tuple #[.bool false]) w ∧ ∀ a, lf a = false) ∨
    ∃ (a : κ) (v : Value) (w' : World) (n' : Nat), lf a = true ∧ f a = some v ∧ (Instr.next (.pointer (some ⟨R, 0, none⟩)) false ty).run P w = .ok (.tuple #[.bool true, enc a, v]) w' ∧
      MI enc w' R B f (fun b => if b = a then false else lf b) n' ∧ n' < n ∧ (Instr.entry (.pointer (some ⟨R, 0, none⟩))).run P w' = .ok (.tuple #[enc a, v]) w' ∧ Kp [R] w w' ∧ w'.heap.size = w.heap.size := by
  have hRl := h.lt
  obtain ⟨E, c, since, c0, seen, h1, h2, h3, h4, h5, h6, h7, h8, h8', h9, h10⟩ := h
  have hold : ∀ x ∈ ((E.map (ment enc)).toArray).toList, x.born < since := fun x hx => by
    simp only [List.mem_map] at hx
    obtain ⟨y, hy, rfl⟩ := hx
    exact h7 y hy
  rcases run_next_at (P := P) w ty R B since c0 seen _ c h6 h1 hold h8 with ⟨hz, hr⟩ | ⟨e, he, w1, hw1, hr⟩
  · refine .inl ⟨hr, fun a => ?_⟩
    have hall := all_seen _ _ hz
    cases hl : lf a with
    | false => rfl
    | true =>
      obtain ⟨x, hx, _, hs⟩ := (h9 a).1 hl
      have := hall (ment enc x) (by simp only [List.mem_map]; exact ⟨x, hx, rfl⟩)
      rw [show (ment enc x).born = x.2.2 from rfl, hs] at this; cases this
  · obtain ⟨hm, hs⟩ := mem_left he
    have hm' := hm
    simp only [List.mem_map] at hm'
    obtain ⟨x, hx, rfl⟩ := hm'
    have hBl : B < w.heap.size := by
      rcases Nat.lt_or_ge B w.heap.size with h | h
      · exact h
      · rw [Array.getElem?_eq_none h] at h1; cases h1
    have hw1h : w1.heap = w.heap := by rcases hw1 with rfl | rfl <;> rfl
    have hbR : (setBlock w1 R (.mapIter (some B) since (seen.push (ment enc x).born) c)).heap[R]? = some (.mapIter (some B) since (seen.push (ment enc x).born) c) := by
      simp [setBlock, hw1h, hRl]
    have hbo : ∀ k, k ≠ R → (setBlock w1 R (.mapIter (some B) since (seen.push (ment enc x).born) c)).heap[k]? = w.heap[k]? := fun k hk => by
      simp [setBlock, hw1h, Ne.symm hk]
    have hkey : f x.1 = some x.2.1 := by rw [← h5, mget_mem hx h4]
    have hnb : (((E.map (ment enc)).toArray).toList.map (·.born)).Nodup := by
      simp only [List.map_map]
      exact h2
    refine .inr ⟨x.1, x.2.1, setBlock w1 R (.mapIter (some B) since (seen.push (ment enc x).born) c), _, (h9 x.1).2 ⟨x, hx, rfl, hs⟩, hkey, hr, ⟨E, c, since, c, seen.push (ment enc x).born, (hbo B (Ne.symm hRB)).trans h1, h2, h3, h4, h5, hbR, h7, h8', h8', fun b => ?_, rfl⟩, by rw [h10]; exact left_shrinks _ _ _ he, run_entry_at _ R B since seen _ c _ hbR ((hbo B (Ne.symm hRB)).trans h1) hm hnb, ?_, by simp [setBlock, hw1h]⟩
    · show (if b = x.1 then false else lf b) = true ↔ _
      by_cases e : b = x.1
      · rw [if_pos e]
        constructor
        · intro h; cases h
        · rintro ⟨y, hy, hyb, hyc⟩
          have hyx : y = x := inj_ofMap h4 y hy x hx (hyb.trans e)
          subst hyx
          rw [contains_push] at hyc
          simp [ment] at hyc
      · rw [if_neg e, h9 b]
        constructor
        · rintro ⟨y, hy, hyb, hyc⟩
          refine ⟨y, hy, hyb, ?_⟩
          rw [contains_push, hyc, Bool.false_or]
          refine beq_eq_false_iff_ne.2 fun e2 => e ?_
          have : y = x := inj_ofMap h2 y hy x hx e2
          rw [← hyb, this]
        · rintro ⟨y, hy, hyb, hyc⟩
          rw [contains_push, Bool.or_eq_false_iff] at hyc
          exact ⟨y, hy, hyb, hyc.1⟩
    · exact ⟨by rcases hw1 with rfl | rfl <;> rfl, by rcases hw1 with rfl | rfl <;> rfl, by rcases hw1 with rfl | rfl <;> rfl, by simp [setBlock, hw1h], fun k _ hk => hbo k (by simpa using hk)⟩
end
end Go.Proofs.Ytcebejcdfdahjaa
