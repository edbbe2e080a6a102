/-
  Plain: a net plugged with as many plain wires is itself.
-/
import Derived.Test.YtcebejcdfdahjaaPlugSame
namespace Go.Proofs.Ytcebejcdfdahjaa
open Go.RowKit
set_option linter.unusedVariables false

/-- Plain wires: so many; and the joins of all their first ends. -/
def lineW (f : Nat) : List (Pt × Pt) := (List.range f).map fun k : Nat => (((-1 : Int), (k : Int)), ((-1 : Int), ((f + k : Nat) : Int)))
def lineJ (f : Nat) : List (Int × Int) := (List.range f).map fun k : Nat => ((k : Int), (k : Int))
theorem lineJ_len (f : Nat) : (lineJ f).length = f := by simp [lineJ]
theorem lineW_len (f : Nat) : (lineW f).length = f := by simp [lineW]
theorem lineW_mem {f : Nat} {p q : Pt} : (p, q) ∈ lineW f ↔ ∃ k : Nat, k < f ∧ p = (-1, (k : Int)) ∧ q = (-1, ((f + k : Nat) : Int)) := by
  unfold lineW
  rw [List.mem_map]
  constructor
  · rintro ⟨k, hk, e⟩
    simp only [Prod.mk.injEq] at e
    exact ⟨k, List.mem_range.1 hk, e.1.symm, e.2.symm⟩
  · rintro ⟨k, hk, rfl, rfl⟩
    exact ⟨k, List.mem_range.2 hk, rfl⟩
theorem lineW_ends (f : Nat) : (ends (lineW f)).Nodup := by
  have key : ∀ k, k ≤ f → (ends ((List.range k).map fun i : Nat => ((((-1 : Int), (i : Int)), ((-1 : Int), ((f + i : Nat) : Int))) : Pt × Pt))).Nodup := by
    intro k
    induction k with
    | zero => intro _; simp [ends]
    | succ k ih =>
      intro hk
      rw [List.range_succ, List.map_append, ends_append, List.nodup_append]
      refine ⟨ih (by omega), by simp [ends]; omega, fun a ha b hb e => ?_⟩
      subst e
      simp only [ends, List.mem_flatMap, List.mem_map, List.mem_range] at ha
      obtain ⟨w, ⟨i, hi, rfl⟩, hw⟩ := ha
      simp [ends] at hb hw
      rcases hw with rfl | rfl <;> simp at hb <;> omega
  exact key f (Nat.le_refl _)
theorem line_lnk {f k : Nat} (hk : k < f) : lnk (lineW f) (-1, (k : Int)) = some (-1, ((f + k : Nat) : Int)) ∧ lnk (lineW f) (-1, ((f + k : Nat) : Int)) = some (-1, (k : Int)) :=
  ⟨(lnk_iff (lineW_ends f)).2 (.inl (lineW_mem.2 ⟨k, hk, rfl, rfl⟩)), (lnk_iff (lineW_ends f)).2 (.inr (lineW_mem.2 ⟨k, hk, rfl, rfl⟩))⟩
theorem line_ok (pn : Int → Nat) (f : Nat) : NetOk pn [] (2 * f) (lineW f) := by
  have hpt : ∀ s : Nat, s < 2 * f → isPt pn [] (2 * f) (-1, (s : Int)) = true := fun s hs => isPt_fr (by omega) (by omega)
  refine ⟨fun p hp => ?_, lineW_ends f, fun p hp => ?_⟩
  · obtain ⟨q, hq⟩ := mem_ends.1 hp
    rcases hq with hq | hq
    · obtain ⟨k, hk, rfl, _⟩ := lineW_mem.1 hq
      exact hpt k (by omega)
    · obtain ⟨k, hk, _, rfl⟩ := lineW_mem.1 hq
      exact hpt (f + k) (by omega)
  · unfold allPs freePs at hp
    simp only [cellPs, List.append_nil, List.mem_map, List.mem_range] at hp
    obtain ⟨k, hk, rfl⟩ := hp
    rcases Nat.lt_or_ge k f with h | h
    · exact mem_ends.2 ⟨_, .inl (lineW_mem.2 ⟨k, h, rfl, rfl⟩)⟩
    · exact mem_ends.2 ⟨(-1, ((k - f : Nat) : Int)), .inr (lineW_mem.2 ⟨k - f, by omega, rfl, by rw [show f + (k - f) = k by omega]⟩)⟩
theorem line_jok (f : Nat) : JOk f (2 * f) (lineJ f) := by
  have e1 : (lineJ f).map Prod.fst = (List.range f).map fun k : Nat => (k : Int) := by simp [lineJ]
  have e2 : (lineJ f).map Prod.snd = (List.range f).map fun k : Nat => (k : Int) := by simp [lineJ]
  have hn : ((List.range f).map fun k : Nat => (k : Int)).Nodup := nodup_mapOn List.nodup_range fun a _ b _ h => by omega
  refine ⟨fun j hj => ?_, by rw [e1]; exact hn, by rw [e2]; exact hn⟩
  unfold lineJ at hj
  obtain ⟨k, hk, rfl⟩ := List.mem_map.1 hj
  have := List.mem_range.1 hk
  exact ⟨by show (0 : Int) ≤ (k : Int); omega, by show (k : Int) < f; omega, by show (0 : Int) ≤ (k : Int); omega, by show (k : Int) < (2 * f : Nat); omega⟩
theorem line_tw {f k : Nat} (hk : k < f) : twJ (lineJ f) (false, (-1, (k : Int))) = some (true, (-1, (k : Int))) ∧ twJ (lineJ f) (true, (-1, (k : Int))) = some (false, (-1, (k : Int))) := by
  have hj := line_jok f
  have hs := twJ_spec (lineJ f) hj.a hj.b
  have hm : ((k : Int), (k : Int)) ∈ lineJ f := List.mem_map.2 ⟨k, List.mem_range.2 hk, rfl⟩
  exact ⟨(hs _ _).2 ⟨_, hm, .inl ⟨rfl, rfl⟩⟩, (hs _ _).2 ⟨_, hm, .inr ⟨rfl, rfl⟩⟩⟩
theorem line_tw0 {f k : Nat} (hk : f ≤ k) : twJ (lineJ f) (true, (-1, (k : Int))) = none := by
  have hj := line_jok f
  cases ht : twJ (lineJ f) (true, (-1, (k : Int))) with
  | none => rfl
  | some y =>
    obtain ⟨j, hm, (⟨e, _⟩ | ⟨e, _⟩)⟩ := (twJ_spec (lineJ f) hj.a hj.b _ _).1 ht
    · simp at e
    · obtain ⟨i, hi, rfl⟩ := List.mem_map.1 hm
      have := List.mem_range.1 hi
      simp at e
      omega
theorem line_left (f : Nat) : leftF f (2 * f) (lineJ f) = (List.range f).map fun k : Nat => ((true, ((-1 : Int), ((f + k : Nat) : Int))) : Sd) := by
  unfold leftF frS freePs
  rw [show 2 * f = f + f by omega, List.range_add, List.map_append, List.map_append, List.filter_append, List.filter_append]
  have h1 : ((List.map (fun k : Nat => ((-1 : Int), (k : Int))) (List.range f)).map fun p => ((false, p) : Sd)).filter (isL (lineJ f)) = [] := by
    refine List.filter_eq_nil_iff.2 fun x hx => ?_
    obtain ⟨p, hp, rfl⟩ := List.mem_map.1 hx
    obtain ⟨k, hk, rfl⟩ := List.mem_map.1 hp
    unfold isL
    rw [(line_tw (List.mem_range.1 hk)).1]
    simp
  have h2 : ((List.map (fun k : Nat => ((-1 : Int), (k : Int))) (List.range f)).map fun p => ((true, p) : Sd)).filter (isL (lineJ f)) = [] := by
    refine List.filter_eq_nil_iff.2 fun x hx => ?_
    obtain ⟨p, hp, rfl⟩ := List.mem_map.1 hx
    obtain ⟨k, hk, rfl⟩ := List.mem_map.1 hp
    unfold isL
    rw [(line_tw (List.mem_range.1 hk)).2]
    simp
  rw [h1, h2, List.nil_append, List.nil_append, List.map_map, List.map_map]
  refine List.filter_eq_self.2 fun x hx => ?_
  obtain ⟨k, hk, rfl⟩ := List.mem_map.1 hx
  show (twJ (lineJ f) (true, (-1, ((f + k : Nat) : Int)))).isNone = true
  rw [line_tw0 (by omega)]
  rfl
section
variable {pn : Int → Nat} {cs : List Int} {f : Nat} {W : List (Pt × Pt)}
theorem line_idx {k : Nat} (hk : k < f) : (leftF f (2 * f) (lineJ f)).idxOf ((true, ((-1 : Int), ((f + k : Nat) : Int))) : Sd) = k := by
  have hn := leftF_nodup (fA := f) (fB := 2 * f) (J := lineJ f)
  rw [line_left] at hn ⊢
  have := hn.idxOf_getElem k (by simpa using hk)
  simpa using this
/-- From a port of the net: two steps at most. -/
theorem line_step {q : Pt} (hq : isPt pn cs f q = true) (hok : NetOk pn cs f W) : ∃ e, chain (twJ (lineJ f)) (nxS W (lineW f)) (if q.1 < 0 then 2 else 1) (false, q) = some e ∧ toS cs.length f (2 * f) (lineJ f) e = q := by
  by_cases h : q.1 < 0
  · rw [if_pos h]
    obtain ⟨j, hj, rfl⟩ : ∃ j : Nat, j < f ∧ q = (-1, (j : Int)) := by
      unfold isPt at hq
      by_cases h1 : q.1 = -1
      · rw [if_pos h1, decide_eq_true_eq] at hq
        exact ⟨q.2.toNat, by omega, Prod.ext h1 (by show q.2 = ((q.2.toNat : Nat) : Int); omega)⟩
      · rw [if_neg h1, decide_eq_true_eq] at hq; omega
    refine ⟨(true, (-1, ((f + j : Nat) : Int))), ?_, ?_⟩
    · rw [chain, (line_tw hj).1]
      simp only
      have e1 : nxS W (lineW f) (true, (-1, (j : Int))) = (true, (-1, ((f + j : Nat) : Int))) := by
        unfold nxS lkT
        rw [if_pos rfl, (line_lnk hj).1]; rfl
      rw [e1, chain, line_tw0 (by omega)]
    · unfold toS
      rw [if_pos (by show (-1 : Int) < 0; omega), line_idx hj]
  · rw [if_neg h]
    refine ⟨(false, q), ?_, ?_⟩
    · rw [chain, tw_cell (x := (false, q)) h (line_jok f)]
    · unfold toS
      rw [if_neg h]
      simp
theorem line_end {x : Sd} (hx : x ∈ leftS pn cs [] f (2 * f) (lineJ f)) (hok : NetOk pn cs f W) : toS cs.length f (2 * f) (lineJ f) (endS W (lineW f) (lineJ f) x) = lkT (lnk W) (toS cs.length f (2 * f) (lineJ f) x) := by
  have fin : ∀ (n : Nat) (e : Sd) (q : Pt), n ≤ 2 * f + 1 → chain (twJ (lineJ f)) (nxS W (lineW f)) n (nxS W (lineW f) x) = some e → toS cs.length f (2 * f) (lineJ f) e = q → toS cs.length f (2 * f) (lineJ f) (endS W (lineW f) (lineJ f) x) = q := fun n e q hn hc ht => by
    unfold endS
    rw [lineJ_len, chain_le hn hc]
    exact ht
  have hfr : ∀ q : Pt, isPt pn cs f q = true → q.1 < 0 → 1 ≤ f := fun q hq h => by
    unfold isPt at hq
    by_cases h1 : q.1 = -1
    · rw [if_pos h1, decide_eq_true_eq] at hq; omega
    · rw [if_neg h1, decide_eq_true_eq] at hq; omega
  unfold leftS at hx
  rw [line_left] at hx
  simp only [cellPs, List.map_nil, List.append_nil, List.mem_append, List.mem_map, List.mem_range] at hx
  rcases hx with ⟨k, hk, rfl⟩ | ⟨p, hp, rfl⟩
  · have hto : toS cs.length f (2 * f) (lineJ f) (true, (-1, ((f + k : Nat) : Int))) = (-1, (k : Int)) := by
      unfold toS
      rw [if_pos (by show (-1 : Int) < 0; omega), line_idx hk]
    rw [hto]
    have hpk : isPt pn cs f (-1, (k : Int)) = true := isPt_fr (by omega) (by omega)
    have hq := (nx_pt hok hpk).1
    obtain ⟨e, hc, ht⟩ := line_step hq hok
    have e1 : nxS W (lineW f) (true, (-1, ((f + k : Nat) : Int))) = (true, (-1, (k : Int))) := by
      unfold nxS lkT
      rw [if_pos rfl, (line_lnk hk).2]; rfl
    have e2 : nxS W (lineW f) (false, (-1, (k : Int))) = (false, lkT (lnk W) (-1, (k : Int))) := by
      unfold nxS
      rw [if_neg (by simp)]
    refine fin ((if (lkT (lnk W) (-1, (k : Int))).1 < 0 then 2 else 1) + 1) e _ (by split <;> omega) ?_ ht
    rw [e1, chain, (line_tw hk).2]
    simp only
    rw [e2]
    exact hc
  · obtain ⟨c, s, _, _, rfl⟩ := cellPs_mem pn hp
    have hpt : isPt pn cs f (((0 + c : Nat) : Int), (s : Int)) = true := allPs_mem.1 (by unfold allPs; exact List.mem_append.2 (.inr hp))
    have hto : toS cs.length f (2 * f) (lineJ f) (false, (((0 + c : Nat) : Int), (s : Int))) = (((0 + c : Nat) : Int), (s : Int)) := by
      unfold toS
      rw [if_neg (by show ¬ ((0 + c : Nat) : Int) < 0; omega)]
      simp
    rw [hto]
    have hq := (nx_pt hok hpt).1
    obtain ⟨e, hc, ht⟩ := line_step hq hok
    have e2 : nxS W (lineW f) (false, (((0 + c : Nat) : Int), (s : Int))) = (false, lkT (lnk W) (((0 + c : Nat) : Int), (s : Int))) := by
      unfold nxS
      rw [if_neg (by simp)]
    refine fin (if (lkT (lnk W) (((0 + c : Nat) : Int), (s : Int))).1 < 0 then 2 else 1) e _ ?_ (by rw [e2]; exact hc) ht
    split
    · rename_i h
      have := hfr _ hq h
      omega
    · omega
/-- P3.6: plugged with as many plain wires: itself, tidy. -/
theorem line_same (hok : NetOk pn cs f W) : (leftF f (2 * f) (lineJ f)).length = f ∧ tidyF (allPs pn (cs ++ []) f) (mP pn cs [] f (2 * f) W (lineW f) (lineJ f)) = tidyW (allPs pn cs f) W := by
  have hlen : (leftF f (2 * f) (lineJ f)).length = f := by rw [line_left]; simp
  refine ⟨hlen, ?_⟩
  have hal := allPs_left (pn := pn) (csA := cs) (csB := []) (fA := f) (fB := 2 * f) (J := lineJ f)
  rw [hlen] at hal
  rw [tidyW_F, List.append_nil]
  rw [List.append_nil] at hal
  refine tidyF_congr fun p hp => ?_
  have hpt := allPs_mem.1 hp
  rw [hal] at hp
  obtain ⟨x, hx, rfl⟩ := List.mem_map.1 hp
  rw [mP_at hx, line_end hx hok]
  obtain ⟨q, hq, _⟩ := hok.lnk hpt
  unfold lkT
  rw [hq]
  rfl
end
end Go.Proofs.Ytcebejcdfdahjaa
