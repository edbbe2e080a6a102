/-
  Plain: both answers give the same wires; how many ports are left.
-/
import Derived.Test.YtcebejcdfdahjaaPlugNets
/-
  Plain: the ports that are left, as ports of the net that comes.
-/
namespace Go.Proofs.Ytcebejcdfdahjaa
open Go.RowKit
set_option linter.unusedVariables false

/-- The free ports of both nets. -/
def frS (fA fB : Nat) : List Sd := (freePs fA).map (fun p => (false, p)) ++ (freePs fB).map (fun p => (true, p))
def isL (J : List (Int × Int)) (x : Sd) : Bool := (twJ J x).isNone
def leftF (fA fB : Nat) (J : List (Int × Int)) : List Sd := (frS fA fB).filter (isL J)
section
variable (pn : Int → Nat) (csA csB : List Int) (fA fB : Nat) (J : List (Int × Int))
/-- The ports that are left, in order. -/
def leftS : List Sd := leftF fA fB J ++ ((cellPs pn 0 csA).map (fun p => (false, p)) ++ (cellPs pn 0 csB).map (fun p => (true, p)))
/-- What a port that is left is called in the net that comes. -/
def toS (nA fA fB : Nat) (J : List (Int × Int)) (x : Sd) : Pt := if x.2.1 < 0 then (-1, ((leftF fA fB J).idxOf x : Int)) else (x.2.1 + (if x.1 = true then (nA : Int) else 0), x.2.2)
variable {pn csA csB fA fB J}
theorem nodup_mapOn {α β : Type} {f : α → β} {l : List α} (hl : l.Nodup) (h : ∀ a ∈ l, ∀ b ∈ l, f a = f b → a = b) : (l.map f).Nodup := by
  induction l with
  | nil => exact List.nodup_nil
  | cons a r ih =>
    obtain ⟨h1, h2⟩ := List.nodup_cons.1 hl
    refine List.nodup_cons.2 ⟨fun hm => ?_, ih h2 fun x hx y hy => h x (by simp [hx]) y (by simp [hy])⟩
    obtain ⟨b, hb, e⟩ := List.mem_map.1 hm
    exact h1 ((h b (by simp [hb]) a (by simp) e) ▸ hb)
theorem inj_ofMap {α β : Type} {f : α → β} {l : List α} (h : (l.map f).Nodup) : ∀ a ∈ l, ∀ b ∈ l, f a = f b → a = b := by
  induction l with
  | nil => intro a ha; simp at ha
  | cons x r ih =>
    obtain ⟨h1, h2⟩ := List.nodup_cons.1 h
    intro a ha b hb e
    rcases List.mem_cons.1 ha with ea | ha
    · rcases List.mem_cons.1 hb with eb | hb
      · rw [ea, eb]
      · exact absurd (show f x ∈ r.map f by rw [← ea, e]; exact List.mem_map_of_mem hb) h1
    · rcases List.mem_cons.1 hb with eb | hb
      · exact absurd (show f x ∈ r.map f by rw [← eb, ← e]; exact List.mem_map_of_mem ha) h1
      · exact ih h2 a ha b hb e
theorem nodup_ofMap {α β : Type} {f : α → β} {l : List α} (h : (l.map f).Nodup) : l.Nodup := by
  induction l with
  | nil => exact List.nodup_nil
  | cons x r ih =>
    obtain ⟨h1, h2⟩ := List.nodup_cons.1 h
    exact List.nodup_cons.2 ⟨fun hm => h1 (List.mem_map_of_mem (f := f) hm), ih h2⟩
theorem freePs_nodup (f : Nat) : (freePs f).Nodup := by
  unfold freePs
  refine nodup_mapOn List.nodup_range fun a _ b _ h => ?_
  simp only [Prod.mk.injEq, true_and] at h
  omega
theorem frS_nodup (fA fB : Nat) : (frS fA fB).Nodup := by
  refine List.nodup_append.2 ⟨nodup_mapOn (freePs_nodup fA) fun a _ b _ h => by simpa using h, nodup_mapOn (freePs_nodup fB) fun a _ b _ h => by simpa using h, fun x hx y hy e => ?_⟩
  obtain ⟨p, _, rfl⟩ := List.mem_map.1 hx
  obtain ⟨q, _, e2⟩ := List.mem_map.1 hy
  rw [← e] at e2
  simp at e2
theorem leftF_nodup : (leftF fA fB J).Nodup := (frS_nodup fA fB).sublist List.filter_sublist
theorem cellPs_append (pn : Int → Nat) (c : Nat) (l k : List Int) : cellPs pn c (l ++ k) = cellPs pn c l ++ cellPs pn (c + l.length) k := by
  induction l generalizing c with
  | nil => simp [cellPs]
  | cons a r ih =>
    simp only [List.cons_append, cellPs, ih, List.append_assoc, List.length_cons]
    rw [show c + 1 + r.length = c + (r.length + 1) by omega]
theorem cellPs_shift (pn : Int → Nat) (c d : Nat) (l : List Int) : cellPs pn (c + d) l = (cellPs pn c l).map fun p => (p.1 + (d : Int), p.2) := by
  induction l generalizing c with
  | nil => rfl
  | cons a r ih =>
    simp only [cellPs, List.map_append, List.map_map]
    rw [show c + d + 1 = c + 1 + d by omega, ih]
    congr 1
theorem map_idxOf {α : Type} [BEq α] [LawfulBEq α] {l : List α} (h : l.Nodup) : l.map (fun x => l.idxOf x) = List.range l.length := by
  refine List.ext_getElem (by simp) fun i h1 h2 => ?_
  simp only [List.getElem_map, List.getElem_range]
  exact h.idxOf_getElem i (by simpa using h1)
theorem leftF_mem {x : Sd} (h : x ∈ leftF fA fB J) : x.2.1 = -1 ∧ twJ J x = none := by
  obtain ⟨h1, h2⟩ := List.mem_filter.1 h
  refine ⟨?_, by simpa [isL] using h2⟩
  rcases List.mem_append.1 h1 with h1 | h1
  all_goals
    obtain ⟨p, hp, rfl⟩ := List.mem_map.1 h1
    unfold freePs at hp
    obtain ⟨k, _, rfl⟩ := List.mem_map.1 hp
    rfl
theorem allPs_left : allPs pn (csA ++ csB) (leftF fA fB J).length = (leftS pn csA csB fA fB J).map (toS csA.length fA fB J) := by
  unfold allPs leftS
  rw [List.map_append, List.map_append, cellPs_append]
  congr 1
  · unfold freePs
    rw [← map_idxOf (leftF_nodup (fA := fA) (fB := fB) (J := J)), List.map_map]
    refine List.map_congr_left fun x hx => ?_
    unfold toS
    rw [if_pos (by rw [(leftF_mem hx).1]; omega)]
    rfl
  · congr 1
    · rw [List.map_map]
      conv => lhs; rw [← List.map_id (cellPs pn 0 csA)]
      refine List.map_congr_left fun p hp => ?_
      obtain ⟨c, k, _, _, rfl⟩ := cellPs_mem pn hp
      simp only [Function.comp, toS, id_eq]
      rw [if_neg (by omega)]
      simp
    · rw [cellPs_shift, List.map_map]
      refine List.map_congr_left fun p hp => ?_
      obtain ⟨c, k, _, _, rfl⟩ := cellPs_mem pn hp
      simp only [Function.comp, toS]
      rw [if_neg (by omega)]
      simp
theorem leftS_nodup : (leftS pn csA csB fA fB J).Nodup := by
  have h : ((leftS pn csA csB fA fB J).map (toS csA.length fA fB J)).Nodup := by rw [← allPs_left]; exact allPs_nodup pn _ _
  exact nodup_ofMap h
theorem toS_inj {x y : Sd} (hx : x ∈ leftS pn csA csB fA fB J) (hy : y ∈ leftS pn csA csB fA fB J) (e : toS csA.length fA fB J x = toS csA.length fA fB J y) : x = y := by
  have h : ((leftS pn csA csB fA fB J).map (toS csA.length fA fB J)).Nodup := by rw [← allPs_left]; exact allPs_nodup pn _ _
  exact inj_ofMap h x hx y hy e
/-- Which sides are left. -/
theorem leftS_mem {x : Sd} : x ∈ leftS pn csA csB fA fB J ↔ isSd pn csA csB fA fB x ∧ (x.2.1 < 0 → twJ J x = none) := by
  obtain ⟨b, p⟩ := x
  have hfr : ∀ f : Nat, ∀ q : Pt, q ∈ freePs f ↔ q.1 = -1 ∧ 0 ≤ q.2 ∧ q.2 < f := fun f q => by
    unfold freePs
    rw [List.mem_map]
    constructor
    · rintro ⟨k, hk, rfl⟩
      have := List.mem_range.1 hk
      exact ⟨rfl, by show (0 : Int) ≤ (k : Int); omega, by show (k : Int) < f; omega⟩
    · rintro ⟨h1, h2, h3⟩
      exact ⟨q.2.toNat, List.mem_range.2 (by omega), Prod.ext h1.symm (by show ((q.2.toNat : Nat) : Int) = q.2; omega)⟩
  have hal : ∀ cs : List Int, ∀ f : Nat, ∀ q : Pt, isPt pn cs f q = true ↔ q ∈ freePs f ∨ q ∈ cellPs pn 0 cs := fun cs f q => by
    rw [← allPs_mem]; unfold allPs; rw [List.mem_append]
  have hc0 : ∀ cs : List Int, ∀ q : Pt, q ∈ cellPs pn 0 cs → ¬ q.1 < 0 := fun cs q hq => by
    obtain ⟨c, k, _, _, rfl⟩ := cellPs_mem pn hq
    show ¬ ((0 + c : Nat) : Int) < 0
    omega
  unfold leftS leftF frS isSd
  rw [List.mem_append, List.mem_append, List.mem_filter, List.mem_append]
  cases b
  · have m1 : ((false, p) : Sd) ∈ (freePs fA).map (fun p => ((false, p) : Sd)) ↔ p ∈ freePs fA := by simp
    have m2 : ((false, p) : Sd) ∈ (freePs fB).map (fun p => ((true, p) : Sd)) ↔ False := by simp
    have m3 : ((false, p) : Sd) ∈ (cellPs pn 0 csA).map (fun p => ((false, p) : Sd)) ↔ p ∈ cellPs pn 0 csA := by simp
    have m4 : ((false, p) : Sd) ∈ (cellPs pn 0 csB).map (fun p => ((true, p) : Sd)) ↔ False := by simp
    rw [m1, m2, m3, m4]
    constructor
    · rintro (⟨h1 | h1, h2⟩ | h1 | h1)
      · exact ⟨⟨fun _ => (hal _ _ _).2 (.inl h1), fun h => by simp at h⟩, fun _ => by simpa [isL] using h2⟩
      · exact h1.elim
      · exact ⟨⟨fun _ => (hal _ _ _).2 (.inr h1), fun h => by simp at h⟩, fun h => absurd h (hc0 _ _ h1)⟩
      · exact h1.elim
    · rintro ⟨⟨h1, _⟩, h2⟩
      rcases (hal _ _ _).1 (h1 rfl) with h1 | h1
      · have h3 := h2 (by show p.1 < 0; rw [((hfr _ _).1 h1).1]; omega)
        exact .inl ⟨.inl h1, by simp [isL, h3]⟩
      · exact .inr (.inl h1)
  · have m1 : ((true, p) : Sd) ∈ (freePs fA).map (fun p => ((false, p) : Sd)) ↔ False := by simp
    have m2 : ((true, p) : Sd) ∈ (freePs fB).map (fun p => ((true, p) : Sd)) ↔ p ∈ freePs fB := by simp
    have m3 : ((true, p) : Sd) ∈ (cellPs pn 0 csA).map (fun p => ((false, p) : Sd)) ↔ False := by simp
    have m4 : ((true, p) : Sd) ∈ (cellPs pn 0 csB).map (fun p => ((true, p) : Sd)) ↔ p ∈ cellPs pn 0 csB := by simp
    rw [m1, m2, m3, m4]
    constructor
    · rintro (⟨h1 | h1, h2⟩ | h1 | h1)
      · exact h1.elim
      · exact ⟨⟨fun h => by simp at h, fun _ => (hal _ _ _).2 (.inl h1)⟩, fun _ => by simpa [isL] using h2⟩
      · exact h1.elim
      · exact ⟨⟨fun h => by simp at h, fun _ => (hal _ _ _).2 (.inr h1)⟩, fun h => absurd h (hc0 _ _ h1)⟩
    · rintro ⟨⟨_, h1⟩, h2⟩
      rcases (hal _ _ _).1 (h1 rfl) with h1 | h1
      · have h3 := h2 (by show p.1 < 0; rw [((hfr _ _).1 h1).1]; omega)
        exact .inl ⟨.inr h1, by simp [isL, h3]⟩
      · exact .inr (.inr h1)
/-- A cell's port is never joined. -/
theorem tw_cell {x : Sd} (h : ¬ x.2.1 < 0) (hJ : JOk fA fB J) : twJ J x = none := by
  cases ht : twJ J x with
  | none => rfl
  | some y =>
    obtain ⟨j, hj, (⟨rfl, _⟩ | ⟨rfl, _⟩)⟩ := (twJ_spec J hJ.a hJ.b x y).1 ht
    · exact absurd (show (-1 : Int) < 0 by omega) h
    · exact absurd (show (-1 : Int) < 0 by omega) h
theorem end_left {WA WB : List (Pt × Pt)} (hA : NetOk pn csA fA WA) (hB : NetOk pn csB fB WB) (hJ : JOk fA fB J) {x : Sd} (hx : x ∈ leftS pn csA csB fA fB J) : endS WA WB J x ∈ leftS pn csA csB fA fB J := by
  obtain ⟨h1, h2⟩ := leftS_mem.1 hx
  have h0 : twJ J x = none := by
    by_cases h : x.2.1 < 0
    · exact h2 h
    · exact tw_cell h hJ
  obtain ⟨_, h3, h4⟩ := endS_is hA hB hJ h1 h0
  exact leftS_mem.2 ⟨h4, fun _ => h3⟩
end
end Go.Proofs.Ytcebejcdfdahjaa
namespace Go.Proofs.Ytcebejcdfdahjaa
open Go.RowKit
set_option linter.unusedVariables false

section
variable {pn : Int → Nat} {csA csB : List Int} {fA fB : Nat} {WA WB : List (Pt × Pt)} {J : List (Int × Int)}
/-- What the code's map holds in the end. -/
def mP (pn : Int → Nat) (csA csB : List Int) (fA fB : Nat) (WA WB : List (Pt × Pt)) (J : List (Int × Int)) (p : Pt) : Option Pt :=
  ((leftS pn csA csB fA fB J).find? fun x => decide (toS csA.length fA fB J x = p)).map fun x => toS csA.length fA fB J (endS WA WB J x)
/-- What the answer's list holds in the end. -/
def outP (pn : Int → Nat) (csA csB : List Int) (fA fB : Nat) (WA WB : List (Pt × Pt)) (J : List (Int × Int)) : List Int :=
  (leftS pn csA csB fA fB J).map fun x => ((leftS pn csA csB fA fB J).idxOf (endS WA WB J x) : Int)
theorem find_self {α : Type} {l : List α} {f : α → Bool} {x : α} (hx : x ∈ l) (h : f x = true) (hu : ∀ y ∈ l, f y = true → y = x) : l.find? f = some x := by
  cases hf : l.find? f with
  | none => exact absurd h (by simpa using List.find?_eq_none.1 hf x hx)
  | some y =>
    have := hu y (List.mem_of_find?_eq_some hf) (List.find?_some hf)
    rw [this]
theorem mP_at {x : Sd} (hx : x ∈ leftS pn csA csB fA fB J) : mP pn csA csB fA fB WA WB J (toS csA.length fA fB J x) = some (toS csA.length fA fB J (endS WA WB J x)) := by
  unfold mP
  rw [find_self hx (by simp) fun y hy h => toS_inj hy hx (by simpa using h)]
  rfl
theorem outP_len : (outP pn csA csB fA fB WA WB J).length = (leftS pn csA csB fA fB J).length := by simp [outP]
theorem plc_left {x : Sd} (hx : x ∈ leftS pn csA csB fA fB J) : plc pn (csA ++ csB) (leftF fA fB J).length (toS csA.length fA fB J x) = (leftS pn csA csB fA fB J).idxOf x ∧ isPt pn (csA ++ csB) (leftF fA fB J).length (toS csA.length fA fB J x) = true := by
  have hi := List.idxOf_lt_length_iff.2 hx
  have hm : toS csA.length fA fB J x ∈ allPs pn (csA ++ csB) (leftF fA fB J).length := by rw [allPs_left]; exact List.mem_map_of_mem hx
  refine ⟨plc_at pn ?_, allPs_mem.1 hm⟩
  rw [allPs_left, List.getElem?_map, List.getElem?_eq_getElem hi, List.getElem_idxOf]
  rfl
theorem plug_wires (hA : NetOk pn csA fA WA) (hB : NetOk pn csB fB WB) (hJ : JOk fA fB J) :
    refW (allPs pn (csA ++ csB) (leftF fA fB J).length) (outP pn csA csB fA fB WA WB J) (outP pn csA csB fA fB WA WB J).length = tidyF (allPs pn (csA ++ csB) (leftF fA fB J).length) (mP pn csA csB fA fB WA WB J) := by
  have hlen : (outP pn csA csB fA fB WA WB J).length = (allPs pn (csA ++ csB) (leftF fA fB J).length).length := by rw [outP_len, allPs_left, List.length_map]
  rw [hlen]
  unfold refW tidyF
  have e : (allPs pn (csA ++ csB) (leftF fA fB J).length) = (List.range (allPs pn (csA ++ csB) (leftF fA fB J).length).length).map fun i => (allPs pn (csA ++ csB) (leftF fA fB J).length).getD i default := by
    refine List.ext_getElem (by simp) fun i h1 h2 => ?_
    simp [List.getD_eq_getElem?_getD, h1]
  conv => rhs; rw [e, List.filterMap_map]
  refine filterMap_congr' fun i hi => ?_
  have hi := List.mem_range.1 hi
  rw [allPs_left, List.length_map] at hi
  have hx := List.getElem_mem hi
  generalize hxe : (leftS pn csA csB fA fB J)[i] = x at hx
  have hidx : (leftS pn csA csB fA fB J).idxOf x = i := by rw [← hxe]; exact leftS_nodup.idxOf_getElem i hi
  have hy := end_left hA hB hJ hx
  generalize hye : endS WA WB J x = y at hy
  have hyl := List.idxOf_lt_length_iff.2 hy
  have g1 : (allPs pn (csA ++ csB) (leftF fA fB J).length).getD i default = toS csA.length fA fB J x := by
    rw [allPs_left, List.getD_eq_getElem?_getD, List.getElem?_map, List.getElem?_eq_getElem hi, hxe]; rfl
  have g2 : (outP pn csA csB fA fB WA WB J).getD i 0 = ((leftS pn csA csB fA fB J).idxOf y : Int) := by
    unfold outP
    rw [List.getD_eq_getElem?_getD, List.getElem?_map, List.getElem?_eq_getElem hi, hxe, ← hye]; rfl
  have g3 : (allPs pn (csA ++ csB) (leftF fA fB J).length).getD ((leftS pn csA csB fA fB J).idxOf y) default = toS csA.length fA fB J y := by
    rw [allPs_left, List.getD_eq_getElem?_getD, List.getElem?_map, List.getElem?_eq_getElem hyl, List.getElem_idxOf]; rfl
  simp only [Function.comp]
  rw [g1, g2, Int.toNat_natCast, g3, mP_at hx, hye]
  simp only
  obtain ⟨p1, p2⟩ := plc_left hx
  obtain ⟨q1, q2⟩ := plc_left hy
  have hb := bef_plc pn p2 q2
  rw [p1, q1, hidx] at hb
  rw [hb]
  by_cases h : i < (leftS pn csA csB fA fB J).idxOf y
  · rw [if_pos (by omega), if_pos (decide_eq_true h)]
  · rw [if_neg (by omega), if_neg (by simpa using h)]
/-- So many free ports are left. -/
theorem leftF_len (hJ : JOk fA fB J) : (leftF fA fB J).length + 2 * J.length = fA + fB := by
  have h1 : (leftF fA fB J).length + ((frS fA fB).filter fun x => !isL J x).length = (frS fA fB).length := by
    unfold leftF
    have : ∀ l : List Sd, (l.filter (isL J)).length + (l.filter fun x => !isL J x).length = l.length := fun l => by
      induction l with
      | nil => rfl
      | cons a r ih =>
        rw [List.filter_cons, List.filter_cons]
        cases isL J a <;> simp <;> omega
    exact this _
  have h2 : (frS fA fB).length = fA + fB := by simp [frS, freePs]
  have hdn : (domJ J).Nodup := by
    have ha := hJ.a
    have hb := hJ.b
    clear hJ h1 h2
    induction J with
    | nil => exact List.nodup_nil
    | cons j r ih =>
      simp only [List.map_cons, List.nodup_cons] at ha hb
      have hi := ih ha.2 hb.2
      have e : domJ (j :: r) = (false, (-1, j.1)) :: (true, (-1, j.2)) :: domJ r := rfl
      rw [e]
      refine List.nodup_cons.2 ⟨fun hm => ?_, List.nodup_cons.2 ⟨fun hm => ?_, hi⟩⟩
      · rcases List.mem_cons.1 hm with h | h
        · simp at h
        · obtain ⟨k, hk, h⟩ := List.mem_flatMap.1 h
          simp at h
          exact ha.1 (h ▸ List.mem_map_of_mem (f := Prod.fst) hk)
      · obtain ⟨k, hk, h⟩ := List.mem_flatMap.1 hm
        simp at h
        exact hb.1 (h ▸ List.mem_map_of_mem (f := Prod.snd) hk)
  have hs := twJ_spec J hJ.a hJ.b
  have h3 : ∀ x, x ∈ domJ J ↔ x ∈ (frS fA fB).filter fun x => !isL J x := fun x => by
    rw [List.mem_filter]
    constructor
    · intro h
      obtain ⟨j, hj, h⟩ := List.mem_flatMap.1 h
      obtain ⟨r1, r2, r3, r4⟩ := hJ.r j hj
      have hfr : ∀ (f : Nat) (s : Int), 0 ≤ s → s < f → ((-1, s) : Pt) ∈ freePs f := fun f s h0 h1 => by
        unfold freePs
        exact List.mem_map.2 ⟨s.toNat, List.mem_range.2 (by omega), Prod.ext rfl (by show ((s.toNat : Nat) : Int) = s; omega)⟩
      simp only [List.mem_cons, List.not_mem_nil, or_false] at h
      rcases h with rfl | rfl
      · have ht := (hs (false, (-1, j.1)) _).2 ⟨j, hj, .inl ⟨rfl, rfl⟩⟩
        exact ⟨List.mem_append.2 (.inl (List.mem_map.2 ⟨_, hfr _ _ r1 r2, rfl⟩)), by simp [isL, ht]⟩
      · have ht := (hs (true, (-1, j.2)) _).2 ⟨j, hj, .inr ⟨rfl, rfl⟩⟩
        exact ⟨List.mem_append.2 (.inr (List.mem_map.2 ⟨_, hfr _ _ r3 r4, rfl⟩)), by simp [isL, ht]⟩
    · rintro ⟨_, h⟩
      cases ht : twJ J x with
      | none => simp [isL, ht] at h
      | some y => exact domJ_mem hJ ht
  have h4 := nodup_in hdn fun x hx => (h3 x).1 hx
  have h5 := nodup_in ((frS_nodup fA fB).sublist (List.filter_sublist (p := fun x => !isL J x))) fun x hx => (h3 x).2 hx
  rw [domJ_len] at h4 h5
  omega
end
end Go.Proofs.Ytcebejcdfdahjaa
