/-
  Plain: two nets and their joins: what Plug computes, by sides and ports.
-/
import Derived.Test.YtcebejcdfdahjaaNetBuild
import Derived.Test.YtcebejcdfdahjaaNetPlain
/-
  Plain: along links and joins: a walk that starts at a port that is not joined comes to another one.
-/
namespace Go.Proofs.Ytcebejcdfdahjaa
open Go.RowKit
set_option linter.unusedVariables false

abbrev Sd := Bool × Pt
/-- So many steps at most: along joins and links, till a port that is not joined. -/
def chain (tw : Sd → Option Sd) (nx : Sd → Sd) : Nat → Sd → Option Sd
  | 0, _ => none
  | k + 1, y => match tw y with
    | none => some y
    | some z => chain tw nx k (nx z)
theorem nodup_in {α : Type} [DecidableEq α] {l k : List α} (hl : l.Nodup) (hs : ∀ x ∈ l, x ∈ k) : l.length ≤ k.length := by
  induction l generalizing k with
  | nil => simp
  | cons a r ih =>
    have ha := hs a (by simp)
    obtain ⟨h1, h2⟩ := List.nodup_cons.1 hl
    have h3 := ih (k := k.erase a) h2 fun x hx => (List.mem_erase_of_ne (fun e => h1 (by rw [← e]; exact hx))).2 (hs x (by simp [hx]))
    have h4 := List.length_erase_of_mem ha
    have h5 : 0 < k.length := List.length_pos_of_mem ha
    simp only [List.length_cons]
    omega
/-- Links and joins that go both ways. -/
structure Way (V : Sd → Prop) (tw : Sd → Option Sd) (nx : Sd → Sd) : Prop where
  nv : ∀ x, V x → V (nx x)
  nn : ∀ x, V x → nx (nx x) = x
  tv : ∀ x y, tw x = some y → V y
  tt : ∀ x y, tw x = some y → tw y = some x
section
variable {V : Sd → Prop} {tw : Sd → Option Sd} {nx : Sd → Sd}
theorem chain_mono {k : Nat} : ∀ {y e : Sd}, chain tw nx k y = some e → chain tw nx (k + 1) y = some e := by
  induction k with
  | zero => intro y e h; cases h
  | succ k ih =>
    intro y e h
    rw [chain] at h ⊢
    cases ht : tw y with
    | none => rw [ht] at h; simpa using h
    | some z =>
      rw [ht] at h
      simp only at h ⊢
      exact ih h
theorem chain_le {k m : Nat} (hkm : k ≤ m) {y e : Sd} (h : chain tw nx k y = some e) : chain tw nx m y = some e := by
  induction hkm with
  | refl => exact h
  | step _ ih => exact chain_mono ih
theorem chain_end {k : Nat} : ∀ {y e : Sd}, chain tw nx k y = some e → tw e = none := by
  induction k with
  | zero => intro y e h; cases h
  | succ k ih =>
    intro y e h
    rw [chain] at h
    cases ht : tw y with
    | none => rw [ht] at h; simp only [Option.some.injEq] at h; rw [← h]; exact ht
    | some z => rw [ht] at h; exact ih h
theorem chain_v (hw : Way V tw nx) {k : Nat} : ∀ {y e : Sd}, V y → chain tw nx k y = some e → V e := by
  induction k with
  | zero => intro y e _ h; cases h
  | succ k ih =>
    intro y e hy h
    rw [chain] at h
    cases ht : tw y with
    | none => rw [ht] at h; simp only [Option.some.injEq] at h; rw [← h]; exact hy
    | some z => rw [ht] at h; exact ih (hw.nv _ (hw.tv _ _ ht)) h
theorem chain_ends (hw : Way V tw nx) {D : List Sd} (hD : ∀ x y, tw x = some y → x ∈ D) {x : Sd} (hx : V x) (h0 : tw x = none) :
    ∀ (n : Nat) (Vis : List Sd) (y : Sd), V y → y ∉ Vis → Vis.Nodup → (∀ u ∈ Vis, u ∈ D) → (∀ u, u = y ∨ u ∈ Vis → u = nx x ∨ ∃ v z, v ∈ Vis ∧ tw v = some z ∧ u = nx z) → D.length + 1 ≤ Vis.length + n → ∃ e, chain tw nx n y = some e := by
  intro n
  induction n with
  | zero =>
    intro Vis y _ _ hn hs _ hl
    have := nodup_in hn hs
    omega
  | succ n ih =>
    intro Vis y hy hny hn hs hp hl
    rw [chain]
    cases ht : tw y with
    | none => exact ⟨y, rfl⟩
    | some z =>
      have hz := hw.tv _ _ ht
      have hback := hw.tt _ _ ht
      refine ih (y :: Vis) (nx z) (hw.nv _ hz) ?_ (List.nodup_cons.2 ⟨hny, hn⟩) ?_ ?_ (by simp only [List.length_cons]; omega)
      · intro hm
        have hm' : nx z = y ∨ nx z ∈ Vis := by simpa using hm
        rcases hp _ hm' with e | ⟨v, z', hv, hv2, e⟩
        · have : z = x := by rw [← hw.nn z hz, e, hw.nn x hx]
          rw [this] at hback
          rw [h0] at hback; cases hback
        · have hz' := hw.tv _ _ hv2
          have : z = z' := by rw [← hw.nn z hz, e, hw.nn z' hz']
          rw [this, hw.tt _ _ hv2] at hback
          simp only [Option.some.injEq] at hback
          exact hny (hback ▸ hv)
      · intro u hu
        rcases List.mem_cons.1 hu with rfl | hu
        · exact hD _ _ ht
        · exact hs u hu
      · intro u hu
        rcases hu with rfl | hu
        · exact .inr ⟨y, z, by simp, ht, rfl⟩
        · have hu' : u = y ∨ u ∈ Vis := by simpa using hu
          rcases hp u hu' with e | ⟨v, z', hv, hv2, e⟩
          · exact .inl e
          · exact .inr ⟨v, z', by simp [hv], hv2, e⟩
theorem chain_some (hw : Way V tw nx) {D : List Sd} (hD : ∀ x y, tw x = some y → x ∈ D) {x : Sd} (hx : V x) (h0 : tw x = none) : ∃ e, chain tw nx (D.length + 1) (nx x) = some e ∧ tw e = none ∧ V e := by
  obtain ⟨e, he⟩ := chain_ends hw hD hx h0 (D.length + 1) [] (nx x) (hw.nv _ hx) (by simp) List.nodup_nil (by simp) (fun u hu => .inl (by simpa using hu)) (by simp)
  exact ⟨e, he, chain_end he, chain_v hw (hw.nv _ hx) he⟩
end
end Go.Proofs.Ytcebejcdfdahjaa
namespace Go.Proofs.Ytcebejcdfdahjaa
open Go.RowKit
set_option linter.unusedVariables false

/-- What a port of either net is linked to. -/
def nxS (WA WB : List (Pt × Pt)) (x : Sd) : Sd := if x.1 = true then (true, lkT (lnk WB) x.2) else (false, lkT (lnk WA) x.2)
/-- What a port is joined with. -/
def twJ : List (Int × Int) → Sd → Option Sd
  | [], _ => none
  | j :: r, x => if x = (false, (-1, j.1)) then some (true, (-1, j.2)) else if x = (true, (-1, j.2)) then some (false, (-1, j.1)) else twJ r x
/-- Joins that do. -/
structure JOk (fA fB : Nat) (J : List (Int × Int)) : Prop where
  r : ∀ j ∈ J, 0 ≤ j.1 ∧ j.1 < fA ∧ 0 ≤ j.2 ∧ j.2 < fB
  a : (J.map Prod.fst).Nodup
  b : (J.map Prod.snd).Nodup
theorem twJ_spec (J : List (Int × Int)) (ha : (J.map Prod.fst).Nodup) (hb : (J.map Prod.snd).Nodup) (x y : Sd) :
    twJ J x = some y ↔ ∃ j ∈ J, (x = (false, (-1, j.1)) ∧ y = (true, (-1, j.2))) ∨ (x = (true, (-1, j.2)) ∧ y = (false, (-1, j.1))) := by
  induction J with
  | nil => simp [twJ]
  | cons j r ih =>
    simp only [List.map_cons, List.nodup_cons] at ha hb
    have ih := ih ha.2 hb.2
    rw [twJ]
    by_cases h1 : x = (false, (-1, j.1))
    · rw [if_pos h1]
      constructor
      · intro h
        simp only [Option.some.injEq] at h
        exact ⟨j, by simp, .inl ⟨h1, h.symm⟩⟩
      · rintro ⟨k, hk, (⟨e1, e2⟩ | ⟨e1, e2⟩)⟩
        · rw [h1] at e1
          simp only [Prod.mk.injEq, true_and] at e1
          rcases List.mem_cons.1 hk with rfl | hk
          · rw [e2]
          · exact absurd (e1 ▸ List.mem_map_of_mem (f := Prod.fst) hk) ha.1
        · rw [h1] at e1
          simp at e1
    · rw [if_neg h1]
      by_cases h2 : x = (true, (-1, j.2))
      · rw [if_pos h2]
        constructor
        · intro h
          simp only [Option.some.injEq] at h
          exact ⟨j, by simp, .inr ⟨h2, h.symm⟩⟩
        · rintro ⟨k, hk, (⟨e1, e2⟩ | ⟨e1, e2⟩)⟩
          · rw [h2] at e1
            simp at e1
          · rw [h2] at e1
            simp only [Prod.mk.injEq, true_and] at e1
            rcases List.mem_cons.1 hk with rfl | hk
            · rw [e2]
            · exact absurd (e1 ▸ List.mem_map_of_mem (f := Prod.snd) hk) hb.1
      · rw [if_neg h2, ih]
        constructor
        · rintro ⟨k, hk, h⟩
          exact ⟨k, by simp [hk], h⟩
        · rintro ⟨k, hk, h⟩
          rcases List.mem_cons.1 hk with rfl | hk
          · rcases h with ⟨e, _⟩ | ⟨e, _⟩
            · exact absurd e h1
            · exact absurd e h2
          · exact ⟨k, hk, h⟩
/-- The sides that are ports. -/
def isSd (pn : Int → Nat) (csA csB : List Int) (fA fB : Nat) (x : Sd) : Prop := (x.1 = false → isPt pn csA fA x.2 = true) ∧ (x.1 = true → isPt pn csB fB x.2 = true)
theorem isPt_fr {pn : Int → Nat} {cs : List Int} {f : Nat} {s : Int} (h0 : 0 ≤ s) (h1 : s < f) : isPt pn cs f (-1, s) = true := by
  unfold isPt
  rw [if_pos rfl, decide_eq_true_eq]
  exact ⟨h0, h1⟩
section
variable {pn : Int → Nat} {csA csB : List Int} {fA fB : Nat} {WA WB : List (Pt × Pt)} {J : List (Int × Int)}
theorem nx_pt {cs : List Int} {f : Nat} {W : List (Pt × Pt)} (h : NetOk pn cs f W) {p : Pt} (hp : isPt pn cs f p = true) : isPt pn cs f (lkT (lnk W) p) = true ∧ lkT (lnk W) (lkT (lnk W) p) = p := by
  obtain ⟨q, hq, hi⟩ := h.lnk hp
  have e : lkT (lnk W) p = q := by unfold lkT; rw [hq]; rfl
  rw [e]
  refine ⟨hi, ?_⟩
  unfold lkT
  rw [lnk_sym h.nodup hq]
  rfl
theorem way_nets (hA : NetOk pn csA fA WA) (hB : NetOk pn csB fB WB) (hJ : JOk fA fB J) : Way (isSd pn csA csB fA fB) (twJ J) (nxS WA WB) := by
  have hs := twJ_spec J hJ.a hJ.b
  refine ⟨fun x hx => ?_, fun x hx => ?_, fun x y h => ?_, fun x y h => ?_⟩
  · obtain ⟨b, p⟩ := x
    cases b
    · exact ⟨fun _ => (nx_pt hA (hx.1 rfl)).1, fun h => by simp [nxS] at h⟩
    · exact ⟨fun h => by simp [nxS] at h, fun _ => (nx_pt hB (hx.2 rfl)).1⟩
  · obtain ⟨b, p⟩ := x
    cases b
    · have := (nx_pt hA (hx.1 rfl)).2
      simp only [nxS, Bool.false_eq_true, if_false] at this ⊢
      rw [this]
    · have := (nx_pt hB (hx.2 rfl)).2
      simp only [nxS, if_true] at this ⊢
      rw [this]
  · obtain ⟨j, hj, h⟩ := (hs x y).1 h
    obtain ⟨r1, r2, r3, r4⟩ := hJ.r j hj
    rcases h with ⟨_, rfl⟩ | ⟨_, rfl⟩
    · exact ⟨fun h => by simp at h, fun _ => isPt_fr r3 r4⟩
    · exact ⟨fun _ => isPt_fr r1 r2, fun h => by simp at h⟩
  · obtain ⟨j, hj, h⟩ := (hs x y).1 h
    refine (hs y x).2 ⟨j, hj, ?_⟩
    rcases h with ⟨h1, h2⟩ | ⟨h1, h2⟩
    · exact .inr ⟨h2, h1⟩
    · exact .inl ⟨h2, h1⟩
/-- All that is joined. -/
def domJ (J : List (Int × Int)) : List Sd := J.flatMap fun j => [(false, (-1, j.1)), (true, (-1, j.2))]
theorem domJ_len (J : List (Int × Int)) : (domJ J).length = 2 * J.length := by
  unfold domJ
  induction J with
  | nil => rfl
  | cons j r ih => simp only [List.flatMap_cons, List.length_append, ih, List.length_cons, List.length_nil]; omega
theorem domJ_mem (hJ : JOk fA fB J) {x y : Sd} (h : twJ J x = some y) : x ∈ domJ J := by
  obtain ⟨j, hj, h⟩ := (twJ_spec J hJ.a hJ.b x y).1 h
  refine List.mem_flatMap.2 ⟨j, hj, ?_⟩
  rcases h with ⟨rfl, _⟩ | ⟨rfl, _⟩ <;> simp
/-- Where a walk from a port that is left ends. -/
def endS (WA WB : List (Pt × Pt)) (J : List (Int × Int)) (x : Sd) : Sd := (chain (twJ J) (nxS WA WB) (2 * J.length + 1) (nxS WA WB x)).getD (false, (0, 0))
theorem endS_is (hA : NetOk pn csA fA WA) (hB : NetOk pn csB fB WB) (hJ : JOk fA fB J) {x : Sd} (hx : isSd pn csA csB fA fB x) (h0 : twJ J x = none) :
    chain (twJ J) (nxS WA WB) (2 * J.length + 1) (nxS WA WB x) = some (endS WA WB J x) ∧ twJ J (endS WA WB J x) = none ∧ isSd pn csA csB fA fB (endS WA WB J x) := by
  obtain ⟨e, h1, h2, h3⟩ := chain_some (way_nets hA hB hJ) (D := domJ J) (fun x y h => domJ_mem hJ h) hx h0
  rw [domJ_len] at h1
  have : endS WA WB J x = e := by unfold endS; rw [h1]; rfl
  rw [this]
  exact ⟨h1, h2, h3⟩
end
end Go.Proofs.Ytcebejcdfdahjaa
