/-
  A law for a region that draws its order: first what yields in every world of a kind (the loads), then steps that keep the worlds of that kind, then a tail that comes last in every order (and may leave that kind).
-/
import Derived.StillTail
import Derived.OrdersHeld
import Derived.Deep.RegionHeld3
import Derived.StillTailTactics
namespace Go.Proofs.Ytogbanlfihabpaa
open Go

section
variable {P : Program} {md : Region.Mode} {S : World → Prop}

/-- The post of the part ahead of the tail. -/
def tailH (P : Program) (ops : Array Oper) (Q : Exit → Act → World → Prop) (tl : List Oper) : Exit → Act → World → Prop
  | .normal, a, w => wpList P ops Q tl a w
  | e, a, w => Q e a w
theorem upon_tailQ {ops : Array Oper} {Q : Exit → Act → World → Prop} {tl : List Oper} {o : Oper} {a : Act} {K : Act → World → Prop} {r : Result Next} (h : o.upon P a K (tailH P ops Q tl) r) : o.upon P a K Q r := by
  cases r with
  | ok n w' => cases n <;> exact h
  | halt x w' => cases x <;> exact h
def allOf (n : Nat) (f : Nat → Bool) : Bool := (List.range n).all f
theorem allOf_at {n i : Nat} {f : Nat → Bool} (h : allOf n f = true) (hi : i < n) : f i = true := List.all_eq_true.1 h i (List.mem_range.2 hi)
/-- The first n wait for earlier ones alone and have no guard; each of the others waits for all of the first n; then the others come up one by one. -/
def headOk (md : Region.Mode) (l : List Oper) (n : Nat) : Bool :=
  decide (n ≤ l.length) && (allOf n fun i => match l[i]? with
    | some o => o.guard.isNone && o.after.all fun e => !Region.binds md e || decide (e.on < i)
    | none => false) && (allOf l.length fun t => decide (t < n) || allOf n fun i => Region.waitsFor md l.toArray t i) &&
  Region.seqB md l.toArray (l.length - n) n (Array.replicate n true ++ Array.replicate (l.length - n) false)

/-- The same has come up. -/
structure Same (n m : Nat) (x y : Array Bool) : Prop where
  s0 : x.size = n
  s1 : y.size = m
  lo : ∀ i, i < n → y[i]? = x[i]?
  hi : ∀ i, n ≤ i → i < m → y[i]? = some false
theorem Same.set {n m i : Nat} {x y : Array Bool} (h : Same n m x y) (hi : i < n) : Same n m (x.setIfInBounds i true) (y.setIfInBounds i true) := by
  refine ⟨by simp [h.s0], by simp [h.s1], fun j hj => ?_, fun j hj hj2 => ?_⟩
  · have := h.lo j hj
    by_cases e : i = j
    · subst e
      have h1 := h.s0
      have h2 := h.s1
      have hx : x[i]? = some x[i] := Array.getElem?_eq_getElem (by omega)
      have hy : i < y.size := by
        rcases Nat.lt_or_ge i y.size with hl | hl
        · exact hl
        · rw [Array.getElem?_eq_none hl, hx] at this; cases this
      have hx2 : i < x.size := by omega
      simp [hy, hx2]
    · simp [e, this]
  · have := h.hi j hj hj2
    simp [show i ≠ j by omega, this]
theorem Same.getD {n m i : Nat} {x y : Array Bool} (h : Same n m x y) (hi : i < n) (d : Bool) : y.getD i d = x.getD i d := by
  simp only [Array.getD_eq_getD_getElem?, h.lo i hi]
theorem wpAny_more {ops : Array Oper} {Q : Exit → Act → World → Prop} (k : Nat) : ∀ (f : Nat) (x : Array Bool) (a : Act) (w : World), wpAny P md ops Q f x a w → wpAny P md ops Q (f + k) x a w
  | 0, x, a, w, h => by
    rw [Nat.zero_add]
    cases k with
    | zero => exact h
    | succ k => exact ⟨fun _ => h.2, fun i hi => by rw [h.1] at hi; cases hi⟩
  | f + 1, x, a, w, h => by
    rw [show f + 1 + k = f + k + 1 by omega]
    exact ⟨h.1, fun i hi => wpOp_mono (fun a' w' h' => wpAny_more k f _ a' w' h') (h.2 i hi)⟩
theorem head_split {Q : Exit → Act → World → Prop} {l : List Oper} {n : Nat} (hB : headOk md l n = true) : ∀ (f : Nat) (x y : Array Bool) (a : Act) (w : World), Same n l.length x y →
    wpAny P md (l.take n).toArray (tailH P l.toArray Q (l.drop n)) f x a w → wpAny P md l.toArray Q (f + (l.length - n)) y a w := by
  simp only [headOk, Bool.and_eq_true, decide_eq_true_eq] at hB
  obtain ⟨⟨⟨hn, hhd⟩, htl⟩, hsq⟩ := hB
  have sz0 : (l.take n).toArray.size = n := by simp; omega
  have op0 : ∀ i, i < n → (l.take n).toArray[i]? = l.toArray[i]? := fun i hi => by simp [hi]
  have hdo : ∀ i, i < n → ∃ o, l.toArray[i]? = some o ∧ o.guard = none ∧ ∀ e ∈ o.after, Region.binds md e = true → e.on < i := fun i hi => by
    have h1 := allOf_at hhd hi
    have hl : l.toArray[i]? = some l[i] := by simp [show i < l.length by omega]
    rw [List.getElem?_eq_getElem (by omega)] at h1
    simp only [Bool.and_eq_true, Option.isNone_iff_eq_none] at h1
    refine ⟨_, hl, h1.1, fun e he hb => ?_⟩
    have h2 := Array.all_eq_true_iff_forall_mem.1 h1.2 e he
    simpa [hb] using h2
  -- where nothing of the head may come up, all of it has
  have alld : ∀ x y, Same n l.length x y → Region.ready md (l.take n).toArray x = [] → ∀ i, i < n → x.getD i false = true := fun x y hs hr => by
    intro i
    induction i using Nat.strongRecOn with
    | _ i ih =>
      intro hi
      cases hx : x.getD i false with
      | true => rfl
      | false =>
        exfalso
        obtain ⟨o, ho, hg, ha⟩ := hdo i hi
        have : i ∈ Region.ready md (l.take n).toArray x := mem_ready.2 ⟨getD_in (by rw [hs.s0]; exact hi) hx, o, (op0 i hi).trans ho, fun e he hb => ih e.on (ha e he hb) (by have := ha e he hb; omega)⟩
        rw [hr] at this; cases this
  have step0 : ∀ x y, Same n l.length x y → ∀ a w, Region.ready md (l.take n).toArray x = [] → wpList P l.toArray Q (l.drop n) a w → wpAny P md l.toArray Q (l.length - n) y a w := fun x y hs a w hr h => by
    have hy : y = Array.replicate n true ++ Array.replicate (l.length - n) false := by
      refine Array.ext (by simp [hs.s1]; omega) fun i h1 h2 => ?_
      have e : y[i]? = some y[i] := Array.getElem?_eq_getElem h1
      by_cases hi : i < n
      · have h3 := alld x y hs hr i hi
        rw [hs.lo i hi] at e
        rw [Array.getD_eq_getD_getElem?, e] at h3
        simp only [Option.getD_some] at h3
        rw [h3, Array.getElem_append_left (by simpa using hi)]; simp
      · rw [hs.hi i (by omega) (by rw [← hs.s1]; exact h1)] at e
        simp only [Option.some.injEq] at e
        rw [← e, Array.getElem_append_right (by simp; omega)]; simp
    have := wpAny_of_seq (md := md) (P := P) (Q' := Q) (ops := l.toArray) (l.drop n) n y a w (fun j => by simp [List.getElem?_drop]) (by rw [hy, List.length_drop]; exact hsq) h
    rwa [List.length_drop] at this
  intro f
  induction f with
  | zero =>
    intro x y a w hs h
    rw [Nat.zero_add]
    exact step0 x y hs a w h.1 h.2
  | succ f ih =>
    intro x y a w hs h
    by_cases hr : Region.ready md (l.take n).toArray x = []
    · have := wpAny_more (f + 1) _ _ _ _ (step0 x y hs a w hr (h.1 hr))
      rwa [show l.length - n + (f + 1) = f + 1 + (l.length - n) by omega] at this
    · -- something of the head may come up: then the tail waits
      obtain ⟨i0, hi0⟩ := List.exists_mem_of_ne_nil _ hr
      obtain ⟨hu, o0, ho0, _⟩ := mem_ready.1 hi0
      have hi0n : i0 < n := by
        rcases Nat.lt_or_ge i0 n with hl | hl
        · exact hl
        · rw [Array.getElem?_eq_none (by rw [sz0]; exact hl)] at ho0; cases ho0
      have back : ∀ i ∈ Region.ready md l.toArray y, i < n ∧ i ∈ Region.ready md (l.take n).toArray x := fun i hi => by
        obtain ⟨h1, o, ho, ha⟩ := mem_ready.1 hi
        have hil : i < l.length := by
          have := (Array.getElem?_eq_some_iff.1 ho).1; simpa using this
        have hin : i < n := by
          rcases Nat.lt_or_ge i n with hl | hl
          · exact hl
          · exfalso
            have h2 := allOf_at htl hil
            simp only [Bool.or_eq_true, decide_eq_true_eq] at h2
            have h3 := allOf_at (h2.resolve_left (by omega)) hi0n
            obtain ⟨o', ho', e, he, hb, hon⟩ := Region.waitsFor_spec h3
            have : o' = o := Option.some.inj (ho'.symm.trans ho)
            subst this
            have h4 := ha e he hb
            rw [hon, hs.getD hi0n, getD_both hu] at h4
            cases h4
        refine ⟨hin, mem_ready.2 ⟨by rw [← hs.getD hin]; exact h1, o, (op0 i hin).trans ho, fun e he hb => ?_⟩⟩
        obtain ⟨o', ho', _, ha'⟩ := hdo i hin
        have : o' = o := Option.some.inj (ho'.symm.trans ho)
        subst this
        rw [← hs.getD (by have := ha' e he hb; omega)]
        exact ha e he hb
      rw [show f + 1 + (l.length - n) = f + (l.length - n) + 1 by omega]
      refine ⟨fun hr' => ?_, fun i hi => ?_⟩
      · exfalso
        have : i0 ∈ Region.ready md l.toArray y := by
          obtain ⟨o', ho', _, ha'⟩ := hdo i0 hi0n
          obtain ⟨_, o, ho, ha⟩ := mem_ready.1 hi0
          have e1 : o' = o := Option.some.inj (ho'.symm.trans ((op0 i0 hi0n).symm.trans ho))
          subst e1
          exact mem_ready.2 ⟨by rw [hs.getD hi0n]; exact hu, o', ho', fun e he hb => by rw [hs.getD (by have := ha' e he hb; omega)]; exact ha e he hb⟩
        rw [hr'] at this; cases this
      · obtain ⟨hin, hir⟩ := back i hi
        have h2 := h.2 i hir
        obtain ⟨o, ho, hg, _⟩ := hdo i hin
        have hw : ∀ g, Region.wanted o g = true := fun g => by simp [Region.wanted, hg]
        unfold wpOp at h2 ⊢
        simp only [op0 i hin, ho, hw, if_true] at h2 ⊢
        exact h2.imp (fun h3 => upon_tailQ (Oper.wp_mono (fun a' w' h' => ih _ _ a' w' (hs.set hin) h') h3)) fun h3 => h3
/-- What yields in every world of the kind. -/
def wpHead (P : Program) (ops : Array Oper) (S : World → Prop) (K : Act → Prop) : List Oper → Act → Prop
  | [], a => K a
  | o :: r, a => ∃ v, YieldsIf P ops S o v a ∧ wpHead P ops S K r (a.put o.dst v)
theorem wpHead_step {ops : Array Oper} {K : Act → Prop} {o : Oper} {r : List Oper} {a : Act} {v : Value} (hw : Region.wanted o (yielded ops a.tmps) = true) (hy : ∀ w, S w → (execOp a.eval o).run P w = .ok (.value v) w) (h : wpHead P ops S K r (a.put o.dst v)) : wpHead P ops S K (o :: r) a :=
  ⟨v, .inl ⟨hw, hy⟩, h⟩
/-- Steps that stay in the kind. -/
def wpMid (P : Program) (ops : Array Oper) (Q : Exit → Act → World → Prop) (S : World → Prop) (K : Act → World → Prop) : List Oper → Act → World → Prop
  | [], a, w => K a w
  | o :: r, a, w => ∀ K' : Act → World → Prop, (∀ a w, S w → wpMid P ops Q S K r a w → K' a w) → if Region.wanted o (yielded ops a.tmps) = true then Oper.wp P o a w K' Q else K' (a.put o.dst undef) w
theorem wpHead_nil {ops : Array Oper} {K : Act → Prop} {a : Act} (h : K a) : wpHead P ops S K [] a := h
theorem wpMid_nil {ops : Array Oper} {Q : Exit → Act → World → Prop} {K : Act → World → Prop} {a : Act} {w : World} (h : K a w) : wpMid P ops Q S K [] a w := h
theorem wpMid_step {ops : Array Oper} {Q : Exit → Act → World → Prop} {K : Act → World → Prop} {a : Act} {w : World} {o : Oper} {r : List Oper} (hw : Region.wanted o (yielded ops a.tmps) = true)
    (h : ∀ K' : Act → World → Prop, (∀ a w, S w → wpMid P ops Q S K r a w → K' a w) → Oper.wp P o a w K' Q) : wpMid P ops Q S K (o :: r) a w := fun K' hK => by
  rw [if_pos hw]; exact h K' hK
def headLex (md : Region.Mode) (ops : Array Oper) (g : Nat) : Nat → Nat → Array Bool → Bool
  | 0, k, x => Region.seqB md ops g k x
  | f + 1, k, x => (Region.ready md ops x).contains k && Region.free md ops x k && headLex md ops g f (k + 1) (x.setIfInBounds k true)
theorem mid_any {ops : Array Oper} {Q : Exit → Act → World → Prop} : ∀ (l : List Oper) (k : Nat) (x : Array Bool) (a : Act) (w : World), (∀ j, j < l.length → l[j]? = ops[k + j]?) → Region.seqB md ops l.length k x = true →
    wpMid P ops Q S (fun a w => Q .normal a w) l a w → wpAnyH P md ops Q S l.length x a w
  | [], k, x, a, w, _, hB, h => ⟨by simpa [Region.seqB] using hB, h⟩
  | o :: l, k, x, a, w, hl, hB, h => by
    have h0 : ops[k]? = some o := by simpa using (hl 0 (by simp)).symm
    simp only [List.length_cons, Region.seqB, Bool.and_eq_true, decide_eq_true_eq] at hB
    refine ⟨fun h1 => (by rw [hB.1] at h1; cases h1), fun i hi => ?_⟩
    rw [hB.1] at hi
    have hik : i = k := by simpa using hi
    subst hik
    exact wpOp_step h0 fun K' hK => h K' fun a' w' hS h' => hK a' w' ⟨hS, mid_any l (i + 1) _ a' w' (fun j hj => by have := hl (j + 1) (by simp; omega); simpa [Nat.add_assoc, Nat.add_comm 1 j] using this) hB.2 h'⟩
theorem head_any {ops : Array Oper} {Q : Exit → Act → World → Prop} {g : Nat} {K : Act → Prop} (hsel : Region.noSelect ops = true) (hQ : ∀ c a d v w, Q (.panic c) (Act.put a d v) w → Q (.panic c) a w) {w : World} (hS : S w)
    (hK : ∀ x a, Region.seqB md ops g (ops.size - g) x = true → K a → wpAnyH P md ops Q S g x a w) : ∀ (l : List Oper) (k : Nat) (x : Array Bool) (a : Act), (∀ j, j < l.length → l[j]? = ops[k + j]?) → k + l.length = ops.size - g → headLex md ops g l.length k x = true →
    wpHead P ops S K l a → wpAnyH P md ops Q S (l.length + g) x a w
  | [], k, x, a, _, hk, hB, h => by
    simp only [List.length_nil, Nat.zero_add, Nat.add_zero] at hk ⊢
    subst hk
    exact hK x a (by simpa [headLex] using hB) h
  | o :: l, k, x, a, hl, hk, hB, h => by
    have h0 : ops[k]? = some o := by simpa using (hl 0 (by simp)).symm
    simp only [List.length_cons, headLex, Bool.and_eq_true] at hB
    obtain ⟨v, hy, h'⟩ := h
    rw [show (o :: l).length + g = l.length + g + 1 by simp; omega]
    exact wpAnyH_take h0 hsel hB.1.2 hB.1.1 (fun c a w h => hQ c a _ _ w h) hy hS
      (head_any hsel hQ hS hK l (k + 1) _ _ (fun j hj => by have := hl (j + 1) (by simp; omega); simpa [Nat.add_assoc, Nat.add_comm 1 j] using this) (by simp only [List.length_cons] at hk; omega) hB.2 h')
/-- n operations of the head, then steps up to m, then the tail. -/
def hsOk (md : Region.Mode) (l : List Oper) (n m : Nat) : Bool :=
  headOk md l m && Region.noSelect (l.take m).toArray && decide (n ≤ m) && headLex md (l.take m).toArray (m - n) n 0 (Array.replicate m false)
theorem region_hs {id : Nat} {Q : Exit → Act → World → Prop} {a : Act} {w : World} {l : List Oper} (n m : Nat) (S : World → Prop) (hm : P.follows .mixedOrders = true) (hB : hsOk .any l n m = true)
    (hQ : ∀ c a d v w, Q (.panic c) (Act.put a d v) w → Q (.panic c) a w) (hS : S w.drew)
    (h : wpHead P (l.take m).toArray S (fun a' => wpMid P (l.take m).toArray (tailH P l.toArray Q (l.drop m)) S (fun a w => wpList P l.toArray Q (l.drop m) a w) ((l.take m).drop n) a' w.drew) (l.take n) a) : (Code.region id l.toArray true).wp P Q a w := by
  simp only [hsOk, Bool.and_eq_true, decide_eq_true_eq] at hB
  obtain ⟨⟨⟨hH, hsel⟩, hnm⟩, hlex⟩ := hB
  have hml : m ≤ l.length := by
    simp only [headOk, Bool.and_eq_true, decide_eq_true_eq] at hH
    exact hH.1.1.1
  have hsz : (l.take m).toArray.size = m := by simp; omega
  have htn : (l.take n).length = n := by simp; omega
  have hmid : ((l.take m).drop n).length = m - n := by simp; omega
  refine wp_region_any hm ?_
  have hany := head_any (g := m - n) (ops := (l.take m).toArray) (Q := tailH P l.toArray Q (l.drop m)) (w := w.drew) hsel (fun c a d v w h => hQ c a d v w h) hS (fun x a' hx hk => by
    rw [hsz, show m - (m - n) = n by omega] at hx
    have := mid_any (md := .any) (S := S) (ops := (l.take m).toArray) (Q := tailH P l.toArray Q (l.drop m)) ((l.take m).drop n) n x a' w.drew (fun j hj => by simp [List.getElem?_drop]) (by rw [hmid]; exact hx) hk
    rwa [hmid] at this) (l.take n) 0 (Array.replicate m false) a (fun j hj => by
      rw [htn] at hj
      simp [hj, show j < m by omega]) (by rw [htn, hsz]; omega) (by rw [htn]; exact hlex) h
  rw [htn, show n + (m - n) = m by omega] at hany
  have hsame : Same m l.length (Array.replicate m false) (Array.replicate l.length false) := by
    refine ⟨by simp, by simp, fun i hi => ?_, fun i h1 h2 => ?_⟩
    · simp [hi, show i < l.length by omega]
    · simp [h2]
  have := head_split hH m _ _ a w.drew hsame (wpAny_of_held _ _ _ _ hany)
  rw [show m + (l.length - m) = l.length by omega] at this
  simpa using this
end
end Go.Proofs.Ytogbanlfihabpaa
