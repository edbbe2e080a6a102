/-
  Plain: the parts of a net share nothing, leave nothing out, and each is what is found from each of its ports.
-/
import Derived.Test.YtogbanlfihabpaaPartsDoc2
namespace Go.Proofs.Ytogbanlfihabpaa
open Go.RowKit
set_option linter.unusedVariables false
theorem addC_mem {l : List Int} {c x : Int} (h : x ∈ addC l c) : x ∈ l ∨ (x = c ∧ 0 ≤ c) := by
  unfold addC at h
  split at h
  · rename_i h1
    rcases List.mem_append.1 h with h | h
    · exact .inl h
    · simp at h; exact .inr ⟨h, h1.1⟩
  · exact .inl h
section
variable {S : Int → Prop}
theorem visit_sub {R : List Pt} {l : List Int} (hl : ∀ x ∈ l, S x) (hR : ∀ q ∈ R, 0 ≤ q.1 → S q.1) : ∀ x ∈ visit R l, S x := by
  unfold visit visitK
  rw [List.take_length]
  induction R generalizing l with
  | nil => exact hl
  | cons q r ih =>
    refine ih (l := addC l q.1) (fun x hx => ?_) (fun q' hq' => hR q' (by simp [hq']))
    rcases addC_mem hx with h | ⟨rfl, h⟩
    · exact hl x h
    · exact hR q (by simp) h
theorem walkF_sub {row : Int → List Pt} (hc : ∀ c, S c → ∀ q ∈ row c, 0 ≤ q.1 → S q.1) : ∀ (g i : Nat) (l : List Int), (∀ x ∈ l, S x) → ∀ x ∈ walkF row g i l, S x
  | 0, i, l, hl => hl
  | g + 1, i, l, hl => by
    by_cases hi : i < l.length
    · rw [walkF_step hi]
      refine walkF_sub hc g (i + 1) _ (visit_sub hl (hc _ (hl _ ?_)))
      rw [List.getD_eq_getElem?_getD, List.getElem?_eq_getElem hi]; exact List.getElem_mem hi
    · rw [walkF_done (by omega)]; exact hl
theorem wlk_least {pn : Int → Nat} {cs : List Int} {Lk : Pt → Pt} {p : Pt} (h0 : 0 ≤ (startP Lk p).1 → S (startP Lk p).1) (hc : ∀ c, S c → ∀ q ∈ rowP pn cs Lk c, 0 ≤ q.1 → S q.1) : ∀ x ∈ wlk pn cs Lk p, S x := by
  unfold wlk walkL
  refine walkF_sub hc _ _ _ fun x hx => ?_
  rcases addC_mem hx with h | ⟨rfl, h⟩
  · cases h
  · exact h0 h
end
/-- Every port that the walk looks at leads to a cell that it finds. -/
theorem wlk_looks {pn : Int → Nat} {cs : List Int} {Lk : Pt → Pt} {p : Pt} (hL : ∀ x, (Lk x).1 < cs.length) (hs : (startP Lk p).1 < cs.length) : ∀ q ∈ startP Lk p :: (wlk pn cs Lk p).flatMap (rowP pn cs Lk), q.1 < 0 ∨ q.1 ∈ wlk pn cs Lk p := fun q hq => by
  have hx := wlk_fix (pn := pn) hL hs
  rcases Int.lt_or_le q.1 0 with h | h
  · exact .inl h
  · right
    have := mem_visit (R := startP Lk p :: (wlk pn cs Lk p).flatMap (rowP pn cs Lk)) (l := []) (x := q.1)
    rw [hx] at this
    exact this.2 (.inr ⟨h, q, hq, rfl⟩)
def bel (q : Pa) (p : Pt) : Prop := if p.1 < 0 then p.2 ∈ q.2 else p.1 ∈ q.1
theorem inPa_bel {l : List Pa} {p : Pt} : inPa l p ↔ ∃ q ∈ l, bel q p := by
  unfold inPa bel
  split <;> rfl
theorem bel_cell {q : Pa} {c s : Int} (h : 0 ≤ c) : bel q (c, s) ↔ c ∈ q.1 := by
  unfold bel
  rw [if_neg (by show ¬ c < 0; omega)]
theorem bel_free {q : Pa} {s : Int} : bel q (-1, s) ↔ s ∈ q.2 := by
  unfold bel
  rw [if_pos (by show (-1 : Int) < 0; decide)]
theorem frL_same {f : Nat} {Lk : Pt → Pt} {p p' : Pt} {l l' : List Int} (h : ∀ i, i < f → (frC Lk p l i = true ↔ frC Lk p' l' i = true)) : frL f Lk p l = frL f Lk p' l' := by
  induction f with
  | zero => rfl
  | succ f ih =>
    have h1 := ih fun i hi => h i (by omega)
    cases e : frC Lk p l f with
    | true => rw [frL_in e, frL_in ((h f (by omega)).1 e), h1]
    | false =>
      have e2 : frC Lk p' l' f = false := by
        cases e3 : frC Lk p' l' f with
        | true => rw [(h f (by omega)).2 e3] at e; cases e
        | false => rfl
      rw [frL_out e, frL_out e2, h1]
section
variable {pn : Int → Nat} {cells : List Int} {f : Nat} {W : List (Pt × Pt)} {p q r : Pt}
theorem wlk_fd (h : NetOk pn cells f W) (hp : isPt pn cells f p = true) : Fnd cells.length (wlk pn cells (lkM W) p) := wlk_fnd (lkM_lt h) (isPt_lt (startP_is h hp))
theorem wlk_shut (h : NetOk pn cells f W) (hp : isPt pn cells f p = true) {c : Int} (hc : c ∈ wlk pn cells (lkM W) p) {x : Pt} (hx : x ∈ rowP pn cells (lkM W) c) (h0 : 0 ≤ x.1) : x.1 ∈ wlk pn cells (lkM W) p := by
  rcases wlk_looks (lkM_lt h) (isPt_lt (startP_is h hp)) x (List.mem_cons_of_mem _ (List.mem_flatMap.2 ⟨c, hc, hx⟩)) with h1 | h1
  · omega
  · exact h1
theorem wlk_same (h : NetOk pn cells f W) (hp : isPt pn cells f p = true) (hq : isPt pn cells f q = true) (hm : (startP (lkM W) q).1 ∈ wlk pn cells (lkM W) p) (x : Int) : x ∈ wlk pn cells (lkM W) p ↔ x ∈ wlk pn cells (lkM W) q := by
  have sub : ∀ {a b : Pt}, isPt pn cells f a = true → (startP (lkM W) b).1 ∈ wlk pn cells (lkM W) a → ∀ y ∈ wlk pn cells (lkM W) b, y ∈ wlk pn cells (lkM W) a := fun {a b} ha hb => wlk_least (fun _ => hb) fun c hc z hz h0 => wlk_shut h ha hc hz h0
  have hq0 := ((wlk_fd h hp).lt _ hm).1
  have hback : (startP (lkM W) p).1 ∈ wlk pn cells (lkM W) q := by
    rcases Classical.em ((startP (lkM W) p).1 ∈ wlk pn cells (lkM W) q) with h1 | h1
    · exact h1
    · exfalso
      have hp0 : 0 ≤ (startP (lkM W) p).1 := by
        rcases Int.lt_or_le (startP (lkM W) p).1 0 with h2 | h2
        · rw [wlk_none h2] at hm; cases hm
        · exact h2
      have key : ∀ y ∈ wlk pn cells (lkM W) p, (0 ≤ y ∧ y < cells.length) ∧ y ∉ wlk pn cells (lkM W) q := by
        refine wlk_least (S := fun y => (0 ≤ y ∧ y < cells.length) ∧ y ∉ wlk pn cells (lkM W) q) (fun h0 => ⟨⟨h0, isPt_lt (startP_is h hp)⟩, h1⟩) ?_
        rintro c ⟨⟨hc0, hcn⟩, hcm⟩ z hz hz0
        obtain ⟨c, rfl⟩ := Int.eq_ofNat_of_zero_le hc0
        obtain ⟨k, hk, rfl⟩ := List.mem_map.1 hz
        have hk2 := List.mem_range.1 hk
        rw [Int.toNat_natCast] at hk2
        have hpt : isPt pn cells f ((c : Int), (k : Int)) = true := isPt_cell f (by omega) hk2
        have hz2 := (lkM_eq h hpt).2
        refine ⟨⟨hz0, isPt_lt hz2⟩, fun hzm => hcm ?_⟩
        obtain ⟨c', s', e, hc', hs'⟩ := isPt_split hz2 hz0
        have hin : ((c : Int), (k : Int)) ∈ rowP pn cells (lkM W) (lkM W ((c : Int), (k : Int))).1 := by
          unfold rowP
          refine List.mem_map.2 ⟨s', ?_, ?_⟩
          · rw [e, Int.toNat_natCast]; exact List.mem_range.2 hs'
          · have h5 := lkM_inv h hpt
            rw [e] at h5 ⊢
            exact h5
        exact wlk_shut h hq hzm hin (by show (0 : Int) ≤ c; omega)
      exact (key _ hm).2 (wlk_start hq0)
  exact ⟨sub hq hback x, sub hp hm x⟩
theorem part_ext (h : ∀ x, x ∈ wlk pn cells (lkM W) p ↔ x ∈ wlk pn cells (lkM W) q) {c : Int} (hc : c ∈ wlk pn cells (lkM W) p) : partOf pn cells f (lkM W) p = partOf pn cells f (lkM W) q := by
  have n1 : wlk pn cells (lkM W) p ≠ [] := fun e => by rw [e] at hc; cases hc
  have n2 : wlk pn cells (lkM W) q ≠ [] := fun e => by have := (h c).1 hc; rw [e] at this; cases this
  unfold partOf
  rw [sorted_same (srtC cells.length (wlk pn cells (lkM W) p)) (srtC cells.length (wlk pn cells (lkM W) q)) (srtC_lt _ _) (srtC_lt _ _) fun x => by rw [srtC_mem, srtC_mem, h], frL_same (p' := q) (l' := wlk pn cells (lkM W) q) fun i hi => ?_]
  unfold frC
  simp only [decide_eq_true_eq, h, n1, n2, false_and]
theorem start_cell (h0 : 0 ≤ p.1) : startP (lkM W) p = p := by unfold startP; rw [if_neg (by omega)]
theorem start_free (h0 : p.1 < 0) : startP (lkM W) p = lkM W p := by unfold startP; rw [if_pos h0]
/-- A port of a part: the part is its own. -/
theorem part_same (h : NetOk pn cells f W) (hp : isPt pn cells f p = true) (hr : isPt pn cells f r = true) (hb : bel (partOf pn cells f (lkM W) p) r) : partOf pn cells f (lkM W) p = partOf pn cells f (lkM W) r := by
  by_cases h0 : r.1 < 0
  · obtain ⟨i, rfl, hi⟩ := isPt_lo hr h0
    have hm := (frL_mem hi).1 (bel_free.1 hb)
    unfold frC at hm
    rw [decide_eq_true_eq] at hm
    rcases hm with ⟨h1, h2⟩ | ⟨h1, h2⟩
    · rw [← start_free (W := W) h0] at h2
      exact part_ext (wlk_same h hp hr h2) h2
    · rcases h2 with h2 | h2
      · rw [h2]
      · have hp0 : p.1 < 0 := by
          rcases Int.lt_or_le p.1 0 with h3 | h3
          · exact h3
          · have := wlk_start (pn := pn) (cs := cells) (Lk := lkM W) (p := p) (by rw [start_cell h3]; exact h3)
            rw [h1] at this; cases this
        have h4 : wlk pn cells (lkM W) (-1, (i : Int)) = [] := wlk_none (by rw [start_free h0, h2]; exact hp0)
        unfold partOf
        rw [h1, h4, frL_same fun j hj => ?_]
        have hpj : isPt pn cells f (-1, (j : Int)) = true := isPt_fr hj
        have i1 := lkM_inv h hpj
        have i2 := lkM_inv h hp
        have i3 := lkM_inv h hr
        unfold frC
        simp only [decide_eq_true_eq, List.not_mem_nil, and_false, false_or, true_and]
        constructor
        · rintro (e | e)
          · right; rw [e, ← h2, i3]
          · left; rw [← i1, e, ← h2, i3]
        · rintro (e | e)
          · right; rw [e, h2]
          · left; rw [← i1, e, h2]
  · obtain ⟨c, s, rfl, hc, hs⟩ := isPt_split hr (by omega)
    have h2 := (srtC_mem.1 ((bel_cell (by omega)).1 hb)).1
    have hst : startP (lkM W) ((c : Int), (s : Int)) = ((c : Int), (s : Int)) := start_cell (by show (0 : Int) ≤ c; omega)
    have h3 : (startP (lkM W) ((c : Int), (s : Int))).1 ∈ wlk pn cells (lkM W) p := by rw [hst]; exact h2
    exact part_ext (wlk_same h hp hr h3) h3
theorem part_self (h : NetOk pn cells f W) (hp : isPt pn cells f p = true) : bel (partOf pn cells f (lkM W) p) p := by
  obtain ⟨q, hq, hb⟩ := inPa_bel.1 (partOf_has h hp [])
  simp at hq; subst hq; exact hb
/-- What a port is linked to is of its part. -/
theorem part_link (h : NetOk pn cells f W) (hp : isPt pn cells f p = true) : bel (partOf pn cells f (lkM W) p) (lkM W p) := by
  have hq := (lkM_eq h hp).2
  have hinv := lkM_inv h hp
  by_cases h0 : (lkM W p).1 < 0
  · obtain ⟨i, e, hi⟩ := isPt_lo hq h0
    rw [e] at hinv ⊢
    refine bel_free.2 ((frL_mem hi).2 ?_)
    unfold frC
    rw [decide_eq_true_eq, hinv]
    by_cases hp0 : p.1 < 0
    · exact .inr ⟨wlk_none (by rw [start_free hp0]; exact h0), .inr rfl⟩
    · left
      have := wlk_start (pn := pn) (cs := cells) (Lk := lkM W) (p := p) (by rw [start_cell (by omega)]; omega)
      rw [start_cell (by omega)] at this
      exact ⟨by omega, this⟩
  · have hl := isPt_lt hq
    have hm : (lkM W p).1 ∈ wlk pn cells (lkM W) p := by
      by_cases hp0 : p.1 < 0
      · have := wlk_start (pn := pn) (cs := cells) (Lk := lkM W) (p := p) (by rw [start_free hp0]; omega)
        rw [start_free hp0] at this; exact this
      · obtain ⟨c, s, rfl, hc, hs⟩ := isPt_split hp (by omega)
        have hst : startP (lkM W) ((c : Int), (s : Int)) = ((c : Int), (s : Int)) := start_cell (by show (0 : Int) ≤ c; omega)
        have h1 := wlk_start (pn := pn) (cs := cells) (Lk := lkM W) (p := ((c : Int), (s : Int))) (by rw [hst]; show (0 : Int) ≤ c; omega)
        rw [hst] at h1
        refine wlk_shut h hp h1 (List.mem_map.2 ⟨s, ?_, rfl⟩) (by omega)
        show s ∈ List.range (pn (cells.getD ((c : Int).toNat) 0))
        rw [Int.toNat_natCast]; exact List.mem_range.2 hs
    show bel _ ((lkM W p).1, (lkM W p).2)
    exact (bel_cell (by omega)).2 (srtC_mem.2 ⟨hm, by omega, by omega⟩)
/-- The parts: each of a port, no two with a port in common. -/
structure PaOk (pn : Int → Nat) (cells : List Int) (f : Nat) (W : List (Pt × Pt)) (Q : List Pa) : Prop where
  of : ∀ x ∈ Q, ∃ p, isPt pn cells f p = true ∧ x = partOf pn cells f (lkM W) p
  dj : Q.Pairwise fun x y => ∀ r, isPt pn cells f r = true → bel x r → ¬ bel y r
theorem PaOk.step (h : NetOk pn cells f W) {Q : List Pa} (hQ : PaOk pn cells f W Q) (hp : isPt pn cells f p = true) : PaOk pn cells f W (stepP pn cells f (lkM W) Q p) := by
  by_cases h1 : inPa Q p
  · rw [stepP_in h1]; exact hQ
  · rw [stepP_new h1]
    refine ⟨fun x hx => ?_, List.pairwise_append.2 ⟨hQ.dj, by simp, fun x hx y hy r hr hb hb2 => h1 (inPa_bel.2 ⟨x, hx, ?_⟩)⟩⟩
    · rcases List.mem_append.1 hx with hx | hx
      · exact hQ.of x hx
      · simp at hx; exact ⟨p, hp, hx⟩
    · simp at hy; subst hy
      obtain ⟨p', hp', rfl⟩ := hQ.of x hx
      rw [part_same h hp' hr hb, ← part_same h hp hr hb2]
      exact part_self h hp
theorem stepP_pre (Q : List Pa) : Q <+: stepP pn cells f (lkM W) Q p := by
  unfold stepP
  split
  · exact List.prefix_refl _
  · exact List.prefix_append _ _
theorem PaOk.all (h : NetOk pn cells f W) : ∀ (ps : List Pt) (Q : List Pa), PaOk pn cells f W Q → (∀ p ∈ ps, isPt pn cells f p = true) → PaOk pn cells f W (partsK pn cells f (lkM W) Q ps) ∧ Q <+: partsK pn cells f (lkM W) Q ps ∧ ∀ p ∈ ps, inPa (partsK pn cells f (lkM W) Q ps) p
  | [], Q, hQ, _ => ⟨hQ, List.prefix_refl _, by simp⟩
  | p :: r, Q, hQ, hps => by
    rw [partsK_cons]
    obtain ⟨h1, h2, h3⟩ := PaOk.all h r _ (hQ.step h (hps p (by simp))) fun x hx => hps x (by simp [hx])
    refine ⟨h1, (stepP_pre Q).trans h2, fun x hx => ?_⟩
    rcases List.mem_cons.1 hx with rfl | hx
    · exact inPa_mono (stepP_has h (hps x (by simp)) Q) h2
    · exact h3 x hx
end
theorem full_len {l : List Int} {n : Nat} (h : l.Nodup) (hm : ∀ x, x ∈ l ↔ 0 ≤ x ∧ x < n) : l.length = n := by
  have hnd : ((List.range n).map fun (c : Nat) => (c : Int)).Nodup := List.pairwise_map.2 (List.nodup_range.imp fun h e => h (by omega))
  have hp : l.Perm ((List.range n).map fun (c : Nat) => (c : Int)) := (List.perm_ext_iff_of_nodup h hnd).2 fun x => by
    rw [hm, List.mem_map]
    constructor
    · rintro ⟨h1, h2⟩
      obtain ⟨c, rfl⟩ := Int.eq_ofNat_of_zero_le h1
      exact ⟨c, List.mem_range.2 (by omega), rfl⟩
    · rintro ⟨c, hc, rfl⟩
      have := List.mem_range.1 hc; omega
  rw [hp.length_eq]; simp
theorem frL_lt2 (f : Nat) (Lk : Pt → Pt) (p : Pt) (l : List Int) : (frL f Lk p l).Nodup := by
  induction f with
  | zero => exact List.nodup_nil
  | succ f ih =>
    cases e : frC Lk p l f with
    | true =>
      rw [frL_in e]
      refine List.nodup_append.2 ⟨ih, by simp, fun a ha b hb => ?_⟩
      simp at hb; subst hb
      have := (frL_lt ha).2
      omega
    | false => rw [frL_out e]; exact ih
/-- All that is known of the parts of a net. -/
structure Apart (pn : Int → Nat) (cells : List Int) (f : Nat) (W : List (Pt × Pt)) (Q : List Pa) : Prop where
  ok : PaOk pn cells f W Q
  has : ∀ p, isPt pn cells f p = true → inPa Q p
  cl : (Q.flatMap (·.1)).length = cells.length
  fl : (Q.flatMap (·.2)).length = f
section
variable {pn : Int → Nat} {cells : List Int} {f : Nat} {W : List (Pt × Pt)} {Q : List Pa} {p : Pt}
theorem parts_apart (h : NetOk pn cells f W) (hpn : ∀ j, j < cells.length → 0 < pn (cells.getD j 0)) : Apart pn cells f W (partsK pn cells f (lkM W) [] (frsF f ++ clsF 0 cells.length)) := by
  rw [← partsK_all h hpn]
  obtain ⟨h1, _, h3⟩ := PaOk.all h (allPs pn cells f) [] ⟨by simp, List.Pairwise.nil⟩ fun p hp => allPs_is pn hp
  generalize partsK pn cells f (lkM W) [] (allPs pn cells f) = Q at h1 h3
  have has : ∀ p, isPt pn cells f p = true → inPa Q p := fun p hp => h3 p (List.mem_of_getElem? (allPs_plc pn hp))
  refine ⟨h1, has, full_len (List.pairwise_flatMap.2 ⟨fun q hq => ?_, h1.dj.imp_of_mem fun {a b} ha hb hd x hx y hy e => ?_⟩) fun x => ?_, full_len (List.pairwise_flatMap.2 ⟨fun q hq => ?_, h1.dj.imp_of_mem fun {a b} ha hb hd x hx y hy e => ?_⟩) fun x => ?_⟩
  · obtain ⟨p, hp, rfl⟩ := h1.of q hq
    exact (srtC_lt _ _).imp fun h => by omega
  · subst e
    obtain ⟨p, hp, rfl⟩ := h1.of a ha
    obtain ⟨_, h6, h7⟩ := srtC_mem.1 hx
    obtain ⟨c, rfl⟩ := Int.eq_ofNat_of_zero_le h6
    have hc : c < cells.length := by omega
    exact hd ((c : Int), ((0 : Nat) : Int)) (isPt_cell f hc (hpn c hc)) ((bel_cell h6).2 hx) ((bel_cell h6).2 hy)
  · rw [List.mem_flatMap]
    constructor
    · rintro ⟨q, hq, hx⟩
      obtain ⟨p, hp, rfl⟩ := h1.of q hq
      exact (srtC_mem.1 hx).2
    · rintro ⟨h6, h7⟩
      obtain ⟨c, rfl⟩ := Int.eq_ofNat_of_zero_le h6
      have hc : c < cells.length := by omega
      obtain ⟨q, hq, hb⟩ := inPa_bel.1 (has ((c : Int), ((0 : Nat) : Int)) (isPt_cell f hc (hpn c hc)))
      exact ⟨q, hq, (bel_cell h6).1 hb⟩
  · obtain ⟨p, hp, rfl⟩ := h1.of q hq
    exact frL_lt2 _ _ _ _
  · subst e
    obtain ⟨p, hp, rfl⟩ := h1.of a ha
    obtain ⟨h6, h7⟩ := frL_lt hx
    obtain ⟨c, rfl⟩ := Int.eq_ofNat_of_zero_le h6
    exact hd (-1, (c : Int)) (isPt_fr (by omega)) (bel_free.2 hx) (bel_free.2 hy)
  · rw [List.mem_flatMap]
    constructor
    · rintro ⟨q, hq, hx⟩
      obtain ⟨p, hp, rfl⟩ := h1.of q hq
      exact frL_lt hx
    · rintro ⟨h6, h7⟩
      obtain ⟨c, rfl⟩ := Int.eq_ofNat_of_zero_le h6
      obtain ⟨q, hq, hb⟩ := inPa_bel.1 (has (-1, (c : Int)) (isPt_fr (by omega)))
      exact ⟨q, hq, bel_free.1 hb⟩
/-- Where a port's part is. -/
theorem Apart.at (h : NetOk pn cells f W) (hQ : Apart pn cells f W Q) (hp : isPt pn cells f p = true) : ∃ i, i < Q.length ∧ Q.getD i default = partOf pn cells f (lkM W) p ∧ ∀ r, isPt pn cells f r = true → bel (partOf pn cells f (lkM W) p) r → bel (Q.getD i default) r ∧ ∀ j, j < i → ¬ bel (Q.getD j default) r := by
  obtain ⟨q, hq, hb⟩ := inPa_bel.1 (hQ.has p hp)
  obtain ⟨i, hi, rfl⟩ := List.getElem_of_mem hq
  have e : ∀ j (hj : j < Q.length), Q.getD j default = Q[j] := fun j hj => by simp [hj]
  obtain ⟨p', hp', e'⟩ := hQ.ok.of _ hq
  have e2 : Q.getD i default = partOf pn cells f (lkM W) p := by
    rw [e i hi]
    rw [e'] at hb ⊢
    exact part_same h hp' hp hb
  refine ⟨i, hi, e2, fun r hr hbr => ?_⟩
  rw [e2]
  refine ⟨hbr, fun j hj hbj => ?_⟩
  have hjl : j < Q.length := by omega
  rw [e j hjl] at hbj
  have := List.pairwise_iff_getElem.1 hQ.ok.dj j i hjl hi hj r hr hbj
  rw [← e i hi, e2] at this
  exact this hbr
theorem wlk_count (h : NetOk pn cells f W) (hp : isPt pn cells f p = true) : (wlk pn cells (lkM W) p).length = (partOf pn cells f (lkM W) p).1.length := by
  have := mergeSort_srt (wlk_fd h hp)
  show _ = (srtC cells.length _).length
  rw [← this]
  exact (List.mergeSort_perm _ _).length_eq.symm
end
end Go.Proofs.Ytogbanlfihabpaa
