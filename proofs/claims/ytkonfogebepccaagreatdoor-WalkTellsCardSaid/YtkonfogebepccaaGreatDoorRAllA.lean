/-
  The document's parts: its loop over the parts that are there.
-/
import Derived.Test.YtkonfogebepccaaGreatDoorROfD
import Derived.Test.YtkonfogebepccaaGreatDoorROfD
import Derived.Test.YtkonfogebepccaaGreatDoorRWalkC
import Derived.Test.YtkonfogebepccaaGreatDoorPartsSt2
/-
  Plain: the parts of a net share nothing, leave nothing out, and each is what is found from each of its ports.
-/
namespace Go.Proofs.YtkonfogebepccaaGreatDoor
open Go.RowKit
set_option linter.unusedVariables false
theorem addC_mem {l : List Int} {c x : Int} (h : x ∈ addC l c) : x ∈ l ∨ (x = c ∧ 0 ≤ c) := by
  unfold addC at h
  split at h
  · rename_i h1
    rcases List.mem_append.1 h with h | h
    · exact .inl h
    · simp at h; exact .inr ⟨h, h1.1⟩
  · exact .inl h
section
variable {S : Int → Prop}
theorem visit_sub {R : List Pt} {l : List Int} (hl : ∀ x ∈ l, S x) (hR : ∀ q ∈ R, 0 ≤ q.1 → S q.1) : ∀ x ∈ visit R l, S x := by
  unfold visit visitK
  rw [List.take_length]
  induction R generalizing l with
  | nil => exact hl
  | cons q r ih =>
    refine ih (l := addC l q.1) (fun x hx => ?_) (fun q' hq' => hR q' (by simp [hq']))
    rcases addC_mem hx with h | ⟨rfl, h⟩
    · exact hl x h
    · exact hR q (by simp) h
theorem walkF_sub {row : Int → List Pt} (hc : ∀ c, S c → ∀ q ∈ row c, 0 ≤ q.1 → S q.1) : ∀ (g i : Nat) (l : List Int), (∀ x ∈ l, S x) → ∀ x ∈ walkF row g i l, S x
  | 0, i, l, hl => hl
  | g + 1, i, l, hl => by
    by_cases hi : i < l.length
    · rw [walkF_step hi]
      refine walkF_sub hc g (i + 1) _ (visit_sub hl (hc _ (hl _ ?_)))
      rw [List.getD_eq_getElem?_getD, List.getElem?_eq_getElem hi]; exact List.getElem_mem hi
    · rw [walkF_done (by omega)]; exact hl
theorem wlk_least {pn : Int → Nat} {cs : List Int} {Lk : Pt → Pt} {p : Pt} (h0 : 0 ≤ (startP Lk p).1 → S (startP Lk p).1) (hc : ∀ c, S c → ∀ q ∈ rowP pn cs Lk c, 0 ≤ q.1 → S q.1) : ∀ x ∈ wlk pn cs Lk p, S x := by
  unfold wlk walkL
  refine walkF_sub hc _ _ _ fun x hx => ?_
  rcases addC_mem hx with h | ⟨rfl, h⟩
  · cases h
  · exact h0 h
end
/-- Every port that the walk looks at leads to a cell that it finds. -/
theorem wlk_looks {pn : Int → Nat} {cs : List Int} {Lk : Pt → Pt} {p : Pt} (hL : ∀ x, (Lk x).1 < cs.length) (hs : (startP Lk p).1 < cs.length) : ∀ q ∈ startP Lk p :: (wlk pn cs Lk p).flatMap (rowP pn cs Lk), q.1 < 0 ∨ q.1 ∈ wlk pn cs Lk p := fun q hq => by
  have hx := wlk_fix (pn := pn) hL hs
  rcases Int.lt_or_le q.1 0 with h | h
  · exact .inl h
  · right
    have := mem_visit (R := startP Lk p :: (wlk pn cs Lk p).flatMap (rowP pn cs Lk)) (l := []) (x := q.1)
    rw [hx] at this
    exact this.2 (.inr ⟨h, q, hq, rfl⟩)
def bel (q : Pa) (p : Pt) : Prop := if p.1 < 0 then p.2 ∈ q.2 else p.1 ∈ q.1
theorem inPa_bel {l : List Pa} {p : Pt} : inPa l p ↔ ∃ q ∈ l, bel q p := by
  unfold inPa bel
  split <;> rfl
theorem bel_cell {q : Pa} {c s : Int} (h : 0 ≤ c) : bel q (c, s) ↔ c ∈ q.1 := by
  unfold bel
  rw [if_neg (by show ¬ c < 0; omega)]
theorem bel_free {q : Pa} {s : Int} : bel q (-1, s) ↔ s ∈ q.2 := by
  unfold bel
  rw [if_pos (by show (-1 : Int) < 0; decide)]
theorem frL_same {f : Nat} {Lk : Pt → Pt} {p p' : Pt} {l l' : List Int} (h : ∀ i, i < f → (frC Lk p l i = true ↔ frC Lk p' l' i = true)) : frL f Lk p l = frL f Lk p' l' := by
  induction f with
  | zero => rfl
  | succ f ih =>
    have h1 := ih fun i hi => h i (by omega)
    cases e : frC Lk p l f with
    | true => rw [frL_in e, frL_in ((h f (by omega)).1 e), h1]
    | false =>
      have e2 : frC Lk p' l' f = false := by
        cases e3 : frC Lk p' l' f with
        | true => rw [(h f (by omega)).2 e3] at e; cases e
        | false => rfl
      rw [frL_out e, frL_out e2, h1]
section
variable {pn : Int → Nat} {cells : List Int} {f : Nat} {W : List (Pt × Pt)} {p q r : Pt}
theorem wlk_fd (h : NetOk pn cells f W) (hp : isPt pn cells f p = true) : Fnd cells.length (wlk pn cells (lkM W) p) := wlk_fnd (lkM_lt h) (isPt_lt (startP_is h hp))
theorem wlk_shut (h : NetOk pn cells f W) (hp : isPt pn cells f p = true) {c : Int} (hc : c ∈ wlk pn cells (lkM W) p) {x : Pt} (hx : x ∈ rowP pn cells (lkM W) c) (h0 : 0 ≤ x.1) : x.1 ∈ wlk pn cells (lkM W) p := by
  rcases wlk_looks (lkM_lt h) (isPt_lt (startP_is h hp)) x (List.mem_cons_of_mem _ (List.mem_flatMap.2 ⟨c, hc, hx⟩)) with h1 | h1
  · omega
  · exact h1
theorem wlk_same (h : NetOk pn cells f W) (hp : isPt pn cells f p = true) (hq : isPt pn cells f q = true) (hm : (startP (lkM W) q).1 ∈ wlk pn cells (lkM W) p) (x : Int) : x ∈ wlk pn cells (lkM W) p ↔ x ∈ wlk pn cells (lkM W) q := by
  have sub : ∀ {a b : Pt}, isPt pn cells f a = true → (startP (lkM W) b).1 ∈ wlk pn cells (lkM W) a → ∀ y ∈ wlk pn cells (lkM W) b, y ∈ wlk pn cells (lkM W) a := fun {a b} ha hb => wlk_least (fun _ => hb) fun c hc z hz h0 => wlk_shut h ha hc hz h0
  have hq0 := ((wlk_fd h hp).lt _ hm).1
  have hback : (startP (lkM W) p).1 ∈ wlk pn cells (lkM W) q := by
    rcases Classical.em ((startP (lkM W) p).1 ∈ wlk pn cells (lkM W) q) with h1 | h1
    · exact h1
    · exfalso
      have hp0 : 0 ≤ (startP (lkM W) p).1 := by
        rcases Int.lt_or_le (startP (lkM W) p).1 0 with h2 | h2
        · rw [wlk_none h2] at hm; cases hm
        · exact h2
      have key : ∀ y ∈ wlk pn cells (lkM W) p, (0 ≤ y ∧ y < cells.length) ∧ y ∉ wlk pn cells (lkM W) q := by
        refine wlk_least (S := fun y => (0 ≤ y ∧ y < cells.length) ∧ y ∉ wlk pn cells (lkM W) q) (fun h0 => ⟨⟨h0, isPt_lt (startP_is h hp)⟩, h1⟩) ?_
        rintro c ⟨⟨hc0, hcn⟩, hcm⟩ z hz hz0
        obtain ⟨c, rfl⟩ := Int.eq_ofNat_of_zero_le hc0
        obtain ⟨k, hk, rfl⟩ := List.mem_map.1 hz
        have hk2 := List.mem_range.1 hk
        rw [Int.toNat_natCast] at hk2
        have hpt : isPt pn cells f ((c : Int), (k : Int)) = true := isPt_cell f (by omega) hk2
        have hz2 := (lkM_eq h hpt).2
        refine ⟨⟨hz0, isPt_lt hz2⟩, fun hzm => hcm ?_⟩
        obtain ⟨c', s', e, hc', hs'⟩ := isPt_split hz2 hz0
        have hin : ((c : Int), (k : Int)) ∈ rowP pn cells (lkM W) (lkM W ((c : Int), (k : Int))).1 := by
          unfold rowP
          refine List.mem_map.2 ⟨s', ?_, ?_⟩
          · rw [e, Int.toNat_natCast]; exact List.mem_range.2 hs'
          · have h5 := lkM_inv h hpt
            rw [e] at h5 ⊢
            exact h5
        exact wlk_shut h hq hzm hin (by show (0 : Int) ≤ c; omega)
      exact (key _ hm).2 (wlk_start hq0)
  exact ⟨sub hq hback x, sub hp hm x⟩
theorem part_ext (h : ∀ x, x ∈ wlk pn cells (lkM W) p ↔ x ∈ wlk pn cells (lkM W) q) {c : Int} (hc : c ∈ wlk pn cells (lkM W) p) : partOf pn cells f (lkM W) p = partOf pn cells f (lkM W) q := by
  have n1 : wlk pn cells (lkM W) p ≠ [] := fun e => by rw [e] at hc; cases hc
  have n2 : wlk pn cells (lkM W) q ≠ [] := fun e => by have := (h c).1 hc; rw [e] at this; cases this
  unfold partOf
  rw [sorted_same (srtC cells.length (wlk pn cells (lkM W) p)) (srtC cells.length (wlk pn cells (lkM W) q)) (srtC_lt _ _) (srtC_lt _ _) fun x => by rw [srtC_mem, srtC_mem, h], frL_same (p' := q) (l' := wlk pn cells (lkM W) q) fun i hi => ?_]
  unfold frC
  simp only [decide_eq_true_eq, h, n1, n2, false_and]
theorem start_cell (h0 : 0 ≤ p.1) : startP (lkM W) p = p := by unfold startP; rw [if_neg (by omega)]
theorem start_free (h0 : p.1 < 0) : startP (lkM W) p = lkM W p := by unfold startP; rw [if_pos h0]
/-- A port of a part: the part is its own. -/
theorem part_same (h : NetOk pn cells f W) (hp : isPt pn cells f p = true) (hr : isPt pn cells f r = true) (hb : bel (partOf pn cells f (lkM W) p) r) : partOf pn cells f (lkM W) p = partOf pn cells f (lkM W) r := by
  by_cases h0 : r.1 < 0
  · obtain ⟨i, rfl, hi⟩ := isPt_lo hr h0
    have hm := (frL_mem hi).1 (bel_free.1 hb)
    unfold frC at hm
    rw [decide_eq_true_eq] at hm
    rcases hm with ⟨h1, h2⟩ | ⟨h1, h2⟩
    · rw [← start_free (W := W) h0] at h2
      exact part_ext (wlk_same h hp hr h2) h2
    · rcases h2 with h2 | h2
      · rw [h2]
      · have hp0 : p.1 < 0 := by
          rcases Int.lt_or_le p.1 0 with h3 | h3
          · exact h3
          · have := wlk_start (pn := pn) (cs := cells) (Lk := lkM W) (p := p) (by rw [start_cell h3]; exact h3)
            rw [h1] at this; cases this
        have h4 : wlk pn cells (lkM W) (-1, (i : Int)) = [] := wlk_none (by rw [start_free h0, h2]; exact hp0)
        unfold partOf
        rw [h1, h4, frL_same fun j hj => ?_]
        have hpj : isPt pn cells f (-1, (j : Int)) = true := isPt_fr hj
        have i1 := lkM_inv h hpj
        have i2 := lkM_inv h hp
        have i3 := lkM_inv h hr
        unfold frC
        simp only [decide_eq_true_eq, List.not_mem_nil, and_false, false_or, true_and]
        constructor
        · rintro (e | e)
          · right; rw [e, ← h2, i3]
          · left; rw [← i1, e, ← h2, i3]
        · rintro (e | e)
          · right; rw [e, h2]
          · left; rw [← i1, e, h2]
  · obtain ⟨c, s, rfl, hc, hs⟩ := isPt_split hr (by omega)
    have h2 := (srtC_mem.1 ((bel_cell (by omega)).1 hb)).1
    have hst : startP (lkM W) ((c : Int), (s : Int)) = ((c : Int), (s : Int)) := start_cell (by show (0 : Int) ≤ c; omega)
    have h3 : (startP (lkM W) ((c : Int), (s : Int))).1 ∈ wlk pn cells (lkM W) p := by rw [hst]; exact h2
    exact part_ext (wlk_same h hp hr h3) h3
theorem part_self (h : NetOk pn cells f W) (hp : isPt pn cells f p = true) : bel (partOf pn cells f (lkM W) p) p := by
  obtain ⟨q, hq, hb⟩ := inPa_bel.1 (partOf_has h hp [])
  simp at hq; subst hq; exact hb
/-- The parts: each of a port, no two with a port in common. -/
structure PaOk (pn : Int → Nat) (cells : List Int) (f : Nat) (W : List (Pt × Pt)) (Q : List Pa) : Prop where
  of : ∀ x ∈ Q, ∃ p, isPt pn cells f p = true ∧ x = partOf pn cells f (lkM W) p
  dj : Q.Pairwise fun x y => ∀ r, isPt pn cells f r = true → bel x r → ¬ bel y r
theorem PaOk.step (h : NetOk pn cells f W) {Q : List Pa} (hQ : PaOk pn cells f W Q) (hp : isPt pn cells f p = true) : PaOk pn cells f W (stepP pn cells f (lkM W) Q p) := by
  by_cases h1 : inPa Q p
  · rw [stepP_in h1]; exact hQ
  · rw [stepP_new h1]
    refine ⟨fun x hx => ?_, List.pairwise_append.2 ⟨hQ.dj, by simp, fun x hx y hy r hr hb hb2 => h1 (inPa_bel.2 ⟨x, hx, ?_⟩)⟩⟩
    · rcases List.mem_append.1 hx with hx | hx
      · exact hQ.of x hx
      · simp at hx; exact ⟨p, hp, hx⟩
    · simp at hy; subst hy
      obtain ⟨p', hp', rfl⟩ := hQ.of x hx
      rw [part_same h hp' hr hb, ← part_same h hp hr hb2]
      exact part_self h hp
theorem stepP_pre (Q : List Pa) : Q <+: stepP pn cells f (lkM W) Q p := by
  unfold stepP
  split
  · exact List.prefix_refl _
  · exact List.prefix_append _ _
theorem PaOk.all (h : NetOk pn cells f W) : ∀ (ps : List Pt) (Q : List Pa), PaOk pn cells f W Q → (∀ p ∈ ps, isPt pn cells f p = true) → PaOk pn cells f W (partsK pn cells f (lkM W) Q ps) ∧ Q <+: partsK pn cells f (lkM W) Q ps ∧ ∀ p ∈ ps, inPa (partsK pn cells f (lkM W) Q ps) p
  | [], Q, hQ, _ => ⟨hQ, List.prefix_refl _, by simp⟩
  | p :: r, Q, hQ, hps => by
    rw [partsK_cons]
    obtain ⟨h1, h2, h3⟩ := PaOk.all h r _ (hQ.step h (hps p (by simp))) fun x hx => hps x (by simp [hx])
    refine ⟨h1, (stepP_pre Q).trans h2, fun x hx => ?_⟩
    rcases List.mem_cons.1 hx with rfl | hx
    · exact inPa_mono (stepP_has h (hps x (by simp)) Q) h2
    · exact h3 x hx
end
/-- All that is known of the parts of a net. -/
structure Apart (pn : Int → Nat) (cells : List Int) (f : Nat) (W : List (Pt × Pt)) (Q : List Pa) : Prop where
  ok : PaOk pn cells f W Q
  has : ∀ p, isPt pn cells f p = true → inPa Q p
  cl : (Q.flatMap (·.1)).length = cells.length
  fl : (Q.flatMap (·.2)).length = f
section
variable {pn : Int → Nat} {cells : List Int} {f : Nat} {W : List (Pt × Pt)} {Q : List Pa} {p : Pt}
/-- Where a port's part is. -/
theorem Apart.at (h : NetOk pn cells f W) (hQ : Apart pn cells f W Q) (hp : isPt pn cells f p = true) : ∃ i, i < Q.length ∧ Q.getD i default = partOf pn cells f (lkM W) p ∧ ∀ r, isPt pn cells f r = true → bel (partOf pn cells f (lkM W) p) r → bel (Q.getD i default) r ∧ ∀ j, j < i → ¬ bel (Q.getD j default) r := by
  obtain ⟨q, hq, hb⟩ := inPa_bel.1 (hQ.has p hp)
  obtain ⟨i, hi, rfl⟩ := List.getElem_of_mem hq
  have e : ∀ j (hj : j < Q.length), Q.getD j default = Q[j] := fun j hj => by simp [hj]
  obtain ⟨p', hp', e'⟩ := hQ.ok.of _ hq
  have e2 : Q.getD i default = partOf pn cells f (lkM W) p := by
    rw [e i hi]
    rw [e'] at hb ⊢
    exact part_same h hp' hp hb
  refine ⟨i, hi, e2, fun r hr hbr => ?_⟩
  rw [e2]
  refine ⟨hbr, fun j hj hbj => ?_⟩
  have hjl : j < Q.length := by omega
  rw [e j hjl] at hbj
  have := List.pairwise_iff_getElem.1 hQ.ok.dj j i hjl hi hj r hr hbj
  rw [← e i hi, e2] at this
  exact this hbr
end
end Go.Proofs.YtkonfogebepccaaGreatDoor
/-
  Contract of skeinref11.Net.Of.
-/
namespace Go.Proofs.YtkonfogebepccaaGreatDoor
open Go.RowKit
attribute [local go_sem] cell_set
attribute [local go_sem] Oper.semAt_some
set_option maxRecDepth 100000
set_option linter.unusedVariables false
section
variable (pn : Int → Nat) (cs : List Int) (f : Nat) (W : List (Pt × Pt)) (V1 V2 V3 : Option Addr) (c1 c2 c3 M n : Nat) (p : Pt) (at' : Int) (w : World)
set_option maxHeartbeats 8000000 in
theorem rof11 (hn : n = cs.length) (hn2 : n ≤ 10000) (hf5 : f ≤ 10000) (hM : firstN pn cs f cs.length = M) (hM2 : M ≤ 100000) (hok : Hid (NetOk pn cs f W)) (hp : isPt pn cs f p = true) (hat : at' = (plc pn cs f p : Int))
    (HR1 : Hid (PtsRd w V1 (allPs pn cs f))) (HR2 : Hid (IntsRd w V2 (lkK pn cs f W W.length))) (HR3 : Hid (IntsRd w V3 (firstL pn cs f cs.length ++ [(firstN pn cs f cs.length : Int)]))) :
    Calls Tryz.prog 61 #[.agg #[.slice V1 M c1, .slice V2 M c2, .slice V3 (n + 1) c3, .int .i64 (n : Int)], .int .i64 at'] w fun e w' => ∃ a b, e = .returned (.agg #[a, b]) ∧ Below w.heap.size w w' ∧ Row w' 3 1 a (partOf pn cs f (lkM W) p).1.length (ivals (partOf pn cs f (lkM W) p).1) ∧ Row w' 3 1 b (partOf pn cs f (lkM W) p).2.length (ivals (partOf pn cs f (lkM W) p).2) ∧ (∀ y ∈ ownB a, w.heap.size ≤ y) ∧ ∀ y ∈ ownB b, w.heap.size ≤ y := by
  obtain ⟨i0, hi0, hi1, hi2, hi3⟩ := info_parts bool_info
  have HNM := Lib.hid (And.intro hn hM)
  have HP := Lib.hid (And.intro hp hat)
  obtain ⟨wl, hwl⟩ : ∃ wl, wlk pn cs (lkM W) p = wl := ⟨_, rfl⟩
  have hfd : Fnd n wl := by rw [← hwl, hn]; exact wlk_fnd (lkM_lt hok.out) (isPt_lt (startP_is hok.out hp))
  have HFD := Lib.hid hfd
  have HPO : Hid (partOf pn cs f (lkM W) p = (srtC n wl, frL f (lkM W) p wl)) := by show _ = _; unfold partOf; rw [hwl, hn]
  have HWL := Lib.hid hwl
  have hml := hfd.len
  obtain ⟨m, hm⟩ : ∃ m, wl.length = m := ⟨_, rfl⟩
  rw [hm] at hml
  have HML := Lib.hid hm
  rw [HPO.out]
  clear hn hM hp hat hfd hwl hm
  go_enter Tryz.func61, Tryz.ntmps61
  go_upto_region 2 with (at_make; refine wpList_make_row _ rfl _ _ _ rfl _ i0 _ (by rfl) hi0 hi1 hi2 (by rfl) .i64 .i64 n (by rfl) (by rfl) (by rw [hi3]; omega) (by omega) ?_)
  refine absW (fun Y => Below w.heap.size w Y ∧ Y.heap[w.heap.size]? = some (.cells #[.slice V1 M c1, .slice V2 M c2, .slice V3 (n + 1) c3, .int .i64 (n : Int)] 92 (0, 0)) ∧ Y.heap[w.heap.size + 1]? = some (.cells #[.slice none 0 0, .slice none 0 0] 97 (0, 0)) ∧ Y.heap[w.heap.size + 1 + 1]? = some (.cells (madeCells #[.bool false] n) 4 (0, 0))) ?_ ?_
  · refine ⟨by (repeat (first | exact Below.refl _ _ | (with_reducible refine Below.drew ?_) | (with_reducible refine Below.alloc ?_ (by (try simp); (try omega)) _) | (with_reducible refine Below.setCell ?_ (by (try simp); (try omega)) _) | (with_reducible refine Below.trans ?_ (Below.mono (by assumption) (by (try simp); (try omega)))))), ?_, ?_, ?_⟩
    · exact (Below.heap_alloc _ _ _ (by simp; omega)).trans ((Below.heap_alloc _ _ _ (by simp)).trans (heap_alloc_new w _))
    · have := heap_alloc_new (w.alloc (.cells #[.slice V1 M c1, .slice V2 M c2, .slice V3 (n + 1) c3, .int .i64 (n : Int)] 92)) (.cells #[.slice none 0 0, .slice none 0 0] 97)
      rw [World.size_alloc] at this
      exact (Below.heap_alloc _ _ _ (by simp)).trans this
    · have := heap_alloc_new ((w.alloc (.cells #[.slice V1 M c1, .slice V2 M c2, .slice V3 (n + 1) c3, .int .i64 (n : Int)] 92)).alloc (.cells #[.slice none 0 0, .slice none 0 0] 97)) (.cells (madeCells #[.bool false] n) 4)
      rw [World.size_alloc, World.size_alloc] at this
      exact this
  rintro Y ⟨hbY, y0, y1, y2⟩
  have n0 : Y.cell? ⟨w.heap.size, 0, none⟩ = some (.slice V1 M c1) := by simp [World.cell?, y0]
  have n1 : Y.cell? ⟨w.heap.size, 1, none⟩ = some (.slice V2 M c2) := by simp [World.cell?, y0]
  have n2 : Y.cell? ⟨w.heap.size, 2, none⟩ = some (.slice V3 (n + 1) c3) := by simp [World.cell?, y0]
  have n3 : Y.cell? ⟨w.heap.size, 3, none⟩ = some (.int .i64 (n : Int)) := by simp [World.cell?, y0]
  have nl := heap_lt y0
  have HY := Lib.hid (And.intro hbY (And.intro y0 (And.intro y1 y2)))
  clear hbY y0 y1 y2
  go_wp2_with fail
  refine (rwalk pn cs f W V1 V2 V3 c1 c2 c3 M n p at' _ HNM.out.1 hn2 HNM.out.2 hM2 hok HP.out.1 HP.out.2 (Lib.hid (HR1.out.below HY.out.1)) (Lib.hid (HR2.out.below HY.out.1)) (Lib.hid (HR3.out.below HY.out.1))).mono ?_
  rw [HWL.out, HML.out]
  rintro e w1 ⟨V, c, rfl, hfr⟩
  have HF := Lib.hid hfr
  have hB1 := hfr.2.2
  obtain ⟨hb0, h0, h1, h2⟩ := HY.out
  have HX1 : Hid (Below w.heap.size w w1 ∧ w1.heap[w.heap.size]? = some (.cells #[.slice V1 M c1, .slice V2 M c2, .slice V3 (n + 1) c3, .int .i64 (n : Int)] 92 (0, 0)) ∧ w1.heap[w.heap.size + 1]? = some (.cells #[.slice none 0 0, .slice none 0 0] 97 (0, 0)) ∧ OfB w1 w1 (w.heap.size + 1 + 1) n []) :=
    ⟨hb0.trans (hB1.mono hb0.size), (hB1.block _ (heap_lt h0)).trans h0, (hB1.block _ (heap_lt h1)).trans h1, Kp.refl _ _, ⟨by simp [seenB], .inr ⟨w.heap.size + 1 + 1, n, _, rfl, (hB1.block _ (heap_lt h2)).trans h2, Nat.le_refl _, by unfold maxLen; omega, by simp [size_madeCells], by rw [toList_madeCells_one, seenB_nil]; simp⟩⟩⟩
  have HG : Hid (w.heap.size + 1 + 1 ∉ ownB (.slice V m c)) := fun hm => by have := hfr.2.1 _ hm; have := heap_lt h2; omega
  clear hfr hB1 hb0 h0 h1 h2 n0 n1 n2 n3 nl HY
  simp only []
  go_upto_region 4 with fail
  rename_i K9 hK9
  refine wp_loop_ghost (fun m' a' X' => ∃ k, m' = m - k ∧ k ≤ m ∧ FrN 106 [] [(1, .int .i64 at'), (2, .pointer (some ⟨w.heap.size, 0, none⟩)), (4, .pointer (some ⟨w.heap.size + 1, 0, none⟩)), (5, .slice (some ⟨w.heap.size + 1 + 1, 0, none⟩) n n), (6, .slice V m c), (7, .int .i64 (k : Int))] a' ∧ OfB w1 X' (w.heap.size + 1 + 1) n (wl.take k)) m ⟨0, by omega, by omega, ⟨rfl, rfl, rfl, rfl, rfl, rfl, rfl, rfl, trivial⟩, by rw [List.take_zero]; exact HX1.out.2.2.2⟩ ?_
  rintro m' a2 X2 ⟨k, rfl, hk, hfr, hps⟩
  refine of_4 _ w1 (w.heap.size + 1 + 1) n w.heap.size (w.heap.size + 1) V c at' wl m a2 X2 k HML.out hk (by omega) HFD (Lib.hid HF.out.1) HG.out (Lib.hid hps) (Lib.hid fun a3 X3 hlt hfr3 hps3 => ?_) (Lib.hid fun a3 X3 hfr3 hkm hps3 => ?_) hfr
  · exact ⟨m - (k + 1), by omega, k + 1, rfl, by omega, hfr3, hps3⟩
  have hps4 : OfB w1 X3 (w.heap.size + 1 + 1) n wl := by
    have e : wl.take k = wl := by rw [hkm, ← HML.out, List.take_length]
    rw [e] at hps3; exact hps3
  refine hK9 _ _ ?_
  obtain ⟨U, rfl, e1, e2, e4, e5, e6, -⟩ := hfr3.openOF
  unfold FrOF
  simp only [e1, e2, e4, e5, e6]
  clear e1 e2 e4 e5 e6 hfr3 hfr hps hps3 hK9 hk hkm K9
  show (Code.seq _ _).wp _ _ _ _
  obtain ⟨hk3, hr3⟩ := hps4
  have HX3 : Hid (Below w.heap.size w X3 ∧ X3.heap[w.heap.size]? = some (.cells #[.slice V1 M c1, .slice V2 M c2, .slice V3 (n + 1) c3, .int .i64 (n : Int)] 92 (0, 0)) ∧ X3.heap[w.heap.size + 1]? = some (.cells #[.slice none 0 0, .slice none 0 0] 97 (0, 0)) ∧ Row X3 4 1 (.slice (some ⟨w.heap.size + 1 + 1, 0, none⟩) n n) n (seenB n wl)) := by
    obtain ⟨x1, x2, x3, x4⟩ := HX1.out
    exact ⟨x1.trans (hk3.below x1.size fun b hb => by simp at hb; subst hb; omega), (hk3.block _ (heap_lt x2) (by simp; omega)).trans x2, (hk3.block _ (heap_lt x3) (by simp)).trans x3, hr3⟩
  clear hk3 hr3
  go_upto_region 9 with fail
  refine absW (fun Z => Below X3.heap.size X3 Z ∧ Z.heap[X3.heap.size]? = some (.cells #[.slice none 0 0, .slice none 0 0] 97 (0, 0))) ⟨(Below.refl _ _).alloc (Nat.le_refl _) _, heap_alloc_new X3 _⟩ ?_
  rintro Z ⟨hbZ, hz8⟩
  obtain ⟨b8, hb8⟩ : ∃ b8, b8 = X3.heap.size := ⟨_, rfl⟩
  rw [← hb8] at hz8 ⊢
  obtain ⟨x1, x2, x3, x4⟩ := HX3.out
  have l2 := heap_lt x2
  have l3 := heap_lt x3
  have l4 := x4.lt (w.heap.size + 1 + 1) (by simp [ownB])
  have z1 := x1.trans (hbZ.mono x1.size)
  have z2 := (hbZ.block _ l2).trans x2
  have z3 := (hbZ.block _ l3).trans x3
  have z4 : Row Z 4 1 (.slice (some ⟨w.heap.size + 1 + 1, 0, none⟩) n n) n (seenB n wl) := x4.keep fun b hb => hbZ.block b (x4.lt b hb)
  have n3 : Z.cell? ⟨w.heap.size, 3, none⟩ = some (.int .i64 (n : Int)) := by simp [World.cell?, z2]
  have hP0 : OfP Z Z b8 (srtC 0 wl) [] := ⟨Kp.refl _ _, heap_lt hz8, _, _, hz8, Row.nil _ _ _, Row.nil _ _ _, by simp [ownB], by simp [ownB], by simp [ownB]⟩
  have HZ := Lib.hid (And.intro z1 (And.intro z2 (And.intro z3 (And.intro z4 (And.intro n3 hP0)))))
  have HL : Hid (w.heap.size < b8 ∧ w.heap.size + 1 < b8 ∧ w.heap.size + 1 + 1 < b8 ∧ b8 < Z.heap.size) := ⟨by omega, by omega, by omega, heap_lt hz8⟩
  clear hbZ hz8 hb8 x1 x2 x3 x4 l2 l3 l4 z1 z2 z3 z4 n3 hP0
  rename_i K9 hK9
  refine wp_loop_ghost (fun m' a' X' => ∃ k, m' = n - k ∧ k ≤ n ∧ FrN 106 [] [(1, .int .i64 at'), (2, .pointer (some ⟨w.heap.size, 0, none⟩)), (4, .pointer (some ⟨w.heap.size + 1, 0, none⟩)), (5, .slice (some ⟨w.heap.size + 1 + 1, 0, none⟩) n n), (6, .slice V m c), (8, .pointer (some ⟨b8, 0, none⟩)), (9, .int .i64 (k : Int))] a' ∧ OfP Z X' b8 (srtC k wl) []) n ⟨0, by omega, by omega, ⟨rfl, rfl, rfl, rfl, rfl, rfl, rfl, rfl, rfl, trivial⟩, HZ.out.2.2.2.2.2⟩ ?_
  rintro m' a2 X2 ⟨k, rfl, hk, hfr, hps⟩
  refine of_9 _ Z (w.heap.size + 1 + 1) n w.heap.size (w.heap.size + 1) b8 V c at' wl m a2 X2 k hk (by omega) HZ.out.2.2.2.2.1 ⟨by have := HL.out; omega, by have := HL.out; omega⟩ (Lib.hid HZ.out.2.2.2.1) (by have := HL.out; omega) (Lib.hid hps) (Lib.hid fun a3 X4 hlt hfr3 hps3 => ?_) (Lib.hid fun a3 X4 hfr3 hkn hps3 => ?_) hfr
  · exact ⟨n - (k + 1), by omega, k + 1, rfl, by omega, hfr3, hps3⟩
  rw [hkn] at hps3
  refine hK9 _ _ ?_
  obtain ⟨U, rfl, e1, e2, e4, e5, e6, e8, -⟩ := hfr3.openOF
  unfold FrOF
  simp only [e1, e2, e4, e5, e6, e8]
  have HP3 := Lib.hid hps3
  clear e1 e2 e4 e5 e6 e8 hfr3 hfr hps hps3 hK9 hk hkn K9
  show (Code.seq _ _).wp _ _ _ _
  go_upto_region 14 with fail
  rename_i K9 hK9
  have HRd : Hid (∀ X, Kp [b8] Z X → OfR X w.heap.size (w.heap.size + 1 + 1) n M V1 V2 V3 c1 c2 c3 (allPs pn cs f) (lkK pn cs f W W.length) wl) := fun X hX => by
    obtain ⟨h1, h2, h3, h4⟩ := HL.out
    obtain ⟨r1, r2, r3, r4, r5, r6⟩ := HZ.out
    have hz := r1.size
    have e2 : X.heap[w.heap.size]? = _ := (hX.block _ (heap_lt r2) (by simp; omega)).trans r2
    have hbw : Below w.heap.size w X := r1.trans (hX.below hz fun b hb => by simp at hb; subst hb; omega)
    exact ⟨by simp [World.cell?, e2], by simp [World.cell?, e2], heap_lt e2, HR1.out.below hbw, HR2.out.below hbw, r4.kp hX fun b hb => by simp [ownB] at hb; subst hb; simp; omega⟩
  refine wp_loop_ghost (fun m' a' X' => ∃ k, m' = f - k ∧ k ≤ f ∧ FrN 106 [] [(1, .int .i64 at'), (2, .pointer (some ⟨w.heap.size, 0, none⟩)), (4, .pointer (some ⟨w.heap.size + 1, 0, none⟩)), (5, .slice (some ⟨w.heap.size + 1 + 1, 0, none⟩) n n), (6, .slice V m c), (8, .pointer (some ⟨b8, 0, none⟩)), (10, .int .i64 (k : Int))] a' ∧ OfP Z X' b8 (srtC n wl) (frL k (lkM W) p wl)) f ⟨0, by omega, by omega, ⟨rfl, rfl, rfl, rfl, rfl, rfl, rfl, rfl, rfl, trivial⟩, HP3.out⟩ ?_
  rintro m' a2 X5 ⟨k, rfl, hk, hfr, hps⟩
  refine of_14 _ Z (w.heap.size + 1 + 1) n w.heap.size (w.heap.size + 1) b8 V1 V2 V3 V c1 c2 c3 c M f pn cs W p at' wl (srtC n wl) m (plc pn cs f p) a2 X5 k hk (by omega) hM2 (by omega) HML.out HP.out.2 HNM.out.1 (by omega) HNM.out.2 hok (Lib.hid ⟨HP.out.1, HWL.out, rfl⟩) HRd (Lib.hid hps) (Lib.hid fun a3 X6 hlt hfr3 hps3 => ?_) (Lib.hid fun a3 X6 hfr3 hkn hps3 => ?_) hfr
  · exact ⟨f - (k + 1), by omega, k + 1, rfl, by omega, hfr3, hps3⟩
  rw [hkn] at hps3
  refine hK9 _ _ ?_
  obtain ⟨U, rfl, e1, e2, e4, e5, e6, e8, -⟩ := hfr3.openOF
  unfold FrOF
  simp only [e1, e2, e4, e5, e6, e8]
  clear e1 e2 e4 e5 e6 e8 hfr3 hfr hps hK9 hk hkn K9
  show (Code.seq _ _).wp _ _ _ _
  obtain ⟨s1, s2, av, bv, s3, s4, s5, s6, s7, s8⟩ := hps3
  obtain ⟨Va, ca, rfl, _⟩ := s4.len
  obtain ⟨Vb, cb, rfl, _⟩ := s5.len
  have x0 : X6.cell? ⟨b8, 0, none⟩ = some (.slice Va (srtC n wl).length ca) := by simp [World.cell?, s3]
  have x1 : X6.cell? ⟨b8, 1, none⟩ = some (.slice Vb (frL f (lkM W) p wl).length cb) := by simp [World.cell?, s3]
  have xl := heap_lt s3
  obtain ⟨l1, l2, l3, l4⟩ := HL.out
  obtain ⟨r1, r2, r3, r4, r5, r6⟩ := HZ.out
  have e4 : X6.heap[w.heap.size + 1]? = _ := (s1.block _ (heap_lt r3) (by simp; omega)).trans r3
  have t0 : X6.cell? ⟨w.heap.size + 1, 0, none⟩ = some (.slice none 0 0) := by simp [World.cell?, e4]
  have t1 : X6.cell? ⟨w.heap.size + 1, 1, none⟩ = some (.slice none 0 0) := by simp [World.cell?, e4]
  have u0 : X6.frozen? ⟨w.heap.size + 1, 0, none⟩ = false := by simp [World.frozen?, e4]
  have u1 : X6.frozen? ⟨w.heap.size + 1, 1, none⟩ = false := by simp [World.frozen?, e4]
  have tl := heap_lt e4
  have hbw : Below w.heap.size w X6 := r1.trans (s1.below r1.size fun b hb => by simp at hb; subst hb; omega)
  have hno : ∀ y, (y ∈ ownB (.slice Va (srtC n wl).length ca) ∨ y ∈ ownB (.slice Vb (frL f (lkM W) p wl).length cb)) → y ≠ w.heap.size + 1 ∧ w.heap.size ≤ y := fun y hy => by
    have : Z.heap.size ≤ y := hy.elim (s6 y) (s7 y)
    omega
  have hbf : Below w.heap.size w ((X6.setCell ⟨w.heap.size + 1, 0, none⟩ (.slice Va (srtC n wl).length ca)).setCell ⟨w.heap.size + 1, 1, none⟩ (.slice Vb (frL f (lkM W) p wl).length cb)) := (hbw.setCell (p := ⟨w.heap.size + 1, 0, none⟩) (by show w.heap.size ≤ w.heap.size + 1; omega) _).setCell (p := ⟨w.heap.size + 1, 1, none⟩) (by show w.heap.size ≤ w.heap.size + 1; omega) _
  have kk : ∀ y, y ≠ w.heap.size + 1 → ((X6.setCell ⟨w.heap.size + 1, 0, none⟩ (.slice Va (srtC n wl).length ca)).setCell ⟨w.heap.size + 1, 1, none⟩ (.slice Vb (frL f (lkM W) p wl).length cb)).heap[y]? = X6.heap[y]? := fun y hy => (Below.heap_setCell _ _ _ y hy).trans (Below.heap_setCell _ _ _ y hy)
  have HFin := Lib.hid (And.intro hbf (And.intro (s4.keep fun y hy => kk y (hno y (.inl hy)).1) (And.intro (s5.keep fun y hy => kk y (hno y (.inr hy)).1) hno)))
  clear hbf kk hno hbw e4 r1 r2 r3 r4 r5 r6 l1 l2 l3 l4 s1 s2 s3 s4 s5 s6 s7 s8
  go_wp2_with fail
  try rw [Exit.noGoto_ret]
  exact bodyPost_ret (v := .agg #[.slice Va (srtC n wl).length ca, .slice Vb (frL f (lkM W) p wl).length cb]) (by simp only [results, Tryz.results61]; go_simp) rfl ⟨_, _, rfl, HFin.out.1, HFin.out.2.1, HFin.out.2.2.1, fun y hy => (HFin.out.2.2.2 y (.inl hy)).2, fun y hy => (HFin.out.2.2.2 y (.inr hy)).2⟩
end
end Go.Proofs.YtkonfogebepccaaGreatDoor
namespace Go.Proofs.YtkonfogebepccaaGreatDoor
open Go.RowKit
attribute [local go_sem] cell_set
attribute [local go_sem] Oper.semAt_some
set_option maxRecDepth 100000
set_option linter.unusedVariables false
/-- The document's parts in memory, all made since Z. -/
structure PdS (Z X : World) (v : Value) (qs : List PV) : Prop where
  bel : Below Z.heap.size Z X
  lr : Row X 97 2 v qs.length (pvCells qs)
  lo : ∀ b ∈ ownB v, Z.heap.size ≤ b
  q1 : ∀ q ∈ qs, Row X 3 1 q.a q.xs.length (ivals q.xs) ∧ Row X 3 1 q.b q.ys.length (ivals q.ys)
def paQ (q : PV) : Pa := (q.xs, q.ys)
section
variable {Z X Y : World} {v : Value} {qs : List PV}
theorem PdS.start (Z : World) : PdS Z Z (.slice none 0 0) [] := ⟨Below.refl _ _, Row.nil _ _ _, by simp [ownB], by simp⟩
theorem PdS.below (h : PdS Z X v qs) (hb : Below X.heap.size X Y) : PdS Z Y v qs :=
  ⟨h.bel.trans (hb.mono h.bel.size), h.lr.keep fun b hm => hb.block b (h.lr.lt b hm), h.lo, fun q hq => ⟨(h.q1 q hq).1.keep fun b hm => hb.block b ((h.q1 q hq).1.lt b hm), (h.q1 q hq).2.keep fun b hm => hb.block b ((h.q1 q hq).2.lt b hm)⟩⟩
/-- A part more. -/
theorem PdS.app (h : PdS Z X v qs) {o : Obj} {w5 : World} {v5 : Value} {q : PV} (ra : Row X 3 1 q.a q.xs.length (ivals q.xs)) (rb : Row X 3 1 q.b q.ys.length (ivals q.ys))
    (r : Row w5 97 2 v5 (qs.length + 1) (pvCells qs ++ [q.a, q.b])) (k : Kp (ownB v) (X.alloc o) w5) (ho : ownB v5 = ownB v ∨ ownB v5 = [(X.alloc o).heap.size]) : PdS Z w5 v5 (qs ++ [q]) := by
  have hz := h.bel.size
  have kk : ∀ {u : Value} {n : Nat} {xs : List Value}, Row X 3 1 u n xs → Row w5 3 1 u n xs := fun {u n xs} hr => hr.keep fun b hb => (k.block b (by have := hr.lt b hb; simp; omega) (fun hm => row_ne hr h.lr (by decide) b hb hm)).trans (Below.heap_alloc _ _ _ (hr.lt b hb))
  refine ⟨(h.bel.alloc hz o).trans (k.below (by simp; omega) h.lo), by rw [List.length_append, List.length_singleton, pvCells_snoc]; exact r, fun b hb => ?_, fun q' hq' => ?_⟩
  · rcases ho with e | e <;> rw [e] at hb
    · exact h.lo b hb
    · simp at hb; omega
  · rcases List.mem_append.1 hq' with hq' | hq'
    · exact ⟨kk (h.q1 q' hq').1, kk (h.q1 q' hq').2⟩
    · simp at hq'; subst hq'; exact ⟨kk ra, kk rb⟩
theorem inPa_qs {p : Pt} : inPa (qs.map paQ) p ↔ ∃ q ∈ qs, bel (paQ q) p := by
  rw [inPa_bel]
  constructor
  · rintro ⟨x, hx, hb⟩
    obtain ⟨q, hq, rfl⟩ := List.mem_map.1 hx
    exact ⟨q, hq, hb⟩
  · rintro ⟨q, hq, hb⟩
    exact ⟨_, List.mem_map.2 ⟨q, hq, rfl⟩, hb⟩
end
def HitP (d d' : Bool) (qs : List PV) (k : Nat) (p : Pt) : Prop := d = false ∧ (d' = true ↔ ∃ q, qs[k]? = some q ∧ bel (paQ q) p)
noncomputable def alT (n : Nat) : Code := ((Tryz.f36.body).bind (tailQ n)).getD .skip
def FrAL (ds : List Deferred) (U : Nat → Value) : Act := { tmps := (U 0 :: U 1 :: U 2 :: U 3 :: U 4 :: U 5 :: U 6 :: U 7 :: U 8 :: U 9 :: U 10 :: U 11 :: U 12 :: U 13 :: U 14 :: U 15 :: U 16 :: U 17 :: U 18 :: U 19 :: U 20 :: U 21 :: U 22 :: U 23 :: U 24 :: U 25 :: U 26 :: U 27 :: U 28 :: U 29 :: U 30 :: U 31 :: U 32 :: U 33 :: U 34 :: U 35 :: U 36 :: U 37 :: U 38 :: U 39 :: U 40 :: U 41 :: U 42 :: U 43 :: U 44 :: U 45 :: U 46 :: U 47 :: U 48 :: U 49 :: U 50 :: U 51 :: U 52 :: U 53 :: U 54 :: U 55 :: U 56 :: U 57 :: U 58 :: U 59 :: U 60 :: U 61 :: U 62 :: U 63 :: U 64 :: U 65 :: U 66 :: U 67 :: U 68 :: U 69 :: U 70 :: U 71 :: U 72 :: U 73 :: U 74 :: U 75 :: U 76 :: U 77 :: []).toArray, defers := ds }
theorem FrN.openAL {ds : List Deferred} {L : List (Nat × Value)} {a : Act} (h : FrN 78 ds L a) : ∃ U, a = FrAL ds U ∧ Us U L := h.open_
section
variable (Q : Exit → Act → World → Prop) (Z : World) (b3 b5 M : Nat) (A : Option Addr) (sn cap : Nat) (V1 V2 V3 V : Option Addr) (c1 c2 c3 c n : Nat) (P : List Pt)
set_option maxHeartbeats 4000000 in
theorem al_8 (a : Act) (X : World) (i k m : Nat) (d : Bool) (p : Pt) (qs : List PV) (hk : k ≤ m) (hm5 : m ≤ 100000) (hm : qs.length = m) (hi : i < M) (hM5 : M ≤ 100000) (hP : Hid (P.length = M ∧ P.getD i default = p ∧ (p.1 < 0 → p = (-1, (i : Int)))))
    (hb5 : Hid (Z.heap[b5]? = some (.cells #[.slice V1 M c1, .slice V2 M c2, .slice V3 (n + 1) c3, .int .i64 (n : Int)] 92 (0, 0)) ∧ PtsRd Z V1 P)) (hl : Hid (∀ q ∈ qs, q.xs.length ≤ 100000 ∧ q.ys.length ≤ 100000))
    (hI : Hid (PdS Z X (.slice V m c) qs))
    (hgo : Hid (∀ a' X' d', k < m → FrN 78 [] [(0, .slice A sn cap), (3, .pointer (some ⟨b3, 0, none⟩)), (5, .pointer (some ⟨b5, 0, none⟩)), (6, .slice V m c), (7, .int .i64 (i : Int)), (8, .bool d'), (9, .int .i64 ((k + 1 : Nat) : Int))] a' → PdS Z X' (.slice V m c) qs → HitP d d' qs k p → Q .normal a' X'))
    (hout : Hid (∀ a' X', FrN 78 [] [(0, .slice A sn cap), (3, .pointer (some ⟨b3, 0, none⟩)), (5, .pointer (some ⟨b5, 0, none⟩)), (6, .slice V m c), (7, .int .i64 (i : Int)), (8, .bool d)] a' → d = true ∨ k = m → PdS Z X' (.slice V m c) qs → Q (.exit 2) a' X'))
    (ha : FrN 78 [] [(0, .slice A sn cap), (3, .pointer (some ⟨b3, 0, none⟩)), (5, .pointer (some ⟨b5, 0, none⟩)), (6, .slice V m c), (7, .int .i64 (i : Int)), (8, .bool d), (9, .int .i64 (k : Int))] a) : (alT 8).wp Tryz.prog Q a X := by
  obtain ⟨U, rfl, e0, e3, e5, e6, e7, e8, e9, -⟩ := ha.openAL
  unfold FrAL
  simp only [e0, e3, e5, e6, e7, e8, e9]
  clear e0 e3 e5 e6 e7 e8 e9 ha
  show (Code.seq _ _).wp _ _ _ _
  have HM := Lib.hid hm
  by_cases hlt : k < m
  · have hkm : (k : Int) < (m : Int) := by omega
    cases d with
    | true =>
      clear hm hlt
      repeat (first | ((with_reducible refine hout.out _ _ ?_ ?_ ?_); (· exact ⟨rfl, rfl, rfl, rfl, rfl, rfl, rfl, rfl, trivial⟩); (· exact .inl rfl); (· exact hI.out)) | go_values | go_skip | go_guarded | go_step | go_upon | go_back)
    | false =>
      have HLT : Hid (k < m) := hlt
      have hkl : k < qs.length := by omega
      obtain ⟨q, hq⟩ : ∃ q, qs[k]'hkl = q := ⟨_, rfl⟩
      have HQ : Hid (qs[k]? = some q) := by show _ = _; rw [← hq]; exact List.getElem?_eq_getElem hkl
      have hqm : q ∈ qs := by rw [← hq]; exact List.getElem_mem hkl
      obtain ⟨ra, rb⟩ := hI.out.q1 q hqm
      obtain ⟨la, lb⟩ := hl.out q hqm
      obtain ⟨gq, rfl⟩ : ∃ gq, V = some ⟨gq, 0, none⟩ := by
        rcases hI.out.lr.2 with ⟨e, h0⟩ | ⟨gv, cap', cur, e, _⟩
        · omega
        · injection e with e1; exact ⟨gv, e1⟩
      have hlr := hI.out.lr
      rw [hm] at hlr
      have x1 : X.cell? ⟨gq, k * 2, none⟩ = some q.a := by
        rw [hlr.cellAt (k * 2) (by omega), (pvCells_at hkl).1, hq]
      have x2 : X.cell? ⟨gq, k * 2 + 1, none⟩ = some q.b := by
        rw [hlr.cellAt (k * 2 + 1) (by omega), (pvCells_at hkl).2, hq]
      have x5 : X.heap[b5]? = _ := (hI.out.bel.block _ (heap_lt hb5.out.1)).trans hb5.out.1
      have x0 : X.cell? ⟨b5, 0, none⟩ = some (.slice V1 M c1) := by simp [World.cell?, x5]
      obtain ⟨b1, o1, rfl, hb1, f0, f1⟩ := (hb5.out.2.below hI.out.bel) i (by rw [hP.out.1]; exact hi)
      rw [hP.out.2.1] at f0
      have him : (i : Int) < (M : Int) := by omega
      have HIX := hI
      have HI : Hid (PdS Z X (.slice (some ⟨gq, 0, none⟩) m c) qs) := hI
      by_cases h0 : p.1 < 0
      · obtain rfl := hP.out.2.2 h0
        have HC : Hid (∀ nd, Calls Tryz.prog 60 #[q.b, .int .i64 (i : Int)] (X.drewN nd) fun e w' => e = .returned (.bool (decide ((i : Int) ∈ q.ys))) ∧ w' = X.drewN nd) := fun nd => rhas _ (Lib.hid (rb.keep fun _ _ => rfl)) lb
        have HD : Hid (HitP false (decide ((i : Int) ∈ q.ys)) qs k (-1, (i : Int))) := ⟨rfl, by
          rw [HQ.out, decide_eq_true_iff]
          constructor
          · intro h; exact ⟨q, rfl, bel_free.2 h⟩
          · rintro ⟨q', e, h⟩; injection e with e; subst e; exact bel_free.1 h⟩
        clear hm hlt hkl hq hqm ra rb la lb x1 x5 f1 h0 hI hlr
        generalize decide ((i : Int) ∈ q.ys) = e at HC HD
        generalize q.b = vb at HC x2
        cases e with
        | true =>
          go_wp2_with fail
          go_quiet (first | (go_at_call 60; refine Calls.quiet_of_same (HC.out _)))
          repeat (first | go_values | go_skip | go_guarded | go_step | go_upon | go_back)
          exact hgo.out _ _ _ HLT.out ⟨rfl, rfl, rfl, rfl, rfl, rfl, rfl, rfl, rfl, trivial⟩ (HI.out.below (below_drewN (Below.refl _ _) _)) HD.out
        | false =>
          go_wp2_with fail
          go_quiet (first | (go_at_call 60; refine Calls.quiet_of_same (HC.out _)))
          repeat (first | go_values | go_skip | go_guarded | go_step | go_upon | go_back)
          exact hgo.out _ _ _ HLT.out ⟨rfl, rfl, rfl, rfl, rfl, rfl, rfl, rfl, rfl, trivial⟩ (HI.out.below (below_drewN (Below.refl _ _) _)) HD.out
      · obtain ⟨cz, hcz⟩ := Int.eq_ofNat_of_zero_le (show 0 ≤ p.1 by omega)
        obtain ⟨p1, p2⟩ := p
        dsimp only at hcz f0
        subst hcz
        have HC : Hid (∀ nd, Calls Tryz.prog 60 #[q.a, .int .i64 (cz : Int)] (X.drewN nd) fun e w' => e = .returned (.bool (decide ((cz : Int) ∈ q.xs))) ∧ w' = X.drewN nd) := fun nd => rhas _ (Lib.hid (ra.keep fun _ _ => rfl)) la
        have HD : Hid (HitP false (decide ((cz : Int) ∈ q.xs)) qs k ((cz : Int), p2)) := ⟨rfl, by
          rw [HQ.out, decide_eq_true_iff]
          constructor
          · intro h; exact ⟨q, rfl, (bel_cell (by omega)).2 h⟩
          · rintro ⟨q', e, h⟩; injection e with e; subst e; exact (bel_cell (by omega)).1 h⟩
        have hz1 : decide ((cz : Int) < 0) = false := decide_eq_false (by omega)
        have hz2 : decide ((0 : Int) ≤ (cz : Int)) = true := decide_eq_true (by omega)
        clear hm hlt hkl hq hqm ra rb la lb x2 x5 f1 h0 hI hlr
        generalize decide ((cz : Int) ∈ q.xs) = e at HC HD
        generalize q.a = vb at HC x1
        cases e with
        | true =>
          go_wp2_with fail
          go_quiet (first | (go_at_call 60; refine Calls.quiet_of_same (HC.out _)))
          repeat (first | go_values | go_skip | go_guarded | go_step | go_upon | go_back)
          exact hgo.out _ _ _ HLT.out ⟨rfl, rfl, rfl, rfl, rfl, rfl, rfl, rfl, rfl, trivial⟩ (HI.out.below (below_drewN (Below.refl _ _) _)) HD.out
        | false =>
          go_wp2_with fail
          go_quiet (first | (go_at_call 60; refine Calls.quiet_of_same (HC.out _)))
          repeat (first | go_values | go_skip | go_guarded | go_step | go_upon | go_back)
          exact hgo.out _ _ _ HLT.out ⟨rfl, rfl, rfl, rfl, rfl, rfl, rfl, rfl, rfl, trivial⟩ (HI.out.below (below_drewN (Below.refl _ _) _)) HD.out
  · obtain rfl : k = m := by omega
    have hkm : ¬ (k : Int) < (k : Int) := by omega
    clear hm hlt
    repeat (first | ((with_reducible refine hout.out _ _ ?_ ?_ ?_); (· exact ⟨rfl, rfl, rfl, rfl, rfl, rfl, rfl, rfl, trivial⟩); (· exact .inr rfl); (· exact hI.out)) | go_values | go_skip | go_guarded | go_step | go_upon | go_back)
end
end Go.Proofs.YtkonfogebepccaaGreatDoor
