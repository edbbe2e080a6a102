/-
  Plain: what a net is when it is loaded: cells taken, wires linked. (Plain Lean, no program.)
-/
import Derived.Test.YthbobooiedcofaaWirPts
import Derived.Test.YthbobooiedcofaaWirPts
set_option linter.unusedVariables false
namespace Go.Proofs.Ythbobooiedcofaa

/-- An arena from which so many cells were taken, of which none was given back. -/
def tookA (most : Nat) (ar : Int → Int) (cells : List Int) : Ars := { most, cells := cells.map fun a => Ars.fresh a (ar a), back := [] }
theorem tookA_nil (most : Nat) (ar : Int → Int) : tookA most ar [] = Ars.empty most := rfl
theorem tookA_take {most : Nat} {ar : Int → Int} {cells : List Int} {a : Int} (hl : cells.length < most) (hb : ¬ Ars.bad a (ar a)) :
    (tookA most ar cells).takeE a (ar a) = 0 ∧ (tookA most ar cells).takeC a (ar a) = (cells.length : Int) ∧ (tookA most ar cells).take a (ar a) = tookA most ar (cells ++ [a]) := by
  have hne : (tookA most ar cells).nextE = 0 := by
    unfold Ars.nextE tookA
    simp only [List.getLast?_nil, List.length_map]
    rw [if_neg (by omega)]
  have hnc : (tookA most ar cells).nextC = (cells.length : Int) := by
    unfold Ars.nextC tookA
    simp only [List.getLast?_nil, List.length_map]
    rw [if_neg (by omega)]
  have h1 : (tookA most ar cells).takeE a (ar a) = 0 := by unfold Ars.takeE; rw [if_neg hb]; exact hne
  refine ⟨h1, by unfold Ars.takeC; rw [if_neg hb]; exact hnc, ?_⟩
  unfold Ars.take
  rw [if_neg (by omega)]
  simp [tookA]
theorem tookA_cell {most : Nat} {ar : Int → Int} {cells : List Int} (c : Int) : (tookA most ar cells).cell c = if 0 ≤ c ∧ c < cells.length then Ars.fresh (cells.getD c.toNat 0) (ar (cells.getD c.toNat 0)) else none := by
  unfold Ars.cell tookA
  by_cases h0 : 0 ≤ c
  · rw [if_pos h0]
    by_cases h1 : c < cells.length
    · have h2 : c.toNat < cells.length := by omega
      rw [if_pos ⟨h0, h1⟩]
      simp [List.getD_eq_getElem?_getD, h2]
    · rw [if_neg (fun h => h1 h.2)]
      simp [List.getElem?_eq_none (show cells.length ≤ c.toNat by omega)]
  · rw [if_neg h0, if_neg (fun h => h0 h.1)]
namespace Wir
/-- A port of a net that was loaded. -/
theorem took_wE {most f : Nat} {ar : Int → Int} {pn : Int → Nat} {cells : List Int} {P : List Int} (hP : P.length = f) (hpn : ∀ a ∈ cells, (ar a).toNat + 1 = pn a) (p : Pt) : (Wir.mk (tookA most ar cells) P).wE p = 0 ↔ isPt pn cells f p = true := by
  obtain ⟨c, s⟩ := p
  unfold wE isPt
  by_cases hc : c = -1
  · subst hc
    simp only [if_true, decide_eq_true_eq, hP]
    by_cases h : s < 0 ∨ (f : Int) ≤ s
    · rw [if_pos h]
      constructor
      · intro h2; exact absurd h2 (by decide)
      · intro h2; omega
    · rw [if_neg h]
      constructor
      · intro _; omega
      · intro _; rfl
  · simp only [hc, if_false, decide_eq_true_eq]
    have key : (tookA most ar cells).slotE c s = 0 ↔ (0 ≤ c ∧ c < cells.length ∧ 0 ≤ s ∧ s < pn (cells.getD c.toNat 0)) := by
      unfold Ars.slotE
      rw [tookA_cell]
      by_cases h : 0 ≤ c ∧ c < cells.length
      · rw [if_pos h]
        have hm : cells.getD c.toNat 0 ∈ cells := by
          rw [List.getD_eq_getElem?_getD, List.getElem?_eq_getElem (show c.toNat < cells.length by omega)]
          exact List.getElem_mem _
        have hp := hpn _ hm
        simp only [Ars.fresh, List.length_replicate]
        by_cases h2 : s < 0 ∨ (((ar (cells.getD c.toNat 0)).toNat + 1 : Nat) : Int) ≤ s
        · rw [if_pos h2]
          constructor
          · intro h3; exact absurd h3 (by decide)
          · rintro ⟨_, _, h3, h4⟩; omega
        · rw [if_neg h2]
          constructor
          · intro _; exact ⟨h.1, h.2, by omega, by omega⟩
          · intro _; rfl
      · rw [if_neg h]
        constructor
        · intro h2; simp at h2
        · intro h2; exact absurd ⟨h2.1, h2.2.1⟩ h
    by_cases hk : (tookA most ar cells).slotE c s = 0
    · rw [if_pos hk]; exact ⟨fun _ => key.1 hk, fun _ => rfl⟩
    · rw [if_neg hk]
      constructor
      · intro h2; exact absurd h2 (by decide)
      · intro h2; exact absurd (key.2 h2) hk
def linkAll (S : Wir) (W : List (Pt × Pt)) : Wir := W.foldl (fun S w => S.link w.1 w.2) S
theorem linkAll_snoc (S : Wir) (W : List (Pt × Pt)) (w : Pt × Pt) : S.linkAll (W ++ [w]) = (S.linkAll W).link w.1 w.2 := by simp [linkAll]
/-- Linked so far: what each port holds. -/
structure Lk (S0 : Wir) (W : List (Pt × Pt)) (S : Wir) : Prop where
  ok : S.Ok
  e : ∀ p, S.wE p = S0.wE p
  v : ∀ p, S0.wE p = 0 → S.wV p = match lnk W p with
    | some q => pkP q
    | none => 4294967295
theorem Lk.step {S0 S : Wir} {W : List (Pt × Pt)} {a b : Pt} (h : Lk S0 W S) (ha : S0.wE a = 0) (hb : S0.wE b = 0) (hne : a ≠ b) (h1 : a ∉ ends W) (h2 : b ∉ ends W) : S.linkE a b = 0 ∧ Lk S0 (W ++ [(a, b)]) (S.link a b) := by
  have ea : S.wE a = 0 := (h.e a).trans ha
  have eb : S.wE b = 0 := (h.e b).trans hb
  have va : S.wV a = 4294967295 := by rw [h.v a ha, lnk_none h1]
  have vb : S.wV b = 4294967295 := by rw [h.v b hb, lnk_none h2]
  have hE : S.linkE a b = 0 := linkE_of hne (to_none ea va) (to_none eb vb)
  have hl : S.link a b = S.join a b := by unfold link; rw [if_pos hE]
  refine ⟨hE, ?_⟩
  rw [hl]
  refine ⟨h.ok.join ea eb, fun p => by unfold join; rw [two_wE]; exact h.e p, fun p hp => ?_⟩
  unfold join
  rw [two_wV _ _ ea eb, lnk_snoc]
  by_cases e1 : p = b
  · subst e1
    rw [if_pos rfl, lnk_none h2, if_neg hne, if_pos rfl]; rfl
  · rw [if_neg e1]
    by_cases e2 : p = a
    · subst e2
      rw [if_pos rfl, lnk_none h1, if_pos rfl]; rfl
    · rw [if_neg e2, h.v p hp, if_neg (fun e => e2 e.symm), if_neg (fun e => e1 e.symm)]
      cases lnk W p <;> rfl
theorem ends_app (W V : List (Pt × Pt)) : ends (W ++ V) = ends W ++ ends V := by simp [ends]
theorem ends_part {W : List (Pt × Pt)} (hn : (ends W).Nodup) {k : Nat} (hk : k < W.length) : (W.getD k default).1 ∉ ends (W.take k) ∧ (W.getD k default).2 ∉ ends (W.take k) ∧ (W.getD k default).1 ≠ (W.getD k default).2 ∧ (W.getD k default).1 ∈ ends W ∧ (W.getD k default).2 ∈ ends W := by
  have e : W.getD k default = W[k] := by simp [List.getD_eq_getElem?_getD, hk]
  rw [e]
  have hs : W = W.take k ++ W[k] :: W.drop (k + 1) := by
    conv => lhs; rw [← List.take_append_drop k W]
    rw [List.drop_eq_getElem_cons hk]
  generalize W[k] = x at hs ⊢
  obtain ⟨a, b⟩ := x
  have he : ends W = ends (W.take k) ++ (a :: b :: ends (W.drop (k + 1))) := by
    conv => lhs; rw [hs]
    rw [ends_app]
    simp [ends]
  rw [he] at hn ⊢
  rw [List.nodup_append] at hn
  obtain ⟨_, h2, h3⟩ := hn
  rw [List.nodup_cons] at h2
  refine ⟨fun hm => h3 a hm a (by simp) rfl, fun hm => h3 b hm b (by simp) rfl, fun e2 => h2.1 (by have e3 : a = b := e2; simp [e3]), by simp, by simp⟩
/-- All wires of a net that may be are linked, one by one. -/
theorem link_all {pn : Int → Nat} {cells : List Int} {f : Nat} {W : List (Pt × Pt)} (hok : NetOk pn cells f W) {S0 : Wir} (h0 : S0.Ok) (hw : ∀ p, S0.wE p = 0 ↔ isPt pn cells f p = true) (hv : ∀ p, S0.wE p = 0 → S0.wV p = 4294967295) {k : Nat} (hk : k ≤ W.length) :
    Lk S0 (W.take k) (S0.linkAll (W.take k)) ∧ (k < W.length → (S0.linkAll (W.take k)).linkE (W.getD k default).1 (W.getD k default).2 = 0 ∧ S0.linkAll (W.take (k + 1)) = (S0.linkAll (W.take k)).link (W.getD k default).1 (W.getD k default).2) := by
  have step : ∀ j, j < W.length → Lk S0 (W.take j) (S0.linkAll (W.take j)) → (S0.linkAll (W.take j)).linkE (W.getD j default).1 (W.getD j default).2 = 0 ∧ S0.linkAll (W.take (j + 1)) = (S0.linkAll (W.take j)).link (W.getD j default).1 (W.getD j default).2 ∧ Lk S0 (W.take (j + 1)) (S0.linkAll (W.take (j + 1))) := by
    intro j hj h
    obtain ⟨e1, e2, e3, e4, e5⟩ := ends_part hok.nodup hj
    have ht : W.take (j + 1) = W.take j ++ [W.getD j default] := by rw [List.take_add_one, List.getElem?_eq_getElem hj, List.getD_eq_getElem?_getD, List.getElem?_eq_getElem hj]; rfl
    obtain ⟨g1, g2⟩ := h.step ((hw _).2 (hok.is _ e4)) ((hw _).2 (hok.is _ e5)) e3 e1 e2
    refine ⟨g1, by rw [ht, linkAll_snoc], ?_⟩
    rw [ht, linkAll_snoc]
    exact g2
  have all : ∀ j, j ≤ W.length → Lk S0 (W.take j) (S0.linkAll (W.take j)) := by
    intro j
    induction j with
    | zero => intro _; exact ⟨h0, fun _ => rfl, fun p hp => by show S0.wV p = _; rw [hv p hp]; rfl⟩
    | succ j ih => intro hj; exact (step j (by omega) (ih (by omega))).2.2
  exact ⟨all k hk, fun hlt => ⟨(step k hlt (all k hk)).1, (step k hlt (all k hk)).2.1⟩⟩
/-- A net that was loaded: where each port leads. -/
theorem Lk.to {pn : Int → Nat} {cells : List Int} {f : Nat} {W : List (Pt × Pt)} (hok : NetOk pn cells f W) {S0 S : Wir} (h : Lk S0 W S) (hw : ∀ p, S0.wE p = 0 ↔ isPt pn cells f p = true) {p : Pt} (hp : isPt pn cells f p = true) :
    ∃ q, lnk W p = some q ∧ isPt pn cells f q = true ∧ S.wE p = 0 ∧ S.wV p = pkP q ∧ S.toE p = 0 ∧ S.toP p = q := by
  obtain ⟨q, hq, hq2⟩ := hok.lnk hp
  have h1 : S.wE p = 0 := (h.e p).trans ((hw p).2 hp)
  have h2 : S.wE q = 0 := (h.e q).trans ((hw q).2 hq2)
  have h3 : S.wV p = pkP q := by rw [h.v p ((hw p).2 hp), hq]
  obtain ⟨h4, h5⟩ := to_some h.ok h1 h2 h3
  exact ⟨q, hq, hq2, h1, h3, h4, h5⟩
end Wir
end Go.Proofs.Ythbobooiedcofaa
