/-
  A wiring's steps keep its links going both ways. (Plain Lean, no program.)
-/
import Derived.Test.YthbobooiedcofaaWirSpec
set_option linter.unusedVariables false
namespace Go.Proofs.Ythbobooiedcofaa
namespace Wir
variable {S : Wir}
theorem cut_eq {p : Pt} (he : S.toE p = 0) : S.cut p = S.part p (S.toP p) := by unfold cut; rw [if_pos he]
theorem Ok.cut (h : S.Ok) (p : Pt) : (S.cut p).Ok := by
  unfold Wir.cut
  split
  · exact h.part _ _
  · exact h
theorem Both.cut (h : S.Ok) (hb : S.Both) (p : Pt) : (S.cut p).Both := by
  by_cases he : S.toE p = 0
  · rw [cut_eq he]; exact hb.part h he
  · unfold Wir.cut; rw [if_neg he]; exact hb
theorem linkE_0 {p q : Pt} (he : S.linkE p q = 0) : S.toE p = 32 ∧ S.toE q = 32 ∧ p ≠ q := by
  unfold linkE at he
  split at he
  · omega
  · split at he
    · omega
    · rename_i h1 h2
      have a := toE_cases S p
      have b := toE_cases S q
      refine ⟨?_, ?_, fun e => h2 (.inl e)⟩
      · rcases a with a | a | a
        · exact absurd (.inr (.inl a)) h2
        · exact absurd (.inl a) h1
        · exact a
      · rcases b with b | b | b
        · exact absurd (.inr (.inr b)) h2
        · exact absurd (.inr b) h1
        · exact b
theorem link_ok (h : S.Ok) (hb : S.Both) (p q : Pt) : (S.link p q).Ok ∧ (S.link p q).Both := by
  unfold link
  split
  · rename_i he
    obtain ⟨h1, h2, hne⟩ := linkE_0 he
    obtain ⟨p1, p2⟩ := hb.free h h1
    obtain ⟨q1, q2⟩ := hb.free h h2
    exact ⟨h.join p1 q1, hb.join h hne p1 q1 p2 q2⟩
  · exact ⟨h, hb⟩
theorem cut_wE (h : S.Ok) (p x : Pt) : (S.cut p).wE x = S.wE x := by
  unfold Wir.cut
  split
  · unfold Wir.part; rw [two_wE]
  · rfl
theorem cut_wV (h : S.Ok) (hb : S.Both) {p : Pt} (he : S.toE p = 0) (x : Pt) : (S.cut p).wV x = if x = S.toP p ∨ x = p then 4294967295 else S.wV x := by
  obtain ⟨hp, hq, _⟩ := hb.to h he
  rw [cut_eq he]
  unfold Wir.part
  rw [two_wV _ _ hp hq]
  by_cases e1 : x = S.toP p
  · rw [if_pos e1, if_pos (.inl e1)]
  · by_cases e2 : x = p
    · rw [if_neg e1, if_pos e2, if_pos (.inr e2)]
    · rw [if_neg e1, if_neg e2, if_neg (fun h => h.elim e1 e2)]
theorem passE_0 {p q : Pt} (he : S.passE p q = 0) : S.toE p = 0 ∧ S.toE q = 0 ∧ p ≠ q := by
  unfold passE at he
  split at he
  · omega
  · split at he
    · omega
    · split at he
      · omega
      · rename_i h1 h2 h3
        exact ⟨Classical.byContradiction fun h => h3 (.inl h), Classical.byContradiction fun h => h3 (.inr h), h2⟩
/-- What a wire that passes through is in the middle of it. -/
theorem pass_mid (h : S.Ok) (hb : S.Both) {p q : Pt} (he : S.passE p q = 0) (hne : S.toP p ≠ q) :
    (S.cut p).toE q = 0 ∧ (S.cut p).toP q = S.toP q ∧ S.toP p ≠ S.toP q ∧ ((S.cut p).cut q).wE (S.toP p) = 0 ∧ ((S.cut p).cut q).wE (S.toP q) = 0 ∧ ((S.cut p).cut q).wV (S.toP p) = 4294967295 ∧ ((S.cut p).cut q).wV (S.toP q) = 4294967295 := by
  obtain ⟨h1, h2, hpq⟩ := passE_0 he
  obtain ⟨pv, pa, pn, p1, p2, p3, p4⟩ := hb.to h h1
  obtain ⟨qv, qa, qn, q1, q2, q3, q4⟩ := hb.to h h2
  have hab : S.toP p ≠ S.toP q := fun e => hpq (by rw [← p4, e, q4])
  have hqb : S.toP q ≠ p := fun e => hne (by rw [← e, q4])
  have v1 : (S.cut p).wV q = pkP (S.toP q) := by rw [cut_wV h hb h1, if_neg (fun e => e.elim (fun e => hne e.symm) (fun e => hpq e.symm)), q1]
  obtain ⟨t1, t2⟩ := to_some (h.cut p) (p := q) (q := S.toP q) (by rw [cut_wE h]; exact qv) (by rw [cut_wE h]; exact qa) v1
  have hb1 := hb.cut h p
  refine ⟨t1, t2, hab, by rw [cut_wE (h.cut p), cut_wE h]; exact pa, by rw [cut_wE (h.cut p), cut_wE h]; exact qa, ?_, ?_⟩
  · rw [cut_wV (h.cut p) hb1 t1, t2, if_neg (fun e => e.elim hab hne), cut_wV h hb h1, if_pos (.inl rfl)]
  · rw [cut_wV (h.cut p) hb1 t1, t2, if_pos (.inl rfl)]
theorem linkE_of {p q : Pt} (hne : p ≠ q) (h1 : S.toE p = 32) (h2 : S.toE q = 32) : S.linkE p q = 0 := by
  unfold linkE
  rw [if_neg (by omega), if_neg (fun h => by rcases h with h | h | h; exact hne h; omega; omega)]
theorem pass_link (h : S.Ok) (hb : S.Both) {p q : Pt} (he : S.passE p q = 0) (hne : S.toP p ≠ q) : ((S.cut p).cut q).linkE (S.toP p) (S.toP q) = 0 := by
  obtain ⟨_, _, h3, h4, h5, h6, h7⟩ := pass_mid h hb he hne
  exact linkE_of h3 (to_none h4 h6) (to_none h5 h7)
theorem pass_ok (h : S.Ok) (hb : S.Both) (p q : Pt) : (S.pass p q).Ok ∧ (S.pass p q).Both := by
  unfold pass
  split
  · exact ⟨h, hb⟩
  · rename_i he
    have he : S.passE p q = 0 := Classical.byContradiction he
    split
    · exact ⟨h.cut p, hb.cut h p⟩
    · rename_i hne
      obtain ⟨_, _, h3, h4, h5, h6, h7⟩ := pass_mid h hb he hne
      have k := (h.cut p).cut q
      have kb := (hb.cut h p).cut (h.cut p) q
      exact ⟨k.join h4 h5, kb.join k h3 h4 h5 h6 h7⟩
/-! ### Cells taken, cells given back -/
def take (S : Wir) (ag ar : Int) : Wir := { S with A := S.A.take ag ar }
theorem Ok.take (h : S.Ok) (ag ar : Int) : (S.take ag ar).Ok := ⟨h.a.take ag ar, h.p, h.w⟩
theorem take_at (h : S.Ok) {ag ar : Int} (he : S.A.takeE ag ar = 0) {x : Pt} (hx : x.1 ≠ S.A.takeC ag ar) : (S.take ag ar).wE x = S.wE x ∧ (S.take ag ar).wV x = S.wV x := by
  have hc := Ars.take_cell h.a he x.1
  rw [if_neg hx] at hc
  unfold Wir.take wE wV
  simp only [Ars.slotE, Ars.getV, hc]
  exact ⟨rfl, trivial⟩
theorem take_new (h : S.Ok) {ag ar : Int} (he : S.A.takeE ag ar = 0) {x : Pt} (hx : x.1 = S.A.takeC ag ar) : S.wE x ≠ 0 ∧ ((S.take ag ar).wE x = 0 → (S.take ag ar).wV x = 4294967295) := by
  obtain ⟨hn, h0⟩ := Ars.take_new h.a he
  have hne : ¬ x.1 = -1 := by omega
  refine ⟨?_, fun hw => ?_⟩
  · unfold wE
    rw [if_neg hne, hx]
    unfold Ars.slotE
    rw [hn]
    simp
  · have hc := Ars.take_cell h.a he x.1
    rw [if_pos hx] at hc
    unfold Wir.take wE at hw
    unfold Wir.take wV
    rw [if_neg hne] at hw ⊢
    simp only at hw ⊢
    split at hw
    · rename_i h1
      obtain ⟨ag', ws, hc', s0, s1⟩ := Ars.slot_ok h1
      rw [hc] at hc'
      unfold Ars.fresh at hc'
      injection hc' with hc'
      injection hc' with _ hws
      rw [(Ars.slot_of (by rw [hc]; unfold Ars.fresh; rw [hws]) s0 s1).2, ← hws, List.getD_eq_getElem?_getD, List.getElem?_replicate, if_pos (by rw [← hws] at s1; simp at s1; omega)]
      rfl
    · omega
theorem Both.take (h : S.Ok) (hb : S.Both) (ag ar : Int) : (S.take ag ar).Both := by
  by_cases he : S.A.takeE ag ar = 0
  · refine ⟨fun x hx => ?_⟩
    by_cases hc : x.1 = S.A.takeC ag ar
    · exact .inl ((take_new h he hc).2 hx)
    · obtain ⟨e1, e2⟩ := take_at h he hc
      rw [e1] at hx
      rw [e2]
      rcases hb.l x hx with hv | ⟨y, hy, hxy, h1, h2⟩
      · exact .inl hv
      · have hyc : y.1 ≠ S.A.takeC ag ar := fun e => (take_new h he e).1 hy
        obtain ⟨f1, f2⟩ := take_at h he hyc
        exact .inr ⟨y, by rw [f1]; exact hy, hxy, h1, by rw [f2]; exact h2⟩
  · have : S.take ag ar = S := by unfold Wir.take; rw [Ars.take_same he]
    rw [this]; exact hb
theorem dropE_0 {c : Int} (he : S.dropE c = 0) : ∃ ag ws, S.A.cell c = some (ag, ws) ∧ ∀ s : Nat, s < ws.length → S.toE (c, (s : Int)) ≠ 0 := by
  unfold dropE at he
  cases hc : S.A.cell c with
  | none => rw [hc] at he; simp at he
  | some x =>
    obtain ⟨ag, ws⟩ := x
    rw [hc] at he
    simp only [Option.isSome_some, if_true] at he
    split at he
    · omega
    · rename_i hl
      refine ⟨ag, ws, rfl, fun s hs e => hl ?_⟩
      have hA : S.A.agA c = (ws.length : Int) - 1 := by unfold Ars.agA; rw [hc]
      unfold linkedN
      rw [List.any_eq_true]
      exact ⟨s, List.mem_range.2 (by rw [hA]; omega), decide_eq_true e⟩
theorem Ok.drop (h : S.Ok) (c : Int) : (S.drop c).Ok := by
  unfold Wir.drop
  split
  · exact ⟨h.a.give c, h.p, h.w⟩
  · exact h
theorem Both.drop (h : S.Ok) (hb : S.Both) (c : Int) : (S.drop c).Both := by
  unfold Wir.drop
  split
  · rename_i he
    obtain ⟨ag, ws, hc, hall⟩ := dropE_0 he
    obtain ⟨c0, _⟩ := Ars.cell_some hc
    have hat : ∀ x : Pt, x.1 ≠ c → ({ S with A := S.A.give c } : Wir).wE x = S.wE x ∧ ({ S with A := S.A.give c } : Wir).wV x = S.wV x := fun x hx => by
      have hg := Ars.give_cell (S := S.A) (c := c) x.1
      rw [if_neg hx] at hg
      unfold wE wV
      simp only [Ars.slotE, Ars.getV, hg]
      exact ⟨rfl, trivial⟩
    have hin : ∀ x : Pt, x.1 = c → ({ S with A := S.A.give c } : Wir).wE x ≠ 0 := fun x hx => by
      have hg := Ars.give_cell (S := S.A) (c := c) x.1
      rw [if_pos hx] at hg
      unfold wE
      rw [if_neg (by omega)]
      simp only [Ars.slotE, hg]
      simp
    have hfree : ∀ x : Pt, x.1 = c → S.wE x = 0 → S.wV x = 4294967295 := fun x hx hw => by
      have hw2 := hw
      unfold wE at hw2
      rw [if_neg (by omega)] at hw2
      split at hw2
      · rename_i h1
        rw [hx] at h1
        obtain ⟨ag', ws', hc', s0, s1⟩ := Ars.slot_ok h1
        rw [hc] at hc'
        simp only [Option.some.injEq, Prod.mk.injEq] at hc'
        obtain ⟨rfl, rfl⟩ := hc'
        have hn := hall x.2.toNat (by omega)
        have hxx : (c, ((x.2.toNat : Nat) : Int)) = x := Prod.ext hx.symm (by show ((x.2.toNat : Nat) : Int) = x.2; omega)
        rw [hxx] at hn
        rcases toE_cases S x with h3 | h3 | h3
        · exact absurd h3 hn
        · exact absurd hw ((toE_30 x).1 h3)
        · exact (hb.free h h3).2
      · omega
    refine ⟨fun x hx => ?_⟩
    have hxc : x.1 ≠ c := fun e => hin x e hx
    obtain ⟨e1, e2⟩ := hat x hxc
    rw [e1] at hx
    rw [e2]
    rcases hb.l x hx with hv | ⟨y, hy, hxy, h1, h2⟩
    · exact .inl hv
    · have hyc : y.1 ≠ c := fun e => by
        have := hfree y e hy
        rw [this] at h2
        exact pk_ne h hx h2.symm
      obtain ⟨f1, f2⟩ := hat y hyc
      exact .inr ⟨y, by rw [f1]; exact hy, hxy, h1, by rw [f2]; exact h2⟩
  · exact hb
theorem Ok.new {A : Ars} (hA : A.Ok) {free : Nat} (hf : free ≤ 64) : (new A free).Ok :=
  ⟨hA, by simpa [Wir.new] using hf, fun x hx => by
    have := List.eq_of_mem_replicate (show x ∈ List.replicate free 4294967295 from hx)
    omega⟩
theorem Both.new {m free : Nat} (h : 1 ≤ m) : (new (Ars.empty m) free).Both := by
  refine ⟨fun x hx => .inl ?_⟩
  unfold wE at hx
  unfold wV
  split at hx
  · rename_i h1
    rw [if_pos h1]
    split at hx
    · omega
    · rename_i h2
      rw [if_neg h2]
      simp only [Wir.new, List.length_replicate] at h2 ⊢
      rw [List.getD_eq_getElem?_getD, List.getElem?_replicate, if_pos (by omega)]
      rfl
  · split at hx
    · rename_i h1
      obtain ⟨ag, ws, hc, _⟩ := Ars.slot_ok h1
      obtain ⟨_, hx'⟩ := Ars.cell_some hc
      simp [Wir.new, Ars.empty] at hx'
    · omega
/-- To and back. -/
theorem back (h : S.Ok) (hb : S.Both) {p : Pt} (he : S.toE p = 0) : S.toE (S.toP p) = 0 ∧ S.toP (S.toP p) = p := (hb.to h he).2.2.2.2.2
end Wir
end Go.Proofs.Ythbobooiedcofaa
