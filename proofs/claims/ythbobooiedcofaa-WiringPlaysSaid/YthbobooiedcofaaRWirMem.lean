/-
  The document's wiring in memory; Word, put.
-/
import Derived.Test.YthbobooiedcofaaRTakeAll
import Derived.Test.YthbobooiedcofaaWirPts
import Derived.Test.YthbobooiedcofaaWord
import Derived.Test.YthbobooiedcofaaWirPut
namespace Go.Proofs.Ythbobooiedcofaa
open Go.RowKit
attribute [local go_sem] cell_set
set_option maxRecDepth 100000
set_option linter.unusedVariables false

/-- The document's wiring in memory: block B, its arena's block A, all further blocks F. -/
structure RG (w : World) (B A : Nat) (S : Wir) (F : List Nat) : Prop where
  hd : ∃ (FA : List Nat) (pv : Value), w.heap[B]? = some (.cells #[.pointer (some ⟨A, 0, none⟩), pv] 99 (0, 0)) ∧ Row w 49 1 pv S.P.length (wvals S.P) ∧ RA w A S.A FA ∧ (∀ b ∈ ownB pv, b ∉ FA) ∧ F = ownB pv ++ FA
  ok : S.Ok
theorem RA.tys {w : World} {A : Nat} {S : Ars} {F : List Nat} (h : RA w A S F) : ∀ b ∈ F, ∃ c t, w.heap[b]? = some (.cells c t (0, 0)) ∧ (t = 121 ∨ t = 147 ∨ t = 3 ∨ t = 49) := by
  obtain ⟨cv, bv, cs, h0, hl, hw, ha, rfl, ok, hwd⟩ := h.words
  intro b hm
  simp only [List.mem_cons, List.mem_append, List.mem_flatMap] at hm
  rcases hm with rfl | hm | hm | ⟨r, hr, hm⟩
  · exact ⟨_, _, h0.head, .inl rfl⟩
  · obtain ⟨cur, hh⟩ := h0.cells.ty hm; exact ⟨_, _, hh, .inr (.inl rfl)⟩
  · obtain ⟨cur, hh⟩ := h0.back.ty hm; exact ⟨_, _, hh, .inr (.inr (.inl rfl))⟩
  · obtain ⟨cur, hh⟩ := hwd r hr b hm; exact ⟨_, _, hh, .inr (.inr (.inr rfl))⟩
section
variable {w w' : World} {B A : Nat} {S : Wir} {FA : List Nat}
theorem RG.lt (h : RG w B A S FA) : B < w.heap.size := by obtain ⟨_, _, hh, _⟩ := h.hd; exact heap_lt hh
theorem RG.na (h : RG w B A S FA) : B ∉ FA := fun hm => by
  obtain ⟨FR, pv, hh, hr, ha, _, rfl⟩ := h.hd
  rcases List.mem_append.1 hm with hm | hm
  · obtain ⟨cur, h2⟩ := hr.ty hm
    exact ty_ne hh h2 (by decide) rfl
  · obtain ⟨c, t, h2, h3⟩ := ha.tys B hm
    refine ty_ne hh h2 ?_ rfl
    rcases h3 with rfl | rfl | rfl | rfl <;> decide
theorem RG.cells (h : RG w B A S FA) : w.cell? ⟨B, 0, none⟩ = some (.pointer (some ⟨A, 0, none⟩)) ∧ ∃ V c, w.cell? ⟨B, 1, none⟩ = some (.slice V S.P.length c) := by
  obtain ⟨FR, pv, hh, hr, _⟩ := h.hd
  obtain ⟨V, c, rfl, _⟩ := hr.len
  exact ⟨by simp [World.cell?, hh], V, c, by simp [World.cell?, hh]⟩
theorem RG.word (h : RG w B A S FA) {i : Nat} (hi : i < S.P.length) : ∃ g c, w.cell? ⟨B, 1, none⟩ = some (.slice (some ⟨g, 0, none⟩) S.P.length c) ∧ w.cell? ⟨g, i, none⟩ = some (.int .u32 (S.P.getD i 0)) ∧ w.frozen? ⟨g, i, none⟩ = false ∧ g ∈ FA ∧ g < w.heap.size := by
  obtain ⟨FR, pv, hh, hr, ha, hap, rfl⟩ := h.hd
  obtain ⟨g, c, cur, rfl, hg, _⟩ := hr.some_ (by omega)
  refine ⟨g, c, by simp [World.cell?, hh], (hr.cellAt i (by omega)).trans (by simp [wvals, hi]), hr.frozenAt i, by simp [ownB], heap_lt hg⟩
theorem RG.keep (h : RG w B A S FA) (hk : ∀ b ∈ B :: FA, w'.heap[b]? = w.heap[b]?) : RG w' B A S FA := by
  obtain ⟨FR, pv, hh, hr, ha, hap, rfl⟩ := h.hd
  exact ⟨⟨FR, pv, (hk B (by simp)).trans hh, hr.keep fun b hb => hk b (by simp [hb]), ha.keep fun b hb => hk b (by simp [hb]), hap, rfl⟩, h.ok⟩
theorem RG.blt (h : RG w B A S FA) : ∀ b ∈ B :: FA, b < w.heap.size := fun b hb => by
  rcases List.mem_cons.1 hb with rfl | hb
  · exact h.lt
  · obtain ⟨FR, pv, hh, hr, ha, hap, rfl⟩ := h.hd
    rcases List.mem_append.1 hb with hb | hb
    · exact hr.lt b hb
    · exact ha.lt b hb
theorem RG.below (h : RG w B A S FA) (hb : Below w.heap.size w w') : RG w' B A S FA := h.keep fun b hm => hb.block b (h.blt b hm)
theorem RG.kp {G : List Nat} (h : RG w B A S FA) (hk : Kp G w w') (hG : ∀ b ∈ B :: FA, b ∉ G) : RG w' B A S FA := h.keep fun b hb => hk.block b (h.blt b hb) (hG b hb)
theorem wvals_set (l : List Int) (j : Nat) (x : Int) : (wvals l).set j (.int .u32 x) = wvals (l.set j x) := by simp [wvals, List.map_set]
/-- A free port is written. -/
theorem RG.putP (h : RG w B A S FA) {g i c : Nat} (hc : w.cell? ⟨B, 1, none⟩ = some (.slice (some ⟨g, 0, none⟩) S.P.length c)) (hi : i < S.P.length) {v : Int} (hv : 0 ≤ v ∧ v < 4294967296) : RG (w.setCell ⟨g, i, none⟩ (.int .u32 v)) B A { S with P := S.P.set i v } FA := by
  have hna := h.na
  obtain ⟨FR, pv, hh, hr, ha, hap, rfl⟩ := h.hd
  have hpv : pv = .slice (some ⟨g, 0, none⟩) S.P.length c := by simpa [World.cell?, hh] using hc
  subst hpv
  have hgB : B ≠ g := fun e => hna (by rw [e]; simp [ownB])
  have hR := hr.set i (.int .u32 v)
  rw [wvals_set] at hR
  refine ⟨⟨FR, _, (Below.heap_setCell _ _ _ B hgB).trans hh, by simpa using hR, ha.keep fun b hb => Below.heap_setCell _ _ _ b (fun e => hap g (by simp [ownB]) (by have e' : b = g := e; exact e' ▸ hb)), hap, by simp⟩, ⟨h.ok.a, by simpa using h.ok.p, fun x hx => ?_⟩⟩
  rcases List.mem_or_eq_of_mem_set hx with hm | rfl
  · exact h.ok.w x hm
  · exact hv
/-- The arena; what holds where it has turned. -/
theorem RG.split (h : RG w B A S FA) : ∃ P FR, FA = P ++ FR ∧ RA w A S.A FR ∧ ∀ (w' : World) (A' : Ars) (FR' : List Nat), RA w' A A' FR' → Kp FR w w' → (∀ b ∈ FR', b ∈ FR ∨ w.heap.size ≤ b) → RG w' B A { S with A := A' } (P ++ FR') := by
  have hna := h.na
  obtain ⟨FR, pv, hh, hr, ha, hap, rfl⟩ := h.hd
  refine ⟨ownB pv, FR, rfl, ha, fun w' A' FR' h' hk hn => ⟨⟨FR', pv, (hk.block B (heap_lt hh) (fun hm => hna (List.mem_append_right _ hm))).trans hh, hr.keep fun b hb => hk.block b (hr.lt b hb) (hap b hb), h', fun b hb hm => ?_, rfl⟩, ⟨h'.ok, h.ok.p, h.ok.w⟩⟩⟩
  rcases hn b hm with hm | hm
  · exact hap b hb hm
  · have := hr.lt b hb; omega
end
section
variable (B A : Nat) (S : Wir) (FA : List Nat) (w : World)
set_option maxHeartbeats 1000000 in
theorem rw_word (c s : Int) (h : RG w B A S FA) : Calls Try.prog 67 #[.pointer (some ⟨B, 0, none⟩), .agg #[.int .i64 c, .int .i64 s]] w fun e w' => e = .returned (.tuple #[.int .u32 (S.wV (c, s)), .int .i64 (S.wE (c, s))]) ∧ Below w.heap.size w w' := by
  by_cases hc : c = -1
  · subst hc
    by_cases h1 : s < 0
    · have e1 : S.wE (-1, s) = 30 := by unfold Wir.wE; rw [if_pos rfl, if_pos (.inl h1)]
      have e2 : S.wV (-1, s) = 0 := by unfold Wir.wV; rw [if_pos rfl, if_pos (.inl h1)]
      rw [e1, e2]
      have hX : Below w.heap.size w (w.alloc (.cells #[.int .i64 (-1), .int .i64 s] 39)) := (Below.refl _ _).alloc (Nat.le_refl _) _
      have HX := Lib.hid hX
      have HG := Lib.hid (h.below hX)
      have hlt := h.lt
      obtain ⟨c0, V, cV, c1⟩ := h.cells
      have hP := h.ok.p
      clear hX
      go_enter Try.func67, Try.ntmps67
      go_wp2_with fail
      go_quiet (fail)
      go_wp2_with fail
      go_ret2
      exact ⟨rfl, by (repeat (with_reducible refine below_drewN ?_ _)); (repeat (first | exact Below.refl _ _ | (with_reducible refine Below.drew ?_) | (with_reducible refine Below.alloc ?_ (by (try simp); (try omega)) _) | (with_reducible refine Below.setCell ?_ (by (try simp); (try omega)) _) | (with_reducible refine Below.trans ?_ (Below.mono (by assumption) (by (try simp); (try omega))))))⟩
    · by_cases h2 : (S.P.length : Int) ≤ s
      · have e1 : S.wE (-1, s) = 30 := by unfold Wir.wE; rw [if_pos rfl, if_pos (.inr h2)]
        have e2 : S.wV (-1, s) = 0 := by unfold Wir.wV; rw [if_pos rfl, if_pos (.inr h2)]
        rw [e1, e2]
        have hX : Below w.heap.size w (w.alloc (.cells #[.int .i64 (-1), .int .i64 s] 39)) := (Below.refl _ _).alloc (Nat.le_refl _) _
        have HX := Lib.hid hX
        have HG := Lib.hid (h.below hX)
        have hlt := h.lt
        obtain ⟨c0, V, cV, c1⟩ := h.cells
        have hP := h.ok.p
        clear hX
        go_enter Try.func67, Try.ntmps67
        go_wp2_with fail
        go_quiet (fail)
        go_wp2_with fail
        go_ret2
        exact ⟨rfl, by (repeat (with_reducible refine below_drewN ?_ _)); (repeat (first | exact Below.refl _ _ | (with_reducible refine Below.drew ?_) | (with_reducible refine Below.alloc ?_ (by (try simp); (try omega)) _) | (with_reducible refine Below.setCell ?_ (by (try simp); (try omega)) _) | (with_reducible refine Below.trans ?_ (Below.mono (by assumption) (by (try simp); (try omega))))))⟩
      · obtain ⟨i, rfl⟩ := Int.eq_ofNat_of_zero_le (by omega : 0 ≤ s)
        have hi : i < S.P.length := by omega
        have e1 : S.wE (-1, (i : Int)) = 0 := by unfold Wir.wE; rw [if_pos rfl, if_neg (by omega)]
        have e2 : S.wV (-1, (i : Int)) = S.P.getD i 0 := by unfold Wir.wV; rw [if_pos rfl, if_neg (by omega)]; rfl
        rw [e1, e2]
        obtain ⟨g, cg, k1, k0, _, _, hg⟩ := h.word hi
        generalize S.P.getD i 0 = x at k0 ⊢
        have h3 : ¬ ((i : Int) < 0) := by omega
        have h4 : ¬ ((S.P.length : Int) ≤ (i : Int)) := h2
        have h6 : (i : Int) < (S.P.length : Int) := by omega
        have h7 : (0 : Int) ≤ (i : Int) := by omega
        have hX : Below w.heap.size w (w.alloc (.cells #[.int .i64 (-1), .int .i64 (i : Int)] 39)) := (Below.refl _ _).alloc (Nat.le_refl _) _
        have HX := Lib.hid hX
        have HG := Lib.hid (h.below hX)
        have hlt := h.lt
        obtain ⟨c0, V, cV, c1⟩ := h.cells
        have hP := h.ok.p
        clear hX
        go_enter Try.func67, Try.ntmps67
        clear c1
        go_wp2_with fail
        go_quiet (fail)
        go_wp2_with fail
        go_quiet (fail)
        go_wp2_with fail
        go_ret2
        exact ⟨rfl, by (repeat (with_reducible refine below_drewN ?_ _)); (repeat (first | exact Below.refl _ _ | (with_reducible refine Below.drew ?_) | (with_reducible refine Below.alloc ?_ (by (try simp); (try omega)) _) | (with_reducible refine Below.setCell ?_ (by (try simp); (try omega)) _) | (with_reducible refine Below.trans ?_ (Below.mono (by assumption) (by (try simp); (try omega))))))⟩
  · have hcb : (c == -1) = false := by rw [beq_eq_false_iff_ne]; exact hc
    have e2 : S.wV (c, s) = S.A.getV c s := by unfold Wir.wV; rw [if_neg hc]
    rw [e2]
    obtain ⟨P, FR, _, hra, _⟩ := (h.below (w' := w.alloc (.cells #[.int .i64 c, .int .i64 s] 39)) ((Below.refl _ _).alloc (Nat.le_refl _) _)).split
    have HRA := Lib.hid hra
    clear hra
    by_cases he : S.A.slotE c s = 0
    · have e1 : S.wE (c, s) = 0 := by unfold Wir.wE; rw [if_neg hc, if_pos he]
      rw [e1]
      have HE := Lib.hid he
      clear he e1 e2
      have hX : Below w.heap.size w (w.alloc (.cells #[.int .i64 c, .int .i64 s] 39)) := (Below.refl _ _).alloc (Nat.le_refl _) _
      have HX := Lib.hid hX
      have HG := Lib.hid (h.below hX)
      have hlt := h.lt
      obtain ⟨c0, V, cV, c1⟩ := h.cells
      have hP := h.ok.p
      clear hX
      go_enter Try.func67, Try.ntmps67
      go_wp2_with fail
      go_region_held3 (fun W => (W.cell? ⟨w.heap.size, 0, none⟩ = some (.int .i64 c) ∧ W.cell? ⟨w.heap.size, 1, none⟩ = some (.int .i64 s)) ∧ W.cell? ⟨B, 0, none⟩ = some (.pointer (some ⟨A, 0, none⟩)))
        (exact ⟨⟨by go_simp, by go_simp⟩, HG.out.cells.1⟩)
        (first
          | ((with_reducible refine (rr_get A S.A FR c s _ (by first | exact HRA.out | exact HRA.out.below (Below.refl _ _).drew)).mono ?_); rintro e w' ⟨rfl, rfl⟩; dsimp only; rw [HE.out]))
      all_goals
        go_wp2_with fail
        go_ret2
        exact ⟨rfl, by (repeat (with_reducible refine below_drewN ?_ _)); (repeat (first | exact Below.refl _ _ | (with_reducible refine Below.drew ?_) | (with_reducible refine Below.alloc ?_ (by (try simp); (try omega)) _) | (with_reducible refine Below.setCell ?_ (by (try simp); (try omega)) _) | (with_reducible refine Below.trans ?_ (Below.mono (by assumption) (by (try simp); (try omega))))))⟩
    · have e1 : S.wE (c, s) = 30 := by unfold Wir.wE; rw [if_neg hc, if_neg he]
      have hv : S.A.getV c s = 0 := Ars.getV_no he
      rw [e1, hv]
      have hek : (S.A.slotE c s != 0) = true := bne_iff_ne.2 he
      clear he e1 e2 hv
      have hX : Below w.heap.size w (w.alloc (.cells #[.int .i64 c, .int .i64 s] 39)) := (Below.refl _ _).alloc (Nat.le_refl _) _
      have HX := Lib.hid hX
      have HG := Lib.hid (h.below hX)
      have hlt := h.lt
      obtain ⟨c0, V, cV, c1⟩ := h.cells
      have hP := h.ok.p
      clear hX
      go_enter Try.func67, Try.ntmps67
      go_wp2_with fail
      go_region_held3 (fun W => (W.cell? ⟨w.heap.size, 0, none⟩ = some (.int .i64 c) ∧ W.cell? ⟨w.heap.size, 1, none⟩ = some (.int .i64 s)) ∧ W.cell? ⟨B, 0, none⟩ = some (.pointer (some ⟨A, 0, none⟩)))
        (exact ⟨⟨by go_simp, by go_simp⟩, HG.out.cells.1⟩)
        (first
          | ((with_reducible refine (rr_get A S.A FR c s _ (by first | exact HRA.out | exact HRA.out.below (Below.refl _ _).drew)).mono ?_); rintro e w' ⟨rfl, rfl⟩; dsimp only))
      all_goals
        go_wp2_with fail
        go_ret2
        exact ⟨rfl, by (repeat (with_reducible refine below_drewN ?_ _)); (repeat (first | exact Below.refl _ _ | (with_reducible refine Below.drew ?_) | (with_reducible refine Below.alloc ?_ (by (try simp); (try omega)) _) | (with_reducible refine Below.setCell ?_ (by (try simp); (try omega)) _) | (with_reducible refine Below.trans ?_ (Below.mono (by assumption) (by (try simp); (try omega))))))⟩
end
end Go.Proofs.Ythbobooiedcofaa
