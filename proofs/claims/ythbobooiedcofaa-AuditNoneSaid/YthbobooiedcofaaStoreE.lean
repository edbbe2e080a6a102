/-
  load.Store: what it returns; the contract, of a wiring that is a net.
-/
import Derived.Test.YthbobooiedcofaaStoreD
import Derived.Test.YthbobooiedcofaaNetCheck
namespace Go.Proofs.Ythbobooiedcofaa
open Go.RowKit
attribute [local go_sem] cell_set
set_option maxRecDepth 100000
set_option linter.unusedVariables false

theorem five_st (X : World) (h : Nat) {x y z u v : Value} {t1 t2 t3 : TypeId} (h1 : X.heap[h + 1]? = some (.cells #[x, y, z] t1 (0, 0))) (h2 : X.heap[h + 2]? = some (.cells #[u] t2 (0, 0))) (h3 : X.heap[h + 3]? = some (.cells #[v] t3 (0, 0))) (a b c d e : Value) :
    (((((X.setCell ⟨h + 1, 0, none⟩ a).setCell ⟨h + 1, 1, none⟩ b).setCell ⟨h + 1, 2, none⟩ c).setCell ⟨h + 2, 0, none⟩ d).setCell ⟨h + 3, 0, none⟩ e).heap[h + 1]? = some (.cells #[a, b, c] t1 (0, 0)) ∧
    (((((X.setCell ⟨h + 1, 0, none⟩ a).setCell ⟨h + 1, 1, none⟩ b).setCell ⟨h + 1, 2, none⟩ c).setCell ⟨h + 2, 0, none⟩ d).setCell ⟨h + 3, 0, none⟩ e).heap[h + 2]? = some (.cells #[d] t2 (0, 0)) ∧
    (((((X.setCell ⟨h + 1, 0, none⟩ a).setCell ⟨h + 1, 1, none⟩ b).setCell ⟨h + 1, 2, none⟩ c).setCell ⟨h + 2, 0, none⟩ d).setCell ⟨h + 3, 0, none⟩ e).heap[h + 3]? = some (.cells #[e] t3 (0, 0)) ∧
    ∀ k, k ≠ h + 1 → k ≠ h + 2 → k ≠ h + 3 → (((((X.setCell ⟨h + 1, 0, none⟩ a).setCell ⟨h + 1, 1, none⟩ b).setCell ⟨h + 1, 2, none⟩ c).setCell ⟨h + 2, 0, none⟩ d).setCell ⟨h + 3, 0, none⟩ e).heap[k]? = X.heap[k]? := by
  refine ⟨by simp [World.setCell, Array.getElem?_modify, h1], by simp [World.setCell, Array.getElem?_modify, h2], by simp [World.setCell, Array.getElem?_modify, h3], fun k k1 k2 k3 => ?_⟩
  exact (Below.heap_setCell _ _ _ k k3).trans ((Below.heap_setCell _ _ _ k k2).trans ((Below.heap_setCell _ _ _ k k1).trans ((Below.heap_setCell _ _ _ k k1).trans (Below.heap_setCell _ _ _ k k1))))
theorem drew_at {Z : World} {k : Nat} {x : Option Obj} (h : Z.heap[k]? = x) : Z.drew.heap[k]? = x := h
theorem five_below (X w : World) (hb : Below w.heap.size w X) (a b c d e : Value) : Below w.heap.size w (((((X.setCell ⟨w.heap.size + 1, 0, none⟩ a).setCell ⟨w.heap.size + 1, 1, none⟩ b).setCell ⟨w.heap.size + 1, 2, none⟩ c).setCell ⟨w.heap.size + 2, 0, none⟩ d).setCell ⟨w.heap.size + 3, 0, none⟩ e).drew :=
  (((((hb.setCell (p := ⟨w.heap.size + 1, 0, none⟩) (by simp) _).setCell (p := ⟨w.heap.size + 1, 1, none⟩) (by simp) _).setCell (p := ⟨w.heap.size + 1, 2, none⟩) (by simp) _).setCell (p := ⟨w.heap.size + 2, 0, none⟩) (by simp) _).setCell (p := ⟨w.heap.size + 3, 0, none⟩) (by simp) _).drew
section
variable (Q : Exit → Act → World → Prop) (w w0 : World) (As : Option Addr) (n cap : Nat) (B A b10 b11 b12 b13 m : Nat)
set_option maxHeartbeats 4000000 in
theorem ls_41 (f : Int) (C K : List Int) (Ps : List Pt) (T : List (Pt × Pt)) (g : Int → Option Value) (D : Nat) (ds : List Deferred) (a : Act) (X : World)
    (hS : SB w w0 As n cap A b10 b11 b12 b13 m f C K Ps T g X) (hD : X.heap[D]? = some (.deferred (some [])))
    (hnext : Hid (∀ a' Y V1 c1 V2 c2 V3 c3, FrN 182 ds [(4, .pointer (some ⟨w.heap.size + 1, 0, none⟩)), (5, .pointer (some ⟨w.heap.size + 2, 0, none⟩)), (6, .pointer (some ⟨w.heap.size + 3, 0, none⟩))] a' → Y.heap[D]? = some (.deferred (some [])) →
      Y.heap[w.heap.size + 1]? = some (.cells #[.slice V1 C.length c1, .int .i64 f, .slice V2 T.length c2] 67 (0, 0)) → Y.heap[w.heap.size + 2]? = some (.cells #[.slice V3 K.length c3] 64 (0, 0)) → Y.heap[w.heap.size + 3]? = some (.cells #[.int .i64 0] 24 (0, 0)) →
      NetFresh w Y V1 c1 C V2 c2 T → Fresh w Y 3 1 K.length (.slice V3 K.length c3) (ivals K) → Q .ret a' Y))
    (ha : FrN 182 ds (LS w.heap.size B b10 b11 b12 b13) a) : (lsT 41).wp Try.prog Q a X := by
  obtain ⟨U, rfl, e1, e2, e4, e5, e6, e7, e10, e11, e12, e13, -⟩ := ha.open
  obtain ⟨F1, F2, F3, ⟨V1, c1, V2, c2, x10, r1, r2, rfl⟩, ⟨⟨V3, c3, x11, r3, rfl⟩, ne⟩, h3, d12, d13, d23, dm, n1, n2, n3⟩ := hS.t.ex
  have k0 : X.cell? ⟨b10, 0, none⟩ = some (.slice V1 C.length c1) := by simp [World.cell?, x10]
  have k1 : X.cell? ⟨b10, 1, none⟩ = some (.int .i64 f) := by simp [World.cell?, x10]
  have k2 : X.cell? ⟨b10, 2, none⟩ = some (.slice V2 T.length c2) := by simp [World.cell?, x10]
  have k3 : X.cell? ⟨b11, 0, none⟩ = some (.slice V3 K.length c3) := by simp [World.cell?, x11]
  have s1 := hS.s.r
  have s2 := hS.s.i
  have s3 := hS.s.e
  have j0 : X.cell? ⟨w.heap.size + 1, 0, none⟩ = some (.slice none 0 0) := by simp [World.cell?, s1]
  have j1 : X.cell? ⟨w.heap.size + 1, 1, none⟩ = some (.int .i64 0) := by simp [World.cell?, s1]
  have j2 : X.cell? ⟨w.heap.size + 1, 2, none⟩ = some (.slice none 0 0) := by simp [World.cell?, s1]
  have j3 : X.cell? ⟨w.heap.size + 2, 0, none⟩ = some (.slice none 0 0) := by simp [World.cell?, s2]
  have j4 : X.cell? ⟨w.heap.size + 3, 0, none⟩ = some (.int .i64 0) := by simp [World.cell?, s3]
  have f0 : X.frozen? ⟨w.heap.size + 1, 0, none⟩ = false := by simp [World.frozen?, s1]
  have f1 : X.frozen? ⟨w.heap.size + 1, 1, none⟩ = false := by simp [World.frozen?, s1]
  have f2 : X.frozen? ⟨w.heap.size + 1, 2, none⟩ = false := by simp [World.frozen?, s1]
  have f3 : X.frozen? ⟨w.heap.size + 2, 0, none⟩ = false := by simp [World.frozen?, s2]
  have f4 : X.frozen? ⟨w.heap.size + 3, 0, none⟩ = false := by simp [World.frozen?, s3]
  have hl4 := heap_lt s3
  obtain ⟨l10, l11, _⟩ := hS.l
  have hb10 := heap_lt x10
  have hb11 := heap_lt x11
  have hw0 := heap_lt hS.z.a
  have hlt := hS.t.lt
  have hrow : ∀ v, (∀ y ∈ ownB v, y = b10 ∨ y = b11 ∨ w0.heap.size ≤ y) → ∀ y ∈ ownB v, w.heap.size + 5 ≤ y := fun v h y hy => by
    rcases h y hy with rfl | rfl | h1 <;> omega
  have o1 := hrow (.slice V1 C.length c1) fun y hy => by rcases n1 y (by simp [hy]) with h1 | h1; exact .inl h1; exact .inr (.inr h1)
  have o2 := hrow (.slice V2 T.length c2) fun y hy => by rcases n1 y (by simp [hy]) with h1 | h1; exact .inl h1; exact .inr (.inr h1)
  have o3 := hrow (.slice V3 K.length c3) fun y hy => by rcases n2 y (by simp [hy]) with h1 | h1; exact .inr (.inl h1); exact .inr (.inr h1)
  have HS := Lib.hid (And.intro s1 (And.intro s2 (And.intro s3 (And.intro hD hS.s.bel))))
  have HR := Lib.hid (And.intro (And.intro r1 o1) (And.intro (And.intro r2 o2) (And.intro r3 o3)))
  have hDne : D ≠ w.heap.size + 1 ∧ D ≠ w.heap.size + 2 ∧ D ≠ w.heap.size + 3 := ⟨(fun e => by subst e; rw [s1] at hD; cases hD), (fun e => by subst e; rw [s2] at hD; cases hD), (fun e => by subst e; rw [s3] at hD; cases hD)⟩
  have HD := Lib.hid hDne
  unfold FrGL
  simp only [e1, e2, e4, e5, e6, e7, e10, e11, e12, e13]
  clear e1 e2 e4 e5 e6 e7 e10 e11 e12 e13 ha hS hD x10 x11 r1 r2 r3 ne h3 d12 d13 d23 dm n1 n2 n3 s1 s2 s3 hrow o1 o2 o3 hDne hlt
  show (Code.seq _ _).wp _ _ _ _
  have p1 : ¬ w.heap.size + 1 = b10 := by omega
  have p2 : ¬ w.heap.size + 2 = b10 := by omega
  have p3 : ¬ w.heap.size + 3 = b10 := by omega
  have p4 : ¬ w.heap.size + 1 = b11 := by omega
  have p5 : ¬ w.heap.size + 2 = b11 := by omega
  have p6 : ¬ w.heap.size + 3 = b11 := by omega
  go_wp2_with fail
  go_region_held3 (fun Y => (Y.cell? ⟨b10, 0, none⟩ = some (.slice V1 C.length c1) ∧ Y.cell? ⟨b10, 1, none⟩ = some (.int .i64 f) ∧ Y.cell? ⟨b10, 2, none⟩ = some (.slice V2 T.length c2)) ∧ Y.cell? ⟨b11, 0, none⟩ = some (.slice V3 K.length c3)) (exact ⟨⟨by go_simp, by go_simp, by go_simp⟩, by go_simp⟩) (fail)
  all_goals
    go_wp2_with fail
    obtain ⟨s1, s2, s3, hD, hb⟩ := HS.out
    obtain ⟨z1, z2, z3, z4⟩ := five_st X w.heap.size s1 s2 s3 (.slice V1 C.length c1) (.int .i64 f) (.slice V2 T.length c2) (.slice V3 K.length c3) (.int .i64 0)
    have hBZ := five_below X w hb (.slice V1 C.length c1) (.int .i64 f) (.slice V2 T.length c2) (.slice V3 K.length c3) (.int .i64 0)
    obtain ⟨⟨r1, o1⟩, ⟨r2, o2⟩, r3, o3⟩ := HR.out
    exact hnext.out _ _ V1 c1 V2 c2 V3 c3 ⟨rfl, rfl, rfl, rfl, rfl, trivial⟩ (drew_at ((z4 _ HD.out.1 HD.out.2.1 HD.out.2.2).trans hD)) (drew_at z1) (drew_at z2) (drew_at z3)
      ⟨⟨r1.keep fun y hy => drew_at <| z4 y (by have := o1 y hy; omega) (by have := o1 y hy; omega) (by have := o1 y hy; omega), fun y hy => by have := o1 y hy; omega, hBZ⟩, ⟨r2.keep fun y hy => drew_at <| z4 y (by have := o2 y hy; omega) (by have := o2 y hy; omega) (by have := o2 y hy; omega), fun y hy => by have := o2 y hy; omega, hBZ⟩⟩
      ⟨r3.keep fun y hy => drew_at <| z4 y (by have := o3 y hy; omega) (by have := o3 y hy; omega) (by have := o3 y hy; omega), fun y hy => by have := o3 y hy; omega, hBZ⟩
end

theorem Fresh.put {w X : World} {e : TypeId} {size n : Nat} {v : Value} {xs : List Value} {D : Nat} {l : Option (List Deferred)} (h : Fresh w X e size n v xs) (hD : X.heap[D]? = some (.deferred l)) (hw : w.heap.size ≤ D) (o : Obj) : Fresh w (X.putObj D o) e size n v xs :=
  ⟨h.1.keep fun y hy => World.putObj_heap_other (fun e => by
    subst e
    obtain ⟨cur, hh⟩ := h.1.ty hy
    rw [hD] at hh; cases hh), h.2.1, below_put h.2.2 hw o⟩
theorem store_leave {F : Fence} {n : Nat} {R : Ending → World → Prop} {a : Act} {X : World} {h D : Nat} {V1 V2 V3 : Option Addr} {n1 c1 n2 c2 n3 c3 : Nat} {fr : Int}
    (ha : FrN 182 [{ target := .collected D, args := #[] }] [(4, .pointer (some ⟨h + 1, 0, none⟩)), (5, .pointer (some ⟨h + 2, 0, none⟩)), (6, .pointer (some ⟨h + 3, 0, none⟩))] a) (hD : X.heap[D]? = some (.deferred (some [])))
    (h1 : X.heap[h + 1]? = some (.cells #[.slice V1 n1 c1, .int .i64 fr, .slice V2 n2 c2] 67 (0, 0))) (h2 : X.heap[h + 2]? = some (.cells #[.slice V3 n3 c3] 64 (0, 0))) (h3 : X.heap[h + 3]? = some (.cells #[.int .i64 0] 24 (0, 0)))
    (hR : R (.returned (.tuple #[.agg #[.slice V1 n1 c1, .int .i64 fr, .slice V2 n2 c2], .slice V3 n3 c3, .int .i64 0])) (X.putObj D (.deferred none))) : bodyPostM F n Try.prog Try.f31 R .ret a X := by
  obtain ⟨hsz, hdf, s4, s5, s6, _⟩ := ha
  show LeavesInM F n Try.prog Try.f31 a.tmps R a.defers .returning X
  rw [hdf]
  refine leaveM hD ?_
  have b1 : D ≠ h + 1 := fun e => by subst e; rw [h1] at hD; cases hD
  have b2 : D ≠ h + 2 := fun e => by subst e; rw [h2] at hD; cases hD
  have b3 : D ≠ h + 3 := fun e => by subst e; rw [h3] at hD; cases hD
  have h1' : (X.putObj D (.deferred none)).heap[h + 1]? = _ := (World.putObj_heap_other b1.symm).trans h1
  have h2' : (X.putObj D (.deferred none)).heap[h + 2]? = _ := (World.putObj_heap_other b2.symm).trans h2
  have h3' : (X.putObj D (.deferred none)).heap[h + 3]? = _ := (World.putObj_heap_other b3.symm).trans h3
  generalize X.putObj D (.deferred none) = Z at *
  have c0' : Z.cell? ⟨h + 1, 0, none⟩ = some (.slice V1 n1 c1) := by simp [World.cell?, h1']
  have c1' : Z.cell? ⟨h + 1, 1, none⟩ = some (.int .i64 fr) := by simp [World.cell?, h1']
  have c2' : Z.cell? ⟨h + 1, 2, none⟩ = some (.slice V2 n2 c2) := by simp [World.cell?, h1']
  have c3' : Z.cell? ⟨h + 2, 0, none⟩ = some (.slice V3 n3 c3) := by simp [World.cell?, h2']
  have c4' : Z.cell? ⟨h + 3, 0, none⟩ = some (.int .i64 0) := by simp [World.cell?, h3']
  have g4 : a.tmps[4]'(by rw [hsz]; omega) = .pointer (some ⟨h + 1, 0, none⟩) := (Array.getElem?_eq_some_iff.1 s4).2
  have g5 : a.tmps[5]'(by rw [hsz]; omega) = .pointer (some ⟨h + 2, 0, none⟩) := (Array.getElem?_eq_some_iff.1 s5).2
  have g6 : a.tmps[6]'(by rw [hsz]; omega) = .pointer (some ⟨h + 3, 0, none⟩) := (Array.getElem?_eq_some_iff.1 s6).2
  refine ⟨_, ?_, hR⟩
  simp only [results, Try.f31]
  go_simp
set_option maxHeartbeats 4000000 in
/-- load.Store of a wiring that is a net. -/
theorem store_is (As : Option Addr) (n cap : Nat) (L : List (ByteArray × Int)) (B A : Nat) (S : Wir) (FA : List Nat) (cells : List Int) (f : Nat) (W : List (Pt × Pt)) (w : World) (hn : n = L.length) (hcap : L.length ≤ cap) (HL : Hid (AgRd w As L)) (hl : L.length ≤ maxLen) (hz : Hid ((chk L).1 = 0)) (hG : Hid (WG w B A S FA))
    (HLN : Hid (LN (pnL L) cells f S)) (hag : Hid (∀ i, i < cells.length → 0 ≤ cells.getD i 0 ∧ cells.getD i 0 < L.length)) (hcl : cells.length ≤ 4096) (hf : f ≤ 64) (hT : Hid (Leads S W (allPs (pnL L) cells f))) :
    Calls Try.prog 31 #[.slice As n cap, .pointer (some ⟨B, 0, none⟩)] w fun e w' => ∃ V1 c1 V2 c2 V3 c3, e = .returned (.tuple #[netV V1 c1 cells (f : Int) V2 c2 (tidyW (allPs (pnL L) cells f) W), .slice V3 cells.length c3, .int .i64 0]) ∧
      NetFresh w w' V1 c1 cells V2 c2 (tidyW (allPs (pnL L) cells f) W) ∧ Fresh w w' 3 1 cells.length (.slice V3 cells.length c3) (ivals ((List.range cells.length).map fun (i : Nat) => (i : Int))) := by
  have hs : Hid (SigOk L) := chk_sig hz.out
  have hfe := HLN.out.p
  refine (callsIn_wide (n := 5)).1 (callsIn_of_wp_marks Try.func31 rfl trivial (wpIn_wide.2 ?_) rfl)
  simp only [Try.ntmps31, List.size_toArray, List.length_cons, List.length_nil, Nat.reduceAdd, Nat.reduceSub, Array.replicate_succ, Array.replicate_zero, List.push_toArray, List.append_toArray, List.nil_append, List.cons_append]
  refine (show ∀ a, FrN 182 [] [(0, .slice As n cap), (1, .pointer (some ⟨B, 0, none⟩))] a → (lsT 0).wp Try.prog _ a w from ?_) _ ⟨rfl, rfl, rfl, rfl, trivial⟩
  intro a ha
  refine ls_0 _ w As n cap L B A S FA a hn hcap HL hl hz hG (Lib.hid fun a9 X9 b10 b11 hf9 hS9 hb10 hb11 hx10 hx11 => ?_) ha
  rw [hfe] at hx10
  refine ls_9 _ w As n cap B A b10 b11 (f : Int) a9 X9 (Lib.hid hS9) hb10 hb11 (Lib.hid hx10) (Lib.hid hx11) (Lib.hid fun a11 X11 b12 b13 m hf11 hS11 hst hb12 l12 l13 lm => ?_) hf9
  refine ls_11 _ w X11 As n cap B A b10 b11 b12 b13 m f a11 X11 hf (SB.first hS11 hst hb12 ⟨hb10, by omega, l12, l13, lm⟩) (Lib.hid fun a16 X16 hf16 hS16 => ?_) hf11
  refine ls_16 _ w X11 As n cap L B A b10 b11 b12 b13 m S FA cells f a16 X16 hn hl HL hs hG HLN hag hcl hf hS16 (Lib.hid fun a30 X30 D hf30 hS30 hD30 hd30 => ?_) hf16
  refine ls_30 _ w X11 As n cap B A b10 b11 b12 b13 m S FA (f : Int) cells _ (allPs (pnL L) cells f) W _ D _ a30 X30 hG hT (Lib.hid fun p hp => ?_) ?_ hS30 hd30 (Lib.hid fun a41 X41 hf41 hS41 hd41 => ?_) hf30
  · rw [toG_all, if_pos]
    have := allPs_is (pnL L) hp
    unfold isPt at this
    by_cases h : p.1 = -1
    · exact .inl h
    · rw [if_neg h] at this
      have := of_decide_eq_true this
      exact .inr ⟨this.1, this.2.1⟩
  · rw [allPs_len]
    have := firstN_le (pnL_le hs.out) cells f cells.length
    omega
  refine ls_41 _ w X11 As n cap B A b10 b11 b12 b13 m (f : Int) cells _ (allPs (pnL L) cells f) (tidyW (allPs (pnL L) cells f) W) _ D _ a41 X41 hS41 hd41 (Lib.hid fun a' Y V1 c1 V2 c2 V3 c3 hf' hdY z1 z2 z3 hnf hfr => ?_) hf41
  rw [List.length_map, List.length_range] at z2 hfr
  have hwD : w.heap.size ≤ D := Nat.le_trans hS16.s.bel.size hD30
  exact store_leave hf' hdY z1 z2 z3 ⟨V1, c1, V2, c2, V3, c3, rfl, ⟨hnf.1.put hdY hwD _, hnf.2.put hdY hwD _⟩, hfr.put hdY hwD _⟩
end Go.Proofs.Ythbobooiedcofaa
