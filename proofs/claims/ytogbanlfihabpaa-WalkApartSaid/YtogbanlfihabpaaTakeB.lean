/-
  walk.Parts's 'take': a round of its loop over the free ports.
-/
import Derived.Test.YtogbanlfihabpaaPartsSt2
import Derived.Test.YtogbanlfihabpaaTakeA
import Derived.Test.YtogbanlfihabpaaNetIs
import Derived.BigQuiet
/-
  What 'take' keeps over its loop over the free ports.
-/
namespace Go.Proofs.Ytogbanlfihabpaa
open Go.RowKit
set_option maxRecDepth 100000
set_option linter.unusedVariables false

structure TkF (w1 X : World) (bl bw bo bf P go gf n f gl cl bn b5 Dl : Nat) (p : Pt) (ofs frs : List Int) (qs : List PV) (a b : Value) (xs ys : List Int) : Prop where
  st : PtS w1 X bl bw bo bf P go gf n f ofs frs (.slice (some ⟨gl, 0, none⟩) (qs.length + 1) cl) (qs ++ [⟨a, b, xs, ys⟩])
  xn : X.heap[bn]? = some (.cells #[.int .i64 ((qs.length + 1 : Nat) : Int)] 3 (0, 0))
  x5 : PtBx X b5 p
  xD : X.heap[Dl]? = some (.deferred (some []))
  nn : bn ≠ go ∧ bn ≠ gf ∧ ∀ u ∈ pvCells (qs ++ [(⟨a, b, xs, ys⟩ : PV)]), bn ∉ ownB u
  ln : w1.heap.size ≤ b5 ∧ w1.heap.size ≤ bn ∧ w1.heap.size ≤ Dl
section
variable {w1 X Y : World} {bl bw bo bf P go gf n f gl cl bn b5 Dl : Nat} {p : Pt} {ofs frs : List Int} {qs : List PV} {a b : Value} {xs ys : List Int}
theorem TkF.below (h : TkF w1 X bl bw bo bf P go gf n f gl cl bn b5 Dl p ofs frs qs a b xs ys) (hb : Below X.heap.size X Y) : TkF w1 Y bl bw bo bf P go gf n f gl cl bn b5 Dl p ofs frs qs a b xs ys :=
  ⟨h.st.below hb, (hb.block _ (heap_lt h.xn)).trans h.xn, (hb.block _ (heap_lt h.x5)).trans h.x5, (hb.block _ (heap_lt h.xD)).trans h.xD, h.nn, h.ln⟩
theorem TkF.bnc (h : TkF w1 X bl bw bo bf P go gf n f gl cl bn b5 Dl p ofs frs qs a b xs ys) : X.cell? ⟨bn, 0, none⟩ = some (.int .i64 ((qs.length : Int) + 1)) ∧ bn < X.heap.size := ⟨by simp [World.cell?, h.xn], heap_lt h.xn⟩
theorem TkF.off (h : TkF w1 X bl bw bo bf P go gf n f gl cl bn b5 Dl p ofs frs qs a b xs ys) {c : Nat} (hc : c < n) : X.cell? ⟨go, c, none⟩ = some (.int .i64 (ofs.getD c 0)) := by
  have h1 := h.st.og.1
  rw [h.st.og.cellAt c (by omega)]
  have hl : c < ofs.length := by simp [ivals] at h1; omega
  simp [ivals, hl, List.getD_eq_getElem?_getD]
theorem TkF.frf (h : TkF w1 X bl bw bo bf P go gf n f gl cl bn b5 Dl p ofs frs qs a b xs ys) {c : Nat} (hc : c < f) : (∃ v, X.cell? ⟨gf, c, none⟩ = some v) ∧ X.frozen? ⟨gf, c, none⟩ = false := by
  have h1 := h.st.fg.1
  exact ⟨⟨_, (h.st.fg.cellAt c (by omega)).trans (List.getElem?_eq_getElem (by omega))⟩, h.st.fg.frozenAt c⟩
/-- A store into the numbers of the free ports, then an append: all that the next steps read. -/
theorem TkF.freed {b' : Value} {i : Nat} {N x : Int} {o : Obj} {w7 : World} (h : TkF w1 X bl bw bo bf P go gf n f gl cl bn b5 Dl p ofs frs qs a b xs ys)
    (r : Row w7 3 1 b' (ys.length + 1) (ivals ys ++ [.int .i64 x])) (k : Kp (ownB b) ((X.setCell ⟨gf, i, none⟩ (.int .i64 N)).drew.alloc o) w7) (ho : ownB b' = ownB b ∨ ∀ y ∈ ownB b', X.heap.size ≤ y) :
    (w7.cell? ⟨bl, 0, none⟩ = some (.slice (some ⟨gl, 0, none⟩) (qs.length + 1) cl) ∧ w7.cell? ⟨bn, 0, none⟩ = some (.int .i64 ((qs.length : Int) + 1)) ∧ w7.cell? ⟨gl, qs.length * 2 + 1, none⟩ = some b ∧ w7.frozen? ⟨gl, qs.length * 2 + 1, none⟩ = false) ∧
    TkF w1 (w7.setCell ⟨gl, qs.length * 2 + 1, none⟩ b') bl bw bo bf P go gf n f gl cl bn b5 Dl p ofs (frs.set i N) qs a b' xs (ys ++ [x]) := by
  obtain ⟨⟨z1, z2, z3, z4⟩, hP, hk⟩ := PtS.freed h.st r k ho
  obtain ⟨rgf, egf⟩ := row_block h.st.fg gf (by simp [ownB])
  obtain ⟨rgl, egl⟩ := row_block h.st.lr gl (by simp [ownB])
  have hmem : ∀ u, u ∈ pvCells (qs ++ [(⟨a, b, xs, ys⟩ : PV)]) ↔ u ∈ pvCells qs ∨ u = a ∨ u = b := fun u => by rw [pvCells_snoc]; simp
  have hbm : b ∈ pvCells (qs ++ [(⟨a, b, xs, ys⟩ : PV)]) := (hmem b).2 (by simp)
  have hnb := h.nn.2.2 b hbm
  have ngl : bn ≠ gl := fun e => by have e1 := h.xn; rw [e] at e1; exact ty_no2 e1 egl (by decide)
  have hn7 : w7.heap[bn]? = X.heap[bn]? := z4.block bn (heap_lt h.xn) (by simp; exact ⟨h.nn.2.1, hnb⟩)
  have hnk : ∀ y, y < X.heap.size → y ≠ gl → y ≠ gf → y ∉ ownB b → (w7.setCell ⟨gl, qs.length * 2 + 1, none⟩ b').heap[y]? = X.heap[y]? := fun y hy h1 h2 h3 => hk.block y hy (by simp; exact ⟨h1, h2, h3⟩)
  obtain ⟨zs, rb⟩ := h.st.urow hbm
  have n5 : ∀ (y : Nat) (o : Obj), X.heap[y]? = some o → (∀ ca, o ≠ .cells ca 3 (0, 0)) → (∀ ca, o ≠ .cells ca 38 (0, 0)) → (w7.setCell ⟨gl, qs.length * 2 + 1, none⟩ b').heap[y]? = some o := fun y o hy h1 h2 => by
    refine (hnk y (heap_lt hy) (fun e => ?_) (fun e => ?_) (fun hm => ?_)).trans hy
    · rw [e, egl] at hy; injection hy with hy; exact h2 _ hy.symm
    · rw [e, egf] at hy; injection hy with hy; exact h1 _ hy.symm
    · obtain ⟨cu, e9⟩ := row_block rb y hm
      rw [e9] at hy; injection hy with hy; exact h1 _ hy.symm
  refine ⟨⟨z1, by simp [World.cell?, hn7, h.xn], z2, z3⟩, hP, ?_, ?_, ?_, ⟨h.nn.1, h.nn.2.1, fun u hu => ?_⟩, h.ln⟩
  · exact (hnk bn (heap_lt h.xn) ngl h.nn.2.1 hnb).trans h.xn
  · exact n5 _ _ h.x5 (by intro ca e; injection e with _ e; exact absurd e (by decide)) (by intro ca e; injection e with _ e; exact absurd e (by decide))
  · exact n5 _ _ h.xD (by intro ca e; cases e) (by intro ca e; cases e)
  · rw [pvCells_snoc] at hu
    rcases List.mem_append.1 hu with hu | hu
    · exact h.nn.2.2 u ((hmem u).2 (.inl hu))
    · simp at hu
      rcases hu with rfl | rfl
      · exact h.nn.2.2 u ((hmem u).2 (by simp))
      · intro hm
        rcases ho with e | e
        · rw [e] at hm; exact hnb hm
        · have := e _ hm; have := heap_lt h.xn; omega
end
end Go.Proofs.Ytogbanlfihabpaa
namespace Go.Proofs.Ytogbanlfihabpaa
open Go.RowKit
attribute [local go_sem] cell_set
attribute [local go_sem] Oper.semAt_some
set_option maxRecDepth 100000
set_option linter.unusedVariables false
theorem nd3 {a b c : Prop} (h1 : ¬ a) (h2 : ¬ b) (h3 : ¬ c) : ¬ (a ∨ b ∨ c) := by simp [h1, h2, h3]
section
variable (Q : Exit → Act → World → Prop) (w1 : World) (bl bw bo bf P m go gf gl cl bn b5 Dl : Nat) (A : Option Addr) (cap : Nat) (L : List (ByteArray × Int)) (VA VB : Option Addr) (ca cb : Nat) (cells : List Int) (f : Nat) (W : List (Pt × Pt)) (n : Nat)
set_option maxHeartbeats 4000000 in
theorem tk_10 (ds : List Deferred) (a : Act) (X : World) (p q : Pt) (ofs frs xs ys : List Int) (av bv : Value) (qs : List PV) (i : Nat) (wl : List Int) (hi : i < f) (hok : Hid (NetOk (pnL L) cells f W)) (hc5 : cells.length ≤ 5000) (hf5 : f ≤ 10000)
    (hn : n = cells.length) (hq : qs.length ≤ 10000) (hlk : lkM W (-1, (i : Int)) = q) (hof : Hid (∀ c, c < n → (ofs.getD c 0 = ((qs.length : Int) + 1) ↔ (c : Int) ∈ wl))) (hw : Hid (WebS w1 P m A cap L VA VB ca cb cells f W))
    (hs : Hid (TkF w1 X bl bw bo bf P go gf n f gl cl bn b5 Dl p ofs frs qs av bv xs ys))
    (hgo : Hid (∀ a' X', FrN 104 ds [(1, .pointer (some ⟨bl, 0, none⟩)), (2, .pointer (some ⟨bw, 0, none⟩)), (3, .pointer (some ⟨bo, 0, none⟩)), (4, .pointer (some ⟨bf, 0, none⟩)), (5, .pointer (some ⟨b5, 0, none⟩)), (6, .pointer (some ⟨bn, 0, none⟩)), (46, .int .i64 (f : Int)), (47, .int .i64 (i : Int))] a' → ¬ ((0 ≤ q.1 ∧ q.1 ∈ wl) ∨ p = (-1, (i : Int)) ∨ (q = p ∧ q.1 < 0)) → TkF w1 X' bl bw bo bf P go gf n f gl cl bn b5 Dl p ofs frs qs av bv xs ys → Q .normal a' X'))
    (hnext : Hid (∀ a' X', FrN 104 ds [(1, .pointer (some ⟨bl, 0, none⟩)), (2, .pointer (some ⟨bw, 0, none⟩)), (3, .pointer (some ⟨bo, 0, none⟩)), (4, .pointer (some ⟨bf, 0, none⟩)), (5, .pointer (some ⟨b5, 0, none⟩)), (6, .pointer (some ⟨bn, 0, none⟩)), (46, .int .i64 (f : Int)), (47, .int .i64 (i : Int)), (8, .int .i64 (i : Int))] a' → ((0 ≤ q.1 ∧ q.1 ∈ wl) ∨ p = (-1, (i : Int)) ∨ (q = p ∧ q.1 < 0)) → TkF w1 X' bl bw bo bf P go gf n f gl cl bn b5 Dl p ofs frs qs av bv xs ys → (tkT 13).wp Try.prog Q a' X'))
    (ha : FrN 104 ds [(1, .pointer (some ⟨bl, 0, none⟩)), (2, .pointer (some ⟨bw, 0, none⟩)), (3, .pointer (some ⟨bo, 0, none⟩)), (4, .pointer (some ⟨bf, 0, none⟩)), (5, .pointer (some ⟨b5, 0, none⟩)), (6, .pointer (some ⟨bn, 0, none⟩)), (46, .int .i64 (f : Int)), (47, .int .i64 (i : Int))] a) : (tkT 10).wp Try.prog Q a X := by
  obtain ⟨U, rfl, e1, e2, e3, e4, e5, e6, e46, e47, -⟩ := ha.openTK
  unfold FrTK
  simp only [e1, e2, e3, e4, e5, e6, e46, e47]
  clear e1 e2 e3 e4 e5 e6 e46 e47 ha
  show (Code.seq _ _).wp _ _ _ _
  obtain ⟨q1, q2⟩ := q
  obtain ⟨p1, p2⟩ := p
  have hp : isPt (pnL L) cells f (-1, (i : Int)) = true := by simp [isPt, hi]
  have HN := Lib.hid hn
  have hW := hw.out.below hs.out.st.bel
  have hl0 := hW.look hok.out hp
  have hq0 := (lkM_eq hok.out hp).2
  rw [hlk] at hl0 hq0
  simp only [encPt] at hl0
  have hqn := isPt_lt hq0
  dsimp only at hqn
  rw [← hn] at hqn
  obtain ⟨t0, t1, t4, tl⟩ := hW.fld
  obtain ⟨y4, y5⟩ := hs.out.st.bwc
  clear hn hp hq0 hW t0 t1 hlk
  go_upto_region 12 with fail
  obtain ⟨b9, hb9⟩ : ∃ b9, b9 = X.heap.size := ⟨_, rfl⟩
  refine absW (fun Y => TkF w1 Y bl bw bo bf P go gf n f gl cl bn b5 Dl (p1, p2) ofs frs qs av bv xs ys ∧ PtBx Y X.heap.size (q1, q2)) ⟨hs.out.below (by (repeat (first | exact Below.refl _ _ | (with_reducible refine Below.drew ?_) | (with_reducible refine Below.alloc ?_ (by (try simp); (try omega)) _) | (with_reducible refine Below.setCell ?_ (by (try simp); (try omega)) _) | (with_reducible refine Below.trans ?_ (Below.mono (by assumption) (by (try simp); (try omega))))))), heap_alloc_new X _⟩ ?_
  rintro Y ⟨hY, hY9⟩
  rw [← hb9] at hY9 ⊢
  obtain ⟨r1, r2, r3⟩ := hY9.cells
  obtain ⟨r4, r5, r6⟩ := hY.x5.cells
  obtain ⟨r7, r8⟩ := hY.bnc
  obtain ⟨r9, r10⟩ := hY.st.boc
  have HY := Lib.hid (And.intro hY hY9)
  clear hl0 t4 tl y4 y5 hb9 hY hY9
  obtain ⟨e1, he1⟩ : ∃ e, eqP (p1, p2) (-1, (i : Int)) = e := ⟨_, rfl⟩
  obtain ⟨e2, he2⟩ : ∃ e, eqP (q1, q2) (p1, p2) = e := ⟨_, rfl⟩
  have HE1 : Hid (((p1, p2) : Pt) = (-1, (i : Int)) ↔ e1 = true) := by show _ ↔ _; rw [← he1]; simp [eqP]
  have HE2 : Hid (((q1, q2) : Pt) = (p1, p2) ↔ e2 = true) := by show _ ↔ _; rw [← he2]; simp [eqP]
  dsimp only at hgo hnext
  rw [HE1.out, HE2.out] at hgo hnext
  have hr1 : ∀ wx, (binOp .eql 41 (.agg #[.int .i64 p1, .int .i64 p2]) (.agg #[.int .i64 (-1), .int .i64 (i : Int)])).run Try.prog wx = .ok (.bool e1) wx := fun wx => by rw [run_eql_port, he1]
  have hr2 : ∀ wx, (binOp .eql 41 (.agg #[.int .i64 q1, .int .i64 q2]) (.agg #[.int .i64 p1, .int .i64 p2])).run Try.prog wx = .ok (.bool e2) wx := fun wx => by rw [run_eql_port, he2]
  clear HE1 HE2 he1 he2
  by_cases g1 : 0 ≤ q1
  · obtain ⟨c, rfl⟩ := Int.eq_ofNat_of_zero_le g1
    have hcn : (c : Int) < (n : Int) := by omega
    have hcn2 : c < n := by omega
    have r11 := HY.out.1.off hcn2
    have g1' : ¬ ((c : Int) < 0) := by omega
    have ho := hof.out c hcn2
    generalize ofs.getD c 0 = oc at r11 ho
    by_cases g2 : oc = (qs.length : Int) + 1
    · have HC : Hid ((c : Int) ∈ wl) := ho.1 g2
      clear ho hcn2
      subst g2
      go_quiet (fail)
      iterate 12 (first | (with_reducible refine at_seq 13 ?_) | go_values | go_skip | go_guarded | go_step | go_upon | go_back)
      exact hnext.out _ _ ⟨rfl, rfl, rfl, rfl, rfl, rfl, rfl, rfl, rfl, rfl, rfl, trivial⟩ (.inl ⟨by omega, HC.out⟩) (HY.out.1.below (below_drewN (Below.refl _ _) _))
    · have HC : Hid (¬ (c : Int) ∈ wl) := fun h => g2 (ho.2 h)
      clear ho hcn2
      have hg2a : (oc == (qs.length : Int) + 1) = false := by simp [g2]
      have hg2b : decide (oc = (qs.length : Int) + 1) = false := by simp [g2]
      cases e1
      · cases e2
        · go_quiet (fail)
          repeat (first | ((with_reducible refine hgo.out _ _ ?_ ?_ ?_); (· exact ⟨rfl, rfl, rfl, rfl, rfl, rfl, rfl, rfl, rfl, rfl, trivial⟩); (· exact (nd3 (fun h => HC.out h.2) (by simp) (by simp))); (· exact HY.out.1.below (below_drewN (Below.refl _ _) _))) | go_values | go_skip | go_guarded | go_step | go_upon | go_back)
        · go_quiet (fail)
          repeat (first | ((with_reducible refine hgo.out _ _ ?_ ?_ ?_); (· exact ⟨rfl, rfl, rfl, rfl, rfl, rfl, rfl, rfl, rfl, rfl, trivial⟩); (· exact (nd3 (fun h => HC.out h.2) (by simp) (by omega))); (· exact HY.out.1.below (below_drewN (Below.refl _ _) _))) | go_values | go_skip | go_guarded | go_step | go_upon | go_back)
      · go_quiet (fail)
        iterate 12 (first | (with_reducible refine at_seq 13 ?_) | go_values | go_skip | go_guarded | go_step | go_upon | go_back)
        exact hnext.out _ _ ⟨rfl, rfl, rfl, rfl, rfl, rfl, rfl, rfl, rfl, rfl, rfl, trivial⟩ (.inr (.inl rfl)) (HY.out.1.below (below_drewN (Below.refl _ _) _))
  · have g1' : q1 < 0 := by omega
    cases e1
    · cases e2
      · go_quiet (fail)
        repeat (first | ((with_reducible refine hgo.out _ _ ?_ ?_ ?_); (· exact ⟨rfl, rfl, rfl, rfl, rfl, rfl, rfl, rfl, rfl, rfl, trivial⟩); (· exact (nd3 (by omega) (by simp) (by simp))); (· exact HY.out.1.below (below_drewN (Below.refl _ _) _))) | go_values | go_skip | go_guarded | go_step | go_upon | go_back)
      · go_quiet (fail)
        iterate 12 (first | (with_reducible refine at_seq 13 ?_) | go_values | go_skip | go_guarded | go_step | go_upon | go_back)
        exact hnext.out _ _ ⟨rfl, rfl, rfl, rfl, rfl, rfl, rfl, rfl, rfl, rfl, rfl, trivial⟩ (.inr (.inr ⟨rfl, g1'⟩)) (HY.out.1.below (below_drewN (Below.refl _ _) _))
    · go_quiet (fail)
      iterate 12 (first | (with_reducible refine at_seq 13 ?_) | go_values | go_skip | go_guarded | go_step | go_upon | go_back)
      exact hnext.out _ _ ⟨rfl, rfl, rfl, rfl, rfl, rfl, rfl, rfl, rfl, rfl, rfl, trivial⟩ (.inr (.inl rfl)) (HY.out.1.below (below_drewN (Below.refl _ _) _))
end
end Go.Proofs.Ytogbanlfihabpaa
