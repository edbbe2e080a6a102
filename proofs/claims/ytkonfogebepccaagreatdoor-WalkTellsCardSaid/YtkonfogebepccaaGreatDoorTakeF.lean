/-
  walk.Parts's 'take': its contract.
-/
import Derived.Test.YtkonfogebepccaaGreatDoorPartsSt2
import Derived.Test.YtkonfogebepccaaGreatDoorTakeA
import Derived.Test.YtkonfogebepccaaGreatDoorEqN
import Derived.BigQuiet
import Derived.Test.YtkonfogebepccaaGreatDoorRegionHS
import Derived.Deep.LoopGhost
/-
  walk.Parts's 'take': a round of its loop over the free ports.
-/
/-
  What 'take' keeps over its loop over the free ports.
-/
namespace Go.Proofs.YtkonfogebepccaaGreatDoor
open Go.RowKit
set_option maxRecDepth 100000
set_option linter.unusedVariables false

structure TkF (w1 X : World) (bl bw bo bf P go gf n f gl cl bn b5 Dl : Nat) (p : Pt) (ofs frs : List Int) (qs : List PV) (a b : Value) (xs ys : List Int) : Prop where
  st : PtS w1 X bl bw bo bf P go gf n f ofs frs (.slice (some ⟨gl, 0, none⟩) (qs.length + 1) cl) (qs ++ [⟨a, b, xs, ys⟩])
  xn : X.heap[bn]? = some (.cells #[.int .i64 ((qs.length + 1 : Nat) : Int)] 3 (0, 0))
  x5 : PtBx X b5 p
  xD : X.heap[Dl]? = some (.deferred (some []))
  nn : bn ≠ go ∧ bn ≠ gf ∧ ∀ u ∈ pvCells (qs ++ [(⟨a, b, xs, ys⟩ : PV)]), bn ∉ ownB u
  ln : w1.heap.size ≤ b5 ∧ w1.heap.size ≤ bn ∧ w1.heap.size ≤ Dl
section
variable {w1 X Y : World} {bl bw bo bf P go gf n f gl cl bn b5 Dl : Nat} {p : Pt} {ofs frs : List Int} {qs : List PV} {a b : Value} {xs ys : List Int}
theorem TkF.below (h : TkF w1 X bl bw bo bf P go gf n f gl cl bn b5 Dl p ofs frs qs a b xs ys) (hb : Below X.heap.size X Y) : TkF w1 Y bl bw bo bf P go gf n f gl cl bn b5 Dl p ofs frs qs a b xs ys :=
  ⟨h.st.below hb, (hb.block _ (heap_lt h.xn)).trans h.xn, (hb.block _ (heap_lt h.x5)).trans h.x5, (hb.block _ (heap_lt h.xD)).trans h.xD, h.nn, h.ln⟩
theorem TkF.bnc (h : TkF w1 X bl bw bo bf P go gf n f gl cl bn b5 Dl p ofs frs qs a b xs ys) : X.cell? ⟨bn, 0, none⟩ = some (.int .i64 ((qs.length : Int) + 1)) ∧ bn < X.heap.size := ⟨by simp [World.cell?, h.xn], heap_lt h.xn⟩
theorem TkF.off (h : TkF w1 X bl bw bo bf P go gf n f gl cl bn b5 Dl p ofs frs qs a b xs ys) {c : Nat} (hc : c < n) : X.cell? ⟨go, c, none⟩ = some (.int .i64 (ofs.getD c 0)) := by
  have h1 := h.st.og.1
  rw [h.st.og.cellAt c (by omega)]
  have hl : c < ofs.length := by simp [ivals] at h1; omega
  simp [ivals, hl, List.getD_eq_getElem?_getD]
theorem TkF.frf (h : TkF w1 X bl bw bo bf P go gf n f gl cl bn b5 Dl p ofs frs qs a b xs ys) {c : Nat} (hc : c < f) : (∃ v, X.cell? ⟨gf, c, none⟩ = some v) ∧ X.frozen? ⟨gf, c, none⟩ = false := by
  have h1 := h.st.fg.1
  exact ⟨⟨_, (h.st.fg.cellAt c (by omega)).trans (List.getElem?_eq_getElem (by omega))⟩, h.st.fg.frozenAt c⟩
/-- A store into the numbers of the free ports, then an append: all that the next steps read. -/
theorem TkF.freed {b' : Value} {i : Nat} {N x : Int} {o : Obj} {w7 : World} (h : TkF w1 X bl bw bo bf P go gf n f gl cl bn b5 Dl p ofs frs qs a b xs ys)
    (r : Row w7 3 1 b' (ys.length + 1) (ivals ys ++ [.int .i64 x])) (k : Kp (ownB b) ((X.setCell ⟨gf, i, none⟩ (.int .i64 N)).drew.alloc o) w7) (ho : ownB b' = ownB b ∨ ∀ y ∈ ownB b', X.heap.size ≤ y) :
    (w7.cell? ⟨bl, 0, none⟩ = some (.slice (some ⟨gl, 0, none⟩) (qs.length + 1) cl) ∧ w7.cell? ⟨bn, 0, none⟩ = some (.int .i64 ((qs.length : Int) + 1)) ∧ w7.cell? ⟨gl, qs.length * 2 + 1, none⟩ = some b ∧ w7.frozen? ⟨gl, qs.length * 2 + 1, none⟩ = false) ∧
    TkF w1 (w7.setCell ⟨gl, qs.length * 2 + 1, none⟩ b') bl bw bo bf P go gf n f gl cl bn b5 Dl p ofs (frs.set i N) qs a b' xs (ys ++ [x]) := by
  obtain ⟨⟨z1, z2, z3, z4⟩, hP, hk⟩ := PtS.freed h.st r k ho
  obtain ⟨rgf, egf⟩ := row_block h.st.fg gf (by simp [ownB])
  obtain ⟨rgl, egl⟩ := row_block h.st.lr gl (by simp [ownB])
  have hmem : ∀ u, u ∈ pvCells (qs ++ [(⟨a, b, xs, ys⟩ : PV)]) ↔ u ∈ pvCells qs ∨ u = a ∨ u = b := fun u => by rw [pvCells_snoc]; simp
  have hbm : b ∈ pvCells (qs ++ [(⟨a, b, xs, ys⟩ : PV)]) := (hmem b).2 (by simp)
  have hnb := h.nn.2.2 b hbm
  have ngl : bn ≠ gl := fun e => by have e1 := h.xn; rw [e] at e1; exact ty_no2 e1 egl (by decide)
  have hn7 : w7.heap[bn]? = X.heap[bn]? := z4.block bn (heap_lt h.xn) (by simp; exact ⟨h.nn.2.1, hnb⟩)
  have hnk : ∀ y, y < X.heap.size → y ≠ gl → y ≠ gf → y ∉ ownB b → (w7.setCell ⟨gl, qs.length * 2 + 1, none⟩ b').heap[y]? = X.heap[y]? := fun y hy h1 h2 h3 => hk.block y hy (by simp; exact ⟨h1, h2, h3⟩)
  obtain ⟨zs, rb⟩ := h.st.urow hbm
  have n5 : ∀ (y : Nat) (o : Obj), X.heap[y]? = some o → (∀ ca, o ≠ .cells ca 3 (0, 0)) → (∀ ca, o ≠ .cells ca 65 (0, 0)) → (w7.setCell ⟨gl, qs.length * 2 + 1, none⟩ b').heap[y]? = some o := fun y o hy h1 h2 => by
    refine (hnk y (heap_lt hy) (fun e => ?_) (fun e => ?_) (fun hm => ?_)).trans hy
    · rw [e, egl] at hy; injection hy with hy; exact h2 _ hy.symm
    · rw [e, egf] at hy; injection hy with hy; exact h1 _ hy.symm
    · obtain ⟨cu, e9⟩ := row_block rb y hm
      rw [e9] at hy; injection hy with hy; exact h1 _ hy.symm
  refine ⟨⟨z1, by simp [World.cell?, hn7, h.xn], z2, z3⟩, hP, ?_, ?_, ?_, ⟨h.nn.1, h.nn.2.1, fun u hu => ?_⟩, h.ln⟩
  · exact (hnk bn (heap_lt h.xn) ngl h.nn.2.1 hnb).trans h.xn
  · exact n5 _ _ h.x5 (by intro ca e; injection e with _ e; exact absurd e (by decide)) (by intro ca e; injection e with _ e; exact absurd e (by decide))
  · exact n5 _ _ h.xD (by intro ca e; cases e) (by intro ca e; cases e)
  · rw [pvCells_snoc] at hu
    rcases List.mem_append.1 hu with hu | hu
    · exact h.nn.2.2 u ((hmem u).2 (.inl hu))
    · simp at hu
      rcases hu with rfl | rfl
      · exact h.nn.2.2 u ((hmem u).2 (by simp))
      · intro hm
        rcases ho with e | e
        · rw [e] at hm; exact hnb hm
        · have := e _ hm; have := heap_lt h.xn; omega
end
end Go.Proofs.YtkonfogebepccaaGreatDoor
namespace Go.Proofs.YtkonfogebepccaaGreatDoor
open Go.RowKit
attribute [local go_sem] cell_set
attribute [local go_sem] Oper.semAt_some
set_option maxRecDepth 100000
set_option linter.unusedVariables false
theorem nd3 {a b c : Prop} (h1 : ¬ a) (h2 : ¬ b) (h3 : ¬ c) : ¬ (a ∨ b ∨ c) := by simp [h1, h2, h3]
section
variable (Q : Exit → Act → World → Prop) (w1 : World) (bl bw bo bf P m go gf gl cl bn b5 Dl : Nat) (A : Option Addr) (cap : Nat) (L : List (ByteArray × Int)) (VA VB : Option Addr) (ca cb : Nat) (cells : List Int) (f : Nat) (W : List (Pt × Pt)) (n : Nat)
set_option maxHeartbeats 4000000 in
theorem tk_10 (ds : List Deferred) (a : Act) (X : World) (p q : Pt) (ofs frs xs ys : List Int) (av bv : Value) (qs : List PV) (i : Nat) (wl : List Int) (hi : i < f) (hok : Hid (NetOk (pnL L) cells f W)) (hc5 : cells.length ≤ 5000) (hf5 : f ≤ 10000)
    (hn : n = cells.length) (hq : qs.length ≤ 10000) (hlk : lkM W (-1, (i : Int)) = q) (hof : Hid (∀ c, c < n → (ofs.getD c 0 = ((qs.length : Int) + 1) ↔ (c : Int) ∈ wl))) (hw : Hid (WebS w1 P m A cap L VA VB ca cb cells f W))
    (hs : Hid (TkF w1 X bl bw bo bf P go gf n f gl cl bn b5 Dl p ofs frs qs av bv xs ys))
    (hgo : Hid (∀ a' X', FrN 104 ds [(1, .pointer (some ⟨bl, 0, none⟩)), (2, .pointer (some ⟨bw, 0, none⟩)), (3, .pointer (some ⟨bo, 0, none⟩)), (4, .pointer (some ⟨bf, 0, none⟩)), (5, .pointer (some ⟨b5, 0, none⟩)), (6, .pointer (some ⟨bn, 0, none⟩)), (46, .int .i64 (f : Int)), (47, .int .i64 (i : Int))] a' → ¬ ((0 ≤ q.1 ∧ q.1 ∈ wl) ∨ p = (-1, (i : Int)) ∨ (q = p ∧ q.1 < 0)) → TkF w1 X' bl bw bo bf P go gf n f gl cl bn b5 Dl p ofs frs qs av bv xs ys → Q .normal a' X'))
    (hnext : Hid (∀ a' X', FrN 104 ds [(1, .pointer (some ⟨bl, 0, none⟩)), (2, .pointer (some ⟨bw, 0, none⟩)), (3, .pointer (some ⟨bo, 0, none⟩)), (4, .pointer (some ⟨bf, 0, none⟩)), (5, .pointer (some ⟨b5, 0, none⟩)), (6, .pointer (some ⟨bn, 0, none⟩)), (46, .int .i64 (f : Int)), (47, .int .i64 (i : Int)), (8, .int .i64 (i : Int))] a' → ((0 ≤ q.1 ∧ q.1 ∈ wl) ∨ p = (-1, (i : Int)) ∨ (q = p ∧ q.1 < 0)) → TkF w1 X' bl bw bo bf P go gf n f gl cl bn b5 Dl p ofs frs qs av bv xs ys → (tkT 13).wp Tryz.prog Q a' X'))
    (ha : FrN 104 ds [(1, .pointer (some ⟨bl, 0, none⟩)), (2, .pointer (some ⟨bw, 0, none⟩)), (3, .pointer (some ⟨bo, 0, none⟩)), (4, .pointer (some ⟨bf, 0, none⟩)), (5, .pointer (some ⟨b5, 0, none⟩)), (6, .pointer (some ⟨bn, 0, none⟩)), (46, .int .i64 (f : Int)), (47, .int .i64 (i : Int))] a) : (tkT 10).wp Tryz.prog Q a X := by
  obtain ⟨U, rfl, e1, e2, e3, e4, e5, e6, e46, e47, -⟩ := ha.openTK
  unfold FrTK
  simp only [e1, e2, e3, e4, e5, e6, e46, e47]
  clear e1 e2 e3 e4 e5 e6 e46 e47 ha
  show (Code.seq _ _).wp _ _ _ _
  obtain ⟨q1, q2⟩ := q
  obtain ⟨p1, p2⟩ := p
  have hp : isPt (pnL L) cells f (-1, (i : Int)) = true := by simp [isPt, hi]
  have HN := Lib.hid hn
  have hW := hw.out.below hs.out.st.bel
  have hl0 := hW.look hok.out hp
  have hq0 := (lkM_eq hok.out hp).2
  rw [hlk] at hl0 hq0
  simp only [encPt] at hl0
  have hqn := isPt_lt hq0
  dsimp only at hqn
  rw [← hn] at hqn
  obtain ⟨t0, t1, t4, tl⟩ := hW.fld
  obtain ⟨y4, y5⟩ := hs.out.st.bwc
  clear hn hp hq0 hW t0 t1 hlk
  go_upto_region 12 with fail
  obtain ⟨b9, hb9⟩ : ∃ b9, b9 = X.heap.size := ⟨_, rfl⟩
  refine absW (fun Y => TkF w1 Y bl bw bo bf P go gf n f gl cl bn b5 Dl (p1, p2) ofs frs qs av bv xs ys ∧ PtBx Y X.heap.size (q1, q2)) ⟨hs.out.below (by (repeat (first | exact Below.refl _ _ | (with_reducible refine Below.drew ?_) | (with_reducible refine Below.alloc ?_ (by (try simp); (try omega)) _) | (with_reducible refine Below.setCell ?_ (by (try simp); (try omega)) _) | (with_reducible refine Below.trans ?_ (Below.mono (by assumption) (by (try simp); (try omega))))))), heap_alloc_new X _⟩ ?_
  rintro Y ⟨hY, hY9⟩
  rw [← hb9] at hY9 ⊢
  obtain ⟨r1, r2, r3⟩ := hY9.cells
  obtain ⟨r4, r5, r6⟩ := hY.x5.cells
  obtain ⟨r7, r8⟩ := hY.bnc
  obtain ⟨r9, r10⟩ := hY.st.boc
  have HY := Lib.hid (And.intro hY hY9)
  clear hl0 t4 tl y4 y5 hb9 hY hY9
  obtain ⟨e1, he1⟩ : ∃ e, eqP (p1, p2) (-1, (i : Int)) = e := ⟨_, rfl⟩
  obtain ⟨e2, he2⟩ : ∃ e, eqP (q1, q2) (p1, p2) = e := ⟨_, rfl⟩
  have HE1 : Hid (((p1, p2) : Pt) = (-1, (i : Int)) ↔ e1 = true) := by show _ ↔ _; rw [← he1]; simp [eqP]
  have HE2 : Hid (((q1, q2) : Pt) = (p1, p2) ↔ e2 = true) := by show _ ↔ _; rw [← he2]; simp [eqP]
  dsimp only at hgo hnext
  rw [HE1.out, HE2.out] at hgo hnext
  have hr1 : ∀ wx, (binOp .eql 28 (.agg #[.int .i64 p1, .int .i64 p2]) (.agg #[.int .i64 (-1), .int .i64 (i : Int)])).run Tryz.prog wx = .ok (.bool e1) wx := fun wx => by rw [run_eql_port, he1]
  have hr2 : ∀ wx, (binOp .eql 28 (.agg #[.int .i64 q1, .int .i64 q2]) (.agg #[.int .i64 p1, .int .i64 p2])).run Tryz.prog wx = .ok (.bool e2) wx := fun wx => by rw [run_eql_port, he2]
  clear HE1 HE2 he1 he2
  by_cases g1 : 0 ≤ q1
  · obtain ⟨c, rfl⟩ := Int.eq_ofNat_of_zero_le g1
    have hcn : (c : Int) < (n : Int) := by omega
    have hcn2 : c < n := by omega
    have r11 := HY.out.1.off hcn2
    have g1' : ¬ ((c : Int) < 0) := by omega
    have ho := hof.out c hcn2
    generalize ofs.getD c 0 = oc at r11 ho
    by_cases g2 : oc = (qs.length : Int) + 1
    · have HC : Hid ((c : Int) ∈ wl) := ho.1 g2
      clear ho hcn2
      subst g2
      go_quiet (fail)
      iterate 12 (first | (with_reducible refine at_seq 13 ?_) | go_values | go_skip | go_guarded | go_step | go_upon | go_back)
      exact hnext.out _ _ ⟨rfl, rfl, rfl, rfl, rfl, rfl, rfl, rfl, rfl, rfl, rfl, trivial⟩ (.inl ⟨by omega, HC.out⟩) (HY.out.1.below (below_drewN (Below.refl _ _) _))
    · have HC : Hid (¬ (c : Int) ∈ wl) := fun h => g2 (ho.2 h)
      clear ho hcn2
      have hg2a : (oc == (qs.length : Int) + 1) = false := by simp [g2]
      have hg2b : decide (oc = (qs.length : Int) + 1) = false := by simp [g2]
      cases e1
      · cases e2
        · go_quiet (fail)
          repeat (first | ((with_reducible refine hgo.out _ _ ?_ ?_ ?_); (· exact ⟨rfl, rfl, rfl, rfl, rfl, rfl, rfl, rfl, rfl, rfl, trivial⟩); (· exact (nd3 (fun h => HC.out h.2) (by simp) (by simp))); (· exact HY.out.1.below (below_drewN (Below.refl _ _) _))) | go_values | go_skip | go_guarded | go_step | go_upon | go_back)
        · go_quiet (fail)
          repeat (first | ((with_reducible refine hgo.out _ _ ?_ ?_ ?_); (· exact ⟨rfl, rfl, rfl, rfl, rfl, rfl, rfl, rfl, rfl, rfl, trivial⟩); (· exact (nd3 (fun h => HC.out h.2) (by simp) (by omega))); (· exact HY.out.1.below (below_drewN (Below.refl _ _) _))) | go_values | go_skip | go_guarded | go_step | go_upon | go_back)
      · go_quiet (fail)
        iterate 12 (first | (with_reducible refine at_seq 13 ?_) | go_values | go_skip | go_guarded | go_step | go_upon | go_back)
        exact hnext.out _ _ ⟨rfl, rfl, rfl, rfl, rfl, rfl, rfl, rfl, rfl, rfl, rfl, trivial⟩ (.inr (.inl rfl)) (HY.out.1.below (below_drewN (Below.refl _ _) _))
  · have g1' : q1 < 0 := by omega
    cases e1
    · cases e2
      · go_quiet (fail)
        repeat (first | ((with_reducible refine hgo.out _ _ ?_ ?_ ?_); (· exact ⟨rfl, rfl, rfl, rfl, rfl, rfl, rfl, rfl, rfl, rfl, trivial⟩); (· exact (nd3 (by omega) (by simp) (by simp))); (· exact HY.out.1.below (below_drewN (Below.refl _ _) _))) | go_values | go_skip | go_guarded | go_step | go_upon | go_back)
      · go_quiet (fail)
        iterate 12 (first | (with_reducible refine at_seq 13 ?_) | go_values | go_skip | go_guarded | go_step | go_upon | go_back)
        exact hnext.out _ _ ⟨rfl, rfl, rfl, rfl, rfl, rfl, rfl, rfl, rfl, rfl, rfl, trivial⟩ (.inr (.inr ⟨rfl, g1'⟩)) (HY.out.1.below (below_drewN (Below.refl _ _) _))
    · go_quiet (fail)
      iterate 12 (first | (with_reducible refine at_seq 13 ?_) | go_values | go_skip | go_guarded | go_step | go_upon | go_back)
      exact hnext.out _ _ ⟨rfl, rfl, rfl, rfl, rfl, rfl, rfl, rfl, rfl, rfl, rfl, trivial⟩ (.inr (.inl rfl)) (HY.out.1.below (below_drewN (Below.refl _ _) _))
end
end Go.Proofs.YtkonfogebepccaaGreatDoor
/-
  walk.Parts's 'take': its loop over the free ports.
-/
/-
  walk.Parts's 'take': a free port is taken.
-/
namespace Go.Proofs.YtkonfogebepccaaGreatDoor
open Go.RowKit
attribute [local go_sem] cell_set
attribute [local go_sem] Oper.semAt_some
set_option maxRecDepth 100000
set_option linter.unusedVariables false
section
variable (Q : Exit → Act → World → Prop) (w1 : World) (bl bw bo bf P go gf gl cl bn b5 Dl : Nat) (f : Nat) (n : Nat)
set_option maxHeartbeats 4000000 in
theorem tk_13 (ds : List Deferred) (a : Act) (X : World) (p : Pt) (ofs frs xs ys : List Int) (av bv : Value) (qs : List PV) (i : Nat) (hi : i < f) (hf5 : f ≤ 10000)
    (hq : qs.length ≤ 10000) (hy : ys.length ≤ i) (hQ : ∀ c a d v w, Q (.panic c) (Act.put a d v) w → Q (.panic c) a w)
    (hs : Hid (TkF w1 X bl bw bo bf P go gf n f gl cl bn b5 Dl p ofs frs qs av bv xs ys))
    (hgo : Hid (∀ a' X' b', FrN 104 ds [(1, .pointer (some ⟨bl, 0, none⟩)), (2, .pointer (some ⟨bw, 0, none⟩)), (3, .pointer (some ⟨bo, 0, none⟩)), (4, .pointer (some ⟨bf, 0, none⟩)), (5, .pointer (some ⟨b5, 0, none⟩)), (6, .pointer (some ⟨bn, 0, none⟩)), (46, .int .i64 (f : Int)), (47, .int .i64 (i : Int))] a' → TkF w1 X' bl bw bo bf P go gf n f gl cl bn b5 Dl p ofs (frs.set i ((qs.length : Int) + 1)) qs av b' xs (ys ++ [(i : Int)]) → Q .normal a' X'))
    (ha : FrN 104 ds [(1, .pointer (some ⟨bl, 0, none⟩)), (2, .pointer (some ⟨bw, 0, none⟩)), (3, .pointer (some ⟨bo, 0, none⟩)), (4, .pointer (some ⟨bf, 0, none⟩)), (5, .pointer (some ⟨b5, 0, none⟩)), (6, .pointer (some ⟨bn, 0, none⟩)), (46, .int .i64 (f : Int)), (47, .int .i64 (i : Int)), (8, .int .i64 (i : Int))] a) : (tkT 13).wp Tryz.prog Q a X := by
  obtain ⟨U, rfl, e1, e2, e3, e4, e5, e6, e46, e47, e8, -⟩ := ha.openTK
  unfold FrTK
  simp only [e1, e2, e3, e4, e5, e6, e46, e47, e8]
  clear e1 e2 e3 e4 e5 e6 e46 e47 e8 ha
  show (Code.seq _ _).wp _ _ _ _
  obtain ⟨i0, hi0, hi1, hi2, hi3⟩ := info_parts int_info
  obtain ⟨k, hk⟩ : ∃ k, qs.length = k := ⟨_, rfl⟩
  have HK := Lib.hid hk
  obtain ⟨kp, hkp⟩ : ∃ kp, ys.length = kp := ⟨_, rfl⟩
  have HKP := Lib.hid hkp
  have hif : (i : Int) < (f : Int) := by omega
  obtain ⟨n1, n1f, n1l⟩ := hs.out.st.blc
  obtain ⟨n2, n2l⟩ := hs.out.bnc
  obtain ⟨n3, n3l⟩ := hs.out.st.bfc
  obtain ⟨⟨fv, n4⟩, n5⟩ := hs.out.frf hi
  obtain ⟨ra, rb⟩ := hs.out.st.q1 ⟨av, bv, xs, ys⟩ (by simp)
  dsimp only at ra rb
  have n6 : X.cell? ⟨gl, qs.length * 2 + 1, none⟩ = some bv := by
    have h1 := hs.out.st.lr
    rw [List.length_append, List.length_singleton] at h1
    have h := (h1.cellAt (qs.length * 2 + 1) (by omega)).trans (pvCells_at (qs := qs ++ [⟨av, bv, xs, ys⟩]) (i := qs.length) (by simp)).2
    rw [h]
    simp
  obtain ⟨rgf, egf⟩ := row_block hs.out.st.fg gf (by simp [ownB])
  obtain ⟨rgl, egl⟩ := row_block hs.out.st.lr gl (by simp [ownB])
  have ngl : gl ≠ gf := fun e => by rw [e] at egl; exact ty_no2 egl egf (by decide)
  have nbl : bl ≠ gf := fun e => by have e1 := hs.out.st.xl; rw [e] at e1; exact ty_no2 e1 egf (by decide)
  have nbn : bn ≠ gf := hs.out.nn.2.1
  have hbm : bv ∈ pvCells (qs ++ [(⟨av, bv, xs, ys⟩ : PV)]) := by rw [pvCells_snoc]; simp
  have ngb : gf ∉ ownB bv := (hs.out.st.ng bv hbm).2
  rw [hk] at n1 n2 n6 hq
  have n1a : (X.setCell ⟨gf, i, none⟩ (.int .i64 ((k : Int) + 1))).cell? ⟨bl, 0, none⟩ = some (.slice (some ⟨gl, 0, none⟩) (k + 1) cl) := by rw [cell_set, if_neg (fun h => nbl h.1.symm)]; exact n1
  have n2a : (X.setCell ⟨gf, i, none⟩ (.int .i64 ((k : Int) + 1))).cell? ⟨bn, 0, none⟩ = some (.int .i64 ((k : Int) + 1)) := by rw [cell_set, if_neg (fun h => nbn h.1.symm)]; exact n2
  have HRw : Hid (Row (((X.setCell ⟨gf, i, none⟩ (.int .i64 ((k : Int) + 1))).drew).alloc (.cells #[.int .i64 (i : Int)] 3)) 3 1 bv kp (ivals ys)) := by
    show Row _ _ _ _ _ _
    rw [← hkp]
    exact (rb.keep (fun b hb => Below.heap_setCell _ _ _ b (fun (e : b = gf) => ngb (e ▸ hb)))).drew.alloc _
  have HSr : Hid (Src (((X.setCell ⟨gf, i, none⟩ (.int .i64 ((k : Int) + 1))).drew).alloc (.cells #[.int .i64 (i : Int)] 3)) (some ⟨X.heap.size, 0, none⟩) 1 1 [.int .i64 (i : Int)]) := Src.block (cs := #[.int .i64 (i : Int)]) (t := 3) (fr := (0, 0)) (by simpa using heap_alloc_new ((X.setCell ⟨gf, i, none⟩ (.int .i64 ((k : Int) + 1))).drew) (.cells #[.int .i64 (i : Int)] 3)) rfl (by simp [Value.oneCell'])
  obtain ⟨vb, ac, rfl⟩ : ∃ vb ac, bv = .slice vb kp ac := by
    rw [← hkp]; obtain ⟨A9, c9, e9, _⟩ := rb.len; exact ⟨A9, c9, e9⟩
  have n6a : (X.setCell ⟨gf, i, none⟩ (.int .i64 ((k : Int) + 1))).cell? ⟨gl, k * 2 + 1, none⟩ = some (.slice vb kp ac) := by rw [cell_set, if_neg (fun h => ngl h.1.symm)]; exact n6
  have hg63 : kp + 1 ≤ maxLen := by simp only [maxLen]; omega
  have hg47 : (kp + 1) * 8 ≤ 140737488355328 := by omega
  have hk1 : IntKind.i64.wrap (k : Int) = (k : Int) := by rw [IntWalk.i64_in _ (by omega)]
  have hk2 : (k : Int) < (k : Int) + 1 := by omega
  clear hk hkp ra rb rgf egf rgl egl ngl nbl nbn hbm ngb
  go_upto_region 14 with fail
  refine region_hs 10 12 (fun W' => W'.cell? ⟨bl, 0, none⟩ = some (.slice (some ⟨gl, 0, none⟩) (k + 1) cl) ∧ W'.cell? ⟨bn, 0, none⟩ = some (.int .i64 ((k : Int) + 1)) ∧ W'.cell? ⟨gl, k * 2 + 1, none⟩ = some (.slice vb kp ac)) (by kernel_rfl) (by kernel_rfl) hQ ?hS ?_; (case hS => exact ⟨n1a, n2a, n6a⟩)
  simp only [List.take_succ_cons, List.take_zero, List.drop_succ_cons, List.drop_zero]
  iterate 10 (refine wpHead_step (v := ?_) (by rfl) ?_ ?_; rotate_left; (· intro W9 ⟨s1, s2, s3⟩; go_simp; try with_reducible rfl); (try simp only [Act.put, List.setIfInBounds_toArray, List.set_cons_zero, List.set_cons_succ]))
  refine wpHead_nil ?_
  refine wpMid_step (by rfl) (fun K9 hK9 => ?_)
  unfold Oper.wp
  go_simp
  refine hK9 _ _ (⟨cell_alloc _ n1a, cell_alloc _ n2a, cell_alloc _ n6a⟩) ?_
  (try simp only [Act.put, List.setIfInBounds_toArray, List.set_cons_zero, List.set_cons_succ])
  clear hK9 K9
  refine wpMid_step (by rfl) (fun K9 hK9 => ?_)
  refine wpo_row_append _ _ _ (by rfl) i0 _ 8 Tryz.underlying23 hi0 hi1 hi2 hi3 (by rfl) (by rfl) HRw.out _ 1 1 (by rfl) [.int .i64 (i : Int)] HSr.out hg63 hg47 ?_
  intro sv5 w7 r5 k5 o5
  obtain ⟨V5, cp7, rfl, hc5'⟩ := r5.len
  change Kp (ownB (.slice vb kp ac)) _ w7 at k5
  change ownB (.slice V5 (kp + 1) cp7) = ownB (.slice vb kp ac) ∨ ownB (.slice V5 (kp + 1) cp7) = [_] at o5
  have A5 := TkF.freed (i := i) (N := (k : Int) + 1) (x := (i : Int)) (o := .cells #[.int .i64 (i : Int)] 3) hs.out (b' := .slice V5 (kp + 1) cp7) (by rw [HKP.out]; exact r5) k5 (o5.imp id fun e b hb => by rw [e] at hb; simp at hb; omega)
  rw [HK.out] at A5
  obtain ⟨⟨z1, z2, z3, z4⟩, A6⟩ := A5
  have HA6 := Lib.hid A6
  refine hK9 _ _ ⟨z1, z2, z3⟩ ?_
  refine wpMid_nil ?_
  clear hK9 K9 A6 k5 o5 r5 n1 n2 n3 n4 n5 n6 n1a n2a n6a n1f n1l n2l n3l
  rw [HK.out] at hgo
  repeat (first | ((with_reducible refine hgo.out _ _ (.slice V5 (kp + 1) cp7) ?_ ?_); (· exact ⟨rfl, rfl, rfl, rfl, rfl, rfl, rfl, rfl, rfl, rfl, trivial⟩); (· exact HA6.out)) | go_values | go_skip | go_guarded | go_step | go_upon | go_back)
end
end Go.Proofs.YtkonfogebepccaaGreatDoor
namespace Go.Proofs.YtkonfogebepccaaGreatDoor
open Go.RowKit
attribute [local go_sem] cell_set
attribute [local go_sem] Oper.semAt_some
set_option maxRecDepth 100000
set_option linter.unusedVariables false
theorem frL_step {f : Nat} {Lk : Pt → Pt} {p : Pt} {l : List Int} : frL (f + 1) Lk p l = if frC Lk p l f = true then frL f Lk p l ++ [(f : Int)] else frL f Lk p l := by
  by_cases h : frC Lk p l f = true
  · rw [if_pos h, frL_in h]
  · rw [if_neg h, frL_out (by simpa using h)]
section
variable (Q : Exit → Act → World → Prop) (w1 : World) (bl bw bo bf P m go gf gl cl bn b5 Dl : Nat) (A : Option Addr) (cap : Nat) (L : List (ByteArray × Int)) (VA VB : Option Addr) (ca cb : Nat) (cells : List Int) (f : Nat) (W : List (Pt × Pt)) (n : Nat)
set_option maxHeartbeats 4000000 in
theorem tk_9 (ds : List Deferred) (a : Act) (X : World) (p : Pt) (ofs frs xs : List Int) (av bv : Value) (qs : List PV) (i : Nat) (wl : List Int) (hi : i ≤ f) (hok : Hid (NetOk (pnL L) cells f W)) (hc5 : cells.length ≤ 5000) (hf5 : f ≤ 10000)
    (hn : n = cells.length) (hq : qs.length ≤ 10000) (hof : Hid (∀ c, c < n → (ofs.getD c 0 = ((qs.length : Int) + 1) ↔ (c : Int) ∈ wl))) (hw : Hid (WebS w1 P m A cap L VA VB ca cb cells f W))
    (hcd : Hid (∀ i, i < f → (((0 ≤ (lkM W (-1, (i : Int))).1 ∧ (lkM W (-1, (i : Int))).1 ∈ wl) ∨ p = (-1, (i : Int)) ∨ (lkM W (-1, (i : Int)) = p ∧ (lkM W (-1, (i : Int))).1 < 0)) ↔ frC (lkM W) p wl i = true)))
    (hQ : ∀ c a d v w, Q (.panic c) (Act.put a d v) w → Q (.panic c) a w)
    (hs : Hid (TkF w1 X bl bw bo bf P go gf n f gl cl bn b5 Dl p ofs (setAll frs ((qs.length : Int) + 1) (frL i (lkM W) p wl)) qs av bv xs (frL i (lkM W) p wl)))
    (hgo : Hid (∀ a' X' b', i < f → FrN 104 ds [(1, .pointer (some ⟨bl, 0, none⟩)), (2, .pointer (some ⟨bw, 0, none⟩)), (3, .pointer (some ⟨bo, 0, none⟩)), (4, .pointer (some ⟨bf, 0, none⟩)), (5, .pointer (some ⟨b5, 0, none⟩)), (6, .pointer (some ⟨bn, 0, none⟩)), (46, .int .i64 (f : Int)), (47, .int .i64 ((i + 1 : Nat) : Int))] a' → TkF w1 X' bl bw bo bf P go gf n f gl cl bn b5 Dl p ofs (setAll frs ((qs.length : Int) + 1) (frL (i + 1) (lkM W) p wl)) qs av b' xs (frL (i + 1) (lkM W) p wl) → Q .normal a' X'))
    (hout : Hid (∀ a' X', FrN 104 ds [] a' → i = f → TkF w1 X' bl bw bo bf P go gf n f gl cl bn b5 Dl p ofs (setAll frs ((qs.length : Int) + 1) (frL i (lkM W) p wl)) qs av bv xs (frL i (lkM W) p wl) → Q (.exit 2) a' X'))
    (ha : FrN 104 ds [(1, .pointer (some ⟨bl, 0, none⟩)), (2, .pointer (some ⟨bw, 0, none⟩)), (3, .pointer (some ⟨bo, 0, none⟩)), (4, .pointer (some ⟨bf, 0, none⟩)), (5, .pointer (some ⟨b5, 0, none⟩)), (6, .pointer (some ⟨bn, 0, none⟩)), (46, .int .i64 (f : Int)), (47, .int .i64 (i : Int))] a) : (tkT 9).wp Tryz.prog Q a X := by
  obtain ⟨U, rfl, e1, e2, e3, e4, e5, e6, e46, e47, -⟩ := ha.openTK
  unfold FrTK
  simp only [e1, e2, e3, e4, e5, e6, e46, e47]
  clear e1 e2 e3 e4 e5 e6 e46 e47 ha
  show (Code.seq _ _).wp _ _ _ _
  have HN := Lib.hid hn
  by_cases hlt : i < f
  · have hif : (i : Int) < (f : Int) := by omega
    have HLT : Hid (i < f) := hlt
    have hyl : Hid ((frL i (lkM W) p wl).length ≤ i) := frL_len _ _ _ _
    obtain ⟨ys, hys⟩ : ∃ ys, frL i (lkM W) p wl = ys := ⟨_, rfl⟩
    obtain ⟨fs, hfs⟩ : ∃ fs, setAll frs ((qs.length : Int) + 1) ys = fs := ⟨_, rfl⟩
    rw [hys, hfs] at hs
    rw [hys] at hyl
    have HCD := Lib.hid (hcd.out i hlt)
    have hnx : Hid ((frC (lkM W) p wl i = true → frL (i + 1) (lkM W) p wl = ys ++ [(i : Int)] ∧ setAll frs ((qs.length : Int) + 1) (ys ++ [(i : Int)]) = fs.set i ((qs.length : Int) + 1)) ∧ (¬ frC (lkM W) p wl i = true → frL (i + 1) (lkM W) p wl = ys)) := by
      refine ⟨fun h => ⟨by rw [frL_step, if_pos h, hys], by rw [setAll_snoc, hfs, Int.toNat_natCast]⟩, fun h => by rw [frL_step, if_neg h, hys]⟩
    have HFS := Lib.hid hfs
    clear hfs hys hn hlt
    iterate 80 (first | (with_reducible refine at_seq3 10 ?_) | (with_reducible refine at_seq2 10 ?_) | (with_reducible refine at_seq 10 ?_) | go_values | go_skip | go_guarded | go_step | go_upon | go_back | go_simp)
    refine tk_10 _ w1 bl bw bo bf P m go gf gl cl bn b5 Dl A cap L VA VB ca cb cells f W n ds _ X p (lkM W (-1, (i : Int))) ofs fs xs ys av bv qs i wl HLT.out hok hc5 hf5 HN.out hq rfl hof hw hs (Lib.hid fun a2 X2 hf2 hc2 ht2 => ?_) (Lib.hid fun a2 X2 hf2 hc2 ht2 => ?_) ⟨rfl, rfl, rfl, rfl, rfl, rfl, rfl, rfl, rfl, rfl, trivial⟩
    · have HT : Hid (TkF w1 X2 bl bw bo bf P go gf n f gl cl bn b5 Dl p ofs (setAll frs ((qs.length : Int) + 1) (frL (i + 1) (lkM W) p wl)) qs av bv xs (frL (i + 1) (lkM W) p wl)) := by
        have e := hnx.out.2 (fun h => hc2 (HCD.out.2 h))
        show TkF _ _ _ _ _ _ _ _ _ _ _ _ _ _ _ _ _ _ _ _ _ _ _ _
        rw [e, HFS.out]; exact ht2
      obtain ⟨U2, rfl, e1, e2, e3, e4, e5, e6, e46, e47, -⟩ := hf2.openTK
      unfold FrTK
      simp only [e1, e2, e3, e4, e5, e6, e46, e47]
      clear e1 e2 e3 e4 e5 e6 e46 e47 hf2 hc2 ht2
      repeat (first | ((with_reducible refine hgo.out _ _ bv ?_ ?_ ?_); (· exact HLT.out); (· exact ⟨rfl, rfl, rfl, rfl, rfl, rfl, rfl, rfl, rfl, rfl, trivial⟩); (· exact HT.out)) | go_values | go_skip | go_guarded | go_step | go_upon | go_back)
    · refine tk_13 _ w1 bl bw bo bf P go gf gl cl bn b5 Dl f n ds a2 X2 p ofs fs xs ys av bv qs i HLT.out hf5 hq hyl.out (fun c a d v w h => hQ c a d v w h) (Lib.hid ht2) (Lib.hid fun a3 X3 b3 hf3 ht3 => ?_) hf2
      have HT : Hid (TkF w1 X3 bl bw bo bf P go gf n f gl cl bn b5 Dl p ofs (setAll frs ((qs.length : Int) + 1) (frL (i + 1) (lkM W) p wl)) qs av b3 xs (frL (i + 1) (lkM W) p wl)) := by
        have e := hnx.out.1 (HCD.out.1 hc2)
        show TkF _ _ _ _ _ _ _ _ _ _ _ _ _ _ _ _ _ _ _ _ _ _ _ _
        rw [e.1, e.2]; exact ht3
      obtain ⟨U2, rfl, e1, e2, e3, e4, e5, e6, e46, e47, -⟩ := hf3.openTK
      unfold FrTK
      simp only [e1, e2, e3, e4, e5, e6, e46, e47]
      clear e1 e2 e3 e4 e5 e6 e46 e47 hf2 hc2 ht2 hf3 ht3
      repeat (first | ((with_reducible refine hgo.out _ _ b3 ?_ ?_ ?_); (· exact HLT.out); (· exact ⟨rfl, rfl, rfl, rfl, rfl, rfl, rfl, rfl, rfl, rfl, trivial⟩); (· exact HT.out)) | go_values | go_skip | go_guarded | go_step | go_upon | go_back)
  · obtain rfl : i = f := by omega
    have hif : ¬ (i : Int) < (i : Int) := by omega
    clear hn hlt
    repeat (first | ((with_reducible refine hout.out _ _ ?_ ?_ ?_); (· exact ⟨rfl, rfl, trivial⟩); (· rfl); (· exact hs.out)) | go_values | go_skip | go_guarded | go_step | go_upon | go_back)
end
end Go.Proofs.YtkonfogebepccaaGreatDoor
/-
  walk.Parts's 'take': from the sort to its end.
-/
namespace Go.Proofs.YtkonfogebepccaaGreatDoor
open Go.RowKit
attribute [local go_sem] cell_set
attribute [local go_sem] Oper.semAt_some
set_option maxRecDepth 100000
set_option linter.unusedVariables false
section
variable (Q : Exit → Act → World → Prop) (w1 : World) (bl bw bo bf P m go gf gl cl bn b5 Dl : Nat) (A : Option Addr) (cap : Nat) (L : List (ByteArray × Int)) (VA VB : Option Addr) (ca cb : Nat) (cells : List Int) (f : Nat) (W : List (Pt × Pt)) (n : Nat)
theorem tkf_sorted {w1 X Y : World} {bl bw bo bf P go gf n f gl cl bn b5 Dl : Nat} {p : Pt} {ofs frs : List Int} {qs : List PV} {a : Value} {xs xs' : List Int} (h : TkF w1 X bl bw bo bf P go gf n f gl cl bn b5 Dl p ofs frs qs a (.slice none 0 0) xs []) (k : Kp (ownB a) X Y) (r : Row Y 3 1 a xs'.length (ivals xs')) :
    TkF w1 Y bl bw bo bf P go gf n f gl cl bn b5 Dl p ofs frs qs a (.slice none 0 0) xs' [] := by
  have hla : a ∈ pvCells (qs ++ [(⟨a, .slice none 0 0, xs, []⟩ : PV)]) := by rw [pvCells_snoc]; simp
  obtain ⟨zs, ra⟩ := h.st.urow hla
  have n5 : ∀ (y : Nat) (o : Obj), X.heap[y]? = some o → (∀ ca, o ≠ .cells ca 3 (0, 0)) → Y.heap[y]? = some o := fun y o hy h1 => by
    refine (k.block y (heap_lt hy) (fun hm => ?_)).trans hy
    obtain ⟨cu, e9⟩ := row_block ra y hm
    rw [e9] at hy; injection hy with hy; exact h1 _ hy.symm
  have e : pvCells (qs ++ [(⟨a, .slice none 0 0, xs', []⟩ : PV)]) = pvCells (qs ++ [⟨a, .slice none 0 0, xs, []⟩]) := by rw [pvCells_snoc, pvCells_snoc]
  refine ⟨h.st.sorted k r, (k.block bn (heap_lt h.xn) (h.nn.2.2 a hla)).trans h.xn, ?_, ?_, by rw [e]; exact h.nn, h.ln⟩
  · exact n5 _ _ h.x5 (by intro ca e; injection e with _ e; exact absurd e (by decide))
  · exact n5 _ _ h.xD (by intro ca e; cases e)
set_option maxHeartbeats 4000000 in
theorem tk_7 (ds : List Deferred) (a : Act) (X : World) (p : Pt) (ofs frs : List Int) (av : Value) (qs : List PV) (wl : List Int) (hfn : Hid (Fnd n wl)) (hok : Hid (NetOk (pnL L) cells f W)) (hc5 : cells.length ≤ 5000) (hf5 : f ≤ 10000)
    (hn : n = cells.length) (hq : qs.length ≤ 10000) (hof : Hid (∀ c, c < n → (ofs.getD c 0 = ((qs.length : Int) + 1) ↔ (c : Int) ∈ wl))) (hw : Hid (WebS w1 P m A cap L VA VB ca cb cells f W))
    (hcd : Hid (∀ i, i < f → (((0 ≤ (lkM W (-1, (i : Int))).1 ∧ (lkM W (-1, (i : Int))).1 ∈ wl) ∨ p = (-1, (i : Int)) ∨ (lkM W (-1, (i : Int)) = p ∧ (lkM W (-1, (i : Int))).1 < 0)) ↔ frC (lkM W) p wl i = true)))
    (hQ : ∀ c a d v w, Q (.panic c) (Act.put a d v) w → Q (.panic c) a w)
    (hs : Hid (TkF w1 X bl bw bo bf P go gf n f gl cl bn b5 Dl p ofs frs qs av (.slice none 0 0) wl []))
    (hfin : Hid (∀ a' X' b', FrN 104 ds [] a' → TkF w1 X' bl bw bo bf P go gf n f gl cl bn b5 Dl p ofs (setAll frs ((qs.length : Int) + 1) (frL f (lkM W) p wl)) qs av b' (srtC n wl) (frL f (lkM W) p wl) → Q .normal a' X'))
    (ha : FrN 104 ds [(1, .pointer (some ⟨bl, 0, none⟩)), (2, .pointer (some ⟨bw, 0, none⟩)), (3, .pointer (some ⟨bo, 0, none⟩)), (4, .pointer (some ⟨bf, 0, none⟩)), (5, .pointer (some ⟨b5, 0, none⟩)), (6, .pointer (some ⟨bn, 0, none⟩))] a) : (tkT 7).wp Tryz.prog Q a X := by
  obtain ⟨U, rfl, e1, e2, e3, e4, e5, e6, -⟩ := ha.openTK
  unfold FrTK
  simp only [e1, e2, e3, e4, e5, e6]
  clear e1 e2 e3 e4 e5 e6 ha
  show (Code.seq _ _).wp _ _ _ _
  have HN := Lib.hid hn
  obtain ⟨k, hk⟩ : ∃ k, qs.length = k := ⟨_, rfl⟩
  have HK := Lib.hid hk
  obtain ⟨n1, n1f, n1l⟩ := hs.out.st.blc
  obtain ⟨n2, n2l⟩ := hs.out.bnc
  have n6 : X.cell? ⟨gl, qs.length * 2, none⟩ = some av := by
    have h1 := hs.out.st.lr
    rw [List.length_append, List.length_singleton] at h1
    have h := (h1.cellAt (qs.length * 2) (by omega)).trans (pvCells_at (qs := qs ++ [⟨av, .slice none 0 0, wl, []⟩]) (i := qs.length) (by simp)).1
    rw [h]
    simp
  have ra := (hs.out.st.q1 ⟨av, .slice none 0 0, wl, []⟩ (by simp)).1
  dsimp only at ra
  rw [hk] at n1 n2 n6 hq
  have hwl := hfn.out.len
  have hw5 : Hid (wl.length ≤ 5000) := by show _ ≤ _; omega
  have hk1 : IntKind.i64.wrap (k : Int) = (k : Int) := by rw [IntWalk.i64_in _ (by omega)]
  have hk2 : (k : Int) < (k : Int) + 1 := by omega
  have HS : Hid (∀ Z, Z = X → Calls Tryz.prog 35 #[av] Z fun e w' => e = .returned (.tuple #[]) ∧ TkF w1 w' bl bw bo bf P go gf n f gl cl bn b5 Dl p ofs frs qs av (.slice none 0 0) (srtC n wl) []) := by
    rintro Z rfl
    refine (sort_row ra hw5.out).mono ?_
    rintro e w' ⟨rfl, h1, h2⟩
    rw [mergeSort_srt hfn.out] at h1
    have hl : wl.length = (srtC n wl).length := by
      have := (List.mergeSort_perm wl (fun x y => decide (x ≤ y))).length_eq
      rw [mergeSort_srt hfn.out] at this
      exact this.symm
    rw [hl] at h1
    exact ⟨rfl, tkf_sorted hs.out h2 h1⟩
  clear hk ra hwl hn
  go_upto_region 8 with (go_at_call 35; refine (HS.out _ rfl).mono ?_; rintro e X3 ⟨rfl, hT3⟩)
  have HT3 := Lib.hid hT3
  obtain ⟨m1, m2⟩ := hT3.st.bfc
  clear hT3 n1 n1f n1l n2 n2l n6 hk1 hk2
  go_upto_region 9 with fail
  refine wp_loop_ghost (fun m' a' X' => ∃ i b, m' = f - i ∧ i ≤ f ∧ FrN 104 ds [(1, .pointer (some ⟨bl, 0, none⟩)), (2, .pointer (some ⟨bw, 0, none⟩)), (3, .pointer (some ⟨bo, 0, none⟩)), (4, .pointer (some ⟨bf, 0, none⟩)), (5, .pointer (some ⟨b5, 0, none⟩)), (6, .pointer (some ⟨bn, 0, none⟩)), (46, .int .i64 (f : Int)), (47, .int .i64 (i : Int))] a' ∧ TkF w1 X' bl bw bo bf P go gf n f gl cl bn b5 Dl p ofs (setAll frs ((qs.length : Int) + 1) (frL i (lkM W) p wl)) qs av b (srtC n wl) (frL i (lkM W) p wl)) f ⟨0, .slice none 0 0, by omega, by omega, ⟨rfl, rfl, rfl, rfl, rfl, rfl, rfl, rfl, rfl, rfl, trivial⟩, HT3.out⟩ ?_
  rintro m' a2 X2 ⟨i, b, rfl, hi, hfr, hT⟩
  refine tk_9 _ w1 bl bw bo bf P m go gf gl cl bn b5 Dl A cap L VA VB ca cb cells f W n ds a2 X2 p ofs frs (srtC n wl) av b qs i wl hi hok hc5 hf5 HN.out (by rw [HK.out]; exact hq) hof hw hcd (fun c a d v w h => hQ c a d v w h) (Lib.hid hT) (Lib.hid fun a3 X3 b3 hlt hfr3 hT3 => ?_) (Lib.hid fun a3 X3 hfr3 hif hT3 => ?_) hfr
  · exact ⟨f - (i + 1), by omega, i + 1, b3, rfl, by omega, hfr3, hT3⟩
  · subst hif
    exact hfin.out a3 X3 b hfr3 hT3
end
end Go.Proofs.YtkonfogebepccaaGreatDoor
namespace Go.Proofs.YtkonfogebepccaaGreatDoor
open Go.RowKit
attribute [local go_sem] cell_set
attribute [local go_sem] Oper.semAt_some
set_option maxRecDepth 100000
set_option linter.unusedVariables false
theorem PtS.keepC {w1 X Y : World} {bl bw bo bf P go gf n f : Nat} {ofs frs : List Int} {v : Value} {qs : List PV} (h : PtS w1 X bl bw bo bf P go gf n f ofs frs v qs) (hk : ∀ (b : Nat) (ca : Array Value) (t : TypeId), X.heap[b]? = some (Obj.cells ca t (0, 0)) → Y.heap[b]? = X.heap[b]?) (hb : Below w1.heap.size w1 Y) : PtS w1 Y bl bw bo bf P go gf n f ofs frs v qs := by
  have kr : ∀ {t : TypeId} {s m : Nat} {u : Value} {zs : List Value}, Row X t s u m zs → Row Y t s u m zs := fun {t s m u zs} hr => hr.keep (fun b hm => by
    obtain ⟨cu, e⟩ := row_block hr b hm
    exact hk b _ _ e)
  exact ⟨hb, (hk bl _ _ h.xl).trans h.xl, (hk bw _ _ h.xw).trans h.xw, (hk bo _ _ h.xo).trans h.xo, (hk bf _ _ h.xf).trans h.xf, kr h.lr, kr h.og, kr h.fg, fun q hq => ⟨kr (h.q1 q hq).1, kr (h.q1 q hq).2⟩, h.dj, h.ng, h.lo, h.ne⟩
section
variable (w1 : World) (bl bw bo bf P m go gf : Nat) (A : Option Addr) (cap : Nat) (L : List (ByteArray × Int)) (VA VB : Option Addr) (ca cb : Nat) (cells : List Int) (f : Nat) (W : List (Pt × Pt)) (n : Nat)
set_option maxHeartbeats 4000000 in
theorem take_calls (X : World) (p : Pt) (ofs frs : List Int) (v : Value) (qs : List PV) (hs : Hid (SigOk L)) (hag : Hid (∀ i, i < cells.length → 0 ≤ cells.getD i 0 ∧ cells.getD i 0 < L.length)) (hok : Hid (NetOk (pnL L) cells f W)) (hc5 : cells.length ≤ 5000) (hf5 : f ≤ 10000)
    (hn : n = cells.length) (hp : Hid (isPt (pnL L) cells f p = true)) (hq : qs.length ≤ 10000) (hw : Hid (WebS w1 P m A cap L VA VB ca cb cells f W)) (hle : Hid (∀ c, c < n → ofs.getD c 0 ≤ (qs.length : Int)))
    (hcd : Hid (∀ i, i < f → (((0 ≤ (lkM W (-1, (i : Int))).1 ∧ (lkM W (-1, (i : Int))).1 ∈ wlk (pnL L) cells (lkM W) p) ∨ p = (-1, (i : Int)) ∨ (lkM W (-1, (i : Int)) = p ∧ (lkM W (-1, (i : Int))).1 < 0)) ↔ frC (lkM W) p (wlk (pnL L) cells (lkM W) p) i = true)))
    (HS : Hid (PtS w1 X bl bw bo bf P go gf n f ofs frs v qs)) :
    Calls Tryz.prog 34 #[.agg #[.int .i64 p.1, .int .i64 p.2], .pointer (some ⟨bl, 0, none⟩), .pointer (some ⟨bw, 0, none⟩), .pointer (some ⟨bo, 0, none⟩), .pointer (some ⟨bf, 0, none⟩)] X fun e X' => e = .returned (.tuple #[]) ∧
      ∃ v' a b, PtS w1 X' bl bw bo bf P go gf n f (setAll ofs ((qs.length + 1 : Nat) : Int) (wlk (pnL L) cells (lkM W) p)) (setAll frs ((qs.length : Int) + 1) (frL f (lkM W) p (wlk (pnL L) cells (lkM W) p))) v' (qs ++ [⟨a, b, srtC n (wlk (pnL L) cells (lkM W) p), frL f (lkM W) p (wlk (pnL L) cells (lkM W) p)⟩]) := by
  obtain ⟨wl, hwl⟩ : ∃ wl, wlk (pnL L) cells (lkM W) p = wl := ⟨_, rfl⟩
  rw [hwl] at hcd ⊢
  have hfn : Hid (Fnd n wl) := by
    have hf : Fnd cells.length wl := by
      rw [← hwl]
      exact Fnd.walkF (fun c q hq => by obtain ⟨y, rfl⟩ := rowP_mem hq; exact lkM_lt hok.out y) _ _ ((Fnd.nil _).add (isPt_lt (startP_is hok.out hp.out)))
    show Fnd n wl
    rw [hn]; exact hf
  have hol : ofs.length = n := by have := HS.out.og.1; simp [ivals] at this; exact this
  have hof : Hid (∀ c, c < n → ((setAll ofs ((qs.length + 1 : Nat) : Int) wl).getD c 0 = ((qs.length : Int) + 1) ↔ (c : Int) ∈ wl)) := fun c hc => by
    rw [setAll_at (fun x hx => (hfn.out.lt x hx).1) (by omega)]
    by_cases h : (c : Int) ∈ wl
    · simp [h]
    · have := hle.out c hc
      simp only [h, if_false, iff_false]
      omega
  refine (callsIn_wide (n := 5)).1 (callsIn_of_wp_marks Tryz.func34 rfl trivial (Code.wpIn_mono npQ_le (wpIn_wide.2 ?_)) rfl)
  simp only [Tryz.ntmps34, List.size_toArray, List.length_cons, List.length_nil, Nat.reduceAdd, Nat.reduceSub, Array.replicate_succ, Array.replicate_zero, List.push_toArray, List.append_toArray, List.nil_append, List.cons_append]
  refine (show ∀ a, FrN 104 [] [(0, .agg #[.int .i64 p.1, .int .i64 p.2]), (1, .pointer (some ⟨bl, 0, none⟩)), (2, .pointer (some ⟨bw, 0, none⟩)), (3, .pointer (some ⟨bo, 0, none⟩)), (4, .pointer (some ⟨bf, 0, none⟩))] a → (tkT 0).wp Tryz.prog _ a X from ?_) _ ⟨rfl, rfl, rfl, rfl, rfl, rfl, rfl, trivial⟩
  intro a ha
  refine tk_0 _ w1 bl bw bo bf P m go gf A cap L VA VB ca cb cells f W n a X p wl ofs frs v qs hs hag hok hc5 hn hp hwl hq hw HS (Lib.hid fun a2 Y Dl gl cl bn b5 a1 hf2 hP hb2 hp2 hD hsep hDl => ?_) ha
  have hT : TkF w1 Y bl bw bo bf P go gf n f gl cl bn b5 Dl p (setAll ofs ((qs.length + 1 : Nat) : Int) wl) frs qs a1 (.slice none 0 0) wl [] := by
    obtain ⟨s1, s2, s3⟩ := hsep bn (by simp)
    simp only [List.mem_cons, List.not_mem_nil, or_false, not_or] at s2
    exact ⟨hP, hb2, hp2, hD, ⟨s2.2.2.2.2.1, s2.2.2.2.2.2.1, s3⟩, (hsep b5 (by simp)).1, s1, (hsep Dl (by simp)).1⟩
  refine tk_7 _ w1 bl bw bo bf P m go gf gl cl bn b5 Dl A cap L VA VB ca cb cells f W n _ a2 Y p _ frs a1 qs wl hfn hok hc5 hf5 hn hq hof hw hcd (fun c a d v w h => by cases d <;> exact h) (Lib.hid hT) (Lib.hid fun a3 X3 b3 hf3 hT3 => ?_) hf2
  obtain ⟨tm, df⟩ := a3
  obtain ⟨sz, rfl, -⟩ := hf3
  have hz := hT3.ln.2.2
  refine leaveM hT3.xD ⟨.tuple #[], by simp [results, Tryz.f34, go_sem], rfl, _, a1, b3, hT3.st.keepC (fun b ca t e => World.putObj_heap_other (fun e2 => ?_)) ?_⟩
  · have := hT3.xD
    rw [← e2, e] at this; cases this
  · exact ⟨hT3.st.bel.os, hT3.st.bel.tape, hT3.st.bel.output, by simpa using hT3.st.bel.size, fun k hk => (World.putObj_heap_other (by omega)).trans (hT3.st.bel.block k hk)⟩
end
end Go.Proofs.YtkonfogebepccaaGreatDoor
