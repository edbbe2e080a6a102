/-
  load.Store: the range over the live cells.
-/
import Derived.Test.YthbobooiedcofaaStoreB
import Derived.Test.YthbobooiedcofaaArenaSeq2
namespace Go.Proofs.Ythbobooiedcofaa
open Go.RowKit
attribute [local go_sem] cell_set
attribute [local go_sem] Oper.semAt_some
set_option maxRecDepth 100000
set_option linter.unusedVariables false

/-- What a round keeps. -/
structure RK (B : Nat) (QQ : List Nat) (Y X : World) : Prop where
  kf : KeepsFrom B Y X
  kq : KQ QQ Y X
section
variable {B : Nat} {QQ : List Nat} {Y X X' : World}
theorem RK.refl (B : Nat) (QQ : List Nat) (Y : World) : RK B QQ Y Y := ⟨KeepsFrom.refl _ _, KQ.refl _ _⟩
theorem RK.kp {F : List Nat} (h : RK B QQ Y X) (hk : Kp F X X') (hF : ∀ b ∈ F, b < B ∨ ∃ c t, X.heap[b]? = some (.cells c t (0, 0))) (hQ : ∀ y ∈ QQ, y < Y.heap.size ∧ y ∉ F) : RK B QQ Y X' :=
  ⟨h.kf.trans (KeepsFrom.kpC hk hF), h.kq.trans (KQ.kp hk fun y hy => ⟨Nat.lt_of_lt_of_le (hQ y hy).1 h.kq.size, (hQ y hy).2⟩)⟩
theorem RK.below (h : RK B QQ Y X) (hb : Below X.heap.size X X') (hQ : ∀ y ∈ QQ, y < Y.heap.size) : RK B QQ Y X' := h.kp (Kp.of_below (F := []) hb) (by simp) fun y hy => ⟨hQ y hy, by simp⟩
/-- The blocks that the iterator reads. -/
def QTy (QQ : List Nat) (Y : World) : Prop := ∀ y ∈ QQ, y < Y.heap.size ∧ ∃ c t, Y.heap[y]? = some (.cells c t (0, 0)) ∧ (t = 176 ∨ t = 174)
theorem QTy.kq (h : QTy QQ Y) (hk : KQ QQ Y X) : QTy QQ X := fun y hy => by
  obtain ⟨h1, c, t, h2, h3⟩ := h y hy
  exact ⟨Nat.lt_of_lt_of_le h1 hk.size, c, t, (hk.same y hy).trans h2, h3⟩
theorem RK.kc (h : RK B QQ Y X) (hk : KC X X') (hQ : QTy QQ Y) : RK B QQ Y X' := by
  obtain ⟨G, hk, hG⟩ := hk
  refine h.kp hk (fun b hb => .inr ?_) fun y hy => ⟨(hQ y hy).1, fun hm => ?_⟩
  · obtain ⟨c, t, h1, _⟩ := hG b hb; exact ⟨c, t, h1⟩
  · obtain ⟨c, t, h1, h2, h3⟩ := hG y hm
    obtain ⟨_, c', t', h4, h5⟩ := hQ y hy
    have h6 := (h.kq.same y hy).trans h4
    rw [h1] at h6
    injection h6 with h6
    injection h6 with _ h6
    subst h6
    rcases h5 with h5 | h5
    · exact h2 h5
    · exact h3 h5
end
theorem KC.dead {X X' : World} (h : KC X X') {D : Nat} {l : Option (List Deferred)} (hD : X.heap[D]? = some (.deferred l)) : X'.heap[D]? = some (.deferred l) := by
  obtain ⟨G, hk, hG⟩ := h
  exact (hk.block D (heap_lt hD) (fun hm => by obtain ⟨c, t, h1, _⟩ := hG D hm; rw [h1] at hD; cases hD)).trans hD
/-- The ports of a live cell; the agents, the numbers of live cells. -/
def liveP (pn : Int → Nat) (x : Nat × Int) : List Pt := (List.range (pn x.2)).map fun (k : Nat) => ((x.1 : Int), (k : Int))
def agsL (pre : List (Nat × Int)) : List Int := pre.map Prod.snd
def numsL (pre : List (Nat × Int)) : List Int := pre.map fun x => (x.1 : Int)
theorem liveP_len {pn : Int → Nat} (h7 : ∀ a, pn a ≤ 7) (l : List (Nat × Int)) : (l.flatMap (liveP pn)).length ≤ 7 * l.length := by
  induction l with
  | nil => simp
  | cons x r ih =>
    rw [List.flatMap_cons, List.length_append, List.length_cons]
    have := h7 x.2
    have e : (liveP pn x).length = pn x.2 := by simp [liveP]
    omega
theorem live_all (pn : Int → Nat) (cells : List Int) (k : Nat) (hk : k ≤ cells.length) : (((List.range k).map fun i => (i, cells.getD i 0)).flatMap (liveP pn)) = cellPs pn 0 (cells.take k) := by
  induction k with
  | zero => simp [cellPs]
  | succ k ih =>
    have e : cells.take (k + 1) = cells.take k ++ [cells.getD k 0] := by rw [List.take_add_one, List.getElem?_eq_getElem hk, List.getD_eq_getElem?_getD, List.getElem?_eq_getElem hk]; rfl
    rw [List.range_succ, List.map_append, List.flatMap_append, ih (by omega), e, cellPs_snoc]
    have l : (cells.take k).length = k := by rw [List.length_take]; omega
    rw [l]
    simp [liveP]
theorem ags_all (cells : List Int) : agsL ((List.range cells.length).map fun i => (i, cells.getD i 0)) = cells := by
  unfold agsL
  rw [List.map_map]
  refine List.ext_getElem (by simp) fun i h1 h2 => ?_
  simp at h1
  simp [h1]
theorem nums_all (cells : List Int) (k : Nat) : numsL ((List.range k).map fun i => (i, cells.getD i 0)) = (List.range k).map fun (i : Nat) => (i : Int) := by
  unfold numsL
  rw [List.map_map]
  rfl
def actS (a : Act) (x : Nat × Int) : Act := { tmps := (((a.tmps.setIfInBounds 61 (.int .i64 (x.1 : Int))).setIfInBounds 62 (.int .i64 x.2)).setIfInBounds 15 (.int .i64 (x.1 : Int))).setIfInBounds 16 (.int .i64 x.2), defers := [] }
section
variable {w w0 X X' : World} {As : Option Addr} {n cap A b10 b11 b12 b13 m : Nat} {f : Int} {C K : List Int} {P : List Pt} {T : List (Pt × Pt)} {g : Int → Option Value}
theorem SB.grown (h : SB w w0 As n cap A b10 b11 b12 b13 m f C K P T g X) {row : Option Nat} (hg : X.grownBy X' row) {N : Nat} (hN : w0.heap.size ≤ N) (hr : ∀ r, row = some r → N ≤ r ∧ ∃ o : Obj, X.heap[r]? = some o ∧ o.isCells = false) : SB w w0 As n cap A b10 b11 b12 b13 m f C K P T g X' := h.of (h.t.grown hg hN hr)
theorem KQ.grown {QQ : List Nat} {Y : World} (h : KQ QQ Y X) {row : Option Nat} (hg : X.grownBy X' row) {N : Nat} (hQ : ∀ y ∈ QQ, y < Y.heap.size ∧ y < N) (hr : ∀ r, row = some r → N ≤ r ∧ ∃ o : Obj, X.heap[r]? = some o ∧ o.isCells = false) : KQ QQ Y X' :=
  ⟨Nat.le_trans h.size hg.size, fun b hb => (hg.block b (Nat.lt_of_lt_of_le (hQ b hb).1 h.size) (fun e => by have := (hr b e.symm).1; have := (hQ b hb).2; omega)).trans (h.same b hb)⟩
end
section
variable (Q : Exit → Act → World → Prop) (w w0 : World) (As : Option Addr) (n cap : Nat) (L : List (ByteArray × Int)) (B A b10 b11 b12 b13 m : Nat) (S : Wir) (FA : List Nat) (cells : List Int)
set_option maxHeartbeats 4000000 in
theorem ls_16 (f : Nat) (a : Act) (X : World) (hn : n = L.length) (hl : L.length ≤ maxLen) (HL : Hid (AgRd w As L)) (hs : Hid (SigOk L)) (hG : Hid (WG w B A S FA)) (HLN : Hid (LN (pnL L) cells f S)) (hag : Hid (∀ i, i < cells.length → 0 ≤ cells.getD i 0 ∧ cells.getD i 0 < L.length)) (hcl : cells.length ≤ 4096) (hf : f ≤ 64)
    (hS : SB w w0 As n cap A b10 b11 b12 b13 m (f : Int) [] [] (freePs f) [] (toG []) X)
    (hnext : Hid (∀ a' Y D, FrN 182 [{ target := .collected D, args := #[] }] (LS w.heap.size B b10 b11 b12 b13) a' → SB w w0 As n cap A b10 b11 b12 b13 m (f : Int) cells ((List.range cells.length).map fun (i : Nat) => (i : Int)) (allPs (pnL L) cells f) [] (toG ((List.range cells.length).map fun i => (i, cells.getD i 0))) Y → X.heap.size ≤ D → Y.heap[D]? = some (.deferred (some [])) → (lsT 30).wp Try.prog Q a' Y))
    (ha : FrN 182 [] (LS w.heap.size B b10 b11 b12 b13) a) : (lsT 16).wp Try.prog Q a X := by
  subst hn
  obtain ⟨U, rfl, e1, e2, e4, e5, e6, e7, e10, e11, e12, e13, -⟩ := ha.open
  have HS := Lib.hid hS
  obtain ⟨x0, x1, x2⟩ := hS.s.cells
  unfold FrGL
  simp only [e1, e2, e4, e5, e6, e7, e10, e11, e12, e13]
  clear e1 e2 e4 e5 e6 e7 e10 e11 e12 e13 ha hS
  show (Code.seq _ _).wp _ _ _ _
  have HGX := Lib.hid (HS.out.wg hG.out)
  obtain ⟨Us, hUs⟩ : ∃ Us, S.A.upto S.A.cells.length = Us := ⟨_, rfl⟩
  have hUe : Us = (List.range cells.length).map fun i => (i, cells.getD i 0) := by rw [← hUs, HLN.out.n]; exact HLN.out.upto _ (Nat.le_refl _)
  have hUl : Us.length ≤ 4096 := by rw [hUe]; simpa using hcl
  have hUm : ∀ x ∈ Us, x.1 < cells.length ∧ x.2 = cells.getD x.1 0 := fun x hx => by
    rw [hUe] at hx
    obtain ⟨i, hi, rfl⟩ := List.mem_map.1 hx
    exact ⟨by simpa using hi, rfl⟩
  have HU := Lib.hid (And.intro hUs (And.intro hUe hUm))
  clear hUs hUe hUm
  go_wp2_with (go_at_call 74; refine (ar_all A S.A FA X HGX.out.pa).mono ?_; rintro e w1 ⟨v, rfl, hb1, bx⟩; rw [HU.out.1] at bx)
  clear x0 x1
  have hz1 := hb1.size
  have hbl := bx.lt
  have hQT : QTy (X.heap.size :: ownB v) w1 := fun y hy => by
    rcases List.mem_cons.1 hy with rfl | hy
    · exact ⟨hbl, _, _, bx.cell, .inl rfl⟩
    · obtain ⟨cur, hh⟩ := bx.row.ty hy; exact ⟨heap_lt hh, _, _, hh, .inr rfl⟩
  have HQT := Lib.hid hQT
  have H1 := Lib.hid (HS.out.below hb1)
  have hw0 : w0.heap.size ≤ w1.heap.size := H1.out.t.kp.size
  have hmB : m < w1.heap.size := by have := H1.out.t.lt; omega
  have hmQ : m ∉ X.heap.size :: ownB v := fun hm => by
    obtain ⟨_, c, t, h1, _⟩ := hQT m hm
    obtain ⟨l, c', h2, _⟩ := H1.out.t.mp
    rw [h2] at h1; cases h1
  have HMQ := Lib.hid hmQ
  clear hQT hmQ
  obtain ⟨i0, hi0, hi1, hi2, hi3⟩ := info_parts portS_info
  obtain ⟨j0, hj0, hj1, hj2, hj3⟩ := info_parts int_info
  refine rf rfl (enters_of Try.func117 (by kernel_rfl) rfl) (seq_mem 4 X.heap.size X.heap.size v Us (by omega) _ bx) (fun b hb => (HQT.out b hb).1) (fun _ => rfl)
    (fun pre W => SB w w0 As L.length cap A b10 b11 b12 b13 m (f : Int) (agsL (vals pre)) (numsL (vals pre)) (freePs f ++ (vals pre).flatMap (liveP (pnL L))) [] (toG (vals pre)) W ∧ KQ (X.heap.size :: ownB v) w1 W)
    (fun c pre W => False)
    (fun s W1 W2 row h hg hr => ⟨h.1.grown hg hw0 hr, h.2.grown hg (fun y hy => ⟨(HQT.out y hy).1, (HQT.out y hy).1⟩) hr⟩)
    (fun c s W1 W2 row h hg hr => h)
    ⟨by simpa [agsL, numsL, vals] using H1.out, KQ.refl _ _⟩ (fun a x => actS a x.1) ?assign ?body ?done ?stop
  case assign =>
    intro l x W K hK
    gi_wp2
    simpa [actS] using hK
  case stop =>
    rintro D c pre W _ _ h _
    exact h.elim
  case done =>
    rintro D ys W hD hv ⟨hSB, hKQ⟩ hK
    rw [hv, HU.out.2.1, ags_all, nums_all, live_all _ _ _ (Nat.le_refl _), List.take_length] at hSB
    have HF := Lib.hid (And.intro hSB hK)
    have hDX : X.heap.size ≤ D := by omega
    clear hSB hK hKQ hv
    iterate 80 (first | (with_reducible refine at_seq3 30 ?_) | (with_reducible refine at_seq2 30 ?_) | (with_reducible refine at_seq 30 ?_) | go_values | go_skip | go_guarded | go_step | go_upon | go_back | go_simp)
    exact hnext.out _ _ D ⟨rfl, rfl, rfl, rfl, rfl, rfl, rfl, rfl, rfl, rfl, rfl, rfl, trivial⟩ HF.out.1 hDX HF.out.2
  case body =>
    rintro l pre ⟨⟨c, ag⟩, hm⟩ Y ⟨hI, hKQ⟩ hlen
    obtain ⟨hc, hage⟩ := HU.out.2.2 _ hm
    simp only at hc hage
    obtain ⟨hA1, hA2⟩ := HLN.out.agA hc
    rw [← hage] at hA1 hA2
    obtain ⟨g0, g1⟩ := hag.out c hc
    rw [← hage] at g0 g1
    have hpk := hs.out.ports ag
    have hpn7 : ∀ a, pnL L a ≤ 7 := pnL_le hs.out
    have hp7 := hpn7 ag
    have hlp := liveP_len (pn := pnL L) hpn7 (vals pre)
    have hvl : (vals pre).length = pre.length := by simp [vals]
    have hagl : (agsL (vals pre)).length = pre.length := by simp [agsL, vals]
    have hnul : (numsL (vals pre)).length = pre.length := by simp [numsL, vals]
    have hfl : (freePs f).length = f := by simp [freePs]
    have hPl : (freePs f ++ (vals pre).flatMap (liveP (pnL L))).length ≤ 64 + 7 * pre.length := by rw [List.length_append, hfl]; omega
    obtain ⟨mm, hmm⟩ : ∃ mm, pnL L ag = mm := ⟨_, rfl⟩
    have hpe : portsN L ag = (mm : Int) := by unfold pnL at hmm; omega
    rw [hmm] at hA1 hp7
    have hm0 : 0 < mm := by
      rcases Nat.eq_zero_or_pos mm with h | h
      · exfalso
        have h1 : portsN L ag = agA L ag.toNat + 1 := by unfold portsN; rw [if_neg (by have := hs.out.ar ag.toNat (by omega); omega)]
        have := hs.out.ar ag.toNat (by omega)
        omega
      · exact h
    obtain ⟨k, rfl⟩ : ∃ k, mm = k + 1 := ⟨mm - 1, by omega⟩
    have hAk : S.A.agA (c : Int) = (k : Int) := by omega
    have hN : vals (pre ++ [⟨(c, ag), hm⟩]) = vals pre ++ [(c, ag)] := vals_snoc _ _
    have HAK := Lib.hid (And.intro hAk (And.intro hpe (And.intro hmm hpk.2.2)))
    have HN := Lib.hid hN
    have HI := Lib.hid (And.intro hI (And.intro (RK.refl w1.heap.size (X.heap.size :: ownB v) Y) hKQ))
    have hQY := Lib.hid (HQT.out.kq hKQ)
    have HKQ := Lib.hid hKQ
    have ea : IntKind.i64.wrap ((k : Int) + 1) = ((k + 1 : Nat) : Int) := by rw [IntWalk.i64_in _ (by omega)]; omega
    have hk6 : k ≤ 6 := by omega
    obtain ⟨y0, y1, y2⟩ := hI.s.cells
    obtain ⟨P0, hP0⟩ : ∃ P0, freePs f ++ (vals pre).flatMap (liveP (pnL L)) = P0 := ⟨_, rfl⟩
    obtain ⟨C0, hC0⟩ : ∃ C0, agsL (vals pre) = C0 := ⟨_, rfl⟩
    obtain ⟨K0, hK0⟩ : ∃ K0, numsL (vals pre) = K0 := ⟨_, rfl⟩
    rw [hP0, hC0, hK0] at HI
    rw [hC0] at hagl
    rw [hK0] at hnul
    rw [hP0] at hPl
    have HE0 := Lib.hid (And.intro hP0 (And.intro hC0 hK0))
    have HCl := Lib.hid hagl
    have HKl := Lib.hid hnul
    have hc4 : (vals pre).length ≤ 4096 := by omega
    have hpre : pre.length ≤ 4096 := by omega
    have HVL := Lib.hid hvl
    clear hA1 hA2 hage hpk hpn7 hlp hvl hagl hnul hfl hmm hpe hAk hN hI hKQ hP0 hC0 hK0 hm0 hp7 hlen g0 g1
    simp only [actS]
    gi_wp2_with fail
    refine ⟨trivial, CallsIn.inRound l (callsIn_wide.2 ((ar_agent A S.A FA (c : Int) _ (HI.out.1.wg hG.out).pa).mono ?_))⟩
    rintro e w2 ⟨rfl, hb2⟩
    rw [HAK.out.1]
    generalize (if (S.A.cell (c : Int)).isSome = true then (0 : Int) else 41) = ee
    have H2 := Lib.hid (And.intro (HI.out.1.below hb2) (HI.out.2.1.below hb2 (fun y hy => (hQY.out y hy).1)))
    obtain ⟨z0, z1, z2⟩ := H2.out.1.s.cells
    clear y0 y1 y2 hb2
    simp only []
    gi_wp2_with fail
    refine ⟨trivial, CallsIn.inRound l (callsIn_wide.2 ((ports_any As _ cap L ag _ rfl hl (Lib.hid (HL.out.below H2.out.1.s.bel)) HAK.out.2.2.2).mono ?_))⟩
    rintro e w3 ⟨rfl, rfl⟩
    rw [HAK.out.2.1]
    obtain ⟨m0, m1⟩ := H2.out.1.map
    obtain ⟨V, cV, q0, q1, _, _⟩ := H2.out.1.t.cellS
    obtain ⟨w4, hr4, mp4, k4, z4⟩ := H2.out.1.t.mp.update (P := Try.prog) (T := 136) kint Try.underlying136 (c : Int) (.int .i64 (K0.length : Int))
    have H4 := Lib.hid (And.intro (H2.out.1.of (H2.out.1.t.upd mp4 k4)) (H2.out.2.kp k4 (fun b hb => .inl (by simp at hb; omega)) (fun y hy => ⟨(hQY.out y hy).1, fun hmem => HMQ.out (by simp at hmem; exact hmem ▸ hy)⟩)))
    clear mp4 k4
    simp only []
    iterate 80 (first | (with_reducible refine at_seqIn2 23 ?_) | (with_reducible refine at_seqIn 23 ?_) | go_values | gi_guarded | gi_step | gi_upon | gi_back | go_simp)
    refine absWIn (fun X5 => Hid (SB w w0 As L.length cap A b10 b11 b12 b13 m (f : Int) C0 K0 P0 [] (upd (toG (vals pre)) (c : Int) (.int .i64 (K0.length : Int))) X5 ∧ RK w1.heap.size (X.heap.size :: ownB v) Y X5)) H4 ?_
    clear H4 hr4 m0 m1 q0 q1 z0 z1 z2 H2 HI z4
    rintro X5 H5
    obtain ⟨V, cV, q0, q1, hrow, happ⟩ := H5.out.1.t.cellS
    have HRow : Hid (Row (X5.alloc (.cells #[.int .i64 (c : Int)] 3)) 3 1 (.slice V K0.length cV) K0.length (ivals K0)) := hrow.alloc _
    have HSrc : Hid (Src (X5.alloc (.cells #[.int .i64 (c : Int)] 3)) (some ⟨X5.heap.size, 0, none⟩) 1 1 [.int .i64 (c : Int)]) := Src.block (cs := #[.int .i64 (c : Int)]) (t := 3) (fr := (0, 0)) (heap_alloc_new X5 _) rfl (by simp [Value.oneCell'])
    have HB63 : K0.length + 1 ≤ maxLen := by have := HKl.out; simp only [maxLen]; omega
    have HB47 : (K0.length + 1) * 8 ≤ 140737488355328 := by have := HKl.out; omega
    have HAp := Lib.hid happ
    clear hrow happ
    iterate 80 (first | (with_reducible refine at_seqIn2 24 ?_) | (with_reducible refine at_seqIn 24 ?_) | (gi_at_builtin; go_loud (refine wpListIn_row_append rfl _ _ _ rfl j0 _ 8 Try.underlying64 hj0 hj1 hj2 hj3 rfl rfl HRow.out _ 1 1 rfl [.int .i64 (c : Int)] HSrc.out HB63 HB47 ?_); intro sv5 w5 r5 k5 o5; obtain ⟨V5, cp5, rfl, hc5⟩ := r5.len; obtain ⟨⟨q0, q1, q2⟩, hst, hkc⟩ := HAp.out _ w5 V5 cp5 (c : Int) k5 o5 r5; have HST := Lib.hid (And.intro (H5.out.1.of hst) (H5.out.2.kc hkc (HQT.out.kq HKQ.out))); clear hst hkc) | go_values | gi_guarded | gi_step | gi_upon | gi_back | go_simp)
    refine absWIn (fun X6 => Hid (SB w w0 As L.length cap A b10 b11 b12 b13 m (f : Int) C0 (K0 ++ [(c : Int)]) P0 [] (upd (toG (vals pre)) (c : Int) (.int .i64 (K0.length : Int))) X6 ∧ RK w1.heap.size (X.heap.size :: ownB v) Y X6)) HST ?_
    clear HST q0 q1 q2 HRow HSrc HAp HB63 HB47 H5 r5 k5 o5 hc5
    rintro X6 H6
    obtain ⟨V, cV, q0, q1, hrow, happ⟩ := H6.out.1.t.netC
    have HRow : Hid (Row (X6.alloc (.cells #[.int .i64 ag] 3)) 3 1 (.slice V C0.length cV) C0.length (ivals C0)) := hrow.alloc _
    have HSrc : Hid (Src (X6.alloc (.cells #[.int .i64 ag] 3)) (some ⟨X6.heap.size, 0, none⟩) 1 1 [.int .i64 ag]) := Src.block (cs := #[.int .i64 ag]) (t := 3) (fr := (0, 0)) (heap_alloc_new X6 _) rfl (by simp [Value.oneCell'])
    have HB63 : C0.length + 1 ≤ maxLen := by have := HCl.out; simp only [maxLen]; omega
    have HB47 : (C0.length + 1) * 8 ≤ 140737488355328 := by have := HCl.out; omega
    have HAp := Lib.hid happ
    clear hrow happ
    iterate 80 (first | (with_reducible refine at_seqIn2 25 ?_) | (with_reducible refine at_seqIn 25 ?_) | (gi_at_builtin; go_loud (refine wpListIn_row_append rfl _ _ _ rfl j0 _ 8 Try.underlying64 hj0 hj1 hj2 hj3 rfl rfl HRow.out _ 1 1 rfl [.int .i64 ag] HSrc.out HB63 HB47 ?_); intro sv5 w5 r5 k5 o5; obtain ⟨V5, cp5, rfl, hc5⟩ := r5.len; obtain ⟨⟨q0, q1, q2⟩, hst, hkc⟩ := HAp.out _ w5 V5 cp5 ag k5 o5 r5; have HST := Lib.hid (And.intro (H6.out.1.of hst) (H6.out.2.kc hkc (HQT.out.kq HKQ.out))); clear hst hkc) | go_values | gi_guarded | gi_step | gi_upon | gi_back | go_simp)
    refine absWIn (fun X7 => Hid (SB w w0 As L.length cap A b10 b11 b12 b13 m (f : Int) (C0 ++ [ag]) (K0 ++ [(c : Int)]) (P0 ++ (List.range 0).map fun (i : Nat) => ((c : Int), (i : Int))) [] (upd (toG (vals pre)) (c : Int) (.int .i64 (K0.length : Int))) X7 ∧ RK w1.heap.size (X.heap.size :: ownB v) Y X7)) (by simpa using HST) ?_
    clear HST q0 q1 q2 HRow HSrc HAp HB63 HB47 H6 r5 k5 o5 hc5
    rintro X7 H7
    gi_wp2_with fail
    gi_loopw [93] (fun i wr => ∃ u : Nat, i = .int .i64 u ∧ u ≤ k + 1 ∧ Hid (SB w w0 As L.length cap A b10 b11 b12 b13 m (f : Int) (C0 ++ [ag]) (K0 ++ [(c : Int)]) (P0 ++ (List.range u).map fun (i : Nat) => ((c : Int), (i : Int))) [] (upd (toG (vals pre)) (c : Int) (.int .i64 (K0.length : Int))) wr ∧ RK w1.heap.size (X.heap.size :: ownB v) Y wr)) (fun i _ => k + 1 - (intOf i).toNat)
    case atStart => exact ⟨0, rfl, Nat.zero_le _, H7⟩
    case round =>
      obtain ⟨u, rfl, hu, HR⟩ := hrel
      clear H7
      by_cases hlt : u < k + 1
      · obtain ⟨V, cV, q0, q1, hrow, happ⟩ := HR.out.1.t.portS
        obtain ⟨Pu, hPu⟩ : ∃ Pu, P0 ++ (List.range u).map (fun (i : Nat) => ((c : Int), (i : Int))) = Pu := ⟨_, rfl⟩
        have hPul : Pu.length ≤ 40000 := by rw [← hPu, List.length_append, List.length_map, List.length_range]; omega
        have hPn : P0 ++ (List.range (u + 1)).map (fun (i : Nat) => ((c : Int), (i : Int))) = Pu ++ [((c : Int), (u : Int))] := by rw [List.range_succ, List.map_append, ← List.append_assoc, hPu]; rfl
        rw [hPu] at q0 hrow happ
        have HPL := Lib.hid hPul
        have HPN := Lib.hid hPn
        have HRow : Hid (Row (wr.alloc (.cells #[.int .i64 (c : Int), .int .i64 (u : Int)] 39)) 39 2 (.slice V Pu.length cV) Pu.length (pvals Pu)) := hrow.alloc _
        have HSrc : Hid (Src (wr.alloc (.cells #[.int .i64 (c : Int), .int .i64 (u : Int)] 39)) (some ⟨wr.heap.size, 0, none⟩) 1 2 [.int .i64 (c : Int), .int .i64 (u : Int)]) :=
          Src.block (cs := #[.int .i64 (c : Int), .int .i64 (u : Int)]) (t := 39) (fr := (0, 0)) (heap_alloc_new wr _) rfl (by simp [Value.oneCell'])
        have HB63 : Pu.length + 1 ≤ maxLen := by simp only [maxLen]; omega
        have HB47 : (Pu.length + 1) * 16 ≤ 140737488355328 := by omega
        have HAp := Lib.hid happ
        clear hrow happ hPu hPul hPn
        gi_wp2_with (gi_at_builtin; go_loud (refine wpListIn_row_append rfl _ _ _ rfl i0 _ 16 Try.underlying84 hi0 hi1 hi2 hi3 rfl rfl HRow.out _ 1 1 rfl [.int .i64 (c : Int), .int .i64 (u : Int)] HSrc.out HB63 HB47 ?_); intro sv5 w5 r5 k5 o5; obtain ⟨V5, cp5, rfl, hc5⟩ := r5.len; obtain ⟨⟨q0, q1, q2⟩, hst, hkc⟩ := HAp.out _ w5 V5 cp5 ((c : Int), (u : Int)) k5 o5 r5; have HST := Lib.hid (And.intro (HR.out.1.of hst) (HR.out.2.kc hkc (HQT.out.kq HKQ.out))); clear hst hkc)
        go_roundw
        case measure => simp [intOf]; omega
        case rel => exact ⟨u + 1, by go_num, by omega, by rw [HPN.out]; exact HST⟩
      · obtain rfl : u = k + 1 := by omega
        gi_wp2_with fail
        refine ⟨HR.out.2.kf, HR.out.2.kq, ?_, HKQ.out.trans HR.out.2.kq⟩
        rw [HN.out, toG_snoc]
        have e1 : agsL (vals pre ++ [(c, ag)]) = C0 ++ [ag] := by rw [← HE0.out.2.1]; simp [agsL]
        have e2 : numsL (vals pre ++ [(c, ag)]) = K0 ++ [(c : Int)] := by rw [← HE0.out.2.2]; simp [numsL]
        have e3 : freePs f ++ (vals pre ++ [(c, ag)]).flatMap (liveP (pnL L)) = P0 ++ (List.range (k + 1)).map fun (i : Nat) => ((c : Int), (i : Int)) := by
          rw [← HE0.out.1, List.flatMap_append, List.append_assoc]
          have : liveP (pnL L) (c, ag) = (List.range (k + 1)).map fun (i : Nat) => ((c : Int), (i : Int)) := by unfold liveP; rw [HAK.out.2.2.1]
          simp [this]
        have e4 : (vals pre).length = K0.length := by rw [HVL.out, HKl.out]
        rw [e1, e2, e3, e4]
        exact HR.out.1
end
end Go.Proofs.Ythbobooiedcofaa
