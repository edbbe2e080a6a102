/-
  Contracts of code.look.
-/
import Derived.Test.YtkonfogebepccaaDoorWeb
import Derived.BigQuiet
import Derived.Deep.QuietTactic
namespace Go.Proofs.YtkonfogebepccaaDoor
open Go.RowKit
attribute [local go_sem] cell_set
set_option maxRecDepth 100000
set_option linter.unusedVariables false

section
variable (Bw P f : Nat) (G : Nat → Nat) (A : Option Addr) (n ca : Nat) (pn : Int → Nat) (cs : List Int) (fr : Nat) (vC vD : Value) (Lk : Pt → Pt) (w : World)
set_option maxHeartbeats 1000000 in
theorem put_free (s : Nat) (q1 q2 : Int) (hB : w.cell? ⟨Bw, 0, none⟩ = some (.pointer (some ⟨P, 0, none⟩))) (hBl : Bw < w.heap.size) (hW : Hid (Web w P f G A n ca pn cs fr vC vD n Lk)) (hs : s < fr) (hfr : fr ≤ 100) :
    Calls Tryd.prog 103 #[.agg #[.int .i64 (-1), .int .i64 (s : Int)], .agg #[.int .i64 q1, .int .i64 q2], .pointer (some ⟨Bw, 0, none⟩)] w fun e w' => e = .returned (.tuple #[]) ∧ Web w' P f G A n ca pn cs fr vC vD n (updL Lk (-1, (s : Int)) (q1, q2)) ∧ ∃ g, Kp [g] w w' ∧ webB P f G vC n g ∧ ∃ cur, w.heap[g]? = some (.cells cur 83 (0, 0)) := by
  obtain ⟨c0, c1, c2, c3, hPl⟩ := hW.out.cells
  obtain ⟨hfl, f0, f1, z0, z1⟩ := hW.out.freeAt hs
  clear c0 c1 c3
  generalize (Lk (-1, (s : Int))).1 = u0 at f0
  generalize (Lk (-1, (s : Int))).2 = u1 at f1
  go_enter Tryd.func103, Tryd.ntmps103
  go_wp2_with fail
  (refine region_tail 8 (by kernel_rfl) (by kernel_rfl) ?_; simp only [List.take_succ_cons, List.take_zero, List.drop_succ_cons, List.drop_zero]; repeat still_step; try refine wpStill_nil ?_)
  go_wp2
  have h2 := hW.out.putFree hs (q1, q2)
  refine bodyPost_end (results_none rfl _ _ _) rfl ⟨rfl, ((h2.below ((Below.refl _ _).alloc (Nat.le_refl _) _)).below ((Below.refl _ _).alloc (Nat.le_refl _) _)).below (Below.refl _ _).drew, f, ?_, .inr (.inl rfl), hW.out.ftype⟩
  exact ((((Kp.refl _ _).setCell (p := ⟨f, s * 2, none⟩) (.inl (by simp)) _).setCell (p := ⟨f, s * 2 + 1, none⟩) (.inl (by simp)) _).alloc _ |>.alloc _).drew
set_option maxHeartbeats 1000000 in
theorem put_cell (c s : Nat) (q1 q2 : Int) (hB : w.cell? ⟨Bw, 0, none⟩ = some (.pointer (some ⟨P, 0, none⟩))) (hBl : Bw < w.heap.size) (hW : Hid (Web w P f G A n ca pn cs fr vC vD n Lk)) (hc : c < n) (hn : n ≤ 10000) (hs : s < pn (cs.getD c 0)) (hp7 : pn (cs.getD c 0) ≤ 7) :
    Calls Tryd.prog 103 #[.agg #[.int .i64 (c : Int), .int .i64 (s : Int)], .agg #[.int .i64 q1, .int .i64 q2], .pointer (some ⟨Bw, 0, none⟩)] w fun e w' => e = .returned (.tuple #[]) ∧ Web w' P f G A n ca pn cs fr vC vD n (updL Lk ((c : Int), (s : Int)) (q1, q2)) ∧ ∃ g, Kp [g] w w' ∧ webB P f G vC n g ∧ ∃ cur, w.heap[g]? = some (.cells cur 83 (0, 0)) := by
  obtain ⟨c0, c1, c2, c3, hPl⟩ := hW.out.cells
  obtain ⟨g, cc, rfl, hgl, r0⟩ := hW.out.rowAt hc
  obtain ⟨hfl, f0, f1, z0, z1⟩ := hW.out.portAt hc hs
  have HW2 : Hid (∀ q, Web ((w.setCell ⟨G c, s * 2, none⟩ (.int .i64 q.1)).setCell ⟨G c, s * 2 + 1, none⟩ (.int .i64 q.2)) P f G A n ca pn cs fr (.slice (some ⟨g, 0, none⟩) n cc) vD n (updL Lk ((c : Int), (s : Int)) q)) := fun q => hW.out.putCell hc hs q
  have HT : Hid (webB P f G (.slice (some ⟨g, 0, none⟩) n cc) n (G c) ∧ ∃ cur, w.heap[G c]? = some (.cells cur 83 (0, 0))) := ⟨.inr (.inr (.inr ⟨c, hc, rfl⟩)), hW.out.gtype hc⟩
  clear c0 c2 c3
  unfold rowV at r0
  generalize (Lk ((c : Int), (s : Int))).1 = u0 at f0
  generalize (Lk ((c : Int), (s : Int))).2 = u1 at f1
  generalize G c = gc at r0 hfl f0 f1 z0 z1 HW2 HT
  generalize pn (cs.getD c 0) = k at r0 hs hp7
  go_enter Tryd.func103, Tryd.ntmps103
  go_wp2_with fail
  (refine region_tail 11 (by kernel_rfl) (by kernel_rfl) ?_; simp only [List.take_succ_cons, List.take_zero, List.drop_succ_cons, List.drop_zero]; repeat still_step; try refine wpStill_nil ?_)
  go_wp2
  have h2 := HW2.out (q1, q2)
  refine bodyPost_end (results_none rfl _ _ _) rfl ⟨rfl, ((h2.below ((Below.refl _ _).alloc (Nat.le_refl _) _)).below ((Below.refl _ _).alloc (Nat.le_refl _) _)).below (Below.refl _ _).drew, gc, ?_, HT.out⟩
  exact ((((Kp.refl _ _).setCell (p := ⟨gc, s * 2, none⟩) (.inl (by simp)) _).setCell (p := ⟨gc, s * 2 + 1, none⟩) (.inl (by simp)) _).alloc _ |>.alloc _).drew
theorem put_pt (p q : Pt) (hB : w.cell? ⟨Bw, 0, none⟩ = some (.pointer (some ⟨P, 0, none⟩))) (hBl : Bw < w.heap.size) (hW : Hid (Web w P f G A n ca pn cs fr vC vD n Lk)) (hn : n = cs.length) (hn2 : n ≤ 10000) (hfr : fr ≤ 100) (h7 : ∀ a, pn a ≤ 7) (hp : isPt pn cs fr p = true) :
    Calls Tryd.prog 103 #[.agg #[.int .i64 p.1, .int .i64 p.2], .agg #[.int .i64 q.1, .int .i64 q.2], .pointer (some ⟨Bw, 0, none⟩)] w fun e w' => e = .returned (.tuple #[]) ∧ Web w' P f G A n ca pn cs fr vC vD n (updL Lk p q) ∧ ∃ g, Kp [g] w w' ∧ webB P f G vC n g ∧ ∃ cur, w.heap[g]? = some (.cells cur 83 (0, 0)) := by
  obtain ⟨p1, p2⟩ := p
  unfold isPt at hp
  by_cases h : p1 = -1
  · subst h
    rw [if_pos rfl, decide_eq_true_eq] at hp
    obtain ⟨h1, h2⟩ := hp
    obtain ⟨s, rfl⟩ := Int.eq_ofNat_of_zero_le (show 0 ≤ p2 from h1)
    exact put_free Bw P f G A n ca pn cs fr vC vD Lk w s q.1 q.2 hB hBl hW (by dsimp only at h2; omega) hfr
  · rw [if_neg h, decide_eq_true_eq] at hp
    obtain ⟨h1, h2, h3, h4⟩ := hp
    obtain ⟨c, rfl⟩ := Int.eq_ofNat_of_zero_le (show 0 ≤ p1 from h1)
    obtain ⟨s, rfl⟩ := Int.eq_ofNat_of_zero_le (show 0 ≤ p2 from h3)
    dsimp only at h2 h4
    rw [Int.toNat_natCast] at h4
    exact put_cell Bw P f G A n ca pn cs fr vC vD Lk w c s q.1 q.2 hB hBl hW (by omega) hn2 (by omega) (h7 _)
end

/-! ### The web is built -/
def updG (G : Nat → Nat) (m N : Nat) : Nat → Nat := fun j => if j = m then N else G j
abbrev L0 : Pt → Pt := fun _ => (0, 0)
theorem ports_info : (Tryd.prog.info? 70).map (fun i => (i.zero, i.size, i.bytes)) = some (some (.slice none 0 0), 1, 24) := by kernel_rfl
theorem rowP_0 (pn : Int → Nat) (cs : List Int) (c : Int) : rowP pn cs L0 c = List.replicate (pn (cs.getD c.toNat 0)) (0, 0) := by
  unfold rowP L0
  exact List.ext_getElem (by simp) fun i h1 h2 => by simp
theorem freeP_0 (fr : Nat) : freeP fr L0 = List.replicate fr (0, 0) := by
  unfold freeP L0
  exact List.ext_getElem (by simp) fun i h1 h2 => by simp
section
variable {X X' : World} {P f : Nat} {G : Nat → Nat} {A : Option Addr} {n ca : Nat} {pn : Int → Nat} {cs : List Int} {fr : Nat} {vC vD : Value} {m : Nat} {Lk : Pt → Pt}
theorem rows_snoc (G : Nat → Nat) (pn : Int → Nat) (cs : List Int) (m N : Nat) : (List.range (m + 1)).map (rowV (updG G m N) pn cs) = (List.range m).map (rowV G pn cs) ++ [.slice (some ⟨N, 0, none⟩) (pn (cs.getD m 0)) (pn (cs.getD m 0))] := by
  rw [List.range_succ, List.map_append]
  congr 1
  · refine List.map_congr_left fun j hj => ?_
    have := List.mem_range.1 hj
    unfold rowV updG
    rw [if_neg (by omega)]
  · simp [rowV, updG]
theorem Web.grow (h : Web X P f G A n ca pn cs fr vC vD m L0) {X3 : World} {N : Nat} {v' : Value} (hN : X.heap.size ≤ N) (hr : Row X3 83 2 (.slice (some ⟨N, 0, none⟩) (pn (cs.getD m 0)) (pn (cs.getD m 0))) (pn (cs.getD m 0)) (pvals (List.replicate (pn (cs.getD m 0)) (0, 0))))
    (hv : Row X3 70 1 v' (m + 1) ((List.range m).map (rowV G pn cs) ++ [.slice (some ⟨N, 0, none⟩) (pn (cs.getD m 0)) (pn (cs.getD m 0))])) (hk : Kp (ownB vC) X X3) :
    Web (X3.setCell ⟨P, 1, none⟩ v') P f (updG G m N) A n ca pn cs fr v' vD (m + 1) L0 := by
  have hb : X3.heap[P]? = some (.cells #[.slice A n ca, vC, .slice (some ⟨f, 0, none⟩) fr fr, vD] 136 (0, 0)) := (hk.block P (heap_lt h.blk) (fun hm => h.pc hm rfl)).trans h.blk
  have hf3 : Row X3 83 2 (.slice (some ⟨f, 0, none⟩) fr fr) fr (pvals (freeP fr L0)) := h.rf.kp hk fun b hb hm => by simp [ownB] at hb; subst hb; exact h.cf hm rfl
  have hg3 : ∀ j, j < m → Row X3 83 2 (rowV G pn cs j) (pn (cs.getD j 0)) (pvals (rowP pn cs L0 (j : Int))) := fun j hj => (h.rows j hj).kp hk fun b hb hm => by simp [ownB, rowV] at hb; subst hb; exact h.cg hj hm rfl
  have port_ne : ∀ {b : Nat} {cur : Array Value}, X3.heap[b]? = some (.cells cur 83 (0, 0)) → b ≠ P := fun hc e => type_ne hc hb (by decide) e
  refine ⟨?_, ?_, fun j hj => ?_, ?_, fun j hj => ?_, fun i j hi hj e => ?_⟩
  · simp [World.setCell, Array.getElem?_modify, hb]
  · rw [rows_snoc]
    refine hv.keep fun b hb2 => Below.heap_setCell _ _ _ b ?_
    obtain ⟨cur, hc⟩ := hv.type b hb2
    exact type_ne hc hb (by decide)
  · by_cases e : j = m
    · subst e
      rw [rowP_0, Int.toNat_natCast]
      unfold rowV updG
      rw [if_pos rfl]
      refine hr.keep fun b hb2 => Below.heap_setCell _ _ _ b ?_
      obtain ⟨cur, hc⟩ := hr.type b hb2
      exact port_ne hc
    · have e2 : rowV (updG G m N) pn cs j = rowV G pn cs j := by unfold rowV updG; rw [if_neg e]
      rw [e2]
      have hj' : j < m := by omega
      refine (hg3 j hj').keep fun b hb2 => Below.heap_setCell _ _ _ b ?_
      obtain ⟨cur, hc⟩ := (hg3 j hj').type b hb2
      exact port_ne hc
  · refine hf3.keep fun b hb2 => Below.heap_setCell _ _ _ b ?_
    obtain ⟨cur, hc⟩ := hf3.type b hb2
    exact port_ne hc
  · unfold updG
    split
    · have := h.rf.lt f (by simp [ownB]); omega
    · exact h.fG j (by omega)
  · have hl : ∀ i, i < m → G i < X.heap.size := fun i hi => (h.rows i hi).lt _ (by simp [ownB, rowV])
    unfold updG at e
    by_cases e1 : i = m
    · by_cases e2 : j = m
      · omega
      · rw [if_pos e1, if_neg e2] at e
        have := hl j (by omega); omega
    · by_cases e2 : j = m
      · rw [if_neg e1, if_pos e2] at e
        have := hl i (by omega); omega
      · rw [if_neg e1, if_neg e2] at e
        exact h.GG i j (by omega) (by omega) e
theorem Web.fnd (h : Web X P f G A n ca pn cs fr vC vD m Lk) {X3 : World} {v' : Value} {F : List Nat} (hF : ∀ b ∈ F, ∃ cur, X.heap[b]? = some (.cells cur 3 (0, 0))) (hk : Kp F X X3) :
    Web (X3.setCell ⟨P, 3, none⟩ v') P f G A n ca pn cs fr vC v' m Lk := by
  have h3 : Web X3 P f G A n ca pn cs fr vC vD m Lk := h.keep fun b hb => hk.block b (h.lt b hb) fun hm => by
    obtain ⟨cur, hc⟩ := hF b hm
    exact h.noInt hb hc (by decide)
  have e : ∀ b, b ≠ P → (X3.setCell ⟨P, 3, none⟩ v').heap[b]? = X3.heap[b]? := fun b hb => Below.heap_setCell _ _ _ b hb
  exact ⟨by simp [World.setCell, Array.getElem?_modify, h3.blk], h3.rc.keep fun b hb => e b (h3.pc hb).symm, fun j hj => (h3.rows j hj).keep fun b hb => e b (by simp [ownB, rowV] at hb; subst hb; exact (h3.pg hj).symm),
    h3.rf.keep fun b hb => e b (by simp [ownB] at hb; subst hb; exact h3.pf.symm), h3.fG, h3.GG⟩
end
structure Bld (w0 : World) (Bw P f : Nat) (G : Nat → Nat) (A : Option Addr) (n ca : Nat) (pn : Int → Nat) (cs : List Int) (fr : Nat) (vC vD : Value) (m k : Nat) (X : World) : Prop where
  web : Web X P f G A n ca pn cs fr vC vD m L0
  rd : Row X 3 1 vD k (ivals (List.replicate k (-1)))
  box : X.heap[Bw]? = some (.cells #[.pointer (some ⟨P, 0, none⟩)] 133 (0, 0))
  bl : Below w0.heap.size w0 X
  lo : ∀ b, webB P f G vC m b → w0.heap.size ≤ b
  loD : ∀ b ∈ ownB vD, w0.heap.size ≤ b
  loB : w0.heap.size ≤ Bw
end Go.Proofs.YtkonfogebepccaaDoor
