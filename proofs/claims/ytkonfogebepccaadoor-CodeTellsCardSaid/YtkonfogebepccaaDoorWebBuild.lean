/-
  Contract of code.look.
-/
import Derived.Test.YtkonfogebepccaaDoorWebLook
import Derived.Deep.DeepCutAuto
import Derived.Deep.RegionHeld3
import Derived.Deep.RegionLaw
import Derived.Test.YtkonfogebepccaaDoorRegionHS
namespace Go.Proofs.YtkonfogebepccaaDoor
open Go.RowKit
attribute [local go_sem] cell_set
set_option maxRecDepth 100000
set_option linter.unusedVariables false

theorem Bld.cells {w0 X : World} {Bw P f : Nat} {G : Nat → Nat} {A : Option Addr} {n ca : Nat} {pn : Int → Nat} {cs : List Int} {fr : Nat} {vC vD : Value} {m k : Nat} (h : Bld w0 Bw P f G A n ca pn cs fr vC vD m k X) :
    X.cell? ⟨Bw, 0, none⟩ = some (.pointer (some ⟨P, 0, none⟩)) ∧ X.cell? ⟨P, 1, none⟩ = some vC ∧ X.cell? ⟨P, 3, none⟩ = some vD ∧ X.frozen? ⟨P, 1, none⟩ = false ∧ X.frozen? ⟨P, 3, none⟩ = false ∧ Bw < X.heap.size ∧ P < X.heap.size := by
  have h1 := h.web.blk
  have h2 := h.box
  refine ⟨?_, ?_, ?_, ?_, ?_, heap_lt h2, heap_lt h1⟩ <;> simp [World.cell?, World.frozen?, h1, h2]
theorem Bld.row {w0 X X3 : World} {Bw P f : Nat} {G : Nat → Nat} {A : Option Addr} {n ca : Nat} {pn : Int → Nat} {cs : List Int} {fr : Nat} {vC vD v' : Value} {m k M : Nat} {o : Obj} (h : Bld w0 Bw P f G A n ca pn cs fr vC vD m k X) (hM : pn (cs.getD m 0) = M) (hM7 : M ≤ 7)
    (r : Row X3 70 1 v' (m + 1) ((List.range m).map (rowV G pn cs) ++ [.slice (some ⟨X.heap.size, 0, none⟩) M M])) (hk : Kp (ownB vC) ((X.alloc (.cells (madeCells #[.int .i64 0, .int .i64 0] (M * 2)) 83)).alloc o).drew X3)
    (ho : ownB v' = ownB vC ∨ ownB v' = [((X.alloc (.cells (madeCells #[.int .i64 0, .int .i64 0] (M * 2)) 83)).alloc o).drew.heap.size]) :
    X3.cell? ⟨P, 1, none⟩ = some vC ∧ X3.frozen? ⟨P, 1, none⟩ = false ∧ X3.cell? ⟨Bw, 0, none⟩ = some (.pointer (some ⟨P, 0, none⟩)) ∧ Below w0.heap.size w0 X3 ∧ Bld w0 Bw P f (updG G m X.heap.size) A n ca pn cs fr v' vD (m + 1) k (X3.setCell ⟨P, 1, none⟩ v') := by
  subst hM
  have hsz : ((X.alloc (.cells (madeCells #[.int .i64 0, .int .i64 0] (pn (cs.getD m 0) * 2)) 83)).alloc o).drew.heap.size = X.heap.size + 1 + 1 := by show ((X.alloc _).alloc _).heap.size = _; simp
  have hkp : Kp (ownB vC) X X3 := (((Kp.refl (ownB vC) X).alloc _).alloc _).drew.trans hk fun b hb => .inl hb
  have hN : ((X.alloc (.cells (madeCells #[.int .i64 0, .int .i64 0] (pn (cs.getD m 0) * 2)) 83)).alloc o).drew.heap[X.heap.size]? = some (.cells (madeCells #[.int .i64 0, .int .i64 0] (pn (cs.getD m 0) * 2)) 83 (0, 0)) :=
    (Below.heap_alloc _ _ _ (by simp)).trans (heap_alloc_new X _)
  have hold : ∀ b, b < X.heap.size → b ∉ ownB vC → X3.heap[b]? = X.heap[b]? := fun b h1 h2 => hkp.block b h1 h2
  have hb : X3.heap[P]? = X.heap[P]? := hold P (heap_lt h.web.blk) fun hm => h.web.pc hm rfl
  have hvb : ∀ b ∈ ownB v', w0.heap.size ≤ b := fun b hb => by
    rcases ho with e | e
    · rw [e] at hb; exact h.lo b (.inr (.inr (.inl hb)))
    · rw [e, hsz] at hb; simp at hb; have := h.bl.size; omega
  have hc := h.cells
  have hint : ∀ b ∈ ownB vD, b ∉ ownB vC := fun b hb hm => by
    obtain ⟨c1, h1⟩ := h.rd.type b hb
    exact h.web.noInt (.inr (.inr (.inl hm))) h1 (by decide)
  have hne : ∀ b ∈ ownB vD, b ≠ P := fun b hb e => by
    obtain ⟨c1, h1⟩ := h.rd.type b hb
    exact h.web.noInt (.inl e) h1 (by decide)
  have hbx : X3.heap[Bw]? = _ := (hold Bw (heap_lt h.box) fun hm => by obtain ⟨c2, h2⟩ := h.web.rc.type Bw hm; exact type_ne h2 h.box (by decide) rfl).trans h.box
  have hbp : Bw ≠ P := type_ne h.box h.web.blk (by decide)
  have lP := h.lo P (.inl rfl)
  refine ⟨(World.cell?_of_block hb).trans hc.2.1, (World.frozen?_of_block hb).trans hc.2.2.2.1, by simp [World.cell?, hbx], h.bl.trans (hkp.below h.bl.size fun b hb => h.lo b (.inr (.inr (.inl hb)))), h.web.grow (Nat.le_refl _) (row_ports ((hk.block _ (by rw [hsz]; omega) fun hm => by have := h.web.lt _ (.inr (.inr (.inl hm))); omega).trans hN) (by unfold maxLen; omega)) r hkp,
    h.rd.keep fun b hb2 => (Below.heap_setCell _ _ _ b (hne b hb2)).trans (hold b (h.rd.lt b hb2) (hint b hb2)), (Below.heap_setCell _ _ _ _ hbp).trans hbx, ?_, ?_, h.loD, h.loB⟩
  · refine (h.bl.trans ?_).setCell (p := ⟨P, 1, none⟩) lP _
    exact (hkp.below h.bl.size fun b hb => h.lo b (.inr (.inr (.inl hb))))
  · rintro b (rfl | rfl | hb | ⟨j, hj, rfl⟩)
    · exact lP
    · exact h.lo _ (.inr (.inl rfl))
    · exact hvb b hb
    · unfold updG
      split
      · exact h.bl.size
      · exact h.lo _ (.inr (.inr (.inr ⟨j, by omega, rfl⟩)))
theorem Bld.fnd {w0 X X3 : World} {Bw P f : Nat} {G : Nat → Nat} {A : Option Addr} {n ca : Nat} {pn : Int → Nat} {cs : List Int} {fr : Nat} {vC vD v' : Value} {m k : Nat} {o : Obj} (h : Bld w0 Bw P f G A n ca pn cs fr vC vD m k X)
    (r : Row X3 3 1 v' (k + 1) (ivals (List.replicate k (-1)) ++ [.int .i64 (-1)])) (hk : Kp (ownB vD) (X.alloc o).drew X3) (ho : ownB v' = ownB vD ∨ ownB v' = [(X.alloc o).drew.heap.size]) :
    X3.cell? ⟨P, 3, none⟩ = some vD ∧ X3.frozen? ⟨P, 3, none⟩ = false ∧ X3.cell? ⟨Bw, 0, none⟩ = some (.pointer (some ⟨P, 0, none⟩)) ∧ Below w0.heap.size w0 X3 ∧ Bld w0 Bw P f G A n ca pn cs fr vC v' m (k + 1) (X3.setCell ⟨P, 3, none⟩ v') := by
  have hsz : (X.alloc o).drew.heap.size = X.heap.size + 1 := by show (X.alloc _).heap.size = _; simp
  have hkp : Kp (ownB vD) X X3 := (((Kp.refl (ownB vD) X).alloc _)).drew.trans hk fun b hb => .inl hb
  have hne : ∀ b ∈ ownB vD, b ≠ P := fun b hb e => by
    obtain ⟨c1, h1⟩ := h.rd.type b hb
    exact h.web.noInt (.inl e) h1 (by decide)
  have hb : X3.heap[P]? = X.heap[P]? := hkp.block P (heap_lt h.web.blk) fun hm => hne P hm rfl
  have hc := h.cells
  have lP := h.lo P (.inl rfl)
  have hvb : ∀ b ∈ ownB v', w0.heap.size ≤ b := fun b hb => by
    rcases ho with e | e
    · rw [e] at hb; exact h.loD b hb
    · rw [e, hsz] at hb; simp at hb; have := h.bl.size; omega
  have hbx : X3.heap[Bw]? = _ := (hkp.block Bw (heap_lt h.box) fun hm => by obtain ⟨c2, h2⟩ := h.rd.type Bw hm; exact type_ne h2 h.box (by decide) rfl).trans h.box
  have hbp : Bw ≠ P := type_ne h.box h.web.blk (by decide)
  have hb3 : X3.heap[P]? = some _ := hb.trans h.web.blk
  refine ⟨(World.cell?_of_block hb).trans hc.2.2.1, (World.frozen?_of_block hb).trans hc.2.2.2.2.1, by simp [World.cell?, hbx], h.bl.trans (hkp.below h.bl.size fun b hb => h.loD b hb), h.web.fnd (F := ownB vD) (fun b hb => h.rd.type b hb) hkp, ?_, (Below.heap_setCell _ _ _ _ hbp).trans hbx, ?_, h.lo, hvb, h.loB⟩
  · have e : ivals (List.replicate (k + 1) (-1)) = ivals (List.replicate k (-1)) ++ [.int .i64 (-1)] := by rw [List.replicate_succ']; simp [ivals]
    rw [e]
    refine r.keep fun b hb2 => Below.heap_setCell _ _ _ b ?_
    obtain ⟨cur, hcur⟩ := r.type b hb2
    exact type_ne hcur hb3 (by decide)
  · exact (h.bl.trans (hkp.below h.bl.size fun b hb => h.loD b hb)).setCell (p := ⟨P, 3, none⟩) lP _
theorem pnL_in {L : List (ByteArray × Int)} (hs : SigOk L) {a : Int} (h0 : 0 ≤ a) (h1 : a < L.length) : (pnL L a : Int) = agA L a.toNat + 1 := by
  have h2 := hs.ar a.toNat (by omega)
  rw [← pnL_eq hs, portsN, if_neg (by omega)]
/-- Behind the web's making: its box, the web, the row of the free ports. -/
def LkS (w0 : World) (A : Option Addr) (n ca fr : Nat) (v : Value) (X : World) : Prop :=
  ∃ Bw P f, v = .pointer (some ⟨Bw, 0, none⟩) ∧ Bw ≠ P ∧ w0.heap.size ≤ Bw ∧ w0.heap.size ≤ P ∧ w0.heap.size ≤ f ∧ P ≠ f ∧ Bw ≠ f ∧ X.heap[Bw]? = some (.cells #[.pointer (some ⟨P, 0, none⟩)] 133 (0, 0)) ∧
    X.heap[P]? = some (.cells #[.slice A n ca, .slice none 0 0, .slice (some ⟨f, 0, none⟩) fr fr, .slice none 0 0] 136 (0, 0)) ∧ X.heap[f]? = some (.cells (madeCells #[.int .i64 0, .int .i64 0] (fr * 2)) 83 (0, 0)) ∧ Below w0.heap.size w0 X
theorem lks_mk {w0 X : World} {A : Option Addr} {n ca fr Bw P f : Nat} (kb : X.heap[Bw]? = some (.cells #[.pointer (some ⟨P, 0, none⟩)] 133 (0, 0)))
    (kp : X.heap[P]? = some (.cells #[.slice A n ca, .slice none 0 0, .slice (some ⟨f, 0, none⟩) fr fr, .slice none 0 0] 136 (0, 0))) (kf : X.heap[f]? = some (.cells (madeCells #[.int .i64 0, .int .i64 0] (fr * 2)) 83 (0, 0)))
    (h1 : Bw ≠ P) (h2 : w0.heap.size ≤ Bw) (h3 : w0.heap.size ≤ P) (h4 : w0.heap.size ≤ f) (h5 : P ≠ f) (h6 : Bw ≠ f) (hb : Below w0.heap.size w0 X) : LkS w0 A n ca fr (.pointer (some ⟨Bw, 0, none⟩)) X :=
  ⟨Bw, P, f, rfl, h1, h2, h3, h4, h5, h6, kb, kp, kf, hb⟩
theorem heapW3 (X : World) (a b c : Obj) : ((((X.alloc a).alloc b).alloc c).drew).heap[X.heap.size]? = some a ∧ ((((X.alloc a).alloc b).alloc c).drew).heap[X.heap.size + 1]? = some b ∧ ((((X.alloc a).alloc b).alloc c).drew).heap[X.heap.size + 1 + 1]? = some c := by
  refine ⟨?_, ?_, ?_⟩
  · exact (Below.heap_alloc _ _ _ (by simp; omega)).trans ((Below.heap_alloc _ _ _ (by simp)).trans (heap_alloc_new X _))
  · refine (Below.heap_alloc _ _ _ (by simp)).trans ?_
    have := heap_alloc_new (X.alloc a) b
    rwa [World.size_alloc] at this
  · have := heap_alloc_new ((X.alloc a).alloc b) c
    rw [World.size_alloc, World.size_alloc] at this
    exact this
theorem belowW3 (X : World) (a b c : Obj) : Below X.heap.size X ((((X.alloc a).alloc b).alloc c).drew) := ((((Below.refl _ _).alloc (Nat.le_refl _) _).alloc (by simp) _).alloc (by simp; omega) _).drew
theorem lnk_upd {W : List (Pt × Pt)} {i : Nat} (hi : i < W.length) (hn : (ends W).Nodup) : lkT (lnk (W.take (i + 1))) = updL (updL (lkT (lnk (W.take i))) (W.getD i default).1 (W.getD i default).2) (W.getD i default).2 (W.getD i default).1 := by
  have e : W.take (i + 1) = W.take i ++ [W[i]] := by rw [List.take_add_one, List.getElem?_eq_getElem hi]; rfl
  have eg : W.getD i default = W[i] := by rw [List.getD_eq_getElem?_getD, List.getElem?_eq_getElem hi]; rfl
  have h2 : ends W = ends (W.take i) ++ [W[i].1, W[i].2] ++ ends (W.drop (i + 1)) := by
    rw [← ends_snoc, ← e]; unfold ends; rw [← List.flatMap_append, List.take_append_drop]
  rw [h2, List.nodup_append, List.nodup_append] at hn
  obtain ⟨⟨_, hab, hd⟩, _⟩ := hn
  have ha : W[i].1 ∉ ends (W.take i) := fun h => hd _ h _ (by simp) rfl
  have hb : W[i].2 ∉ ends (W.take i) := fun h => hd _ h _ (by simp) rfl
  have hne : W[i].1 ≠ W[i].2 := by simpa using hab
  rw [eg, e]
  generalize W[i] = x at ha hb hne
  obtain ⟨a, b⟩ := x
  funext p
  unfold updL lkT
  rw [lnk_snoc]
  by_cases h1 : p = b
  · subst h1
    simp [lnk_none hb, hne]
  · by_cases h2 : p = a
    · subst h2
      simp [lnk_none ha, h1]
    · have h1' : ¬ b = p := fun e => h1 e.symm
      have h2' : ¬ a = p := fun e => h2 e.symm
      simp only [h1, h2, h1', h2', if_false, Option.or_none]
structure Bl2 (w0 : World) (Bw P f : Nat) (G : Nat → Nat) (A : Option Addr) (n ca : Nat) (pn : Int → Nat) (cs : List Int) (fr : Nat) (vC vD : Value) (Lk : Pt → Pt) (X : World) : Prop where
  web : Web X P f G A n ca pn cs fr vC vD n Lk
  rd : Row X 3 1 vD n (ivals (List.replicate n (-1)))
  box : X.heap[Bw]? = some (.cells #[.pointer (some ⟨P, 0, none⟩)] 133 (0, 0))
  bl : Below w0.heap.size w0 X
  lo : ∀ b, webB P f G vC n b → w0.heap.size ≤ b
  loD : ∀ b ∈ ownB vD, w0.heap.size ≤ b
  loB : w0.heap.size ≤ Bw
section
variable {w0 X X' : World} {Bw P f : Nat} {G : Nat → Nat} {A : Option Addr} {n ca : Nat} {pn : Int → Nat} {cs : List Int} {fr : Nat} {vC vD : Value} {Lk Lk' : Pt → Pt}
theorem Bl2.cell (h : Bl2 w0 Bw P f G A n ca pn cs fr vC vD Lk X) : X.cell? ⟨Bw, 0, none⟩ = some (.pointer (some ⟨P, 0, none⟩)) ∧ Bw < X.heap.size := by
  have := h.box
  exact ⟨by simp [World.cell?, this], heap_lt this⟩
theorem Bl2.grow (h : Bl2 w0 Bw P f G A n ca pn cs fr vC vD Lk X) (hb : Below X.heap.size X X') : Bl2 w0 Bw P f G A n ca pn cs fr vC vD Lk X' :=
  ⟨h.web.below hb, h.rd.keep fun b hb2 => hb.block b (h.rd.lt b hb2), (hb.block Bw (heap_lt h.box)).trans h.box, h.bl.trans (hb.mono h.bl.size), h.lo, h.loD, h.loB⟩
theorem Bl2.put (h : Bl2 w0 Bw P f G A n ca pn cs fr vC vD Lk X) {g : Nat} (hw : Web X' P f G A n ca pn cs fr vC vD n Lk') (hk : Kp [g] X X') (hg : webB P f G vC n g) (ht : ∃ cur, X.heap[g]? = some (.cells cur 83 (0, 0))) : Bl2 w0 Bw P f G A n ca pn cs fr vC vD Lk' X' := by
  obtain ⟨cur, ht⟩ := ht
  refine ⟨hw, h.rd.kp hk fun b hb hm => ?_, (hk.block Bw (heap_lt h.box) fun hm => ?_).trans h.box, h.bl.trans (hk.below h.bl.size fun b hb => ?_), h.lo, h.loD, h.loB⟩
  · obtain ⟨c, hc⟩ := h.rd.type b hb
    exact type_ne hc ht (by decide) (by simpa using hm)
  · exact type_ne h.box ht (by decide) (by simpa using hm)
  · rw [List.mem_singleton] at hb; subst hb; exact h.lo _ hg
theorem Bl2.put_pt (h : Hid (Bl2 w0 Bw P f G A n ca pn cs fr vC vD Lk X)) (p q : Pt) (hn : n = cs.length) (hn2 : n ≤ 10000) (hfr : fr ≤ 100) (h7 : ∀ a, pn a ≤ 7) (hp : isPt pn cs fr p = true) :
    Calls Tryd.prog 103 #[.agg #[.int .i64 p.1, .int .i64 p.2], .agg #[.int .i64 q.1, .int .i64 q.2], .pointer (some ⟨Bw, 0, none⟩)] X fun e w' => e = .returned (.tuple #[]) ∧ Bl2 w0 Bw P f G A n ca pn cs fr vC vD (updL Lk p q) w' ∧ ∀ (t : Nat) (cur : Array Value) (e : TypeId), X.heap[t]? = some (.cells cur e (0, 0)) → e ≠ 83 → w'.heap[t]? = X.heap[t]? := by
  obtain ⟨q0, q1⟩ := h.out.cell
  refine (Go.Proofs.YtkonfogebepccaaDoor.put_pt Bw P f G A n ca pn cs fr vC vD Lk X p q q0 q1 (Lib.hid h.out.web) hn hn2 hfr h7 hp).mono ?_
  rintro e w1 ⟨rfl, hw, g, hk, hg, ht⟩
  refine ⟨rfl, h.out.put hw hk hg ht, fun t cur e h1 he => hk.block t (heap_lt h1) fun hm => ?_⟩
  rw [List.mem_singleton] at hm
  obtain ⟨cur2, h2⟩ := ht
  exact type_ne h1 h2 he hm
end
theorem Bl2.put4 {w0 X : World} {Bw P f : Nat} {G : Nat → Nat} {A : Option Addr} {n ca : Nat} {pn : Int → Nat} {cs : List Int} {fr : Nat} {vC vD : Value} {Lk : Pt → Pt} (h : Hid (Bl2 w0 Bw P f G A n ca pn cs fr vC vD Lk X)) (a b c d : Int) (hn : n = cs.length) (hn2 : n ≤ 10000) (hfr : fr ≤ 100) (h7 : ∀ a, pn a ≤ 7) (hp : isPt pn cs fr (a, b) = true) :
    Calls Tryd.prog 103 #[.agg #[.int .i64 a, .int .i64 b], .agg #[.int .i64 c, .int .i64 d], .pointer (some ⟨Bw, 0, none⟩)] X fun e w' => e = .returned (.tuple #[]) ∧ Bl2 w0 Bw P f G A n ca pn cs fr vC vD (updL Lk (a, b) (c, d)) w' ∧ ∀ (t : Nat) (cur : Array Value) (e : TypeId), X.heap[t]? = some (.cells cur e (0, 0)) → e ≠ 83 → w'.heap[t]? = X.heap[t]? :=
  Bl2.put_pt h (a, b) (c, d) hn hn2 hfr h7 hp
theorem wbox_cells {X : World} {t : Nat} {a b c d : Value} (h : X.heap[t]? = some (.cells #[a, b, c, d] 108 (0, 0))) : X.cell? ⟨t, 0, none⟩ = some a ∧ X.cell? ⟨t, 1, none⟩ = some b ∧ X.cell? ⟨t, 2, none⟩ = some c ∧ X.cell? ⟨t, 3, none⟩ = some d := by
  refine ⟨?_, ?_, ?_, ?_⟩ <;> simp [World.cell?, h]
theorem Bld.two {w0 X : World} {Bw P f : Nat} {G : Nat → Nat} {A : Option Addr} {n ca : Nat} {pn : Int → Nat} {cs : List Int} {fr : Nat} {vC vD : Value} (h : Bld w0 Bw P f G A n ca pn cs fr vC vD n n X) : Bl2 w0 Bw P f G A n ca pn cs fr vC vD L0 X :=
  ⟨h.web, h.rd, h.box, h.bl, h.lo, h.loD, h.loB⟩
section
variable (A : Option Addr) (n cap : Nat) (L : List (ByteArray × Int)) (VA VB : Option Addr) (ca cb : Nat) (cells : List Int) (free : Nat) (W : List (Pt × Pt)) (w : World)
set_option maxHeartbeats 16000000 in
theorem code_look (hn : n = L.length) (HL : Hid (AgRd w A L)) (hs : SigOk L) (HC : Hid (IntsRd w VA cells)) (HW : Hid (WrRd w VB W)) (hc : cells.length ≤ 4096) (hf : free ≤ 64) (hw : W.length ≤ 40000)
    (hag : Hid (∀ i, i < cells.length → 0 ≤ cells.getD i 0 ∧ cells.getD i 0 < L.length)) (hok : Hid (NetOk (pnL L) cells free W)) :
    Calls Tryd.prog 88 #[.slice A n cap, netV VA ca cells free VB cb W] w fun e w' => ∃ P f G vC vD, e = .returned (.pointer (some ⟨P, 0, none⟩)) ∧ Web w' P f G VA cells.length ca (pnL L) cells free vC vD cells.length (lkT (lnk W)) ∧
      Row w' 3 1 vD cells.length (ivals (List.replicate cells.length (-1))) ∧ Below w.heap.size w w' ∧ (∀ b, webB P f G vC cells.length b → w.heap.size ≤ b) ∧ ∀ b ∈ ownB vD, w.heap.size ≤ b := by
  subst hn
  have hll := hs.len
  have hmk := make_ports free (by omega)
  obtain ⟨j0, hj0, hj1, hj2, hj3⟩ := info_parts ports_info
  obtain ⟨i0, hi0, hi1, hi2, hi3⟩ := info_parts int_info
  go_enter Tryd.func88, Tryd.ntmps88
  go_upto_region 1 with fail
  refine absW (fun X => Below w.heap.size w X ∧ NBox X w.heap.size VA cells.length ca free VB W.length cb) ⟨(Below.refl _ _).alloc (Nat.le_refl _) _, ⟨by simp, by go_simp, by go_simp, by go_simp⟩⟩ ?_
  rintro X ⟨hbx, hnb⟩
  have n0 := hnb.c0
  have n1 := hnb.c1
  have hzy := hnb.lt
  have HX := Lib.hid (And.intro hbx hnb)
  clear hbx hnb
  go_cut [5] (fun v wx => LkS X VA cells.length ca free v wx)
  case first =>
    go_region
    all_goals
      go_wp2_with fail
      go_meet
      case rel =>
        obtain ⟨h1, h2, h3⟩ := heapW3 X _ _ _
        first
          | exact lks_mk h3 h2 h1 (by omega) (by omega) (by omega) (by omega) (by omega) (by omega) (belowW3 X _ _ _)
          | exact lks_mk h2 h3 h1 (by omega) (by omega) (by omega) (by omega) (by omega) (by omega) (belowW3 X _ _ _)
          | exact lks_mk h1 h3 h2 (by omega) (by omega) (by omega) (by omega) (by omega) (by omega) (belowW3 X _ _ _)
  case rest =>
    obtain ⟨Bw, P, f, rfl, hne, lb, lp, lf, hpf, hbf, kb, kp, kf, hb1⟩ := hcut
    clear hmk n0 n1
    have HBd : Hid (Bld X Bw P f (fun _ => 0) VA cells.length ca (pnL L) cells free (.slice none 0 0) (.slice none 0 0) 0 0 wc) := by
      refine ⟨⟨kp, Row.nil _ _ _, fun j hj => absurd hj (by omega), by rw [freeP_0]; exact row_ports kf (by unfold maxLen; omega), fun j hj => absurd hj (by omega), fun i j hi => absurd hi (by omega)⟩, Row.nil _ _ _, kb, hb1, ?_, by simp [ownB], lb⟩
      rintro b (rfl | rfl | hb | ⟨j, hj, rfl⟩)
      · exact lp
      · exact lf
      · simp [ownB] at hb
      · omega
    have HNb : Hid (NBox wc w.heap.size VA cells.length ca free VB W.length cb) := HX.out.2.below hb1
    clear kb kp kf
    have n0 := HNb.out.c0
    have hwl := HNb.out.lt
    go_wp2_with fail
    go_loopw [7, 21] (fun _ i wr => ∃ k : Nat, ∃ G vC vD, i = .int .i64 k ∧ k ≤ cells.length ∧ Hid (Bld X Bw P f G VA cells.length ca (pnL L) cells free vC vD k k wr)) (fun _ i _ => cells.length - (intOf i).toNat)
    case atStart => exact ⟨0, _, _, _, rfl, by omega, HBd⟩
    case round =>
      obtain ⟨k, G, vC, vD, rfl, hk, HR⟩ := hrel
      clear HBd
      by_cases hlt : k < cells.length
      · obtain ⟨b, off, rfl, hb, e0⟩ := HC.out k hlt
        have hbw : Below w.heap.size w wr := HX.out.1.trans (HR.out.bl.mono HX.out.1.size)
        have c0 := (hbw.cell (p := ⟨b, off + k, none⟩) hb).trans e0
        have hbr : b < wr.heap.size := Nat.lt_of_lt_of_le hb hbw.size
        obtain ⟨hx0, hx1⟩ := hag.out k hlt
        have hpn := pnL_in hs hx0 hx1
        have hp7 := pnL_le hs (cells.getD k 0)
        obtain ⟨M, hM⟩ : ∃ M, pnL L (cells.getD k 0) = M := ⟨_, rfl⟩
        have HM := Lib.hid hM
        rw [hM] at hpn hp7
        have har := hs.ar (cells.getD k 0).toNat (by omega)
        clear hM
        generalize cells.getD k 0 = x at c0 hx0 hx1 hpn har e0
        obtain ⟨a, rfl⟩ := Int.eq_ofNat_of_zero_le hx0
        have haL : a < L.length := by omega
        obtain ⟨b2, off2, rfl, hb2, e1, e2⟩ := HL.out a haL
        have c1 := (hbw.cell (p := ⟨b2, off2 + a * 2 + 1, none⟩) hb2).trans e2
        have hbr2 : b2 < wr.heap.size := Nat.lt_of_lt_of_le hb2 hbw.size
        rw [Int.toNat_natCast] at hpn har
        have HE2 := Lib.hid e2
        clear e0 e1 e2 hx0 hx1
        generalize agA L a = r at c1 hpn har HE2
        have hsum : IntKind.i64.wrap (r + 1) = (M : Int) := by rw [IntWalk.i64_in _ (by omega)]; omega
        clear hpn
        have hmk2 := make_ports M (by omega)
        obtain ⟨q0, q1, q2, q3, q4, hBl, hPl⟩ := HR.out.cells
        have HRw : Hid (Row (((wr.alloc (.cells (madeCells #[.int .i64 0, .int .i64 0] (M * 2)) 83)).alloc (.cells #[.slice (some ⟨wr.heap.size, 0, none⟩) M M] 70)).drew) 70 1 vC k ((List.range k).map (rowV G (pnL L) cells))) := ((HR.out.web.rc.alloc _).alloc _).drew
        have HSr : Hid (Src (((wr.alloc (.cells (madeCells #[.int .i64 0, .int .i64 0] (M * 2)) 83)).alloc (.cells #[.slice (some ⟨wr.heap.size, 0, none⟩) M M] 70)).drew) (some ⟨wr.heap.size + 1, 0, none⟩) 1 1 [.slice (some ⟨wr.heap.size, 0, none⟩) M M]) :=
          Src.block (cs := #[.slice (some ⟨wr.heap.size, 0, none⟩) M M]) (t := 70) (fr := (0, 0)) (by have := heap_alloc_new (wr.alloc (.cells (madeCells #[.int .i64 0, .int .i64 0] (M * 2)) 83)) (.cells #[.slice (some ⟨wr.heap.size, 0, none⟩) M M] 70); rw [World.size_alloc] at this; exact this) rfl (by simp [Value.oneCell'])
        have hg63 : k + 1 ≤ maxLen := by simp only [maxLen]; omega
        have hg47 : (k + 1) * 24 ≤ 140737488355328 := by omega
        go_wp2_with fail
        refine region_hs 11 14 (fun X' => X'.cell? ⟨Bw, 0, none⟩ = some (.pointer (some ⟨P, 0, none⟩)) ∧ X'.cell? ⟨P, 1, none⟩ = some vC ∧ X'.cell? ⟨b2, off2 + a * 2 + 1, none⟩ = some (.int .i64 r)) (by kernel_rfl) (by kernel_rfl) (fun _ _ d _ _ h => by cases d <;> exact h) ⟨q0, q1, c1⟩ ?_
        simp only [List.take_succ_cons, List.take_zero, List.drop_succ_cons, List.drop_zero]
        iterate 11 (refine wpHead_step (v := ?_) (by rfl) ?_ ?_; rotate_left; (· intro W9 hSw; (try dsimp only at hSw); go_simp; try with_reducible rfl); (try simp only [Act.put, List.setIfInBounds_toArray, List.set_cons_zero, List.set_cons_succ]))
        refine wpHead_nil ?_
        refine wpMid_step (by rfl) (fun K9 hK9 => ?_)
        unfold Oper.wp
        go_simp
        refine hK9 _ _ (⟨by go_simp, by go_simp, by go_simp⟩) ?_
        (try simp only [Act.put, List.setIfInBounds_toArray, List.set_cons_zero, List.set_cons_succ])
        refine wpMid_step (by rfl) (fun K9 hK9 => ?_)
        unfold Oper.wp
        go_simp
        refine hK9 _ _ (⟨by go_simp, by go_simp, by go_simp⟩) ?_
        (try simp only [Act.put, List.setIfInBounds_toArray, List.set_cons_zero, List.set_cons_succ])
        refine wpMid_step (by rfl) (fun K9 hK9 => ?_)
        refine wpo_row_append _ _ _ (by rfl) j0 _ 24 Tryd.underlying49 hj0 hj1 hj2 hj3 (by rfl) (by rfl) HRw.out _ 1 1 (by rfl) [.slice (some ⟨wr.heap.size, 0, none⟩) M M] HSr.out hg63 hg47 ?_
        intro sv5 w7 r5 k5 o5
        obtain ⟨V5, cp5, rfl, hc5⟩ := r5.len
        obtain ⟨z2, z3, z4, z5, hA5⟩ := HR.out.row HM.out hp7 r5 k5 o5
        have HA5 := Lib.hid hA5
        clear hA5 o5 r5
        refine hK9 _ _ ⟨z4, z2, ((HX.out.1.trans (z5.mono HX.out.1.size)).cell (p := ⟨b2, off2 + a * 2 + 1, none⟩) hb2).trans HE2.out⟩ ?_
        refine wpMid_nil ?_
        clear hK9 K9 q0 q1 q2 q3 q4 hBl hPl c0 c1 hbr hbr2 HRw HSr hmk2 hsum har HE2 HR
        go_wp2_with fail
        refine absW (fun Y => Bld X Bw P f (updG G k wr.heap.size) (some ⟨b, off, none⟩) cells.length ca (pnL L) cells free (.slice V5 (k + 1) cp5) vD (k + 1) k Y) HA5.out ?_
        rintro Y hY
        clear HA5 z2 z3 z4 z5 k5
        obtain ⟨q0, q1, q2, q3, q4, hBl, hPl⟩ := hY.cells
        have HY := Lib.hid hY
        have HRw : Hid (Row ((Y.alloc (.cells #[.int .i64 (-1)] 3)).drew) 3 1 vD k (ivals (List.replicate k (-1)))) := (hY.rd.alloc _).drew
        have HSr : Hid (Src ((Y.alloc (.cells #[.int .i64 (-1)] 3)).drew) (some ⟨Y.heap.size, 0, none⟩) 1 1 [.int .i64 (-1)]) :=
          Src.block (cs := #[.int .i64 (-1)]) (t := 3) (fr := (0, 0)) (heap_alloc_new Y _) rfl (by simp [Value.oneCell'])
        have hg47 : (k + 1) * 8 ≤ 140737488355328 := by omega
        clear hY
        refine region_hs 5 7 (fun X' => X'.cell? ⟨Bw, 0, none⟩ = some (.pointer (some ⟨P, 0, none⟩)) ∧ X'.cell? ⟨P, 3, none⟩ = some vD) (by kernel_rfl) (by kernel_rfl) (fun _ _ d _ _ h => by cases d <;> exact h) ⟨q0, q2⟩ ?_
        simp only [List.take_succ_cons, List.take_zero, List.drop_succ_cons, List.drop_zero]
        iterate 5 (refine wpHead_step (v := ?_) (by rfl) ?_ ?_; rotate_left; (· intro W9 hSw; (try dsimp only at hSw); go_simp; try with_reducible rfl); (try simp only [Act.put, List.setIfInBounds_toArray, List.set_cons_zero, List.set_cons_succ]))
        refine wpHead_nil ?_
        refine wpMid_step (by rfl) (fun K9 hK9 => ?_)
        unfold Oper.wp
        go_simp
        refine hK9 _ _ (⟨by go_simp, by go_simp⟩) ?_
        (try simp only [Act.put, List.setIfInBounds_toArray, List.set_cons_zero, List.set_cons_succ])
        refine wpMid_step (by rfl) (fun K9 hK9 => ?_)
        refine wpo_row_append _ _ _ (by rfl) i0 _ 8 Tryd.underlying61 hi0 hi1 hi2 hi3 (by rfl) (by rfl) HRw.out _ 1 1 (by rfl) [.int .i64 (-1)] HSr.out hg63 hg47 ?_
        intro sv6 w8 r6 k6 o6
        obtain ⟨V6, cp6, rfl, hc6⟩ := r6.len
        obtain ⟨z2, z3, z4, z5, hA6⟩ := HY.out.fnd r6 k6 o6
        have HA6 := Lib.hid hA6
        clear hA6 o6 r6 k6 HRw HSr
        refine hK9 _ _ ⟨z4, z2⟩ ?_
        refine wpMid_nil ?_
        clear hK9 K9 q0 q1 q2 q3 q4 HY
        go_wp2
        go_roundw
        case rel => exact ⟨k + 1, _, _, _, by go_num, by omega, HA6⟩
        case measure => simp [intOf]; omega
      · obtain rfl : k = cells.length := by omega
        have H2 : Hid (Bl2 X Bw P f G VA cells.length ca (pnL L) cells free vC vD (lkT (lnk (W.take 0))) wr) := HR.out.two
        have HNb : Hid (NBox wr w.heap.size VA cells.length ca free VB W.length cb) := HX.out.2.below HR.out.bl
        clear HR
        have n2 := HNb.out.c2
        have hwl := HNb.out.lt
        go_wp2_with fail
        go_loopw [10, 55] (fun _ i wr => ∃ k : Nat, i = .int .i64 k ∧ k ≤ W.length ∧ Hid (Bl2 X Bw P f G VA cells.length ca (pnL L) cells free vC vD (lkT (lnk (W.take k))) wr)) (fun _ i _ => W.length - (intOf i).toNat)
        case atStart => exact ⟨0, rfl, by omega, H2⟩
        case round =>
          obtain ⟨k, rfl, hk, HR⟩ := hrel
          clear H2 n2 hwl HNb
          by_cases hlt2 : k < W.length
          · obtain ⟨b, off, rfl, hb, e0, e1, e2, e3⟩ := HW.out k hlt2
            have hbw : Below w.heap.size w wr := HX.out.1.trans (HR.out.bl.mono HX.out.1.size)
            have d0 := (hbw.cell (p := ⟨b, off + k * 4, none⟩) hb).trans e0
            have d1 := (hbw.cell (p := ⟨b, off + k * 4 + 1, none⟩) hb).trans e1
            have d2 := (hbw.cell (p := ⟨b, off + k * 4 + 2, none⟩) hb).trans e2
            have d3 := (hbw.cell (p := ⟨b, off + k * 4 + 3, none⟩) hb).trans e3
            clear e0 e1 e2 e3
            have HNX := Lib.hid (lnk_upd hlt2 hok.out.nodup)
            have HI := Lib.hid (hok.out.is _ (ends_at hlt2).1)
            have HJ := Lib.hid (hok.out.is _ (ends_at hlt2).2)
            generalize W.getD k default = x at d0 d1 d2 d3 HNX HI HJ
            obtain ⟨⟨x0, x1⟩, x2, x3⟩ := x
            have HZ : Hid (Bl2 X Bw P f G VA cells.length ca (pnL L) cells free vC vD (lkT (lnk (W.take k))) (wr.alloc (.cells #[.int .i64 x0, .int .i64 x1, .int .i64 x2, .int .i64 x3] 108))) := HR.out.grow ((Below.refl _ _).alloc (Nat.le_refl _) _)
            have HT := Lib.hid (heap_alloc_new wr (.cells #[.int .i64 x0, .int .i64 x1, .int .i64 x2, .int .i64 x3] 108))
            obtain ⟨b0, b1, b2, b3⟩ := wbox_cells HT.out
            have hp7 := pnL_le hs
            go_wp2_with (go_at_call 103
                         refine (Bl2.put4 HZ _ _ _ _ rfl (by omega) (by omega) hp7 (by first | (with_reducible exact HI.out) | (with_reducible exact HJ.out))).mono ?_
                         rintro e w5 ⟨rfl, h5, k5⟩
                         have HT := Lib.hid ((k5 _ _ _ HT.out (by decide)).trans HT.out)
                         have HZ := Lib.hid h5
                         clear h5 k5
                         obtain ⟨b0, b1, b2, b3⟩ := wbox_cells HT.out)
            go_roundw
            case rel => exact ⟨k + 1, by go_num, by omega, by rw [HNX.out]; exact HZ⟩
            case measure => simp [intOf]; omega
          · obtain rfl : k = W.length := by omega
            have HWb : Hid (Web wr P f G VA cells.length ca (pnL L) cells free vC vD cells.length (lkT (lnk W))) := by
              have := HR.out.web
              rw [List.take_length] at this
              exact this
            have HD := Lib.hid HR.out.rd
            have HB9 := Lib.hid (HX.out.1.trans (HR.out.bl.mono HX.out.1.size))
            have HLo : Hid (∀ b, webB P f G vC cells.length b → w.heap.size ≤ b) := fun b hb => Nat.le_trans HX.out.1.size (HR.out.lo b hb)
            have HLoD : Hid (∀ b ∈ ownB vD, w.heap.size ≤ b) := fun b hb => Nat.le_trans HX.out.1.size (HR.out.loD b hb)
            obtain ⟨q0, qB⟩ := HR.out.cell
            clear HR hlt2 hk
            go_wp2_with fail
            refine bodyPost_ret (v := .pointer (some ⟨P, 0, none⟩)) (by simp only [results, Tryd.results88]; go_simp) rfl ?_
            exact ⟨P, f, G, vC, vD, rfl, HWb.out, HD.out, HB9.out, HLo.out, HLoD.out⟩
end
end Go.Proofs.YtkonfogebepccaaDoor
