/-
  The parts that walk.Parts answers, in memory of their own.
-/
import Derived.Test.YtogbanlfihabpaaPartsDoc2
import Derived.Test.YtogbanlfihabpaaApartPlain
namespace Go.Proofs.Ytogbanlfihabpaa
open Go.RowKit
set_option maxRecDepth 100000
set_option linter.unusedVariables false
def paW (q : PV) : Pa := (q.xs, q.ys)
structure PaS (w X : World) (v : Value) (qs : List PV) : Prop where
  bel : Below w.heap.size w X
  lr : Row X 38 2 v qs.length (pvCells qs)
  q1 : ∀ q ∈ qs, Row X 3 1 q.a q.xs.length (ivals q.xs) ∧ Row X 3 1 q.b q.ys.length (ivals q.ys)
  dj : (pvCells qs).Pairwise fun u u' => ∀ b ∈ ownB u, b ∉ ownB u'
  lo : ∀ u ∈ pvCells qs, ∀ b ∈ ownB u, w.heap.size ≤ b
section
variable {w X Y : World} {v : Value} {qs : List PV}
theorem PaS.below (h : PaS w X v qs) (hb : Below X.heap.size X Y) : PaS w Y v qs :=
  ⟨h.bel.trans (hb.mono h.bel.size), h.lr.keep fun b hm => hb.block b (h.lr.lt b hm), fun q hq => ⟨(h.q1 q hq).1.keep fun b hm => hb.block b ((h.q1 q hq).1.lt b hm), (h.q1 q hq).2.keep fun b hm => hb.block b ((h.q1 q hq).2.lt b hm)⟩, h.dj, h.lo⟩
theorem PaS.from {w0 : World} (h : PaS w X v qs) (hb : Below w0.heap.size w0 w) : PaS w0 X v qs := ⟨hb.trans (h.bel.mono hb.size), h.lr, h.q1, h.dj, fun u hu b hm => Nat.le_trans hb.size (h.lo u hu b hm)⟩
theorem PaS.hi (h : PaS w X v qs) {u : Value} (hu : u ∈ pvCells qs) {b : Nat} (hb : b ∈ ownB u) : b < X.heap.size := by
  obtain ⟨q, hq, rfl | rfl⟩ := pv_mem hu
  · exact (h.q1 q hq).1.lt b hb
  · exact (h.q1 q hq).2.lt b hb
theorem PaS.none (hb : Below w.heap.size w X) : PaS w X (.slice none 0 0) [] := ⟨hb, Row.nil _ _ _, by simp, List.Pairwise.nil, by simp [pvCells]⟩
theorem PtS.pa {w1 : World} {bl bw bo bf P go gf n f : Nat} {ofs frs : List Int} (h : PtS w1 X bl bw bo bf P go gf n f ofs frs v qs) (hb : Below w.heap.size w w1) : PaS w X v qs :=
  ⟨hb.trans (h.bel.mono hb.size), h.lr, h.q1, h.dj, fun u hu b hm => Nat.le_trans hb.size (h.lo.2 u hu b hm)⟩
/-- The parts' lists are short. -/
def LenP (Q : List Pa) : Prop := Q.length ≤ 100000 ∧ ∀ x ∈ Q, x.1.length ≤ 100000 ∧ x.2.length ≤ 100000
theorem LenP.nil : LenP [] := ⟨by simp, by simp⟩
theorem pnL_pos {L : List (ByteArray × Int)} {cells : List Int} (hs : SigOk L) (hag : ∀ i, i < cells.length → 0 ≤ cells.getD i 0 ∧ cells.getD i 0 < L.length) (j : Nat) (hj : j < cells.length) : 0 < pnL L (cells.getD j 0) := by
  obtain ⟨h0, h1⟩ := hag j hj
  have h2 := pnL_in hs h0 h1
  have h3 := (hs.ar (cells.getD j 0).toNat (by omega)).1
  omega
theorem parts_len {L : List (ByteArray × Int)} {cells : List Int} {f : Nat} {W : List (Pt × Pt)} (hs : SigOk L) (hok : NetOk (pnL L) cells f W) (hc : cells.length ≤ 5000) (hf : f ≤ 100) : LenP (partsK (pnL L) cells f (lkM W) [] (allPs (pnL L) cells f)) := by
  obtain ⟨h1, _, _⟩ := PaOk.all hok (allPs (pnL L) cells f) [] ⟨by simp, List.Pairwise.nil⟩ fun p hp => allPs_is _ hp
  refine ⟨?_, fun x hx => ?_⟩
  · have h2 := partsK_len (pn := pnL L) (cs := cells) (f := f) (Lk := lkM W) (allPs (pnL L) cells f) (l := [])
    have h3 := firstN_le (pnL_le hs) cells f cells.length
    rw [allPs_len, List.length_nil] at h2
    omega
  · obtain ⟨p, hp, rfl⟩ := h1.of x hx
    have h2 := srtC_len cells.length (wlk (pnL L) cells (lkM W) p)
    have h3 := frL_len f (lkM W) p (wlk (pnL L) cells (lkM W) p)
    constructor
    · show (srtC cells.length (wlk (pnL L) cells (lkM W) p)).length ≤ _; omega
    · show (frL f (lkM W) p (wlk (pnL L) cells (lkM W) p)).length ≤ _; omega
end
/-- What is read of a signature and a net. -/
structure Rd (w : World) (A VA VB : Option Addr) (L : List (ByteArray × Int)) (cells : List Int) (W : List (Pt × Pt)) : Prop where
  a : AgRd w A L
  c : IntsRd w VA cells
  w : WrRd w VB W
theorem Rd.below {w w' : World} {A VA VB : Option Addr} {L : List (ByteArray × Int)} {cells : List Int} {W : List (Pt × Pt)} (h : Rd w A VA VB L cells W) (hb : Below w.heap.size w w') : Rd w' A VA VB L cells W := ⟨h.a.below hb, h.c.below hb, h.w.below hb⟩
def AnsF (w : World) (k : Int) (code : List Int) : Ending → World → Prop := fun e w' => ∃ V c, e = .returned (.tuple #[.slice V code.length c, .int .i64 k]) ∧ Fresh w w' 3 1 code.length (.slice V code.length c) (ivals code)
theorem AnsF.none {w w' : World} {k : Int} {e : Ending} (h : e = .returned (.tuple #[.slice none 0 0, .int .i64 k]) ∧ Below w.heap.size w w') : AnsF w k [] e w' := ⟨Option.none, 0, h.1, (Fresh.nil w _ _).later h.2⟩
def AnsP (w : World) (k : Int) (Q : List Pa) : Ending → World → Prop := fun e w' => ∃ V c qs, e = .returned (.tuple #[.slice V Q.length c, .int .i64 k]) ∧ PaS w w' (.slice V Q.length c) qs ∧ qs.map paW = Q
theorem AnsP.none {w w' : World} {k : Int} {e : Ending} (h : e = .returned (.tuple #[.slice none 0 0, .int .i64 k]) ∧ Below w.heap.size w w') : AnsP w k [] e w' := ⟨Option.none, 0, [], h.1, PaS.none h.2, rfl⟩
theorem AnsP.of {w w' : World} {k : Int} {Q : List Pa} {e : Ending} {v : Value} {qs : List PV} (he : e = .returned (.tuple #[v, .int .i64 k])) (h : PaS w w' v qs) (hQ : qs.map paW = Q) : AnsP w k Q e w' := by
  have hl : qs.length = Q.length := by rw [← hQ, List.length_map]
  obtain ⟨V, c, rfl, _⟩ := h.lr.len
  rw [hl] at he h
  exact ⟨V, c, qs, he, h, hQ⟩
end Go.Proofs.Ytogbanlfihabpaa
