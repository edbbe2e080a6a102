/-
  A script of an agenda as it comes in: a slice of steps.
-/
import Derived.Test.YtkonfogebepccaaDoorChecked
import Derived.Test.YtkonfogebepccaaDoorFrame
import Derived.Test.YtkonfogebepccaaDoorBase
import Derived.OpenShut
namespace Go.Proofs.YtkonfogebepccaaDoor
open Go.RowKit Go.WideShapes Go.ChangeShapes Go.Deep
set_option maxRecDepth 100000

def AStepsAt (W : World) (V : Option Addr) (L : List (Int × Int × Int)) : Prop := ∀ (i : Nat) (h : i < L.length), ∃ b off, V = some ⟨b, off, none⟩ ∧ b < W.heap.size ∧ W.cell? ⟨b, off + i * 3, none⟩ = some (.int .i64 L[i].1) ∧ W.cell? ⟨b, off + i * 3 + 1, none⟩ = some (.int .i64 L[i].2.1) ∧
  W.cell? ⟨b, off + i * 3 + 2, none⟩ = some (.int .i64 L[i].2.2)
theorem cells_astep : Tryd.prog.cellsOf 31 = 3 := by kernel_rfl
theorem cells_aint : Tryd.prog.cellsOf 3 = 1 := by kernel_rfl
theorem astep_at {H : Type} {enc : TypeId × Value → H} {w : World} {base : Nat} {spare : Nat → Bool} {held : Bool} {n : Nat} {cs : List Value} {y : DataW H × List MemPlace} (h : DataW.trod enc Tryd.prog w base spare held n 31 cs = some y) (hl : cs.length = 3) :
    ∃ d a b : Int, cs = [.int .i64 d, .int .i64 a, .int .i64 b] := by
  obtain ⟨xs, k, hk, hxy, _, hxl, hf⟩ := DataW.trod_struct Tryd.underlying31 h
  match cs, hl with
  | [v0, v1, v2], _ =>
    match xs, hxl with
    | [y0, y1, y2], _ =>
      have g0 := hf 0 _ rfl
      have g1 := hf 1 _ rfl
      have g2 := hf 2 _ rfl
      simp [cells_aint] at g0 g1 g2
      obtain ⟨d, e0, _, _⟩ := DataW.trod_int Tryd.underlying3 g0
      obtain ⟨a, e1, _, _⟩ := DataW.trod_int Tryd.underlying3 g1
      obtain ⟨b, e2, _, _⟩ := DataW.trod_int Tryd.underlying3 g2
      simp only [List.cons.injEq, and_true] at e0 e1 e2
      subst e0 e1 e2
      exact ⟨d, a, b, rfl⟩
theorem open_asteps {H : Type} {enc : TypeId × Value → H} {W : World} {r : Reach} {b0 : Nat} {v : Value} {d : DataW H} {p : List MemPlace} (hval : Value.okWide Tryd.prog W r b0 22 v)
    (h : DataW.Trod enc Tryd.prog W 0 (fun _ => true) true 22 v d p) : ∃ V L cap, v = .slice V (List.length L) cap ∧ AStepsAt W V L := by
  obtain ⟨V, len, cap, rfl⟩ := okWide_slice Tryd.underlying22 hval
  obtain ⟨n, hn⟩ := h
  rcases open_slice Tryd.underlying22 hn with ⟨hc, _⟩ | ⟨a, len', cap', m, k, D, Pl, hc, _, hl, _, hm, _, hx⟩
  · simp [Value.cells] at hc
    obtain ⟨rfl, rfl, rfl⟩ := hc
    exact ⟨none, [], 0, rfl, fun i hi => absurd hi (by simp)⟩
  · simp [Value.cells] at hc
    obtain ⟨rfl, rfl, rfl⟩ := hc
    simp only [if_true] at hm
    subst hm
    have each : ∀ i, i < len → ∃ q : Int × Int × Int, ∃ b off, a = ⟨b, off, none⟩ ∧ W.cell? ⟨b, off + i * 3, none⟩ = some (.int .i64 q.1) ∧ W.cell? ⟨b, off + i * 3 + 1, none⟩ = some (.int .i64 q.2.1) ∧ W.cell? ⟨b, off + i * 3 + 2, none⟩ = some (.int .i64 q.2.2) := by
      intro i hi
      obtain ⟨cs', h1, h2⟩ := hx i (by omega)
      rw [cells_astep] at h1
      obtain ⟨_, hlen, hcell⟩ := World.cells?_some h1
      obtain ⟨x, y, z, rfl⟩ := astep_at h2 hlen
      have e0 := hcell 0 (by omega)
      have e1 := hcell 1 (by omega)
      have e2 := hcell 2 (by omega)
      rw [Go.Deep.add_add] at e0 e1 e2
      obtain ⟨b, off, spot⟩ := a
      have hspot : spot = none := by
        obtain ⟨cs0, h10, h20⟩ := hx 0 (by omega)
        rw [cells_astep] at h10
        obtain ⟨_, hlen0, hcell0⟩ := World.cells?_some h10
        obtain ⟨x0, y0, z0, rfl⟩ := astep_at h20 hlen0
        have := World.cell?_spot (hcell0 0 (by omega))
        simpa [Addr.add] using this
      subst hspot
      simp only [Addr.add_lit] at e0 e1 e2
      exact ⟨(x, y, z), b, off, rfl, by simpa using e0, by simpa [Nat.add_assoc] using e1, by simpa [Nat.add_assoc] using e2⟩
    obtain ⟨q, hq⟩ := choose_lt each
    refine ⟨some a, (List.range len).map q, m, by simp, fun i hi => ?_⟩
    simp at hi
    obtain ⟨b, off, ha, e0, e1, e2⟩ := hq i hi
    have hlt : b < W.heap.size := by
      simp only [World.cell?] at e0
      cases hb : W.heap[b]? with
      | none => simp [hb] at e0
      | some o =>
        rcases Nat.lt_or_ge b W.heap.size with hl | hl
        · exact hl
        · rw [Array.getElem?_eq_none hl] at hb; cases hb
    simp only [List.getElem_map, List.getElem_range]
    exact ⟨b, off, by rw [ha], hlt, e0, e1, e2⟩
end Go.Proofs.YtkonfogebepccaaDoor
