/-
  A script as it comes in: a slice of steps.
-/
import Derived.Test.YtbdfkgchliakfaaFrame
import Derived.Test.YtbdfkgchliakfaaPlays
import Derived.OpenShut
namespace Go.Proofs.Ytbdfkgchliakfaa
open Go.RowKit Go.WideShapes Go.ChangeShapes Go.Deep
set_option maxRecDepth 100000

theorem cells_step : Try.prog.cellsOf 69 = 4 := by kernel_rfl
theorem cells_int : Try.prog.cellsOf 3 = 1 := by kernel_rfl
theorem cells_u32 : Try.prog.cellsOf 24 = 1 := by kernel_rfl
theorem step_at {H : Type} {enc : TypeId × Value → H} {w : World} {base : Nat} {spare : Nat → Bool} {held : Bool} {n : Nat} {cs : List Value} {y : DataW H × List MemPlace} (h : DataW.trod enc Try.prog w base spare held n 69 cs = some y) (hl : cs.length = 4) :
    ∃ d a b v : Int, cs = [.int .i64 d, .int .i64 a, .int .i64 b, .int .u32 v] ∧ (Lit.int .u32 v).wf = true := by
  obtain ⟨xs, k, hk, hxy, _, hxl, hf⟩ := DataW.trod_struct Try.underlying69 h
  match cs, hl with
  | [v0, v1, v2, v3], _ =>
    match xs, hxl with
    | [y0, y1, y2, y3], _ =>
      have g0 := hf 0 _ rfl
      have g1 := hf 1 _ rfl
      have g2 := hf 2 _ rfl
      have g3 := hf 3 _ rfl
      simp [cells_int, cells_u32] at g0 g1 g2 g3
      obtain ⟨d, e0, _, _⟩ := DataW.trod_int Try.underlying3 g0
      obtain ⟨a, e1, _, _⟩ := DataW.trod_int Try.underlying3 g1
      obtain ⟨b, e2, _, _⟩ := DataW.trod_int Try.underlying3 g2
      obtain ⟨v, e3, _, hw⟩ := DataW.trod_int Try.underlying24 g3
      simp only [List.cons.injEq, and_true] at e0 e1 e2 e3
      subst e0 e1 e2 e3
      exact ⟨d, a, b, v, rfl, hw⟩
theorem open_steps {H : Type} {enc : TypeId × Value → H} {W : World} {r : Reach} {b0 : Nat} {v : Value} {d : DataW H} {p : List MemPlace} (hval : Value.okWide Try.prog W r b0 64 v)
    (h : DataW.Trod enc Try.prog W 0 (fun _ => true) true 64 v d p) : ∃ V L cap, v = .slice V (List.length L) cap ∧ StepsAt W V L := by
  obtain ⟨V, len, cap, rfl⟩ := okWide_slice Try.underlying64 hval
  obtain ⟨n, hn⟩ := h
  rcases open_slice Try.underlying64 hn with ⟨hc, _⟩ | ⟨a, len', cap', m, k, D, Pl, hc, _, hl, _, hm, _, hx⟩
  · simp [Value.cells] at hc
    obtain ⟨rfl, rfl, rfl⟩ := hc
    exact ⟨none, [], 0, rfl, fun i hi => absurd hi (by simp)⟩
  · simp [Value.cells] at hc
    obtain ⟨rfl, rfl, rfl⟩ := hc
    simp only [if_true] at hm
    subst hm
    have each : ∀ i, i < len → ∃ q : Int × Int × Int × Int, ∃ b off, a = ⟨b, off, none⟩ ∧ W.cell? ⟨b, off + i * 4, none⟩ = some (.int .i64 q.1) ∧ W.cell? ⟨b, off + i * 4 + 1, none⟩ = some (.int .i64 q.2.1) ∧ W.cell? ⟨b, off + i * 4 + 2, none⟩ = some (.int .i64 q.2.2.1) ∧ W.cell? ⟨b, off + i * 4 + 3, none⟩ = some (.int .u32 q.2.2.2) ∧ (Lit.int .u32 q.2.2.2).wf = true := by
      intro i hi
      obtain ⟨cs', h1, h2⟩ := hx i (by omega)
      rw [cells_step] at h1
      obtain ⟨_, hlen, hcell⟩ := World.cells?_some h1
      obtain ⟨x, y, z, u, rfl, hw⟩ := step_at h2 hlen
      have e0 := hcell 0 (by omega)
      have e1 := hcell 1 (by omega)
      have e2 := hcell 2 (by omega)
      have e3 := hcell 3 (by omega)
      rw [Go.Deep.add_add] at e0 e1 e2 e3
      obtain ⟨b, off, spot⟩ := a
      have hspot : spot = none := by
        obtain ⟨cs0, h10, h20⟩ := hx 0 (by omega)
        rw [cells_step] at h10
        obtain ⟨_, hlen0, hcell0⟩ := World.cells?_some h10
        obtain ⟨x0, y0, z0, u0, rfl, _⟩ := step_at h20 hlen0
        have := World.cell?_spot (hcell0 0 (by omega))
        simpa [Addr.add] using this
      subst hspot
      simp only [Addr.add_lit] at e0 e1 e2 e3
      refine ⟨(x, y, z, u), b, off, rfl, by simpa using e0, by simpa [Nat.add_assoc] using e1, by simpa [Nat.add_assoc] using e2, by simpa [Nat.add_assoc] using e3, hw⟩
    obtain ⟨q, hq⟩ := choose_lt each
    refine ⟨some a, (List.range len).map q, m, by simp, fun i hi => ?_⟩
    simp at hi
    obtain ⟨b, off, ha, e0, e1, e2, e3, hw⟩ := hq i hi
    have hlt : b < W.heap.size := by
      simp only [World.cell?] at e0
      cases hb : W.heap[b]? with
      | none => simp [hb] at e0
      | some o => exact heap_lt hb
    have hb := bounds_u32 hw
    simp only [List.getElem_map, List.getElem_range]
    exact ⟨b, off, by rw [ha], hlt, e0, e1, e2, e3, by omega, by omega⟩
end Go.Proofs.Ytbdfkgchliakfaa
