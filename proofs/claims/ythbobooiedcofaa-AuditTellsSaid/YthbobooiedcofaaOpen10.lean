/-
  Changes behind a wiring's back, as they come in.
-/
import Derived.Test.YthbobooiedcofaaOpenGen
namespace Go.Proofs.Ythbobooiedcofaa
open Go.RowKit Go.WideShapes Go.ChangeShapes Go.Deep Go.Joins
set_option maxRecDepth 100000

/-- A change: how, at what port, which word. -/
abbrev Chg := Int × Pt × Fin 4294967296
def ChR (w : World) (V : Option Addr) (L : List Chg) : Prop := ∀ i, i < L.length → ∃ b off, V = some ⟨b, off, none⟩ ∧ b < w.heap.size ∧ w.cell? ⟨b, off + i * 4, none⟩ = some (.int .i64 (L.getD i default).1) ∧ w.cell? ⟨b, off + i * 4 + 1, none⟩ = some (.int .i64 (L.getD i default).2.1.1) ∧
  w.cell? ⟨b, off + i * 4 + 2, none⟩ = some (.int .i64 (L.getD i default).2.1.2) ∧ w.cell? ⟨b, off + i * 4 + 3, none⟩ = some (.int .u32 ((L.getD i default).2.2.val : Int))
theorem ChR.below {w w' : World} {A : Option Addr} {L : List Chg} (h : ChR w A L) (hb : Below w.heap.size w w') : ChR w' A L := fun i hi => by
  obtain ⟨b, off, e, hl, h0, h1, h2, h3⟩ := h i hi
  exact ⟨b, off, e, Nat.lt_of_lt_of_le hl hb.size, (hb.cell (p := ⟨b, _, none⟩) hl).trans h0, (hb.cell (p := ⟨b, _, none⟩) hl).trans h1, (hb.cell (p := ⟨b, _, none⟩) hl).trans h2, (hb.cell (p := ⟨b, _, none⟩) hl).trans h3⟩
section
variable {H : Type} {enc : TypeId × Value → H} {W : World}
theorem cells_chg : Try.prog.cellsOf 95 = 4 := by kernel_rfl
theorem cells_u32 : Try.prog.cellsOf 49 = 1 := by kernel_rfl
theorem u32_cs {n : Nat} {cs : List Value} {y : DataW H × List MemPlace} (h : DataW.trod enc Try.prog W 0 (fun _ => true) true n 49 cs = some y) : ∃ x : Fin 4294967296, cs = [.int .u32 (x.val : Int)] := by
  obtain ⟨d, e0, _, hw⟩ := DataW.trod_int Try.underlying49 h
  have hb := bounds_u32 hw
  exact ⟨⟨d.toNat, by omega⟩, by rw [e0]; simp; omega⟩
theorem chg_cs {n : Nat} {cs : List Value} {y : DataW H × List MemPlace} (h : DataW.trod enc Try.prog W 0 (fun _ => true) true n 95 cs = some y) (hl : cs.length = 4) : ∃ x : Chg, cs = [.int .i64 x.1, .int .i64 x.2.1.1, .int .i64 x.2.1.2, .int .u32 (x.2.2.val : Int)] := by
  obtain ⟨xs, k, hk, hxy, _, hxl, hf⟩ := DataW.trod_struct Try.underlying95 h
  match cs, hl with
  | [v0, v1, v2, v3], _ =>
    match xs, hxl with
    | [y0, y1, y2], _ =>
      have g0 := hf 0 _ rfl
      have g1 := hf 1 _ rfl
      have g2 := hf 2 _ rfl
      simp [cells_int, cells_port, cells_u32] at g0 g1 g2
      obtain ⟨k, e0⟩ := int_cs g0
      obtain ⟨p, e1⟩ := port_cs g1 rfl
      obtain ⟨q, e2⟩ := u32_cs g2
      simp only [List.cons.injEq, and_true] at e0 e1 e2
      exact ⟨(k, p, q), by rw [e0, e1.1, e1.2, e2]⟩
variable {r : Reach} {b0 : Nat} {v : Value} {d : DataW H} {p : List MemPlace}
theorem open_changes (hv : Value.okWide Try.prog W r b0 91 v) (h : DataW.Trod enc Try.prog W 0 (fun _ => true) true 91 v d p) : ∃ A, ∃ L : List Chg, ∃ cap, v = .slice A L.length cap ∧ L.length ≤ maxLen ∧ ChR W A L := by
  obtain ⟨n, hn⟩ := open_sl Try.underlying91 hv h
  obtain ⟨A, l, cap, rfl, h1, h2, h3⟩ := opens (α := Chg) (fun x => [.int .i64 x.1, .int .i64 x.2.1.1, .int .i64 x.2.1.2, .int .u32 (x.2.2.val : Int)]) Try.underlying91 cells_chg (by omega) (fun _ _ _ h hl => chg_cs h hl) hn
  refine ⟨A, l, cap, rfl, by omega, fun i hi => ?_⟩
  obtain ⟨b, off, e, hb, hc⟩ := h3 i hi
  exact ⟨b, off, e, hb, by have := hc 0 (by omega); simpa using this, by have := hc 1 (by omega); simpa using this, by have := hc 2 (by omega); simpa using this, by have := hc 3 (by omega); simpa using this⟩
end
end Go.Proofs.Ythbobooiedcofaa
