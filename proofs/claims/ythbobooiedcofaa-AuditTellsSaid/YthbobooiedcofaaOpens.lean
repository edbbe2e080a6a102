/-
  Arguments as they come in: slices of ints, of agents, of wires, of ports; nets.
-/
import Derived.Test.YthbobooiedcofaaOpenGen
import Derived.Test.YthbobooiedcofaaRef02
import Derived.Test.YthbobooiedcofaaRef02
import Derived.OpenShut
import Derived.Lib.SmallJoins
import Derived.ChangeMaps5
namespace Go.Proofs.Ythbobooiedcofaa
open Go.RowKit Go.WideShapes Go.ChangeShapes Go.Deep Go.Joins
set_option maxRecDepth 100000

section
variable {H : Type} {enc : TypeId × Value → H} {W : World}
theorem cells_string : Try.prog.cellsOf 9 = 1 := by kernel_rfl
theorem cells_agent : Try.prog.cellsOf 89 = 2 := by kernel_rfl
theorem cells_wire : Try.prog.cellsOf 55 = 4 := by kernel_rfl
theorem agent_cs {n : Nat} {cs : List Value} {y : DataW H × List MemPlace} (h : DataW.trod enc Try.prog W 0 (fun _ => true) true n 89 cs = some y) (hl : cs.length = 2) : ∃ x : ByteArray × Int, cs = [.string x.1, .int .i64 x.2] := by
  obtain ⟨xs, k, hk, hxy, _, hxl, hf⟩ := DataW.trod_struct Try.underlying89 h
  match cs, hl with
  | [v0, v1], _ =>
    match xs, hxl with
    | [y0, y1], _ =>
      have g0 := hf 0 _ rfl
      have g1 := hf 1 _ rfl
      simp [cells_int, cells_string] at g0 g1
      obtain ⟨s, e0, _⟩ := DataW.trod_string Try.underlying9 g0
      obtain ⟨a, e1⟩ := int_cs g1
      simp only [List.cons.injEq, and_true] at e0 e1
      exact ⟨(s, a), by rw [e0, e1]⟩
theorem wire_cs {n : Nat} {cs : List Value} {y : DataW H × List MemPlace} (h : DataW.trod enc Try.prog W 0 (fun _ => true) true n 55 cs = some y) (hl : cs.length = 4) : ∃ x : Pt × Pt, cs = [.int .i64 x.1.1, .int .i64 x.1.2, .int .i64 x.2.1, .int .i64 x.2.2] := by
  obtain ⟨xs, k, hk, hxy, _, hxl, hf⟩ := DataW.trod_struct Try.underlying55 h
  match cs, hl with
  | [v0, v1, v2, v3], _ =>
    match xs, hxl with
    | [y0, y1], _ =>
      have g0 := hf 0 _ rfl
      have g1 := hf 1 _ rfl
      simp [cells_port] at g0 g1
      obtain ⟨p, e0⟩ := port_cs g0 rfl
      obtain ⟨q, e1⟩ := port_cs g1 rfl
      simp only [List.cons.injEq, and_true] at e0 e1
      exact ⟨(p, q), by rw [e0.1, e0.2, e1.1, e1.2]⟩
theorem trod_ints {n : Nat} {v : Value} {y : DataW H × List MemPlace} (h : DataW.trod enc Try.prog W 0 (fun _ => true) true n 64 [v] = some y) : ∃ A, ∃ l : List Int, ∃ cap, v = .slice A l.length cap ∧ l.length ≤ cap ∧ cap ≤ maxLen ∧ IntsRd W A l := by
  obtain ⟨A, l, cap, rfl, h1, h2, h3⟩ := opens (α := Int) (fun x => [.int .i64 x]) Try.underlying64 cells_int (by omega) (fun _ _ _ h _ => int_cs h) h
  refine ⟨A, l, cap, rfl, h1, h2, fun i hi => ?_⟩
  obtain ⟨b, off, e, hb, hc⟩ := h3 i hi
  exact ⟨b, off, e, hb, by have := hc 0 (by omega); simpa using this⟩
theorem trod_agents {n : Nat} {v : Value} {y : DataW H × List MemPlace} (h : DataW.trod enc Try.prog W 0 (fun _ => true) true n 63 [v] = some y) : ∃ A, ∃ L : List (ByteArray × Int), ∃ cap, v = .slice A L.length cap ∧ L.length ≤ cap ∧ cap ≤ maxLen ∧ AgRd W A L := by
  obtain ⟨A, l, cap, rfl, h1, h2, h3⟩ := opens (α := ByteArray × Int) (fun x => [.string x.1, .int .i64 x.2]) Try.underlying63 cells_agent (by omega) (fun _ _ _ h hl => agent_cs h hl) h
  refine ⟨A, l, cap, rfl, h1, h2, fun i hi => ?_⟩
  obtain ⟨b, off, e, hb, hc⟩ := h3 i hi
  have e1 : l.getD i default = l.getD i (ByteArray.empty, 0) := by simp [hi]
  refine ⟨b, off, e, hb, ?_, ?_⟩
  · have := hc 0 (by omega); rw [e1] at this; simpa [agN] using this
  · have := hc 1 (by omega); rw [e1] at this; simpa [agA] using this
theorem trod_wires {n : Nat} {v : Value} {y : DataW H × List MemPlace} (h : DataW.trod enc Try.prog W 0 (fun _ => true) true n 65 [v] = some y) : ∃ A, ∃ l : List (Pt × Pt), ∃ cap, v = .slice A l.length cap ∧ l.length ≤ cap ∧ cap ≤ maxLen ∧ WrRd W A l := by
  obtain ⟨A, l, cap, rfl, h1, h2, h3⟩ := opens (α := Pt × Pt) (fun x => [.int .i64 x.1.1, .int .i64 x.1.2, .int .i64 x.2.1, .int .i64 x.2.2]) Try.underlying65 cells_wire (by omega) (fun _ _ _ h hl => wire_cs h hl) h
  refine ⟨A, l, cap, rfl, h1, h2, fun i hi => ?_⟩
  obtain ⟨b, off, e, hb, hc⟩ := h3 i hi
  exact ⟨b, off, e, hb, by have := hc 0 (by omega); simpa using this, by have := hc 1 (by omega); simpa using this, by have := hc 2 (by omega); simpa using this, by have := hc 3 (by omega); simpa using this⟩
variable {r : Reach} {b0 : Nat} {v : Value} {d : DataW H} {p : List MemPlace}
theorem open_agents (hv : Value.okWide Try.prog W r b0 63 v) (h : DataW.Trod enc Try.prog W 0 (fun _ => true) true 63 v d p) : ∃ A, ∃ L : List (ByteArray × Int), ∃ cap, v = .slice A L.length cap ∧ L.length ≤ cap ∧ cap ≤ maxLen ∧ AgRd W A L := by
  obtain ⟨n, hn⟩ := open_sl Try.underlying63 hv h
  exact trod_agents hn
theorem open_net (hv : Value.okWide Try.prog W r b0 67 v) (h : DataW.Trod enc Try.prog W 0 (fun _ => true) true 67 v d p) :
    ∃ VA VB ca cb, ∃ cells : List Int, ∃ free : Int, ∃ Wr : List (Pt × Pt), v = netV VA ca cells free VB cb Wr ∧ cells.length ≤ maxLen ∧ Wr.length ≤ maxLen ∧ IntsRd W VA cells ∧ WrRd W VB Wr := by
  obtain ⟨v0, v1, v2, y0, y1, y2, n, rfl, _, _, h0, h1, h2⟩ := open_agg3 Try.underlying67 (by kernel_rfl) (by kernel_rfl) hv h
  obtain ⟨A, l, cap, rfl, a1, a2, a3⟩ := trod_ints h0
  obtain ⟨f, e1⟩ := int_cs h1
  simp only [List.cons.injEq, and_true] at e1
  subst e1
  obtain ⟨B, l2, cap2, rfl, b1, b2, b3⟩ := trod_wires h2
  exact ⟨A, B, cap, cap2, l, f, l2, rfl, by omega, by omega, a3, b3⟩
end
end Go.Proofs.Ythbobooiedcofaa
