/-
  How long the lists of a net that is handed in may be.
-/
import Derived.Test.YtogbanlfihabpaaBase
import Derived.WideKeyArgs
import Derived.Deep.Slices
import Derived.Test.YtogbanlfihabpaaChecked
import Derived.Test.YtogbanlfihabpaaNetSpec
import Derived.Test.YtogbanlfihabpaaOwn
import Derived.OpenShut
import Derived.Lib.SmallJoins
import Derived.ChangeMaps5
import Derived.Test.YtogbanlfihabpaaReads
import Derived.Test.YtogbanlfihabpaaRef02
import Derived.SizedLaws
/-
  Arguments as they come in: slices of things of so many cells; ints, ports.
-/
/-
  The frame of a law whose arguments are slices, structs ..: they read behind the call as they read ahead of it.
-/
namespace Go.Proofs.Ytogbanlfihabpaa
open Go.RowKit Go.WideShapes Go.ChangeShapes
section
variable {H : Type} {enc : TypeId × Value → H} {P : Program} {base : Nat}
theorem trodAll_stays (hl : laidOutB P = true) {W W' : World} {sp' : Nat → Bool} : ∀ {ts : List TypeId} {vs : List Value} {ds : List (DataW H)} {ps : List MemPlace}, (∀ t ∈ ts, P.readableRec t = true ∧ t < P.types.size) →
    DataW.TrodAll enc P W base (fun _ => true) true ts vs ds ps → (∀ p ∈ ps, W.sameAt W' p) → (∀ p ∈ ps, sp' p.block = true) → DataW.TrodAll enc P W' base sp' true ts vs ds ps
  | [], [], [], _, _, h, _, _ => h
  | t :: ts, v :: vs, d :: ds, ps, ht, h, hs, hp => by
    obtain ⟨p, q, h1, h2, rfl⟩ := h
    exact ⟨p, q, Go.WideElems.Trod_stays hl (ht t (by simp)).1 (ht t (by simp)).2 h1 (fun x hx => hs x (by simp [hx])) (fun x hx => hp x (by simp [hx])), trodAll_stays hl (fun t hm => ht t (by simp [hm])) h2 (fun x hx => hs x (by simp [hx])) (fun x hx => hp x (by simp [hx])), rfl⟩
  | [], [], _ :: _, _, _, h, _, _ => h.elim
  | [], _ :: _, _, _, _, h, _, _ => h.elim
  | _ :: _, [], _, _, _, h, _, _ => h.elim
  | _ :: _, _ :: _, [], _, _, h, _, _ => h.elim
end
end Go.Proofs.Ytogbanlfihabpaa
namespace Go.Proofs.Ytogbanlfihabpaa
open Go.RowKit Go.WideShapes Go.ChangeShapes Go.Deep Go.Joins
set_option maxRecDepth 100000

section
variable {H : Type} {enc : TypeId × Value → H} {W : World}
theorem opens {E T : TypeId} {k : Nat} {α : Type} [Inhabited α] (el : α → List Value) (hT : Try.prog.underlying T = some (.slice E)) (hk : Try.prog.cellsOf E = k) (hk0 : 0 < k)
    (hel : ∀ n cs y, DataW.trod enc Try.prog W 0 (fun _ => true) true n E cs = some y → cs.length = k → ∃ x : α, cs = el x) {n : Nat} {v : Value} {y : DataW H × List MemPlace} (h : DataW.trod enc Try.prog W 0 (fun _ => true) true n T [v] = some y) :
    ∃ A, ∃ L : List α, ∃ cap, v = .slice A L.length cap ∧ L.length ≤ cap ∧ cap ≤ maxLen ∧ ∀ i, i < L.length → ∃ b off, A = some ⟨b, off, none⟩ ∧ b < W.heap.size ∧ ∀ j, j < k → W.cell? ⟨b, off + i * k + j, none⟩ = (el (L.getD i default))[j]? := by
  rcases open_slice hT h with ⟨hc, _⟩ | ⟨a, len, cap, m, k', D, Pl, hc, _, hl, hcm, hm, _, hx⟩
  · simp at hc
    subst hc
    exact ⟨none, [], 0, rfl, Nat.le_refl _, by simp, fun i hi => absurd hi (by simp)⟩
  · simp at hc
    subst hc
    simp only [if_true] at hm
    subst hm
    have each : ∀ i, i < len → ∃ x : α, ∃ b off, a = ⟨b, off, none⟩ ∧ b < W.heap.size ∧ ∀ j, j < k → W.cell? ⟨b, off + i * k + j, none⟩ = (el x)[j]? := by
      intro i hi
      obtain ⟨cs', h1, h2⟩ := hx i (by omega)
      rw [hk] at h1
      obtain ⟨_, hlen, hcell⟩ := World.cells?_some h1
      obtain ⟨x, rfl⟩ := hel _ _ _ h2 hlen
      obtain ⟨b, off, spot⟩ := a
      have c0 := hcell 0 (by omega)
      have hspot : spot = none := by
        obtain ⟨cs0, h10, _⟩ := hx 0 (by omega)
        rw [hk] at h10
        obtain ⟨_, hlen0, hcell0⟩ := World.cells?_some h10
        have := World.cell?_spot ((hcell0 0 (by omega)).trans (List.getElem?_eq_getElem (by omega)))
        simpa [Addr.add] using this
      subst hspot
      have hlt : b < W.heap.size := by
        have e0 := c0.trans (List.getElem?_eq_getElem (by omega))
        rw [Go.Deep.add_add, Addr.add_lit] at e0
        simp only [World.cell?] at e0
        cases hb : W.heap[b]? with
        | none => simp [hb] at e0
        | some o => exact heap_lt hb
      refine ⟨x, b, off, rfl, hlt, fun j hj => ?_⟩
      have := hcell j (by omega)
      rw [Go.Deep.add_add, Addr.add_lit] at this
      rw [Nat.add_assoc]
      exact this
    obtain ⟨q, hq⟩ := choose_lt each
    refine ⟨some a, (List.range len).map q, m, by simp, by simpa using hl, hcm, fun i hi => ?_⟩
    simp at hi
    obtain ⟨b, off, ha, hb, hcell⟩ := hq i hi
    refine ⟨b, off, by rw [ha], hb, fun j hj => ?_⟩
    rw [hcell j hj]
    simp [hi]
theorem cells_int : Try.prog.cellsOf 3 = 1 := by kernel_rfl
theorem cells_port : Try.prog.cellsOf 41 = 2 := by kernel_rfl
theorem int_cs {n : Nat} {cs : List Value} {y : DataW H × List MemPlace} (h : DataW.trod enc Try.prog W 0 (fun _ => true) true n 3 cs = some y) : ∃ x : Int, cs = [.int .i64 x] := by
  obtain ⟨d, e0, _, _⟩ := DataW.trod_int Try.underlying3 h
  exact ⟨d, e0⟩
theorem port_cs {n : Nat} {cs : List Value} {y : DataW H × List MemPlace} (h : DataW.trod enc Try.prog W 0 (fun _ => true) true n 41 cs = some y) (hl : cs.length = 2) : ∃ x : Pt, cs = [.int .i64 x.1, .int .i64 x.2] := by
  obtain ⟨xs, k, hk, hxy, _, hxl, hf⟩ := DataW.trod_struct Try.underlying41 h
  match cs, hl with
  | [v0, v1], _ =>
    match xs, hxl with
    | [y0, y1], _ =>
      have g0 := hf 0 _ rfl
      have g1 := hf 1 _ rfl
      simp [cells_int] at g0 g1
      obtain ⟨s, e0⟩ := int_cs g0
      obtain ⟨a, e1⟩ := int_cs g1
      simp only [List.cons.injEq, and_true] at e0 e1
      exact ⟨(s, a), by rw [e0, e1]⟩
variable {r : Reach} {b0 : Nat} {v : Value} {d : DataW H} {p : List MemPlace}
theorem open_sl {T E : TypeId} (hT : Try.prog.underlying T = some (.slice E)) (hv : Value.okWide Try.prog W r b0 T v) (h : DataW.Trod enc Try.prog W 0 (fun _ => true) true T v d p) : ∃ n, DataW.trod enc Try.prog W 0 (fun _ => true) true n T [v] = some (d, p) := by
  obtain ⟨V, len, cap, rfl⟩ := okWide_slice hT hv
  obtain ⟨n, hn⟩ := h
  exact ⟨n, by simpa [Value.cells] using hn⟩
end
end Go.Proofs.Ytogbanlfihabpaa
/-
  Arguments as they come in: slices of ints, of agents, of wires, of ports; nets.
-/
namespace Go.Proofs.Ytogbanlfihabpaa
open Go.RowKit Go.WideShapes Go.ChangeShapes Go.Deep Go.Joins
set_option maxRecDepth 100000

section
variable {H : Type} {enc : TypeId × Value → H} {W : World}
theorem cells_string : Try.prog.cellsOf 9 = 1 := by kernel_rfl
theorem cells_agent : Try.prog.cellsOf 74 = 2 := by kernel_rfl
theorem cells_wire : Try.prog.cellsOf 43 = 4 := by kernel_rfl
theorem agent_cs {n : Nat} {cs : List Value} {y : DataW H × List MemPlace} (h : DataW.trod enc Try.prog W 0 (fun _ => true) true n 74 cs = some y) (hl : cs.length = 2) : ∃ x : ByteArray × Int, cs = [.string x.1, .int .i64 x.2] := by
  obtain ⟨xs, k, hk, hxy, _, hxl, hf⟩ := DataW.trod_struct Try.underlying74 h
  match cs, hl with
  | [v0, v1], _ =>
    match xs, hxl with
    | [y0, y1], _ =>
      have g0 := hf 0 _ rfl
      have g1 := hf 1 _ rfl
      simp [cells_int, cells_string] at g0 g1
      obtain ⟨s, e0, _⟩ := DataW.trod_string Try.underlying9 g0
      obtain ⟨a, e1⟩ := int_cs g1
      simp only [List.cons.injEq, and_true] at e0 e1
      exact ⟨(s, a), by rw [e0, e1]⟩
theorem wire_cs {n : Nat} {cs : List Value} {y : DataW H × List MemPlace} (h : DataW.trod enc Try.prog W 0 (fun _ => true) true n 43 cs = some y) (hl : cs.length = 4) : ∃ x : Pt × Pt, cs = [.int .i64 x.1.1, .int .i64 x.1.2, .int .i64 x.2.1, .int .i64 x.2.2] := by
  obtain ⟨xs, k, hk, hxy, _, hxl, hf⟩ := DataW.trod_struct Try.underlying43 h
  match cs, hl with
  | [v0, v1, v2, v3], _ =>
    match xs, hxl with
    | [y0, y1], _ =>
      have g0 := hf 0 _ rfl
      have g1 := hf 1 _ rfl
      simp [cells_port] at g0 g1
      obtain ⟨p, e0⟩ := port_cs g0 rfl
      obtain ⟨q, e1⟩ := port_cs g1 rfl
      simp only [List.cons.injEq, and_true] at e0 e1
      exact ⟨(p, q), by rw [e0.1, e0.2, e1.1, e1.2]⟩
theorem trod_ints {n : Nat} {v : Value} {y : DataW H × List MemPlace} (h : DataW.trod enc Try.prog W 0 (fun _ => true) true n 23 [v] = some y) : ∃ A, ∃ l : List Int, ∃ cap, v = .slice A l.length cap ∧ l.length ≤ cap ∧ cap ≤ maxLen ∧ IntsRd W A l := by
  obtain ⟨A, l, cap, rfl, h1, h2, h3⟩ := opens (α := Int) (fun x => [.int .i64 x]) Try.underlying23 cells_int (by omega) (fun _ _ _ h _ => int_cs h) h
  refine ⟨A, l, cap, rfl, h1, h2, fun i hi => ?_⟩
  obtain ⟨b, off, e, hb, hc⟩ := h3 i hi
  exact ⟨b, off, e, hb, by have := hc 0 (by omega); simpa using this⟩
theorem trod_agents {n : Nat} {v : Value} {y : DataW H × List MemPlace} (h : DataW.trod enc Try.prog W 0 (fun _ => true) true n 22 [v] = some y) : ∃ A, ∃ L : List (ByteArray × Int), ∃ cap, v = .slice A L.length cap ∧ L.length ≤ cap ∧ cap ≤ maxLen ∧ AgRd W A L := by
  obtain ⟨A, l, cap, rfl, h1, h2, h3⟩ := opens (α := ByteArray × Int) (fun x => [.string x.1, .int .i64 x.2]) Try.underlying22 cells_agent (by omega) (fun _ _ _ h hl => agent_cs h hl) h
  refine ⟨A, l, cap, rfl, h1, h2, fun i hi => ?_⟩
  obtain ⟨b, off, e, hb, hc⟩ := h3 i hi
  have e1 : l.getD i default = l.getD i (ByteArray.empty, 0) := by simp [hi]
  refine ⟨b, off, e, hb, ?_, ?_⟩
  · have := hc 0 (by omega); rw [e1] at this; simpa [agN] using this
  · have := hc 1 (by omega); rw [e1] at this; simpa [agA] using this
theorem trod_wires {n : Nat} {v : Value} {y : DataW H × List MemPlace} (h : DataW.trod enc Try.prog W 0 (fun _ => true) true n 24 [v] = some y) : ∃ A, ∃ l : List (Pt × Pt), ∃ cap, v = .slice A l.length cap ∧ l.length ≤ cap ∧ cap ≤ maxLen ∧ WrRd W A l := by
  obtain ⟨A, l, cap, rfl, h1, h2, h3⟩ := opens (α := Pt × Pt) (fun x => [.int .i64 x.1.1, .int .i64 x.1.2, .int .i64 x.2.1, .int .i64 x.2.2]) Try.underlying24 cells_wire (by omega) (fun _ _ _ h hl => wire_cs h hl) h
  refine ⟨A, l, cap, rfl, h1, h2, fun i hi => ?_⟩
  obtain ⟨b, off, e, hb, hc⟩ := h3 i hi
  exact ⟨b, off, e, hb, by have := hc 0 (by omega); simpa using this, by have := hc 1 (by omega); simpa using this, by have := hc 2 (by omega); simpa using this, by have := hc 3 (by omega); simpa using this⟩
variable {r : Reach} {b0 : Nat} {v : Value} {d : DataW H} {p : List MemPlace}
theorem open_agents (hv : Value.okWide Try.prog W r b0 22 v) (h : DataW.Trod enc Try.prog W 0 (fun _ => true) true 22 v d p) : ∃ A, ∃ L : List (ByteArray × Int), ∃ cap, v = .slice A L.length cap ∧ L.length ≤ cap ∧ cap ≤ maxLen ∧ AgRd W A L := by
  obtain ⟨n, hn⟩ := open_sl Try.underlying22 hv h
  exact trod_agents hn
theorem open_net (hv : Value.okWide Try.prog W r b0 26 v) (h : DataW.Trod enc Try.prog W 0 (fun _ => true) true 26 v d p) :
    ∃ VA VB ca cb, ∃ cells : List Int, ∃ free : Int, ∃ Wr : List (Pt × Pt), v = netV VA ca cells free VB cb Wr ∧ cells.length ≤ maxLen ∧ Wr.length ≤ maxLen ∧ IntsRd W VA cells ∧ WrRd W VB Wr := by
  obtain ⟨v0, v1, v2, y0, y1, y2, n, rfl, _, _, h0, h1, h2⟩ := open_agg3 Try.underlying26 (by kernel_rfl) (by kernel_rfl) hv h
  obtain ⟨A, l, cap, rfl, a1, a2, a3⟩ := trod_ints h0
  obtain ⟨f, e1⟩ := int_cs h1
  simp only [List.cons.injEq, and_true] at e1
  subst e1
  obtain ⟨B, l2, cap2, rfl, b1, b2, b3⟩ := trod_wires h2
  exact ⟨A, B, cap, cap2, l, f, l2, rfl, by omega, by omega, a3, b3⟩
end
end Go.Proofs.Ytogbanlfihabpaa
/-
  How long an argument may be.
-/
namespace Go.Proofs.Ytogbanlfihabpaa
open Go.RowKit Go.WideShapes Go.ChangeShapes Go.Deep Go.Joins
set_option maxRecDepth 100000

end Go.Proofs.Ytogbanlfihabpaa
namespace Go.Proofs.Ytogbanlfihabpaa
open Go.RowKit Go.WideShapes Go.ChangeShapes Go.Deep Go.Joins
set_option maxRecDepth 100000
set_option linter.unusedVariables false

section
variable {H : Type} {enc : TypeId × Value → H} {W : World} {ts : List TypeId} {ds : List (DataW H)}
theorem slice_room {T E : TypeId} {B : Nat} (hT : Try.prog.underlying T = some (.slice E)) (hB : Try.prog.bytesOf E = B) (h1 : 8 ≤ B) (hsz : (DataW.weightsEach Try.prog ts ds).all (· ≤ reachBytes) = true) {j : Nat} {A : Option Addr} {n cap : Nat} {d : DataW H} {p : List MemPlace}
    (ht : ts[j]? = some T) (hd : ds[j]? = some d) (h : DataW.Trod enc Try.prog W 0 (fun _ => true) true T (.slice A n cap) d p) : n ≤ 1000000000000000000 := by
  obtain ⟨fuel, hf⟩ := h
  rcases open_slice hT (show DataW.trod enc Try.prog W 0 (fun _ => true) true fuel T [.slice A n cap] = some (d, p) by simpa [Value.cells] using hf) with ⟨hc, _⟩ | ⟨a, len, cap', m, k', D, Pl, hc, _, hl, hcm, hm, hx, _⟩
  · simp at hc
    omega
  · simp at hc
    obtain ⟨_, rfl, rfl⟩ := hc
    simp only [Prod.mk.injEq] at hx
    obtain ⟨rfl, _⟩ := hx
    have hb := sized_slice hsz ht hd hT
    have hr : reachBytes = 140737488351232 := rfl
    rw [hB, hr] at hb
    simp only [List.length_map, List.length_range] at hb
    have h5 : n ≤ (n + (m - n)) * B := Nat.le_trans (Nat.le_add_right n (m - n)) (Nat.le_mul_of_pos_right _ (show 0 < B by omega))
    exact Nat.le_trans (Nat.le_trans h5 hb) (by decide)
theorem net_room (hsz : (DataW.weightsEach Try.prog ts ds).all (· ≤ reachBytes) = true) {j : Nat} {VA VB : Option Addr} {ca cb : Nat} {cells : List Int} {free : Int} {Wr : List (Pt × Pt)} {d : DataW H} {p : List MemPlace} {r : Reach} {b0 : Nat}
    (ht : ts[j]? = some 26) (hd : ds[j]? = some d) (hv : Value.okWide Try.prog W r b0 26 (netV VA ca cells free VB cb Wr)) (h : DataW.Trod enc Try.prog W 0 (fun _ => true) true 26 (netV VA ca cells free VB cb Wr) d p) :
    cells.length ≤ 1000000000000000000 ∧ Wr.length ≤ 1000000000000000000 := by
  obtain ⟨v0, v1, v2, y0, y1, y2, n, hve, rfl, _, h0, h1, h2⟩ := open_agg3 Try.underlying26 (by kernel_rfl) (by kernel_rfl) hv h
  simp [netV] at hve
  obtain ⟨rfl, rfl, rfl⟩ := hve
  have hw : (DataW.weightsEach Try.prog [23, 3, 24] [y0.1, y1.1, y2.1]).all (· ≤ reachBytes) = true := by
    refine List.all_eq_true.2 fun x hx => List.all_eq_true.1 hsz x (DataW.weights_mem_each ht hd x ?_)
    simpa [DataW.weights, Try.underlying26] using hx
  exact ⟨slice_room (B := 8) (j := 0) Try.underlying23 (by kernel_rfl) (by omega) hw rfl rfl ⟨n, by simpa [Value.cells] using h0⟩,
    slice_room (B := 32) (j := 2) Try.underlying24 (by kernel_rfl) (by omega) hw rfl rfl ⟨n, by simpa [Value.cells] using h2⟩⟩
end
end Go.Proofs.Ytogbanlfihabpaa
