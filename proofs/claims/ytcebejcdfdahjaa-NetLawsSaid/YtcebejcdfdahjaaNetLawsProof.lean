/-
  PROVED: 'Rows.NetLawsSaid': the law skeinlaw03.NetLaws returns true, for every input that the row speaks of; no further condition.
-/
import Derived.Test.YtcebejcdfdahjaaBase
import Derived.WideKeyArgs
import Derived.Deep.Slices
import Derived.Test.YtcebejcdfdahjaaReads
import Derived.Test.YtcebejcdfdahjaaRef02
import Derived.Test.YtcebejcdfdahjaaRef03N
import Derived.OpenShut
import Derived.Lib.SmallJoins
import Derived.ChangeMaps5
import Derived.Test.YtcebejcdfdahjaaRows
import Derived.WalkKit
import Derived.ProofKit
import Derived.Test.YtcebejcdfdahjaaLawsW
/-
  Arguments as they come in: slices of ints, of agents, of wires, of ports; nets.
-/
/-
  The frame of a law whose arguments are slices, structs ..: they read behind the call as they read ahead of it.
-/
namespace Go.Proofs.Ytcebejcdfdahjaa
open Go.RowKit Go.WideShapes Go.ChangeShapes
section
variable {H : Type} {enc : TypeId × Value → H} {P : Program} {base : Nat}
theorem trodAll_stays (hl : laidOutB P = true) {W W' : World} {sp' : Nat → Bool} : ∀ {ts : List TypeId} {vs : List Value} {ds : List (DataW H)} {ps : List MemPlace}, (∀ t ∈ ts, P.readableRec t = true ∧ t < P.types.size) →
    DataW.TrodAll enc P W base (fun _ => true) true ts vs ds ps → (∀ p ∈ ps, W.sameAt W' p) → (∀ p ∈ ps, sp' p.block = true) → DataW.TrodAll enc P W' base sp' true ts vs ds ps
  | [], [], [], _, _, h, _, _ => h
  | t :: ts, v :: vs, d :: ds, ps, ht, h, hs, hp => by
    obtain ⟨p, q, h1, h2, rfl⟩ := h
    exact ⟨p, q, Go.WideElems.Trod_stays hl (ht t (by simp)).1 (ht t (by simp)).2 h1 (fun x hx => hs x (by simp [hx])) (fun x hx => hp x (by simp [hx])), trodAll_stays hl (fun t hm => ht t (by simp [hm])) h2 (fun x hx => hs x (by simp [hx])) (fun x hx => hp x (by simp [hx])), rfl⟩
  | [], [], _ :: _, _, _, h, _, _ => h.elim
  | [], _ :: _, _, _, _, h, _, _ => h.elim
  | _ :: _, [], _, _, _, h, _, _ => h.elim
  | _ :: _, _ :: _, [], _, _, h, _, _ => h.elim
end
end Go.Proofs.Ytcebejcdfdahjaa
namespace Go.Proofs.Ytcebejcdfdahjaa
open Go.RowKit Go.WideShapes Go.ChangeShapes Go.Deep Go.Joins
set_option maxRecDepth 100000

section
variable {H : Type} {enc : TypeId × Value → H} {W : World}
theorem opens {E T : TypeId} {k : Nat} {α : Type} [Inhabited α] (el : α → List Value) (hT : Try.prog.underlying T = some (.slice E)) (hk : Try.prog.cellsOf E = k) (hk0 : 0 < k)
    (hel : ∀ n cs y, DataW.trod enc Try.prog W 0 (fun _ => true) true n E cs = some y → cs.length = k → ∃ x : α, cs = el x) {n : Nat} {v : Value} {y : DataW H × List MemPlace} (h : DataW.trod enc Try.prog W 0 (fun _ => true) true n T [v] = some y) :
    ∃ A, ∃ L : List α, ∃ cap, v = .slice A L.length cap ∧ L.length ≤ cap ∧ cap ≤ maxLen ∧ ∀ i, i < L.length → ∃ b off, A = some ⟨b, off, none⟩ ∧ b < W.heap.size ∧ ∀ j, j < k → W.cell? ⟨b, off + i * k + j, none⟩ = (el (L.getD i default))[j]? := by
  rcases open_slice hT h with ⟨hc, _⟩ | ⟨a, len, cap, m, k', D, Pl, hc, _, hl, hcm, hm, _, hx⟩
  · simp at hc
    subst hc
    exact ⟨none, [], 0, rfl, Nat.le_refl _, by simp, fun i hi => absurd hi (by simp)⟩
  · simp at hc
    subst hc
    simp only [if_true] at hm
    subst hm
    have each : ∀ i, i < len → ∃ x : α, ∃ b off, a = ⟨b, off, none⟩ ∧ b < W.heap.size ∧ ∀ j, j < k → W.cell? ⟨b, off + i * k + j, none⟩ = (el x)[j]? := by
      intro i hi
      obtain ⟨cs', h1, h2⟩ := hx i (by omega)
      rw [hk] at h1
      obtain ⟨_, hlen, hcell⟩ := World.cells?_some h1
      obtain ⟨x, rfl⟩ := hel _ _ _ h2 hlen
      obtain ⟨b, off, spot⟩ := a
      have c0 := hcell 0 (by omega)
      have hspot : spot = none := by
        obtain ⟨cs0, h10, _⟩ := hx 0 (by omega)
        rw [hk] at h10
        obtain ⟨_, hlen0, hcell0⟩ := World.cells?_some h10
        have := World.cell?_spot ((hcell0 0 (by omega)).trans (List.getElem?_eq_getElem (by omega)))
        simpa [Addr.add] using this
      subst hspot
      have hlt : b < W.heap.size := by
        have e0 := c0.trans (List.getElem?_eq_getElem (by omega))
        rw [Go.Deep.add_add, Addr.add_lit] at e0
        simp only [World.cell?] at e0
        cases hb : W.heap[b]? with
        | none => simp [hb] at e0
        | some o => exact heap_lt hb
      refine ⟨x, b, off, rfl, hlt, fun j hj => ?_⟩
      have := hcell j (by omega)
      rw [Go.Deep.add_add, Addr.add_lit] at this
      rw [Nat.add_assoc]
      exact this
    obtain ⟨q, hq⟩ := choose_lt each
    refine ⟨some a, (List.range len).map q, m, by simp, by simpa using hl, hcm, fun i hi => ?_⟩
    simp at hi
    obtain ⟨b, off, ha, hb, hcell⟩ := hq i hi
    refine ⟨b, off, by rw [ha], hb, fun j hj => ?_⟩
    rw [hcell j hj]
    simp [hi]
theorem cells_int : Try.prog.cellsOf 3 = 1 := by kernel_rfl
theorem cells_string : Try.prog.cellsOf 9 = 1 := by kernel_rfl
theorem cells_agent : Try.prog.cellsOf 94 = 2 := by kernel_rfl
theorem cells_port : Try.prog.cellsOf 78 = 2 := by kernel_rfl
theorem cells_wire : Try.prog.cellsOf 90 = 4 := by kernel_rfl
theorem int_cs {n : Nat} {cs : List Value} {y : DataW H × List MemPlace} (h : DataW.trod enc Try.prog W 0 (fun _ => true) true n 3 cs = some y) : ∃ x : Int, cs = [.int .i64 x] := by
  obtain ⟨d, e0, _, _⟩ := DataW.trod_int Try.underlying3 h
  exact ⟨d, e0⟩
theorem agent_cs {n : Nat} {cs : List Value} {y : DataW H × List MemPlace} (h : DataW.trod enc Try.prog W 0 (fun _ => true) true n 94 cs = some y) (hl : cs.length = 2) : ∃ x : ByteArray × Int, cs = [.string x.1, .int .i64 x.2] := by
  obtain ⟨xs, k, hk, hxy, _, hxl, hf⟩ := DataW.trod_struct Try.underlying94 h
  match cs, hl with
  | [v0, v1], _ =>
    match xs, hxl with
    | [y0, y1], _ =>
      have g0 := hf 0 _ rfl
      have g1 := hf 1 _ rfl
      simp [cells_int, cells_string] at g0 g1
      obtain ⟨s, e0, _⟩ := DataW.trod_string Try.underlying9 g0
      obtain ⟨a, e1⟩ := int_cs g1
      simp only [List.cons.injEq, and_true] at e0 e1
      exact ⟨(s, a), by rw [e0, e1]⟩
theorem port_cs {n : Nat} {cs : List Value} {y : DataW H × List MemPlace} (h : DataW.trod enc Try.prog W 0 (fun _ => true) true n 78 cs = some y) (hl : cs.length = 2) : ∃ x : Pt, cs = [.int .i64 x.1, .int .i64 x.2] := by
  obtain ⟨xs, k, hk, hxy, _, hxl, hf⟩ := DataW.trod_struct Try.underlying78 h
  match cs, hl with
  | [v0, v1], _ =>
    match xs, hxl with
    | [y0, y1], _ =>
      have g0 := hf 0 _ rfl
      have g1 := hf 1 _ rfl
      simp [cells_int] at g0 g1
      obtain ⟨s, e0⟩ := int_cs g0
      obtain ⟨a, e1⟩ := int_cs g1
      simp only [List.cons.injEq, and_true] at e0 e1
      exact ⟨(s, a), by rw [e0, e1]⟩
theorem wire_cs {n : Nat} {cs : List Value} {y : DataW H × List MemPlace} (h : DataW.trod enc Try.prog W 0 (fun _ => true) true n 90 cs = some y) (hl : cs.length = 4) : ∃ x : Pt × Pt, cs = [.int .i64 x.1.1, .int .i64 x.1.2, .int .i64 x.2.1, .int .i64 x.2.2] := by
  obtain ⟨xs, k, hk, hxy, _, hxl, hf⟩ := DataW.trod_struct Try.underlying90 h
  match cs, hl with
  | [v0, v1, v2, v3], _ =>
    match xs, hxl with
    | [y0, y1], _ =>
      have g0 := hf 0 _ rfl
      have g1 := hf 1 _ rfl
      simp [cells_port] at g0 g1
      obtain ⟨p, e0⟩ := port_cs g0 rfl
      obtain ⟨q, e1⟩ := port_cs g1 rfl
      simp only [List.cons.injEq, and_true] at e0 e1
      exact ⟨(p, q), by rw [e0.1, e0.2, e1.1, e1.2]⟩
theorem trod_ints {n : Nat} {v : Value} {y : DataW H × List MemPlace} (h : DataW.trod enc Try.prog W 0 (fun _ => true) true n 23 [v] = some y) : ∃ A, ∃ l : List Int, ∃ cap, v = .slice A l.length cap ∧ l.length ≤ cap ∧ cap ≤ maxLen ∧ IntsRd W A l := by
  obtain ⟨A, l, cap, rfl, h1, h2, h3⟩ := opens (α := Int) (fun x => [.int .i64 x]) Try.underlying23 cells_int (by omega) (fun _ _ _ h _ => int_cs h) h
  refine ⟨A, l, cap, rfl, h1, h2, fun i hi => ?_⟩
  obtain ⟨b, off, e, hb, hc⟩ := h3 i hi
  exact ⟨b, off, e, hb, by have := hc 0 (by omega); simpa using this⟩
theorem trod_agents {n : Nat} {v : Value} {y : DataW H × List MemPlace} (h : DataW.trod enc Try.prog W 0 (fun _ => true) true n 22 [v] = some y) : ∃ A, ∃ L : List (ByteArray × Int), ∃ cap, v = .slice A L.length cap ∧ L.length ≤ cap ∧ cap ≤ maxLen ∧ AgRd W A L := by
  obtain ⟨A, l, cap, rfl, h1, h2, h3⟩ := opens (α := ByteArray × Int) (fun x => [.string x.1, .int .i64 x.2]) Try.underlying22 cells_agent (by omega) (fun _ _ _ h hl => agent_cs h hl) h
  refine ⟨A, l, cap, rfl, h1, h2, fun i hi => ?_⟩
  obtain ⟨b, off, e, hb, hc⟩ := h3 i hi
  have e1 : l.getD i default = l.getD i (ByteArray.empty, 0) := by simp [hi]
  refine ⟨b, off, e, hb, ?_, ?_⟩
  · have := hc 0 (by omega); rw [e1] at this; simpa [agN] using this
  · have := hc 1 (by omega); rw [e1] at this; simpa [agA] using this
theorem trod_wires {n : Nat} {v : Value} {y : DataW H × List MemPlace} (h : DataW.trod enc Try.prog W 0 (fun _ => true) true n 24 [v] = some y) : ∃ A, ∃ l : List (Pt × Pt), ∃ cap, v = .slice A l.length cap ∧ l.length ≤ cap ∧ cap ≤ maxLen ∧ WrRd W A l := by
  obtain ⟨A, l, cap, rfl, h1, h2, h3⟩ := opens (α := Pt × Pt) (fun x => [.int .i64 x.1.1, .int .i64 x.1.2, .int .i64 x.2.1, .int .i64 x.2.2]) Try.underlying24 cells_wire (by omega) (fun _ _ _ h hl => wire_cs h hl) h
  refine ⟨A, l, cap, rfl, h1, h2, fun i hi => ?_⟩
  obtain ⟨b, off, e, hb, hc⟩ := h3 i hi
  exact ⟨b, off, e, hb, by have := hc 0 (by omega); simpa using this, by have := hc 1 (by omega); simpa using this, by have := hc 2 (by omega); simpa using this, by have := hc 3 (by omega); simpa using this⟩
theorem trod_ports {n : Nat} {v : Value} {y : DataW H × List MemPlace} (h : DataW.trod enc Try.prog W 0 (fun _ => true) true n 47 [v] = some y) : ∃ A, ∃ l : List Pt, ∃ cap, v = .slice A l.length cap ∧ l.length ≤ cap ∧ cap ≤ maxLen ∧ PtsRd W A l := by
  obtain ⟨A, l, cap, rfl, h1, h2, h3⟩ := opens (α := Pt) (fun x => [.int .i64 x.1, .int .i64 x.2]) Try.underlying47 cells_port (by omega) (fun _ _ _ h hl => port_cs h hl) h
  refine ⟨A, l, cap, rfl, h1, h2, fun i hi => ?_⟩
  obtain ⟨b, off, e, hb, hc⟩ := h3 i hi
  exact ⟨b, off, e, hb, by have := hc 0 (by omega); simpa using this, by have := hc 1 (by omega); simpa using this⟩
variable {r : Reach} {b0 : Nat} {v : Value} {d : DataW H} {p : List MemPlace}
theorem open_sl {T E : TypeId} (hT : Try.prog.underlying T = some (.slice E)) (hv : Value.okWide Try.prog W r b0 T v) (h : DataW.Trod enc Try.prog W 0 (fun _ => true) true T v d p) : ∃ n, DataW.trod enc Try.prog W 0 (fun _ => true) true n T [v] = some (d, p) := by
  obtain ⟨V, len, cap, rfl⟩ := okWide_slice hT hv
  obtain ⟨n, hn⟩ := h
  exact ⟨n, by simpa [Value.cells] using hn⟩
theorem open_agents (hv : Value.okWide Try.prog W r b0 22 v) (h : DataW.Trod enc Try.prog W 0 (fun _ => true) true 22 v d p) : ∃ A, ∃ L : List (ByteArray × Int), ∃ cap, v = .slice A L.length cap ∧ L.length ≤ cap ∧ cap ≤ maxLen ∧ AgRd W A L := by
  obtain ⟨n, hn⟩ := open_sl Try.underlying22 hv h
  exact trod_agents hn
theorem open_intsl (hv : Value.okWide Try.prog W r b0 23 v) (h : DataW.Trod enc Try.prog W 0 (fun _ => true) true 23 v d p) : ∃ A, ∃ l : List Int, ∃ cap, v = .slice A l.length cap ∧ l.length ≤ cap ∧ cap ≤ maxLen ∧ IntsRd W A l := by
  obtain ⟨n, hn⟩ := open_sl Try.underlying23 hv h
  exact trod_ints hn
theorem open_net (hv : Value.okWide Try.prog W r b0 26 v) (h : DataW.Trod enc Try.prog W 0 (fun _ => true) true 26 v d p) :
    ∃ VA VB ca cb, ∃ cells : List Int, ∃ free : Int, ∃ Wr : List (Pt × Pt), v = netV VA ca cells free VB cb Wr ∧ cells.length ≤ maxLen ∧ Wr.length ≤ maxLen ∧ IntsRd W VA cells ∧ WrRd W VB Wr := by
  obtain ⟨v0, v1, v2, y0, y1, y2, n, rfl, _, _, h0, h1, h2⟩ := open_agg3 Try.underlying26 (by kernel_rfl) (by kernel_rfl) hv h
  obtain ⟨A, l, cap, rfl, a1, a2, a3⟩ := trod_ints h0
  obtain ⟨f, e1⟩ := int_cs h1
  simp only [List.cons.injEq, and_true] at e1
  subst e1
  obtain ⟨B, l2, cap2, rfl, b1, b2, b3⟩ := trod_wires h2
  exact ⟨A, B, cap, cap2, l, f, l2, rfl, by omega, by omega, a3, b3⟩
end
end Go.Proofs.Ytcebejcdfdahjaa
namespace Go.Proofs.Ytcebejcdfdahjaa.netLaws
open Go.ChangeShapes Go.WideShapes Go.ChangeAt Go.RowKit Go.Joins
set_option linter.unusedVariables false
set_option maxRecDepth 100000

theorem own : ownKnob Try.prog.godebug = none := by kernel_rfl
theorem laid : laidOutB Try.prog = true := by kernel_rfl
theorem recA : Try.prog.readableRec 22 = true ∧ 22 < Try.prog.types.size := ⟨by kernel_rfl, of_decide_eq_true (by kernel_rfl)⟩
theorem recN : Try.prog.readableRec 26 = true ∧ 26 < Try.prog.types.size := ⟨by kernel_rfl, of_decide_eq_true (by kernel_rfl)⟩
theorem recB : Try.prog.readableRec 28 = true ∧ 28 < Try.prog.types.size := ⟨by kernel_rfl, of_decide_eq_true (by kernel_rfl)⟩
theorem open_numbers {H : Type} {enc : TypeId × Value → H} {W : World} {r : Reach} {b0 : Nat} {v : Value} {d : DataW H} {p : List MemPlace} (hv : Value.okWide Try.prog W r b0 28 v) (h : DataW.Trod enc Try.prog W 0 (fun _ => true) true 28 v d p) :
    ∃ VC VF cc cf, ∃ cs fs : List Int, v = .agg #[.slice VC cs.length cc, .slice VF fs.length cf] ∧ cs.length ≤ maxLen ∧ fs.length ≤ maxLen ∧ IntsRd W VC cs ∧ IntsRd W VF fs := by
  obtain ⟨v0, v1, y0, y1, n, rfl, _, _, h0, h1⟩ := open_agg2 Try.underlying28 (by kernel_rfl) (by kernel_rfl) hv h
  obtain ⟨A, l, cap, rfl, a1, a2, a3⟩ := trod_ints h0
  obtain ⟨B, l2, cap2, rfl, b1, b2, b3⟩ := trod_ints h1
  exact ⟨A, B, cap, cap2, l, l2, rfl, by omega, by omega, a3, b3⟩

set_option maxRecDepth 100000 in
theorem lifted (os : Os) (started : os.Started) (H : Type) (enc : TypeId × Value → H) :
    ReturnsInHanded {} Try.checked os 10 .any (Rows.netLawsSpec.pre6 enc Try.prog Try.f10 Rows.netLawsRow.domain false) (Rows.netLawsSpec.post enc Try.prog Try.f10 false true false false) := by
  refine returnsInHanded_of_change (C := Try.checked) own started (by kernel_rfl) Try.func10
    (ChangeSpec.witness6 (enc := enc) (C := Try.checked) false ⟨#[], #[.slice none 0 0, .agg #[.slice none 0 0, .int .i64 0, .slice none 0 0], .agg #[.slice none 0 0, .slice none 0 0]], []⟩ 8 (by kernel_rfl) (by kernel_rfl) (by kernel_rfl) (by kernel_rfl)) ?_
  intro W base args ds gs before hval0 hW hcnd _
  have hval : ∀ (j : Nat) t v, Try.f10.params[j]? = some t → args[j]? = some v → Value.okWide Try.prog W .any base t v := hval0
  have hW' := hW
  obtain ⟨p, q, hA0, hV, rfl, hfz, hnd⟩ := hW
  have hA : DataW.TrodAll enc Try.prog W 0 (fun _ => true) true Try.f10.params.toList args.toList ds p := hA0
  rw [Try.params10] at hA hval
  have hA2 := hA
  obtain ⟨v0, vs0, d0, ds0, p0, q0, hargs, rfl, rfl, h0, r0⟩ := trodAll_cons hA
  obtain ⟨v1, vs1, d1, ds1, p1, q1, rfl, rfl, rfl, h1, r1⟩ := trodAll_cons r0
  obtain ⟨v2, vs2, d2, ds2, p2, q2, rfl, rfl, rfl, h2, r2⟩ := trodAll_cons r1
  obtain ⟨rfl, rfl, rfl⟩ := trodAll_nil r2
  obtain rfl : args = #[v0, v1, v2] := by cases args; simp_all
  obtain ⟨rfl, rfl⟩ := trodVars_none hV
  obtain ⟨A, L, cap, rfl, a1, a2, a3⟩ := open_agents (hval 0 22 v0 rfl rfl) h0
  obtain ⟨VA, VB, ca, cb, cells, free, Wr, rfl, b1, b2, b3, b4⟩ := open_net (hval 1 26 v1 rfl rfl) h1
  obtain ⟨VC, VF, cc, cf, cs, fs, rfl, c1, c2, c3, c4⟩ := open_numbers (hval 2 28 v2 rfl rfl) h2
  clear hA0 hval0
  simp only [List.append_nil] at hW' hA2
  have hold : ∀ x ∈ p0 ++ (p1 ++ p2), x.block < W.heap.size := fun x hx => hW'.lt x hx
  have hwalk := laws_walk A L.length cap L VA VB ca cb cells free Wr VC cs.length cc cs VF fs.length cf fs W rfl a1 (Lib.hid a3) (by omega) (Lib.hid b3) (Lib.hid b4) b1 b2 rfl rfl (Lib.hid c3) (Lib.hid c4) c1 c2
  refine hwalk.mono fun e W' ⟨he, hg⟩ => ?_
  subst he
  exact ⟨_, rfl, post_below (pa := p0 ++ (p1 ++ p2)) (pv := []) hW' hg (fun _ _ _ => (trodAll_cons_mk (shut_bool Try.underlying4 _) trodAll_mk0))
    (fun sp hs => trodAll_stays laid (fun t ht => by
      simp only [Try.params10, List.mem_cons, List.not_mem_nil, or_false] at ht
      rcases ht with rfl | rfl | rfl
      · exact recA
      · exact recN
      · exact recB) hA2 (fun x hx => hg.same (hold x hx)) hs) (fun _ _ => rfl) (by simp)
    (ok_one (by kernel_rfl) rfl (okWide_bool_mk Try.underlying4 _))⟩

theorem over : Rows.netLawsRow.holds Try.pinned (OpenSpec.ofChange Rows.netLawsSpec) :=
  OpenClaim.holds_of_wide 10 Try.f10 rfl rfl rfl rfl rfl rfl rfl ⟨rfl, rfl, rfl, rfl, rfl⟩ rfl rfl rfl rfl rfl (by kernel_rfl) Try.func10 (by kernel_rfl)
    (of_decide_eq_true (by kernel_rfl)) (by unfold Func.isWrapper; first | (rw [if_pos (by decide +kernel)]; kernel_rfl) | (rw [if_neg (by decide +kernel)]; exact ⟨rfl, rfl⟩))
    (fun os started H enc _ => lifted os started H enc)

/-- THE STATEMENT. -/
theorem proved : Rows.NetLawsSaid :=
  over
#print axioms proved
end Go.Proofs.Ytcebejcdfdahjaa.netLaws
