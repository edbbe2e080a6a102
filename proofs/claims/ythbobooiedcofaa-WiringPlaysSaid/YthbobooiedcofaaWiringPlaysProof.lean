/-
  PROVED: 'Rows.WiringPlaysSaid': the law skeinlaw08.WiringPlays returns true, for every input that the row speaks of; no further condition.
-/
import Derived.Test.YthbobooiedcofaaOpenGen
import Derived.Test.YthbobooiedcofaaWirPlays
import Derived.Test.YthbobooiedcofaaRows
import Derived.WalkKit
import Derived.ProofKit
import Derived.OpenShut
import Derived.Lib.SmallJoins
/-
  A script of steps as it comes in.
-/
namespace Go.Proofs.Ythbobooiedcofaa
open Go.RowKit Go.WideShapes Go.ChangeShapes Go.Deep Go.Joins
set_option maxRecDepth 100000

section
variable {H : Type} {enc : TypeId × Value → H} {W : World}
theorem cells_step8 : Try.prog.cellsOf 41 = 5 := by kernel_rfl
theorem step_cs {n : Nat} {cs : List Value} {y : DataW H × List MemPlace} (h : DataW.trod enc Try.prog W 0 (fun _ => true) true n 41 cs = some y) (hl : cs.length = 5) : ∃ x : Int × Pt × Pt, cs = [.int .i64 x.1, .int .i64 x.2.1.1, .int .i64 x.2.1.2, .int .i64 x.2.2.1, .int .i64 x.2.2.2] := by
  obtain ⟨xs, k, hk, hxy, _, hxl, hf⟩ := DataW.trod_struct Try.underlying41 h
  match cs, hl with
  | [v0, v1, v2, v3, v4], _ =>
    match xs, hxl with
    | [y0, y1, y2], _ =>
      have g0 := hf 0 _ rfl
      have g1 := hf 1 _ rfl
      have g2 := hf 2 _ rfl
      simp [cells_int, cells_port] at g0 g1 g2
      obtain ⟨k, e0⟩ := int_cs g0
      obtain ⟨p, e1⟩ := port_cs g1 rfl
      obtain ⟨q, e2⟩ := port_cs g2 rfl
      simp only [List.cons.injEq, and_true] at e0 e1 e2
      exact ⟨(k, p, q), by rw [e0, e1.1, e1.2, e2.1, e2.2]⟩
variable {r : Reach} {b0 : Nat} {v : Value} {d : DataW H} {p : List MemPlace}
theorem open_script (hv : Value.okWide Try.prog W r b0 22 v) (h : DataW.Trod enc Try.prog W 0 (fun _ => true) true 22 v d p) : ∃ A, ∃ L : List (Int × Pt × Pt), ∃ cap, v = .slice A L.length cap ∧ L.length ≤ maxLen ∧ ScR W A L := by
  obtain ⟨n, hn⟩ := open_sl Try.underlying22 hv h
  obtain ⟨A, l, cap, rfl, h1, h2, h3⟩ := opens (α := Int × Pt × Pt) (fun x => [.int .i64 x.1, .int .i64 x.2.1.1, .int .i64 x.2.1.2, .int .i64 x.2.2.1, .int .i64 x.2.2.2]) Try.underlying22 cells_step8 (by omega) (fun _ _ _ h hl => step_cs h hl) hn
  refine ⟨A, l, cap, rfl, by omega, fun i hi => ?_⟩
  obtain ⟨b, off, e, hb, hc⟩ := h3 i hi
  exact ⟨b, off, e, hb, by have := hc 0 (by omega); simpa using this, by have := hc 1 (by omega); simpa using this, by have := hc 2 (by omega); simpa using this, by have := hc 3 (by omega); simpa using this, by have := hc 4 (by omega); simpa using this⟩
end
end Go.Proofs.Ythbobooiedcofaa
namespace Go.Proofs.Ythbobooiedcofaa.wiringPlays
open Go.ChangeShapes Go.WideShapes Go.ChangeAt Go.RowKit Go.Joins
set_option linter.unusedVariables false
set_option maxRecDepth 100000

theorem own : ownKnob Try.prog.godebug = none := by kernel_rfl
theorem laid : laidOutB Try.prog = true := by kernel_rfl
theorem rec_int : Try.prog.readableRec 3 = true ∧ 3 < Try.prog.types.size := ⟨by kernel_rfl, of_decide_eq_true (by kernel_rfl)⟩
theorem rec_script : Try.prog.readableRec 22 = true ∧ 22 < Try.prog.types.size := ⟨by kernel_rfl, of_decide_eq_true (by kernel_rfl)⟩
set_option maxRecDepth 100000 in
theorem lifted (os : Os) (started : os.Started) (H : Type) (enc : TypeId × Value → H) :
    ReturnsInHanded {} Try.checked os 3 .any (Rows.wiringPlaysSpec.pre6 enc Try.prog Try.f3 Rows.wiringPlaysRow.domain false) (Rows.wiringPlaysSpec.post enc Try.prog Try.f3 false true false false) := by
  refine returnsInHanded_of_change (C := Try.checked) own started (by kernel_rfl) Try.func3
    (ChangeSpec.witness6 (enc := enc) (C := Try.checked) false ⟨#[], #[.int .i64 0, .int .i64 0, .slice none 0 0], []⟩ 8 (by kernel_rfl) (by kernel_rfl) (by kernel_rfl) (by kernel_rfl)) ?_
  intro W base args ds gs before hval0 hW hcnd _
  have hval : ∀ (j : Nat) t v, Try.f3.params[j]? = some t → args[j]? = some v → Value.okWide Try.prog W .any base t v := hval0
  have hW' := hW
  obtain ⟨p, q, hA0, hV, rfl, hfz, hnd⟩ := hW
  have hA : DataW.TrodAll enc Try.prog W 0 (fun _ => true) true Try.f3.params.toList args.toList ds p := hA0
  rw [Try.params3] at hA hval
  have hA2 := hA
  obtain ⟨v0, vs0, d0, ds0, p0, q0, hargs, rfl, rfl, h0, r0⟩ := trodAll_cons hA
  obtain ⟨v1, vs1, d1, ds1, p1, q1, rfl, rfl, rfl, h1, r1⟩ := trodAll_cons r0
  obtain ⟨v2, vs2, d2, ds2, p2, q2, rfl, rfl, rfl, h2, r2⟩ := trodAll_cons r1
  obtain ⟨rfl, rfl, rfl⟩ := trodAll_nil r2
  obtain rfl : args = #[v0, v1, v2] := by cases args; simp_all
  obtain ⟨rfl, rfl⟩ := trodVars_none hV
  obtain ⟨m0, rfl, rfl, rfl, hm0⟩ := open_int Try.underlying3 (hval 0 3 v0 rfl rfl) h0
  obtain ⟨m1, rfl, rfl, rfl, hm1⟩ := open_int Try.underlying3 (hval 1 3 v1 rfl rfl) h1
  obtain ⟨A2, L2, cap2, rfl, a21, a22⟩ := open_script (hval 2 22 v2 rfl rfl) h2
  clear hA0 hval0
  simp only [List.append_nil, List.nil_append] at hW' hA2
  have hold : ∀ x ∈ p2, x.block < W.heap.size := fun x hx => hW'.lt x hx
  have hwalk := plays08 m0 m1 A2 L2.length cap2 L2 W rfl (Lib.hid a22) a21
  refine hwalk.mono fun e W' ⟨he, hg⟩ => ?_
  subst he
  exact ⟨_, rfl, post_below (pa := p2) (pv := []) hW' hg (fun _ _ _ => (trodAll_cons_mk (shut_bool Try.underlying4 _) trodAll_mk0))
    (fun sp hs => trodAll_stays laid (fun t ht => by
      simp only [Try.params3, List.mem_cons, List.not_mem_nil, or_false] at ht
      rcases ht with rfl | rfl | rfl
      · exact rec_int
      · exact rec_int
      · exact rec_script) hA2 (fun x hx => hg.same (hold x hx)) hs) (fun _ _ => rfl) (by simp)
    (ok_one (by kernel_rfl) rfl (okWide_bool_mk Try.underlying4 _))⟩

theorem over : Rows.wiringPlaysRow.holds Try.pinned (OpenSpec.ofChange Rows.wiringPlaysSpec) :=
  OpenClaim.holds_of_wide 3 Try.f3 rfl rfl rfl rfl rfl rfl rfl ⟨rfl, rfl, rfl, rfl, rfl⟩ rfl rfl rfl rfl rfl (by kernel_rfl) Try.func3 (by kernel_rfl)
    (of_decide_eq_true (by kernel_rfl)) (by unfold Func.isWrapper; first | (rw [if_pos (by decide +kernel)]; kernel_rfl) | (rw [if_neg (by decide +kernel)]; exact ⟨rfl, rfl⟩))
    (fun os started H enc _ => lifted os started H enc)

/-- THE STATEMENT. -/
theorem proved : Rows.WiringPlaysSaid :=
  over
#print axioms proved
end Go.Proofs.Ythbobooiedcofaa.wiringPlays
