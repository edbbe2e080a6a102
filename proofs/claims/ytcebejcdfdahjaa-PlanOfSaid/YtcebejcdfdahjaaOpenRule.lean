/-
  A rule that is handed in, opened.
-/
import Derived.Test.YtcebejcdfdahjaaOpens
import Derived.Test.YtcebejcdfdahjaaRuleChk
namespace Go.Proofs.Ytcebejcdfdahjaa
open Go.ChangeShapes Go.WideShapes Go.ChangeAt Go.RowKit Go.Joins
set_option maxRecDepth 100000
set_option linter.unusedVariables false
theorem cells_net : Try.prog.cellsOf 26 = 3 := by kernel_rfl
theorem cells_rule : Try.prog.cellsOf 44 = 5 := by kernel_rfl
theorem cells_ints : Try.prog.cellsOf 23 = 1 := by kernel_rfl
theorem cells_wires : Try.prog.cellsOf 24 = 1 := by kernel_rfl
theorem list5 {l : List Value} (h : l.length = 5) : ∃ a b c d e, l = [a, b, c, d, e] := by
  match l, h with
  | [a, b, c, d, e], _ => exact ⟨a, b, c, d, e, rfl⟩
section
variable {H : Type} {enc : TypeId × Value → H} {W : World} {r : Reach} {b0 : Nat} {v : Value} {d : DataW H} {p : List MemPlace}
theorem open_rule (hv : Value.okWide Try.prog W r b0 44 v) (h : DataW.Trod enc Try.prog W 0 (fun _ => true) true 44 v d p) :
    ∃ x y VA VB ca cb, ∃ cells : List Int, ∃ free : Int, ∃ Wr : List (Pt × Pt), v = ruleV x y VA ca cells free VB cb Wr ∧ cells.length ≤ maxLen ∧ Wr.length ≤ maxLen ∧ IntsRd W VA cells ∧ WrRd W VB Wr := by
  obtain ⟨cs, rfl, hsz⟩ := okWide_struct Try.underlying44 hv
  obtain ⟨n, hn⟩ := h
  obtain ⟨l⟩ := cs
  obtain ⟨v0, v1, v2, v3, v4, rfl⟩ := list5 (l := l) (by simpa [cells_rule] using hsz)
  simp only [Value.cells] at hn
  obtain ⟨xs, k, hk, hxy, _, hxl, hf⟩ := DataW.trod_struct Try.underlying44 hn
  match xs, hxl with
  | [z0, z1, z2], _ =>
    have g0 := hf 0 _ rfl
    have g1 := hf 1 _ rfl
    have g2 := hf 2 _ rfl
    simp [cells_int, cells_net] at g0 g1 g2
    obtain ⟨x, e0⟩ := int_cs g0
    obtain ⟨y, e1⟩ := int_cs g1
    simp only [List.cons.injEq, and_true] at e0 e1
    subst e0 e1
    obtain ⟨xs2, k2, hk2, hxy2, _, hxl2, hf2⟩ := DataW.trod_struct Try.underlying26 g2
    match xs2, hxl2 with
    | [u0, u1, u2], _ =>
      have q0 := hf2 0 _ rfl
      have q1 := hf2 1 _ rfl
      have q2 := hf2 2 _ rfl
      simp [cells_int, cells_ints, cells_wires] at q0 q1 q2
      obtain ⟨A, l1, cap, rfl, a1, a2, a3⟩ := trod_ints q0
      obtain ⟨f, e2⟩ := int_cs q1
      simp only [List.cons.injEq, and_true] at e2
      subst e2
      obtain ⟨B, l2, cap2, rfl, b1, b2, b3⟩ := trod_wires q2
      exact ⟨x, y, A, B, cap, cap2, l1, f, l2, rfl, by omega, by omega, a3, b3⟩
end
end Go.Proofs.Ytcebejcdfdahjaa
