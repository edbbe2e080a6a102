/-
  skeinlaw08.works.
-/
import Derived.Test.YthbobooiedcofaaWirOpen
namespace Go.Proofs.Ythbobooiedcofaa
open Go.RowKit
attribute [local go_sem] cell_set
set_option maxRecDepth 100000
set_option linter.unusedVariables false

/-- A wiring in new memory. -/
structure OW (w0 : World) (B A : Nat) (S : Wir) (W : World) : Prop where
  f : ∃ FA, WG W B A S FA ∧ ∀ b ∈ B :: FA, w0.heap.size ≤ b
  b : Below w0.heap.size w0 W
section
variable {w0 W W' : World} {B A : Nat} {S S' : Wir}
theorem OW.kept (h : OW w0 B A S W) (hb : Below W.heap.size W W') : OW w0 B A S W' := by
  obtain ⟨⟨FA, hg, hf⟩, hw⟩ := h
  exact ⟨⟨FA, hg.below hb, hf⟩, hw.trans (hb.mono hw.size)⟩
theorem OW.step {FA : List Nat} (hw : Below w0.heap.size w0 W) (hf : ∀ b ∈ B :: FA, w0.heap.size ≤ b) (h1 : ∃ FA', WG W' B A S' FA' ∧ ∀ b ∈ FA', b ∈ FA ∨ W.heap.size ≤ b) (h2 : Kp (B :: FA) W W') : OW w0 B A S' W' := by
  obtain ⟨FA', hg, hn⟩ := h1
  refine ⟨⟨FA', hg, fun b hb => ?_⟩, hw.trans (h2.below hw.size hf)⟩
  rcases List.mem_cons.1 hb with rfl | hb
  · exact hf b (by simp)
  · rcases hn b hb with hb | hb
    · exact hf b (by simp [hb])
    · exact Nat.le_trans hw.size hb
end
section
variable {w0 W : World} {B A : Nat} {S : Wir}
theorem ow_link (h : OW w0 B A S W) (c s d t : Int) : Calls Try.prog 20 #[.pointer (some ⟨B, 0, none⟩), .agg #[.int .i64 c, .int .i64 s], .agg #[.int .i64 d, .int .i64 t]] W fun e w' => e = .returned (.int .i64 (S.linkE (c, s) (d, t))) ∧ OW w0 B A (S.link (c, s) (d, t)) w' := by
  obtain ⟨⟨FA, hg, hf⟩, hw⟩ := h
  exact (wi_link B A S FA W c s d t hg).mono fun e w' ⟨he, h1, h2⟩ => ⟨he, OW.step hw hf ⟨FA, h1, fun b hb => .inl hb⟩ h2⟩
end
end Go.Proofs.Ythbobooiedcofaa
