/-
  Maps whose keys are ports.
-/
import Derived.Test.YtcebejcdfdahjaaNetSeq
import Derived.Test.YtcebejcdfdahjaaEqN
import Derived.Test.YtcebejcdfdahjaaRangeBox
namespace Go.Proofs.Ytcebejcdfdahjaa
open Go.RowKit
set_option maxRecDepth 100000
set_option linter.unusedVariables false

def encPt (p : Pt) : Value := .agg #[.int .i64 p.1, .int .i64 p.2]
theorem zport : ∀ W, (zeroValue 78).run Try.prog W = .ok (encPt (0, 0)) W := fun W => by kernel_rfl
theorem chk_int (b : Bool) (n : Nat) (x : Int) (W : World) : (Instr.checkKey b (n + 1) 3 (.int .i64 x)).run Try.prog W = .ok () W := by
  rw [Instr.checkKey]
  simp [run_underlying Try.underlying3]
theorem kport : KOk Try.prog 78 encPt :=
  KOk.agg (fun p => #[.int .i64 p.1, .int .i64 p.2]) (fun _ => rfl) Try.underlying78
    (fun a b W => by
      have := run_equal_port 9997 a.1 a.2 b.1 b.2 W
      unfold eqP at this
      exact this)
    (fun b a W => by
      unfold encPt
      rw [show (10000 : Nat) = 9999 + 1 from rfl, Instr.checkKey]
      go_simp
      have h1 := chk_int b 9998 a.1 W
      have h2 := chk_int b 9998 a.2 W
      simp only [Nat.reduceAdd] at h1 h2
      rw [h1]
      exact h2)
    (fun a => by
      unfold encPt
      simp [Instr.sameBits])
end Go.Proofs.Ytcebejcdfdahjaa
