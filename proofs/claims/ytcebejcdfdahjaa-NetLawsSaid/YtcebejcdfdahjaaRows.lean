/-
  No cell of these rows narrows 'for every input' (looked for: loops, veiled, ifaces, maps, wideKeys, modest, calm, conditions, laid).
  DERIVED. THE GIVEN ROWS OF THIS SEAT. 8 by the template 'for every input the law returns true; each argument reads behind the call as it read before'; 0 by the template 'total and deterministic' (their statements: YtcebejcdfdahjaaTotals.lean).
  GIVEN WITH THE SEED: the statements are not yours to turn. If you find one false, say at which input.
  Laid BY PROGRAM, IN A SANDBOX (cutbox-rows.mjs): the forced cells as the released guide's own fill.sh prints them over the translation 2e9e2317107995b3… (all of the seat's roots in one cut). By AI agents, Wed Nov 11 2026. No macro, syntax, notation, axiom, sorry.
-/
import Derived.Test.YtcebejcdfdahjaaChecked
import GoSem.Claim
import GoSem.ClaimJoined
import GoSem.ClaimMapViews
import Derived.JoinedTies
import Derived.KernelRfl
namespace Go.Proofs.Ytcebejcdfdahjaa
/- THE CELL 'sum', in the pinned program and in every row, IS THE sha256 OF THE DUMP (.gsa) THAT YtcebejcdfdahjaaProg.lean LOADS. Nothing in Lean hashes anything: it is a label: what it is worth is what the hold of that sum in a sandbox is worth. -/
noncomputable def Try.pinned : Pinned := { name := "ytcebejcdfdahjaa", sum := "2e9e2317107995b3f3003b74ec15e2e74ba5a0bfbb36541364c48be4deedb3d9", checked := Try.checked }
namespace Rows
def none {H : Type} : Left H := { results := [], args := [] }

/-- 'skeinlaw03.NetMoves': WHATEVER THE INPUT: true; the input reads as it did. -/
def netMovesSpec : ChangeSpec := { name := "netMoves", fn := fun _ => fun
  | [d1, d2, d3] => { results := [.lit (.bool true)], args := [d1, d2, d3] }
  | _ => none }
def netMovesRow : OpenClaim := { program := "ytcebejcdfdahjaa", sum := "2e9e2317107995b3f3003b74ec15e2e74ba5a0bfbb36541364c48be4deedb3d9", func := "skein/skeinlaw03.NetMoves", spec := "netMoves", unfollowed := true, recurses := true, plainKeys := false, apart := false }
def NetMovesSaid : Prop := netMovesRow.holds Try.pinned (OpenSpec.ofChange netMovesSpec)

/-- ITS FALSE NEIGHBOUR: 'it returns false'. Refute it at one input. -/
def netMovesWrong : ChangeSpec := { name := "netMoves", fn := fun _ => fun
  | [d1, d2, d3] => { results := [.lit (.bool false)], args := [d1, d2, d3] }
  | _ => none }
def NetMovesWrongFalsely : Prop := netMovesRow.holds Try.pinned (OpenSpec.ofChange netMovesWrong)

/-- 'skeinlaw18.PlanOf': WHATEVER THE INPUT: true; the input reads as it did. -/
def planOfSpec : ChangeSpec := { name := "planOf", fn := fun _ => fun
  | [d1, d2] => { results := [.lit (.bool true)], args := [d1, d2] }
  | _ => none }
def planOfRow : OpenClaim := { program := "ytcebejcdfdahjaa", sum := "2e9e2317107995b3f3003b74ec15e2e74ba5a0bfbb36541364c48be4deedb3d9", func := "skein/skeinlaw18.PlanOf", spec := "planOf", unfollowed := true, recurses := true, plainKeys := false, apart := false }
def PlanOfSaid : Prop := planOfRow.holds Try.pinned (OpenSpec.ofChange planOfSpec)

/-- ITS FALSE NEIGHBOUR: 'it returns false'. Refute it at one input. -/
def planOfWrong : ChangeSpec := { name := "planOf", fn := fun _ => fun
  | [d1, d2] => { results := [.lit (.bool false)], args := [d1, d2] }
  | _ => none }
def PlanOfWrongFalsely : Prop := planOfRow.holds Try.pinned (OpenSpec.ofChange planOfWrong)

/-- 'skeinlaw03.NetPlugs': WHATEVER THE INPUT: true; the input reads as it did. -/
def netPlugsSpec : ChangeSpec := { name := "netPlugs", fn := fun _ => fun
  | [d1, d2] => { results := [.lit (.bool true)], args := [d1, d2] }
  | _ => none }
def netPlugsRow : OpenClaim := { program := "ytcebejcdfdahjaa", sum := "2e9e2317107995b3f3003b74ec15e2e74ba5a0bfbb36541364c48be4deedb3d9", func := "skein/skeinlaw03.NetPlugs", spec := "netPlugs", unfollowed := true, recurses := true, plainKeys := false, apart := false }
def NetPlugsSaid : Prop := netPlugsRow.holds Try.pinned (OpenSpec.ofChange netPlugsSpec)

/-- ITS FALSE NEIGHBOUR: 'it returns false'. Refute it at one input. -/
def netPlugsWrong : ChangeSpec := { name := "netPlugs", fn := fun _ => fun
  | [d1, d2] => { results := [.lit (.bool false)], args := [d1, d2] }
  | _ => none }
def NetPlugsWrongFalsely : Prop := netPlugsRow.holds Try.pinned (OpenSpec.ofChange netPlugsWrong)

/-- 'skeinlaw12.CodeCompares': WHATEVER THE INPUT: true; the input reads as it did. -/
def codeComparesSpec : ChangeSpec := { name := "codeCompares", fn := fun _ => fun
  | [d1, d2, d3] => { results := [.lit (.bool true)], args := [d1, d2, d3] }
  | _ => none }
def codeComparesRow : OpenClaim := { program := "ytcebejcdfdahjaa", sum := "2e9e2317107995b3f3003b74ec15e2e74ba5a0bfbb36541364c48be4deedb3d9", func := "skein/skeinlaw12.CodeCompares", spec := "codeCompares", unfollowed := true, recurses := true, plainKeys := false, apart := false }
def CodeComparesSaid : Prop := codeComparesRow.holds Try.pinned (OpenSpec.ofChange codeComparesSpec)

/-- ITS FALSE NEIGHBOUR: 'it returns false'. Refute it at one input. -/
def codeComparesWrong : ChangeSpec := { name := "codeCompares", fn := fun _ => fun
  | [d1, d2, d3] => { results := [.lit (.bool false)], args := [d1, d2, d3] }
  | _ => none }
def CodeComparesWrongFalsely : Prop := codeComparesRow.holds Try.pinned (OpenSpec.ofChange codeComparesWrong)

/-- 'skeinlaw12.CodeSame': WHATEVER THE INPUT: true; the input reads as it did. -/
def codeSameSpec : ChangeSpec := { name := "codeSame", fn := fun _ => fun
  | [d1, d2, d3, d4, d5] => { results := [.lit (.bool true)], args := [d1, d2, d3, d4, d5] }
  | _ => none }
def codeSameRow : OpenClaim := { program := "ytcebejcdfdahjaa", sum := "2e9e2317107995b3f3003b74ec15e2e74ba5a0bfbb36541364c48be4deedb3d9", func := "skein/skeinlaw12.CodeSame", spec := "codeSame", unfollowed := true, recurses := true, plainKeys := false, apart := false }
def CodeSameSaid : Prop := codeSameRow.holds Try.pinned (OpenSpec.ofChange codeSameSpec)

/-- ITS FALSE NEIGHBOUR: 'it returns false'. Refute it at one input. -/
def codeSameWrong : ChangeSpec := { name := "codeSame", fn := fun _ => fun
  | [d1, d2, d3, d4, d5] => { results := [.lit (.bool false)], args := [d1, d2, d3, d4, d5] }
  | _ => none }
def CodeSameWrongFalsely : Prop := codeSameRow.holds Try.pinned (OpenSpec.ofChange codeSameWrong)

/-- 'skeinlaw15.RuleLeft': WHATEVER THE INPUT: true; the input reads as it did. -/
def ruleLeftSpec : ChangeSpec := { name := "ruleLeft", fn := fun _ => fun
  | [d1, d2, d3] => { results := [.lit (.bool true)], args := [d1, d2, d3] }
  | _ => none }
def ruleLeftRow : OpenClaim := { program := "ytcebejcdfdahjaa", sum := "2e9e2317107995b3f3003b74ec15e2e74ba5a0bfbb36541364c48be4deedb3d9", func := "skein/skeinlaw15.RuleLeft", spec := "ruleLeft", unfollowed := true, recurses := true, plainKeys := false, apart := false }
def RuleLeftSaid : Prop := ruleLeftRow.holds Try.pinned (OpenSpec.ofChange ruleLeftSpec)

/-- ITS FALSE NEIGHBOUR: 'it returns false'. Refute it at one input. -/
def ruleLeftWrong : ChangeSpec := { name := "ruleLeft", fn := fun _ => fun
  | [d1, d2, d3] => { results := [.lit (.bool false)], args := [d1, d2, d3] }
  | _ => none }
def RuleLeftWrongFalsely : Prop := ruleLeftRow.holds Try.pinned (OpenSpec.ofChange ruleLeftWrong)

/-- 'skeinlaw15.RuleChecks': WHATEVER THE INPUT: true; the input reads as it did. -/
def ruleChecksSpec : ChangeSpec := { name := "ruleChecks", fn := fun _ => fun
  | [d1, d2] => { results := [.lit (.bool true)], args := [d1, d2] }
  | _ => none }
def ruleChecksRow : OpenClaim := { program := "ytcebejcdfdahjaa", sum := "2e9e2317107995b3f3003b74ec15e2e74ba5a0bfbb36541364c48be4deedb3d9", func := "skein/skeinlaw15.RuleChecks", spec := "ruleChecks", unfollowed := true, recurses := true, plainKeys := false, apart := false }
def RuleChecksSaid : Prop := ruleChecksRow.holds Try.pinned (OpenSpec.ofChange ruleChecksSpec)

/-- ITS FALSE NEIGHBOUR: 'it returns false'. Refute it at one input. -/
def ruleChecksWrong : ChangeSpec := { name := "ruleChecks", fn := fun _ => fun
  | [d1, d2] => { results := [.lit (.bool false)], args := [d1, d2] }
  | _ => none }
def RuleChecksWrongFalsely : Prop := ruleChecksRow.holds Try.pinned (OpenSpec.ofChange ruleChecksWrong)

/-- 'skeinlaw03.NetLaws': WHATEVER THE INPUT: true; the input reads as it did. -/
def netLawsSpec : ChangeSpec := { name := "netLaws", fn := fun _ => fun
  | [d1, d2, d3] => { results := [.lit (.bool true)], args := [d1, d2, d3] }
  | _ => none }
def netLawsRow : OpenClaim := { program := "ytcebejcdfdahjaa", sum := "2e9e2317107995b3f3003b74ec15e2e74ba5a0bfbb36541364c48be4deedb3d9", func := "skein/skeinlaw03.NetLaws", spec := "netLaws", unfollowed := true, recurses := true, plainKeys := false, apart := false }
def NetLawsSaid : Prop := netLawsRow.holds Try.pinned (OpenSpec.ofChange netLawsSpec)

/-- ITS FALSE NEIGHBOUR: 'it returns false'. Refute it at one input. -/
def netLawsWrong : ChangeSpec := { name := "netLaws", fn := fun _ => fun
  | [d1, d2, d3] => { results := [.lit (.bool false)], args := [d1, d2, d3] }
  | _ => none }
def NetLawsWrongFalsely : Prop := netLawsRow.holds Try.pinned (OpenSpec.ofChange netLawsWrong)

/- THE SECOND FORM. 'bulk': how many values and letters a reading holds, each counted each time it is reached (what is shared counts as often as it is met; a slice's spare places count too). A statement '..UptoSaid' is the law's where the arguments, and the package variables that the reading takes, are together of bulk at most 1048576: NARROWER than '..Said'. Prove '..Said' where nothing that the law and all that it calls make is longer than what came in: it says more and counts as full. Else prove '..UptoSaid'. A law counts once. -/
mutual
def uptoBulk {H : Type} : DataW H → Nat
  | .lit (.string bytes) => bytes.length + 1
  | .lit _ => 1
  | .nil => 1
  | .ptr d => uptoBulk d + 1
  | .slice elems spare => uptoBulkAll elems + uptoBulkAll spare + 1
  | .agg parts => uptoBulkAll parts + 1
  | .iface _ d => uptoBulk d + 1
  | .map entries => uptoBulkEntries entries + 1
  | .held _ => 1
def uptoBulkAll {H : Type} : List (DataW H) → Nat
  | [] => 0
  | d :: r => uptoBulk d + uptoBulkAll r
def uptoBulkEntries {H : Type} : List (Lit × DataW H) → Nat
  | [] => 0
  | x :: r => uptoBulkEntry x + uptoBulkEntries r
def uptoBulkEntry {H : Type} : Lit × DataW H → Nat
  | (.string bytes, d) => bytes.length + uptoBulk d + 1
  | (_, d) => uptoBulk d + 1
 end
def uptoSmall : (H : Type) → List (DataW H) → Bool := fun _ ds => decide (uptoBulkAll ds ≤ 1048576)
def OpenSpec.upto (s : _root_.Go.ChangeSpec) : _root_.Go.OpenSpec := { _root_.Go.OpenSpec.ofChange s with cond := some uptoSmall }

/-- 'skeinlaw03.NetMoves', WHERE WHAT IT READS IS OF BULK AT MOST 1048576: true; the input reads as it did. -/
def netMovesUptoRow : OpenClaim := { program := "ytcebejcdfdahjaa", sum := "2e9e2317107995b3f3003b74ec15e2e74ba5a0bfbb36541364c48be4deedb3d9", func := "skein/skeinlaw03.NetMoves", spec := "netMoves", unfollowed := true, recurses := true, plainKeys := false, apart := false, narrowed := true }
def NetMovesUptoSaid : Prop := netMovesUptoRow.holds Try.pinned (OpenSpec.upto netMovesSpec)

/-- 'skeinlaw18.PlanOf', WHERE WHAT IT READS IS OF BULK AT MOST 1048576: true; the input reads as it did. -/
def planOfUptoRow : OpenClaim := { program := "ytcebejcdfdahjaa", sum := "2e9e2317107995b3f3003b74ec15e2e74ba5a0bfbb36541364c48be4deedb3d9", func := "skein/skeinlaw18.PlanOf", spec := "planOf", unfollowed := true, recurses := true, plainKeys := false, apart := false, narrowed := true }
def PlanOfUptoSaid : Prop := planOfUptoRow.holds Try.pinned (OpenSpec.upto planOfSpec)

/-- 'skeinlaw03.NetPlugs', WHERE WHAT IT READS IS OF BULK AT MOST 1048576: true; the input reads as it did. -/
def netPlugsUptoRow : OpenClaim := { program := "ytcebejcdfdahjaa", sum := "2e9e2317107995b3f3003b74ec15e2e74ba5a0bfbb36541364c48be4deedb3d9", func := "skein/skeinlaw03.NetPlugs", spec := "netPlugs", unfollowed := true, recurses := true, plainKeys := false, apart := false, narrowed := true }
def NetPlugsUptoSaid : Prop := netPlugsUptoRow.holds Try.pinned (OpenSpec.upto netPlugsSpec)

/-- 'skeinlaw12.CodeCompares', WHERE WHAT IT READS IS OF BULK AT MOST 1048576: true; the input reads as it did. -/
def codeComparesUptoRow : OpenClaim := { program := "ytcebejcdfdahjaa", sum := "2e9e2317107995b3f3003b74ec15e2e74ba5a0bfbb36541364c48be4deedb3d9", func := "skein/skeinlaw12.CodeCompares", spec := "codeCompares", unfollowed := true, recurses := true, plainKeys := false, apart := false, narrowed := true }
def CodeComparesUptoSaid : Prop := codeComparesUptoRow.holds Try.pinned (OpenSpec.upto codeComparesSpec)

/-- 'skeinlaw12.CodeSame', WHERE WHAT IT READS IS OF BULK AT MOST 1048576: true; the input reads as it did. -/
def codeSameUptoRow : OpenClaim := { program := "ytcebejcdfdahjaa", sum := "2e9e2317107995b3f3003b74ec15e2e74ba5a0bfbb36541364c48be4deedb3d9", func := "skein/skeinlaw12.CodeSame", spec := "codeSame", unfollowed := true, recurses := true, plainKeys := false, apart := false, narrowed := true }
def CodeSameUptoSaid : Prop := codeSameUptoRow.holds Try.pinned (OpenSpec.upto codeSameSpec)

/-- 'skeinlaw15.RuleLeft', WHERE WHAT IT READS IS OF BULK AT MOST 1048576: true; the input reads as it did. -/
def ruleLeftUptoRow : OpenClaim := { program := "ytcebejcdfdahjaa", sum := "2e9e2317107995b3f3003b74ec15e2e74ba5a0bfbb36541364c48be4deedb3d9", func := "skein/skeinlaw15.RuleLeft", spec := "ruleLeft", unfollowed := true, recurses := true, plainKeys := false, apart := false, narrowed := true }
def RuleLeftUptoSaid : Prop := ruleLeftUptoRow.holds Try.pinned (OpenSpec.upto ruleLeftSpec)

/-- 'skeinlaw15.RuleChecks', WHERE WHAT IT READS IS OF BULK AT MOST 1048576: true; the input reads as it did. -/
def ruleChecksUptoRow : OpenClaim := { program := "ytcebejcdfdahjaa", sum := "2e9e2317107995b3f3003b74ec15e2e74ba5a0bfbb36541364c48be4deedb3d9", func := "skein/skeinlaw15.RuleChecks", spec := "ruleChecks", unfollowed := true, recurses := true, plainKeys := false, apart := false, narrowed := true }
def RuleChecksUptoSaid : Prop := ruleChecksUptoRow.holds Try.pinned (OpenSpec.upto ruleChecksSpec)

/-- 'skeinlaw03.NetLaws', WHERE WHAT IT READS IS OF BULK AT MOST 1048576: true; the input reads as it did. -/
def netLawsUptoRow : OpenClaim := { program := "ytcebejcdfdahjaa", sum := "2e9e2317107995b3f3003b74ec15e2e74ba5a0bfbb36541364c48be4deedb3d9", func := "skein/skeinlaw03.NetLaws", spec := "netLaws", unfollowed := true, recurses := true, plainKeys := false, apart := false, narrowed := true }
def NetLawsUptoSaid : Prop := netLawsUptoRow.holds Try.pinned (OpenSpec.upto netLawsSpec)

end Rows
end Go.Proofs.Ytcebejcdfdahjaa
