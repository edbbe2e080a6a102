/-
  No cell of these rows narrows 'for every input' (looked for: loops, veiled, ifaces, maps, wideKeys, modest, calm, conditions, laid).
  DERIVED. THE GIVEN ROWS OF THIS SEAT. 7 by the template 'for every input the law returns true; each argument reads behind the call as it read before'; 0 by the template 'total and deterministic' (their statements: YthbobooiedcofaaTotals.lean).
  GIVEN WITH THE SEED: the statements are not yours to turn. If you find one false, say at which input.
  Laid BY PROGRAM, IN A SANDBOX (cutbox-rows.mjs): the forced cells as the released guide's own fill.sh prints them over the translation af5bce85e917b43f… (all of the seat's roots in one cut). By AI agents, Wed Nov 11 2026. No macro, syntax, notation, axiom, sorry.
-/
import Derived.Test.YthbobooiedcofaaChecked
import GoSem.Claim
import GoSem.ClaimJoined
import GoSem.ClaimMapViews
import Derived.JoinedTies
import Derived.KernelRfl
namespace Go.Proofs.Ythbobooiedcofaa
/- THE CELL 'sum', in the pinned program and in every row, IS THE sha256 OF THE DUMP (.gsa) THAT YthbobooiedcofaaProg.lean LOADS. Nothing in Lean hashes anything: it is a label: what it is worth is what the hold of that sum in a sandbox is worth. -/
noncomputable def Try.pinned : Pinned := { name := "ythbobooiedcofaa", sum := "af5bce85e917b43f634215e018cbd1e46c709546eab3d6e53eb22f693184cea9", checked := Try.checked }
namespace Rows
def none {H : Type} : Left H := { results := [], args := [] }

/-- 'skeinlaw08.WiringPlays': WHATEVER THE INPUT: true; the input reads as it did. -/
def wiringPlaysSpec : ChangeSpec := { name := "wiringPlays", fn := fun _ => fun
  | [d1, d2, d3] => { results := [.lit (.bool true)], args := [d1, d2, d3] }
  | _ => none }
def wiringPlaysRow : OpenClaim := { program := "ythbobooiedcofaa", sum := "af5bce85e917b43f634215e018cbd1e46c709546eab3d6e53eb22f693184cea9", func := "skein/skeinlaw08.WiringPlays", spec := "wiringPlays", unfollowed := true, recurses := true, plainKeys := false, apart := false }
def WiringPlaysSaid : Prop := wiringPlaysRow.holds Try.pinned (OpenSpec.ofChange wiringPlaysSpec)

/-- ITS FALSE NEIGHBOUR: 'it returns false'. Refute it at one input. -/
def wiringPlaysWrong : ChangeSpec := { name := "wiringPlays", fn := fun _ => fun
  | [d1, d2, d3] => { results := [.lit (.bool false)], args := [d1, d2, d3] }
  | _ => none }
def WiringPlaysWrongFalsely : Prop := wiringPlaysRow.holds Try.pinned (OpenSpec.ofChange wiringPlaysWrong)

/-- 'skeinlaw08.WiringNone': WHATEVER THE INPUT: true; the input reads as it did. -/
def wiringNoneSpec : ChangeSpec := { name := "wiringNone", fn := fun _ => fun
  | [d1, d2] => { results := [.lit (.bool true)], args := [d1, d2] }
  | _ => none }
def wiringNoneRow : OpenClaim := { program := "ythbobooiedcofaa", sum := "af5bce85e917b43f634215e018cbd1e46c709546eab3d6e53eb22f693184cea9", func := "skein/skeinlaw08.WiringNone", spec := "wiringNone", unfollowed := true, recurses := true, plainKeys := false, apart := false }
def WiringNoneSaid : Prop := wiringNoneRow.holds Try.pinned (OpenSpec.ofChange wiringNoneSpec)

/-- ITS FALSE NEIGHBOUR: 'it returns false'. Refute it at one input. -/
def wiringNoneWrong : ChangeSpec := { name := "wiringNone", fn := fun _ => fun
  | [d1, d2] => { results := [.lit (.bool false)], args := [d1, d2] }
  | _ => none }
def WiringNoneWrongFalsely : Prop := wiringNoneRow.holds Try.pinned (OpenSpec.ofChange wiringNoneWrong)

/-- 'skeinlaw09.LoadBack': WHATEVER THE INPUT: true; the input reads as it did. -/
def loadBackSpec : ChangeSpec := { name := "loadBack", fn := fun _ => fun
  | [d1, d2] => { results := [.lit (.bool true)], args := [d1, d2] }
  | _ => none }
def loadBackRow : OpenClaim := { program := "ythbobooiedcofaa", sum := "af5bce85e917b43f634215e018cbd1e46c709546eab3d6e53eb22f693184cea9", func := "skein/skeinlaw09.LoadBack", spec := "loadBack", unfollowed := true, recurses := true, plainKeys := false, apart := false }
def LoadBackSaid : Prop := loadBackRow.holds Try.pinned (OpenSpec.ofChange loadBackSpec)

/-- ITS FALSE NEIGHBOUR: 'it returns false'. Refute it at one input. -/
def loadBackWrong : ChangeSpec := { name := "loadBack", fn := fun _ => fun
  | [d1, d2] => { results := [.lit (.bool false)], args := [d1, d2] }
  | _ => none }
def LoadBackWrongFalsely : Prop := loadBackRow.holds Try.pinned (OpenSpec.ofChange loadBackWrong)

/-- 'skeinlaw10.AuditNone': WHATEVER THE INPUT: true; the input reads as it did. -/
def auditNoneSpec : ChangeSpec := { name := "auditNone", fn := fun _ => fun
  | [d] => { results := [.lit (.bool true)], args := [d] }
  | _ => none }
def auditNoneRow : OpenClaim := { program := "ythbobooiedcofaa", sum := "af5bce85e917b43f634215e018cbd1e46c709546eab3d6e53eb22f693184cea9", func := "skein/skeinlaw10.AuditNone", spec := "auditNone", unfollowed := true, recurses := true, plainKeys := false, apart := false }
def AuditNoneSaid : Prop := auditNoneRow.holds Try.pinned (OpenSpec.ofChange auditNoneSpec)

/-- ITS FALSE NEIGHBOUR: 'it returns false'. Refute it at one input. -/
def auditNoneWrong : ChangeSpec := { name := "auditNone", fn := fun _ => fun
  | [d] => { results := [.lit (.bool false)], args := [d] }
  | _ => none }
def AuditNoneWrongFalsely : Prop := auditNoneRow.holds Try.pinned (OpenSpec.ofChange auditNoneWrong)

/-- 'skeinlaw09.LoadNets': WHATEVER THE INPUT: true; the input reads as it did. -/
def loadNetsSpec : ChangeSpec := { name := "loadNets", fn := fun _ => fun
  | [d1, d2, d3] => { results := [.lit (.bool true)], args := [d1, d2, d3] }
  | _ => none }
def loadNetsRow : OpenClaim := { program := "ythbobooiedcofaa", sum := "af5bce85e917b43f634215e018cbd1e46c709546eab3d6e53eb22f693184cea9", func := "skein/skeinlaw09.LoadNets", spec := "loadNets", unfollowed := true, recurses := true, plainKeys := false, apart := false }
def LoadNetsSaid : Prop := loadNetsRow.holds Try.pinned (OpenSpec.ofChange loadNetsSpec)

/-- ITS FALSE NEIGHBOUR: 'it returns false'. Refute it at one input. -/
def loadNetsWrong : ChangeSpec := { name := "loadNets", fn := fun _ => fun
  | [d1, d2, d3] => { results := [.lit (.bool false)], args := [d1, d2, d3] }
  | _ => none }
def LoadNetsWrongFalsely : Prop := loadNetsRow.holds Try.pinned (OpenSpec.ofChange loadNetsWrong)

/-- 'skeinlaw10.AuditTells': WHATEVER THE INPUT: true; the input reads as it did. -/
def auditTellsSpec : ChangeSpec := { name := "auditTells", fn := fun _ => fun
  | [d1, d2, d3] => { results := [.lit (.bool true)], args := [d1, d2, d3] }
  | _ => none }
def auditTellsRow : OpenClaim := { program := "ythbobooiedcofaa", sum := "af5bce85e917b43f634215e018cbd1e46c709546eab3d6e53eb22f693184cea9", func := "skein/skeinlaw10.AuditTells", spec := "auditTells", unfollowed := true, recurses := true, plainKeys := false, apart := false }
def AuditTellsSaid : Prop := auditTellsRow.holds Try.pinned (OpenSpec.ofChange auditTellsSpec)

/-- ITS FALSE NEIGHBOUR: 'it returns false'. Refute it at one input. -/
def auditTellsWrong : ChangeSpec := { name := "auditTells", fn := fun _ => fun
  | [d1, d2, d3] => { results := [.lit (.bool false)], args := [d1, d2, d3] }
  | _ => none }
def AuditTellsWrongFalsely : Prop := auditTellsRow.holds Try.pinned (OpenSpec.ofChange auditTellsWrong)

/-- 'skeinlaw11.WalkApart': WHATEVER THE INPUT: true; the input reads as it did. -/
def walkApartSpec : ChangeSpec := { name := "walkApart", fn := fun _ => fun
  | [d1, d2] => { results := [.lit (.bool true)], args := [d1, d2] }
  | _ => none }
def walkApartRow : OpenClaim := { program := "ythbobooiedcofaa", sum := "af5bce85e917b43f634215e018cbd1e46c709546eab3d6e53eb22f693184cea9", func := "skein/skeinlaw11.WalkApart", spec := "walkApart", unfollowed := true, recurses := true, plainKeys := false, apart := false }
def WalkApartSaid : Prop := walkApartRow.holds Try.pinned (OpenSpec.ofChange walkApartSpec)

/-- ITS FALSE NEIGHBOUR: 'it returns false'. Refute it at one input. -/
def walkApartWrong : ChangeSpec := { name := "walkApart", fn := fun _ => fun
  | [d1, d2] => { results := [.lit (.bool false)], args := [d1, d2] }
  | _ => none }
def WalkApartWrongFalsely : Prop := walkApartRow.holds Try.pinned (OpenSpec.ofChange walkApartWrong)

/- THE SECOND FORM. 'bulk': how many values and letters a reading holds, each counted each time it is reached (what is shared counts as often as it is met; a slice's spare places count too). A statement '..UptoSaid' is the law's where the arguments, and the package variables that the reading takes, are together of bulk at most 1048576: NARROWER than '..Said'. Prove '..Said' where nothing that the law and all that it calls make is longer than what came in: it says more and counts as full. Else prove '..UptoSaid'. A law counts once. -/
mutual
def uptoBulk {H : Type} : DataW H → Nat
  | .lit (.string bytes) => bytes.length + 1
  | .lit _ => 1
  | .nil => 1
  | .ptr d => uptoBulk d + 1
  | .slice elems spare => uptoBulkAll elems + uptoBulkAll spare + 1
  | .agg parts => uptoBulkAll parts + 1
  | .iface _ d => uptoBulk d + 1
  | .map entries => uptoBulkEntries entries + 1
  | .held _ => 1
def uptoBulkAll {H : Type} : List (DataW H) → Nat
  | [] => 0
  | d :: r => uptoBulk d + uptoBulkAll r
def uptoBulkEntries {H : Type} : List (Lit × DataW H) → Nat
  | [] => 0
  | x :: r => uptoBulkEntry x + uptoBulkEntries r
def uptoBulkEntry {H : Type} : Lit × DataW H → Nat
  | (.string bytes, d) => bytes.length + uptoBulk d + 1
  | (_, d) => uptoBulk d + 1
 end
def uptoSmall : (H : Type) → List (DataW H) → Bool := fun _ ds => decide (uptoBulkAll ds ≤ 1048576)
def OpenSpec.upto (s : _root_.Go.ChangeSpec) : _root_.Go.OpenSpec := { _root_.Go.OpenSpec.ofChange s with cond := some uptoSmall }

/-- 'skeinlaw08.WiringPlays', WHERE WHAT IT READS IS OF BULK AT MOST 1048576: true; the input reads as it did. -/
def wiringPlaysUptoRow : OpenClaim := { program := "ythbobooiedcofaa", sum := "af5bce85e917b43f634215e018cbd1e46c709546eab3d6e53eb22f693184cea9", func := "skein/skeinlaw08.WiringPlays", spec := "wiringPlays", unfollowed := true, recurses := true, plainKeys := false, apart := false, narrowed := true }
def WiringPlaysUptoSaid : Prop := wiringPlaysUptoRow.holds Try.pinned (OpenSpec.upto wiringPlaysSpec)

/-- 'skeinlaw08.WiringNone', WHERE WHAT IT READS IS OF BULK AT MOST 1048576: true; the input reads as it did. -/
def wiringNoneUptoRow : OpenClaim := { program := "ythbobooiedcofaa", sum := "af5bce85e917b43f634215e018cbd1e46c709546eab3d6e53eb22f693184cea9", func := "skein/skeinlaw08.WiringNone", spec := "wiringNone", unfollowed := true, recurses := true, plainKeys := false, apart := false, narrowed := true }
def WiringNoneUptoSaid : Prop := wiringNoneUptoRow.holds Try.pinned (OpenSpec.upto wiringNoneSpec)

/-- 'skeinlaw09.LoadBack', WHERE WHAT IT READS IS OF BULK AT MOST 1048576: true; the input reads as it did. -/
def loadBackUptoRow : OpenClaim := { program := "ythbobooiedcofaa", sum := "af5bce85e917b43f634215e018cbd1e46c709546eab3d6e53eb22f693184cea9", func := "skein/skeinlaw09.LoadBack", spec := "loadBack", unfollowed := true, recurses := true, plainKeys := false, apart := false, narrowed := true }
def LoadBackUptoSaid : Prop := loadBackUptoRow.holds Try.pinned (OpenSpec.upto loadBackSpec)

/-- 'skeinlaw10.AuditNone', WHERE WHAT IT READS IS OF BULK AT MOST 1048576: true; the input reads as it did. -/
def auditNoneUptoRow : OpenClaim := { program := "ythbobooiedcofaa", sum := "af5bce85e917b43f634215e018cbd1e46c709546eab3d6e53eb22f693184cea9", func := "skein/skeinlaw10.AuditNone", spec := "auditNone", unfollowed := true, recurses := true, plainKeys := false, apart := false, narrowed := true }
def AuditNoneUptoSaid : Prop := auditNoneUptoRow.holds Try.pinned (OpenSpec.upto auditNoneSpec)

/-- 'skeinlaw09.LoadNets', WHERE WHAT IT READS IS OF BULK AT MOST 1048576: true; the input reads as it did. -/
def loadNetsUptoRow : OpenClaim := { program := "ythbobooiedcofaa", sum := "af5bce85e917b43f634215e018cbd1e46c709546eab3d6e53eb22f693184cea9", func := "skein/skeinlaw09.LoadNets", spec := "loadNets", unfollowed := true, recurses := true, plainKeys := false, apart := false, narrowed := true }
def LoadNetsUptoSaid : Prop := loadNetsUptoRow.holds Try.pinned (OpenSpec.upto loadNetsSpec)

/-- 'skeinlaw10.AuditTells', WHERE WHAT IT READS IS OF BULK AT MOST 1048576: true; the input reads as it did. -/
def auditTellsUptoRow : OpenClaim := { program := "ythbobooiedcofaa", sum := "af5bce85e917b43f634215e018cbd1e46c709546eab3d6e53eb22f693184cea9", func := "skein/skeinlaw10.AuditTells", spec := "auditTells", unfollowed := true, recurses := true, plainKeys := false, apart := false, narrowed := true }
def AuditTellsUptoSaid : Prop := auditTellsUptoRow.holds Try.pinned (OpenSpec.upto auditTellsSpec)

/-- 'skeinlaw11.WalkApart', WHERE WHAT IT READS IS OF BULK AT MOST 1048576: true; the input reads as it did. -/
def walkApartUptoRow : OpenClaim := { program := "ythbobooiedcofaa", sum := "af5bce85e917b43f634215e018cbd1e46c709546eab3d6e53eb22f693184cea9", func := "skein/skeinlaw11.WalkApart", spec := "walkApart", unfollowed := true, recurses := true, plainKeys := false, apart := false, narrowed := true }
def WalkApartUptoSaid : Prop := walkApartUptoRow.holds Try.pinned (OpenSpec.upto walkApartSpec)

end Rows
end Go.Proofs.Ythbobooiedcofaa
