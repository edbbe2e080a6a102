/-
  No cell of these rows narrows 'for every input' (looked for: loops, veiled, ifaces, maps, wideKeys, modest, calm, conditions, laid).
  DERIVED. THE GIVEN ROWS OF THIS SEAT. 8 by the template 'for every input the law returns true; each argument reads behind the call as it read before'; 0 by the template 'total and deterministic' (their statements: YtbdfkgchliakfaaTotals.lean).
  GIVEN WITH THE SEED: the statements are not yours to turn. If you find one false, say at which input.
  Laid BY PROGRAM, IN A SANDBOX (cutbox-rows.mjs): the forced cells as the released guide's own fill.sh prints them over the translation e83391ecee8bcfe3… (all of the seat's roots in one cut). By AI agents, Wed Nov 11 2026. No macro, syntax, notation, axiom, sorry.
-/
import Derived.Test.YtbdfkgchliakfaaChecked
import GoSem.Claim
import GoSem.ClaimJoined
import GoSem.ClaimMapViews
import Derived.JoinedTies
import Derived.KernelRfl
namespace Go.Proofs.Ytbdfkgchliakfaa
/- THE CELL 'sum', in the pinned program and in every row, IS THE sha256 OF THE DUMP (.gsa) THAT YtbdfkgchliakfaaProg.lean LOADS. Nothing in Lean hashes anything: it is a label: what it is worth is what the hold of that sum in a sandbox is worth. -/
noncomputable def Try.pinned : Pinned := { name := "ytbdfkgchliakfaa", sum := "e83391ecee8bcfe3e5f2d131fc4da31ec91441a22c5d52df97d0549b7ddf52d2", checked := Try.checked }
namespace Rows
def none {H : Type} : Left H := { results := [], args := [] }

/-- 'skeinlaw06.WordPorts': WHATEVER THE INPUT: true; the input reads as it did. -/
def wordPortsSpec : ChangeSpec := { name := "wordPorts", fn := fun _ => fun
  | [d] => { results := [.lit (.bool true)], args := [d] }
  | _ => none }
def wordPortsRow : OpenClaim := { program := "ytbdfkgchliakfaa", sum := "e83391ecee8bcfe3e5f2d131fc4da31ec91441a22c5d52df97d0549b7ddf52d2", func := "skein/skeinlaw06.WordPorts", spec := "wordPorts", apart := false }
def WordPortsSaid : Prop := wordPortsRow.holds Try.pinned (OpenSpec.ofChange wordPortsSpec)

/-- ITS FALSE NEIGHBOUR: 'it returns false'. Refute it at one input. -/
def wordPortsWrong : ChangeSpec := { name := "wordPorts", fn := fun _ => fun
  | [d] => { results := [.lit (.bool false)], args := [d] }
  | _ => none }
def WordPortsWrongFalsely : Prop := wordPortsRow.holds Try.pinned (OpenSpec.ofChange wordPortsWrong)

/-- 'skeinlaw06.WordBack': WHATEVER THE INPUT: true; the input reads as it did. -/
def wordBackSpec : ChangeSpec := { name := "wordBack", fn := fun _ => fun
  | [d1, d2] => { results := [.lit (.bool true)], args := [d1, d2] }
  | _ => none }
def wordBackRow : OpenClaim := { program := "ytbdfkgchliakfaa", sum := "e83391ecee8bcfe3e5f2d131fc4da31ec91441a22c5d52df97d0549b7ddf52d2", func := "skein/skeinlaw06.WordBack", spec := "wordBack", apart := false }
def WordBackSaid : Prop := wordBackRow.holds Try.pinned (OpenSpec.ofChange wordBackSpec)

/-- ITS FALSE NEIGHBOUR: 'it returns false'. Refute it at one input. -/
def wordBackWrong : ChangeSpec := { name := "wordBack", fn := fun _ => fun
  | [d1, d2] => { results := [.lit (.bool false)], args := [d1, d2] }
  | _ => none }
def WordBackWrongFalsely : Prop := wordBackRow.holds Try.pinned (OpenSpec.ofChange wordBackWrong)

/-- 'skeinlaw21.AgendaPicks': WHATEVER THE INPUT: true; the input reads as it did. -/
def agendaPicksSpec : ChangeSpec := { name := "agendaPicks", fn := fun _ => fun
  | [d1, d2] => { results := [.lit (.bool true)], args := [d1, d2] }
  | _ => none }
def agendaPicksRow : OpenClaim := { program := "ytbdfkgchliakfaa", sum := "e83391ecee8bcfe3e5f2d131fc4da31ec91441a22c5d52df97d0549b7ddf52d2", func := "skein/skeinlaw21.AgendaPicks", spec := "agendaPicks", apart := false }
def AgendaPicksSaid : Prop := agendaPicksRow.holds Try.pinned (OpenSpec.ofChange agendaPicksSpec)

/-- ITS FALSE NEIGHBOUR: 'it returns false'. Refute it at one input. -/
def agendaPicksWrong : ChangeSpec := { name := "agendaPicks", fn := fun _ => fun
  | [d1, d2] => { results := [.lit (.bool false)], args := [d1, d2] }
  | _ => none }
def AgendaPicksWrongFalsely : Prop := agendaPicksRow.holds Try.pinned (OpenSpec.ofChange agendaPicksWrong)

/-- 'skeinlaw21.AgendaNone': WHATEVER THE INPUT: true; the input reads as it did. -/
def agendaNoneSpec : ChangeSpec := { name := "agendaNone", fn := fun _ => fun
  | [d] => { results := [.lit (.bool true)], args := [d] }
  | _ => none }
def agendaNoneRow : OpenClaim := { program := "ytbdfkgchliakfaa", sum := "e83391ecee8bcfe3e5f2d131fc4da31ec91441a22c5d52df97d0549b7ddf52d2", func := "skein/skeinlaw21.AgendaNone", spec := "agendaNone", apart := false }
def AgendaNoneSaid : Prop := agendaNoneRow.holds Try.pinned (OpenSpec.ofChange agendaNoneSpec)

/-- ITS FALSE NEIGHBOUR: 'it returns false'. Refute it at one input. -/
def agendaNoneWrong : ChangeSpec := { name := "agendaNone", fn := fun _ => fun
  | [d] => { results := [.lit (.bool false)], args := [d] }
  | _ => none }
def AgendaNoneWrongFalsely : Prop := agendaNoneRow.holds Try.pinned (OpenSpec.ofChange agendaNoneWrong)

/-- 'skeinlaw02.SigWords': WHATEVER THE INPUT: true; the input reads as it did. -/
def sigWordsSpec : ChangeSpec := { name := "sigWords", fn := fun _ => fun
  | [d] => { results := [.lit (.bool true)], args := [d] }
  | _ => none }
def sigWordsRow : OpenClaim := { program := "ytbdfkgchliakfaa", sum := "e83391ecee8bcfe3e5f2d131fc4da31ec91441a22c5d52df97d0549b7ddf52d2", func := "skein/skeinlaw02.SigWords", spec := "sigWords", apart := false }
def SigWordsSaid : Prop := sigWordsRow.holds Try.pinned (OpenSpec.ofChange sigWordsSpec)

/-- ITS FALSE NEIGHBOUR: 'it returns false'. Refute it at one input. -/
def sigWordsWrong : ChangeSpec := { name := "sigWords", fn := fun _ => fun
  | [d] => { results := [.lit (.bool false)], args := [d] }
  | _ => none }
def SigWordsWrongFalsely : Prop := sigWordsRow.holds Try.pinned (OpenSpec.ofChange sigWordsWrong)

/-- 'skeinlaw02.SigPairs': WHATEVER THE INPUT: true; the input reads as it did. -/
def sigPairsSpec : ChangeSpec := { name := "sigPairs", fn := fun _ => fun
  | [d1, d2, d3] => { results := [.lit (.bool true)], args := [d1, d2, d3] }
  | _ => none }
def sigPairsRow : OpenClaim := { program := "ytbdfkgchliakfaa", sum := "e83391ecee8bcfe3e5f2d131fc4da31ec91441a22c5d52df97d0549b7ddf52d2", func := "skein/skeinlaw02.SigPairs", spec := "sigPairs", unfollowed := true, recurses := true, apart := false }
def SigPairsSaid : Prop := sigPairsRow.holds Try.pinned (OpenSpec.ofChange sigPairsSpec)

/-- ITS FALSE NEIGHBOUR: 'it returns false'. Refute it at one input. -/
def sigPairsWrong : ChangeSpec := { name := "sigPairs", fn := fun _ => fun
  | [d1, d2, d3] => { results := [.lit (.bool false)], args := [d1, d2, d3] }
  | _ => none }
def SigPairsWrongFalsely : Prop := sigPairsRow.holds Try.pinned (OpenSpec.ofChange sigPairsWrong)

/-- 'skeinlaw07.ArenaAll': WHATEVER THE INPUT: true; the input reads as it did. -/
def arenaAllSpec : ChangeSpec := { name := "arenaAll", fn := fun _ => fun
  | [d1, d2] => { results := [.lit (.bool true)], args := [d1, d2] }
  | _ => none }
def arenaAllRow : OpenClaim := { program := "ytbdfkgchliakfaa", sum := "e83391ecee8bcfe3e5f2d131fc4da31ec91441a22c5d52df97d0549b7ddf52d2", func := "skein/skeinlaw07.ArenaAll", spec := "arenaAll", unfollowed := true, recurses := true, apart := false }
def ArenaAllSaid : Prop := arenaAllRow.holds Try.pinned (OpenSpec.ofChange arenaAllSpec)

/-- ITS FALSE NEIGHBOUR: 'it returns false'. Refute it at one input. -/
def arenaAllWrong : ChangeSpec := { name := "arenaAll", fn := fun _ => fun
  | [d1, d2] => { results := [.lit (.bool false)], args := [d1, d2] }
  | _ => none }
def ArenaAllWrongFalsely : Prop := arenaAllRow.holds Try.pinned (OpenSpec.ofChange arenaAllWrong)

/-- 'skeinlaw07.ArenaPlays': WHATEVER THE INPUT: true; the input reads as it did. -/
def arenaPlaysSpec : ChangeSpec := { name := "arenaPlays", fn := fun _ => fun
  | [d1, d2] => { results := [.lit (.bool true)], args := [d1, d2] }
  | _ => none }
def arenaPlaysRow : OpenClaim := { program := "ytbdfkgchliakfaa", sum := "e83391ecee8bcfe3e5f2d131fc4da31ec91441a22c5d52df97d0549b7ddf52d2", func := "skein/skeinlaw07.ArenaPlays", spec := "arenaPlays", unfollowed := true, recurses := true, apart := false }
def ArenaPlaysSaid : Prop := arenaPlaysRow.holds Try.pinned (OpenSpec.ofChange arenaPlaysSpec)

/-- ITS FALSE NEIGHBOUR: 'it returns false'. Refute it at one input. -/
def arenaPlaysWrong : ChangeSpec := { name := "arenaPlays", fn := fun _ => fun
  | [d1, d2] => { results := [.lit (.bool false)], args := [d1, d2] }
  | _ => none }
def ArenaPlaysWrongFalsely : Prop := arenaPlaysRow.holds Try.pinned (OpenSpec.ofChange arenaPlaysWrong)

/- THE SECOND FORM. 'bulk': how many values and letters a reading holds, each counted each time it is reached (what is shared counts as often as it is met; a slice's spare places count too). A statement '..UptoSaid' is the law's where the arguments, and the package variables that the reading takes, are together of bulk at most 1048576: NARROWER than '..Said'. Prove '..Said' where nothing that the law and all that it calls make is longer than what came in: it says more and counts as full. Else prove '..UptoSaid'. A law counts once. -/
mutual
def uptoBulk {H : Type} : DataW H → Nat
  | .lit (.string bytes) => bytes.length + 1
  | .lit _ => 1
  | .nil => 1
  | .ptr d => uptoBulk d + 1
  | .slice elems spare => uptoBulkAll elems + uptoBulkAll spare + 1
  | .agg parts => uptoBulkAll parts + 1
  | .iface _ d => uptoBulk d + 1
  | .map entries => uptoBulkEntries entries + 1
  | .held _ => 1
def uptoBulkAll {H : Type} : List (DataW H) → Nat
  | [] => 0
  | d :: r => uptoBulk d + uptoBulkAll r
def uptoBulkEntries {H : Type} : List (Lit × DataW H) → Nat
  | [] => 0
  | x :: r => uptoBulkEntry x + uptoBulkEntries r
def uptoBulkEntry {H : Type} : Lit × DataW H → Nat
  | (.string bytes, d) => bytes.length + uptoBulk d + 1
  | (_, d) => uptoBulk d + 1
 end
def uptoSmall : (H : Type) → List (DataW H) → Bool := fun _ ds => decide (uptoBulkAll ds ≤ 1048576)
def OpenSpec.upto (s : _root_.Go.ChangeSpec) : _root_.Go.OpenSpec := { _root_.Go.OpenSpec.ofChange s with cond := some uptoSmall }

/-- 'skeinlaw06.WordPorts', WHERE WHAT IT READS IS OF BULK AT MOST 1048576: true; the input reads as it did. -/
def wordPortsUptoRow : OpenClaim := { program := "ytbdfkgchliakfaa", sum := "e83391ecee8bcfe3e5f2d131fc4da31ec91441a22c5d52df97d0549b7ddf52d2", func := "skein/skeinlaw06.WordPorts", spec := "wordPorts", apart := false, narrowed := true }
def WordPortsUptoSaid : Prop := wordPortsUptoRow.holds Try.pinned (OpenSpec.upto wordPortsSpec)

/-- 'skeinlaw06.WordBack', WHERE WHAT IT READS IS OF BULK AT MOST 1048576: true; the input reads as it did. -/
def wordBackUptoRow : OpenClaim := { program := "ytbdfkgchliakfaa", sum := "e83391ecee8bcfe3e5f2d131fc4da31ec91441a22c5d52df97d0549b7ddf52d2", func := "skein/skeinlaw06.WordBack", spec := "wordBack", apart := false, narrowed := true }
def WordBackUptoSaid : Prop := wordBackUptoRow.holds Try.pinned (OpenSpec.upto wordBackSpec)

/-- 'skeinlaw21.AgendaPicks', WHERE WHAT IT READS IS OF BULK AT MOST 1048576: true; the input reads as it did. -/
def agendaPicksUptoRow : OpenClaim := { program := "ytbdfkgchliakfaa", sum := "e83391ecee8bcfe3e5f2d131fc4da31ec91441a22c5d52df97d0549b7ddf52d2", func := "skein/skeinlaw21.AgendaPicks", spec := "agendaPicks", apart := false, narrowed := true }
def AgendaPicksUptoSaid : Prop := agendaPicksUptoRow.holds Try.pinned (OpenSpec.upto agendaPicksSpec)

/-- 'skeinlaw21.AgendaNone', WHERE WHAT IT READS IS OF BULK AT MOST 1048576: true; the input reads as it did. -/
def agendaNoneUptoRow : OpenClaim := { program := "ytbdfkgchliakfaa", sum := "e83391ecee8bcfe3e5f2d131fc4da31ec91441a22c5d52df97d0549b7ddf52d2", func := "skein/skeinlaw21.AgendaNone", spec := "agendaNone", apart := false, narrowed := true }
def AgendaNoneUptoSaid : Prop := agendaNoneUptoRow.holds Try.pinned (OpenSpec.upto agendaNoneSpec)

/-- 'skeinlaw02.SigWords', WHERE WHAT IT READS IS OF BULK AT MOST 1048576: true; the input reads as it did. -/
def sigWordsUptoRow : OpenClaim := { program := "ytbdfkgchliakfaa", sum := "e83391ecee8bcfe3e5f2d131fc4da31ec91441a22c5d52df97d0549b7ddf52d2", func := "skein/skeinlaw02.SigWords", spec := "sigWords", apart := false, narrowed := true }
def SigWordsUptoSaid : Prop := sigWordsUptoRow.holds Try.pinned (OpenSpec.upto sigWordsSpec)

/-- 'skeinlaw02.SigPairs', WHERE WHAT IT READS IS OF BULK AT MOST 1048576: true; the input reads as it did. -/
def sigPairsUptoRow : OpenClaim := { program := "ytbdfkgchliakfaa", sum := "e83391ecee8bcfe3e5f2d131fc4da31ec91441a22c5d52df97d0549b7ddf52d2", func := "skein/skeinlaw02.SigPairs", spec := "sigPairs", unfollowed := true, recurses := true, apart := false, narrowed := true }
def SigPairsUptoSaid : Prop := sigPairsUptoRow.holds Try.pinned (OpenSpec.upto sigPairsSpec)

/-- 'skeinlaw07.ArenaAll', WHERE WHAT IT READS IS OF BULK AT MOST 1048576: true; the input reads as it did. -/
def arenaAllUptoRow : OpenClaim := { program := "ytbdfkgchliakfaa", sum := "e83391ecee8bcfe3e5f2d131fc4da31ec91441a22c5d52df97d0549b7ddf52d2", func := "skein/skeinlaw07.ArenaAll", spec := "arenaAll", unfollowed := true, recurses := true, apart := false, narrowed := true }
def ArenaAllUptoSaid : Prop := arenaAllUptoRow.holds Try.pinned (OpenSpec.upto arenaAllSpec)

/-- 'skeinlaw07.ArenaPlays', WHERE WHAT IT READS IS OF BULK AT MOST 1048576: true; the input reads as it did. -/
def arenaPlaysUptoRow : OpenClaim := { program := "ytbdfkgchliakfaa", sum := "e83391ecee8bcfe3e5f2d131fc4da31ec91441a22c5d52df97d0549b7ddf52d2", func := "skein/skeinlaw07.ArenaPlays", spec := "arenaPlays", unfollowed := true, recurses := true, apart := false, narrowed := true }
def ArenaPlaysUptoSaid : Prop := arenaPlaysUptoRow.holds Try.pinned (OpenSpec.upto arenaPlaysSpec)

end Rows
end Go.Proofs.Ytbdfkgchliakfaa
