/-
  No cell of these rows narrows 'for every input' (looked for: loops, veiled, ifaces, maps, wideKeys, modest, calm, conditions, laid).
  DERIVED. THE GIVEN ROWS OF THIS SEAT. 12 by the template 'for every input the law returns true; each argument reads behind the call as it read before'; 0 by the template 'total and deterministic' (their statements: YtgdbccficcgbdaaTotals.lean).
  GIVEN WITH THE SEED: the statements are not yours to turn. If you find one false, say at which input.
  Laid BY PROGRAM, IN A SANDBOX (cutbox-rows.mjs): the forced cells as the released guide's own fill.sh prints them over the translation 61d0bb56aba412e9… (all of the seat's roots in one cut). By AI agents, Wed Nov 11 2026. No macro, syntax, notation, axiom, sorry.
-/
import Derived.Test.YtgdbccficcgbdaaChecked
import GoSem.Claim
import GoSem.ClaimJoined
import GoSem.ClaimMapViews
import Derived.JoinedTies
import Derived.KernelRfl
namespace Go.Proofs.Ytgdbccficcgbdaa
/- THE CELL 'sum', in the pinned program and in every row, IS THE sha256 OF THE DUMP (.gsa) THAT YtgdbccficcgbdaaProg.lean LOADS. Nothing in Lean hashes anything: it is a label: what it is worth is what the hold of that sum in a sandbox is worth. -/
noncomputable def Try.pinned : Pinned := { name := "ytgdbccficcgbdaa", sum := "61d0bb56aba412e919ca568975ac7f6c5a44dea2b5c2f34303df2c2c8a70f58d", checked := Try.checked }
namespace Rows
def none {H : Type} : Left H := { results := [], args := [] }

/-- 'demesnelaw08.StackKeeps': WHATEVER THE INPUT: true; the input reads as it did. -/
def stackKeepsSpec : ChangeSpec := { name := "stackKeeps", fn := fun _ => fun
  | [d1, d2] => { results := [.lit (.bool true)], args := [d1, d2] }
  | _ => none }
def stackKeepsRow : OpenClaim := { program := "ytgdbccficcgbdaa", sum := "61d0bb56aba412e919ca568975ac7f6c5a44dea2b5c2f34303df2c2c8a70f58d", func := "demesne/demesnelaw08.StackKeeps", spec := "stackKeeps", apart := false }
def StackKeepsSaid : Prop := stackKeepsRow.holds Try.pinned (OpenSpec.ofChange stackKeepsSpec)

/-- ITS FALSE NEIGHBOUR: 'it returns false'. Refute it at one input. -/
def stackKeepsWrong : ChangeSpec := { name := "stackKeeps", fn := fun _ => fun
  | [d1, d2] => { results := [.lit (.bool false)], args := [d1, d2] }
  | _ => none }
def StackKeepsWrongFalsely : Prop := stackKeepsRow.holds Try.pinned (OpenSpec.ofChange stackKeepsWrong)

/-- 'demesnelaw08.StackPlays': WHATEVER THE INPUT: true; the input reads as it did. -/
def stackPlaysSpec : ChangeSpec := { name := "stackPlays", fn := fun _ => fun
  | [d1, d2] => { results := [.lit (.bool true)], args := [d1, d2] }
  | _ => none }
def stackPlaysRow : OpenClaim := { program := "ytgdbccficcgbdaa", sum := "61d0bb56aba412e919ca568975ac7f6c5a44dea2b5c2f34303df2c2c8a70f58d", func := "demesne/demesnelaw08.StackPlays", spec := "stackPlays", apart := false }
def StackPlaysSaid : Prop := stackPlaysRow.holds Try.pinned (OpenSpec.ofChange stackPlaysSpec)

/-- ITS FALSE NEIGHBOUR: 'it returns false'. Refute it at one input. -/
def stackPlaysWrong : ChangeSpec := { name := "stackPlays", fn := fun _ => fun
  | [d1, d2] => { results := [.lit (.bool false)], args := [d1, d2] }
  | _ => none }
def StackPlaysWrongFalsely : Prop := stackPlaysRow.holds Try.pinned (OpenSpec.ofChange stackPlaysWrong)

/-- 'demesnelaw08.StackNil': WHATEVER THE INPUT: true; the input reads as it did. -/
def stackNilSpec : ChangeSpec := { name := "stackNil", fn := fun _ => fun
  | [d] => { results := [.lit (.bool true)], args := [d] }
  | _ => none }
def stackNilRow : OpenClaim := { program := "ytgdbccficcgbdaa", sum := "61d0bb56aba412e919ca568975ac7f6c5a44dea2b5c2f34303df2c2c8a70f58d", func := "demesne/demesnelaw08.StackNil", spec := "stackNil", apart := false }
def StackNilSaid : Prop := stackNilRow.holds Try.pinned (OpenSpec.ofChange stackNilSpec)

/-- ITS FALSE NEIGHBOUR: 'it returns false'. Refute it at one input. -/
def stackNilWrong : ChangeSpec := { name := "stackNil", fn := fun _ => fun
  | [d] => { results := [.lit (.bool false)], args := [d] }
  | _ => none }
def StackNilWrongFalsely : Prop := stackNilRow.holds Try.pinned (OpenSpec.ofChange stackNilWrong)

/-- 'demesnelaw02.ArenaPlays': WHATEVER THE INPUT: true; the input reads as it did. -/
def arenaPlaysSpec : ChangeSpec := { name := "arenaPlays", fn := fun _ => fun
  | [d1, d2] => { results := [.lit (.bool true)], args := [d1, d2] }
  | _ => none }
def arenaPlaysRow : OpenClaim := { program := "ytgdbccficcgbdaa", sum := "61d0bb56aba412e919ca568975ac7f6c5a44dea2b5c2f34303df2c2c8a70f58d", func := "demesne/demesnelaw02.ArenaPlays", spec := "arenaPlays", unfollowed := true, recurses := true, apart := false }
def ArenaPlaysSaid : Prop := arenaPlaysRow.holds Try.pinned (OpenSpec.ofChange arenaPlaysSpec)

/-- ITS FALSE NEIGHBOUR: 'it returns false'. Refute it at one input. -/
def arenaPlaysWrong : ChangeSpec := { name := "arenaPlays", fn := fun _ => fun
  | [d1, d2] => { results := [.lit (.bool false)], args := [d1, d2] }
  | _ => none }
def ArenaPlaysWrongFalsely : Prop := arenaPlaysRow.holds Try.pinned (OpenSpec.ofChange arenaPlaysWrong)

/-- 'demesnelaw02.ArenaNil': WHATEVER THE INPUT: true; the input reads as it did. -/
def arenaNilSpec : ChangeSpec := { name := "arenaNil", fn := fun _ => fun
  | [d1, d2] => { results := [.lit (.bool true)], args := [d1, d2] }
  | _ => none }
def arenaNilRow : OpenClaim := { program := "ytgdbccficcgbdaa", sum := "61d0bb56aba412e919ca568975ac7f6c5a44dea2b5c2f34303df2c2c8a70f58d", func := "demesne/demesnelaw02.ArenaNil", spec := "arenaNil", unfollowed := true, recurses := true, apart := false }
def ArenaNilSaid : Prop := arenaNilRow.holds Try.pinned (OpenSpec.ofChange arenaNilSpec)

/-- ITS FALSE NEIGHBOUR: 'it returns false'. Refute it at one input. -/
def arenaNilWrong : ChangeSpec := { name := "arenaNil", fn := fun _ => fun
  | [d1, d2] => { results := [.lit (.bool false)], args := [d1, d2] }
  | _ => none }
def ArenaNilWrongFalsely : Prop := arenaNilRow.holds Try.pinned (OpenSpec.ofChange arenaNilWrong)

/-- 'demesnelaw02.ArenaLast': WHATEVER THE INPUT: true; the input reads as it did. -/
def arenaLastSpec : ChangeSpec := { name := "arenaLast", fn := fun _ => fun
  | [d1, d2] => { results := [.lit (.bool true)], args := [d1, d2] }
  | _ => none }
def arenaLastRow : OpenClaim := { program := "ytgdbccficcgbdaa", sum := "61d0bb56aba412e919ca568975ac7f6c5a44dea2b5c2f34303df2c2c8a70f58d", func := "demesne/demesnelaw02.ArenaLast", spec := "arenaLast", unfollowed := true, recurses := true, apart := false }
def ArenaLastSaid : Prop := arenaLastRow.holds Try.pinned (OpenSpec.ofChange arenaLastSpec)

/-- ITS FALSE NEIGHBOUR: 'it returns false'. Refute it at one input. -/
def arenaLastWrong : ChangeSpec := { name := "arenaLast", fn := fun _ => fun
  | [d1, d2] => { results := [.lit (.bool false)], args := [d1, d2] }
  | _ => none }
def ArenaLastWrongFalsely : Prop := arenaLastRow.holds Try.pinned (OpenSpec.ofChange arenaLastWrong)

/-- 'demesnelaw09.RootsBack': WHATEVER THE INPUT: true; the input reads as it did. -/
def rootsBackSpec : ChangeSpec := { name := "rootsBack", fn := fun _ => fun
  | [d1, d2, d3, d4, d5] => { results := [.lit (.bool true)], args := [d1, d2, d3, d4, d5] }
  | _ => none }
def rootsBackRow : OpenClaim := { program := "ytgdbccficcgbdaa", sum := "61d0bb56aba412e919ca568975ac7f6c5a44dea2b5c2f34303df2c2c8a70f58d", func := "demesne/demesnelaw09.RootsBack", spec := "rootsBack", apart := false }
def RootsBackSaid : Prop := rootsBackRow.holds Try.pinned (OpenSpec.ofChange rootsBackSpec)

/-- ITS FALSE NEIGHBOUR: 'it returns false'. Refute it at one input. -/
def rootsBackWrong : ChangeSpec := { name := "rootsBack", fn := fun _ => fun
  | [d1, d2, d3, d4, d5] => { results := [.lit (.bool false)], args := [d1, d2, d3, d4, d5] }
  | _ => none }
def RootsBackWrongFalsely : Prop := rootsBackRow.holds Try.pinned (OpenSpec.ofChange rootsBackWrong)

/-- 'demesnelaw09.RootsPlays': WHATEVER THE INPUT: true; the input reads as it did. -/
def rootsPlaysSpec : ChangeSpec := { name := "rootsPlays", fn := fun _ => fun
  | [d1, d2] => { results := [.lit (.bool true)], args := [d1, d2] }
  | _ => none }
def rootsPlaysRow : OpenClaim := { program := "ytgdbccficcgbdaa", sum := "61d0bb56aba412e919ca568975ac7f6c5a44dea2b5c2f34303df2c2c8a70f58d", func := "demesne/demesnelaw09.RootsPlays", spec := "rootsPlays", apart := false }
def RootsPlaysSaid : Prop := rootsPlaysRow.holds Try.pinned (OpenSpec.ofChange rootsPlaysSpec)

/-- ITS FALSE NEIGHBOUR: 'it returns false'. Refute it at one input. -/
def rootsPlaysWrong : ChangeSpec := { name := "rootsPlays", fn := fun _ => fun
  | [d1, d2] => { results := [.lit (.bool false)], args := [d1, d2] }
  | _ => none }
def RootsPlaysWrongFalsely : Prop := rootsPlaysRow.holds Try.pinned (OpenSpec.ofChange rootsPlaysWrong)

/-- 'demesnelaw09.RootsNil': WHATEVER THE INPUT: true; the input reads as it did. -/
def rootsNilSpec : ChangeSpec := { name := "rootsNil", fn := fun _ => fun
  | [d1, d2] => { results := [.lit (.bool true)], args := [d1, d2] }
  | _ => none }
def rootsNilRow : OpenClaim := { program := "ytgdbccficcgbdaa", sum := "61d0bb56aba412e919ca568975ac7f6c5a44dea2b5c2f34303df2c2c8a70f58d", func := "demesne/demesnelaw09.RootsNil", spec := "rootsNil", apart := false }
def RootsNilSaid : Prop := rootsNilRow.holds Try.pinned (OpenSpec.ofChange rootsNilSpec)

/-- ITS FALSE NEIGHBOUR: 'it returns false'. Refute it at one input. -/
def rootsNilWrong : ChangeSpec := { name := "rootsNil", fn := fun _ => fun
  | [d1, d2] => { results := [.lit (.bool false)], args := [d1, d2] }
  | _ => none }
def RootsNilWrongFalsely : Prop := rootsNilRow.holds Try.pinned (OpenSpec.ofChange rootsNilWrong)

/-- 'demesnelaw07.ListPlays': WHATEVER THE INPUT: true; the input reads as it did. -/
def listPlaysSpec : ChangeSpec := { name := "listPlays", fn := fun _ => fun
  | [d] => { results := [.lit (.bool true)], args := [d] }
  | _ => none }
def listPlaysRow : OpenClaim := { program := "ytgdbccficcgbdaa", sum := "61d0bb56aba412e919ca568975ac7f6c5a44dea2b5c2f34303df2c2c8a70f58d", func := "demesne/demesnelaw07.ListPlays", spec := "listPlays", unfollowed := true, recurses := true, apart := false }
def ListPlaysSaid : Prop := listPlaysRow.holds Try.pinned (OpenSpec.ofChange listPlaysSpec)

/-- ITS FALSE NEIGHBOUR: 'it returns false'. Refute it at one input. -/
def listPlaysWrong : ChangeSpec := { name := "listPlays", fn := fun _ => fun
  | [d] => { results := [.lit (.bool false)], args := [d] }
  | _ => none }
def ListPlaysWrongFalsely : Prop := listPlaysRow.holds Try.pinned (OpenSpec.ofChange listPlaysWrong)

/-- 'demesnelaw07.ListNil': WHATEVER THE INPUT: true; the input reads as it did. -/
def listNilSpec : ChangeSpec := { name := "listNil", fn := fun _ => fun
  | [d1, d2] => { results := [.lit (.bool true)], args := [d1, d2] }
  | _ => none }
def listNilRow : OpenClaim := { program := "ytgdbccficcgbdaa", sum := "61d0bb56aba412e919ca568975ac7f6c5a44dea2b5c2f34303df2c2c8a70f58d", func := "demesne/demesnelaw07.ListNil", spec := "listNil", unfollowed := true, recurses := true, apart := false }
def ListNilSaid : Prop := listNilRow.holds Try.pinned (OpenSpec.ofChange listNilSpec)

/-- ITS FALSE NEIGHBOUR: 'it returns false'. Refute it at one input. -/
def listNilWrong : ChangeSpec := { name := "listNil", fn := fun _ => fun
  | [d1, d2] => { results := [.lit (.bool false)], args := [d1, d2] }
  | _ => none }
def ListNilWrongFalsely : Prop := listNilRow.holds Try.pinned (OpenSpec.ofChange listNilWrong)

/-- 'demesnelaw07.ListOnce': WHATEVER THE INPUT: true; the input reads as it did. -/
def listOnceSpec : ChangeSpec := { name := "listOnce", fn := fun _ => fun
  | [d] => { results := [.lit (.bool true)], args := [d] }
  | _ => none }
def listOnceRow : OpenClaim := { program := "ytgdbccficcgbdaa", sum := "61d0bb56aba412e919ca568975ac7f6c5a44dea2b5c2f34303df2c2c8a70f58d", func := "demesne/demesnelaw07.ListOnce", spec := "listOnce", unfollowed := true, recurses := true, apart := false }
def ListOnceSaid : Prop := listOnceRow.holds Try.pinned (OpenSpec.ofChange listOnceSpec)

/-- ITS FALSE NEIGHBOUR: 'it returns false'. Refute it at one input. -/
def listOnceWrong : ChangeSpec := { name := "listOnce", fn := fun _ => fun
  | [d] => { results := [.lit (.bool false)], args := [d] }
  | _ => none }
def ListOnceWrongFalsely : Prop := listOnceRow.holds Try.pinned (OpenSpec.ofChange listOnceWrong)

/- THE SECOND FORM. 'bulk': how many values and letters a reading holds, each counted each time it is reached (what is shared counts as often as it is met; a slice's spare places count too). A statement '..UptoSaid' is the law's where the arguments, and the package variables that the reading takes, are together of bulk at most 1048576: NARROWER than '..Said'. Prove '..Said' where nothing that the law and all that it calls make is longer than what came in: it says more and counts as full. Else prove '..UptoSaid'. A law counts once. -/
mutual
def uptoBulk {H : Type} : DataW H → Nat
  | .lit (.string bytes) => bytes.length + 1
  | .lit _ => 1
  | .nil => 1
  | .ptr d => uptoBulk d + 1
  | .slice elems spare => uptoBulkAll elems + uptoBulkAll spare + 1
  | .agg parts => uptoBulkAll parts + 1
  | .iface _ d => uptoBulk d + 1
  | .map entries => uptoBulkEntries entries + 1
  | .held _ => 1
def uptoBulkAll {H : Type} : List (DataW H) → Nat
  | [] => 0
  | d :: r => uptoBulk d + uptoBulkAll r
def uptoBulkEntries {H : Type} : List (Lit × DataW H) → Nat
  | [] => 0
  | x :: r => uptoBulkEntry x + uptoBulkEntries r
def uptoBulkEntry {H : Type} : Lit × DataW H → Nat
  | (.string bytes, d) => bytes.length + uptoBulk d + 1
  | (_, d) => uptoBulk d + 1
 end
def uptoSmall : (H : Type) → List (DataW H) → Bool := fun _ ds => decide (uptoBulkAll ds ≤ 1048576)
def OpenSpec.upto (s : _root_.Go.ChangeSpec) : _root_.Go.OpenSpec := { _root_.Go.OpenSpec.ofChange s with cond := some uptoSmall }

/-- 'demesnelaw08.StackKeeps', WHERE WHAT IT READS IS OF BULK AT MOST 1048576: true; the input reads as it did. -/
def stackKeepsUptoRow : OpenClaim := { program := "ytgdbccficcgbdaa", sum := "61d0bb56aba412e919ca568975ac7f6c5a44dea2b5c2f34303df2c2c8a70f58d", func := "demesne/demesnelaw08.StackKeeps", spec := "stackKeeps", apart := false, narrowed := true }
def StackKeepsUptoSaid : Prop := stackKeepsUptoRow.holds Try.pinned (OpenSpec.upto stackKeepsSpec)

/-- 'demesnelaw08.StackPlays', WHERE WHAT IT READS IS OF BULK AT MOST 1048576: true; the input reads as it did. -/
def stackPlaysUptoRow : OpenClaim := { program := "ytgdbccficcgbdaa", sum := "61d0bb56aba412e919ca568975ac7f6c5a44dea2b5c2f34303df2c2c8a70f58d", func := "demesne/demesnelaw08.StackPlays", spec := "stackPlays", apart := false, narrowed := true }
def StackPlaysUptoSaid : Prop := stackPlaysUptoRow.holds Try.pinned (OpenSpec.upto stackPlaysSpec)

/-- 'demesnelaw08.StackNil', WHERE WHAT IT READS IS OF BULK AT MOST 1048576: true; the input reads as it did. -/
def stackNilUptoRow : OpenClaim := { program := "ytgdbccficcgbdaa", sum := "61d0bb56aba412e919ca568975ac7f6c5a44dea2b5c2f34303df2c2c8a70f58d", func := "demesne/demesnelaw08.StackNil", spec := "stackNil", apart := false, narrowed := true }
def StackNilUptoSaid : Prop := stackNilUptoRow.holds Try.pinned (OpenSpec.upto stackNilSpec)

/-- 'demesnelaw02.ArenaPlays', WHERE WHAT IT READS IS OF BULK AT MOST 1048576: true; the input reads as it did. -/
def arenaPlaysUptoRow : OpenClaim := { program := "ytgdbccficcgbdaa", sum := "61d0bb56aba412e919ca568975ac7f6c5a44dea2b5c2f34303df2c2c8a70f58d", func := "demesne/demesnelaw02.ArenaPlays", spec := "arenaPlays", unfollowed := true, recurses := true, apart := false, narrowed := true }
def ArenaPlaysUptoSaid : Prop := arenaPlaysUptoRow.holds Try.pinned (OpenSpec.upto arenaPlaysSpec)

/-- 'demesnelaw02.ArenaNil', WHERE WHAT IT READS IS OF BULK AT MOST 1048576: true; the input reads as it did. -/
def arenaNilUptoRow : OpenClaim := { program := "ytgdbccficcgbdaa", sum := "61d0bb56aba412e919ca568975ac7f6c5a44dea2b5c2f34303df2c2c8a70f58d", func := "demesne/demesnelaw02.ArenaNil", spec := "arenaNil", unfollowed := true, recurses := true, apart := false, narrowed := true }
def ArenaNilUptoSaid : Prop := arenaNilUptoRow.holds Try.pinned (OpenSpec.upto arenaNilSpec)

/-- 'demesnelaw02.ArenaLast', WHERE WHAT IT READS IS OF BULK AT MOST 1048576: true; the input reads as it did. -/
def arenaLastUptoRow : OpenClaim := { program := "ytgdbccficcgbdaa", sum := "61d0bb56aba412e919ca568975ac7f6c5a44dea2b5c2f34303df2c2c8a70f58d", func := "demesne/demesnelaw02.ArenaLast", spec := "arenaLast", unfollowed := true, recurses := true, apart := false, narrowed := true }
def ArenaLastUptoSaid : Prop := arenaLastUptoRow.holds Try.pinned (OpenSpec.upto arenaLastSpec)

/-- 'demesnelaw09.RootsBack', WHERE WHAT IT READS IS OF BULK AT MOST 1048576: true; the input reads as it did. -/
def rootsBackUptoRow : OpenClaim := { program := "ytgdbccficcgbdaa", sum := "61d0bb56aba412e919ca568975ac7f6c5a44dea2b5c2f34303df2c2c8a70f58d", func := "demesne/demesnelaw09.RootsBack", spec := "rootsBack", apart := false, narrowed := true }
def RootsBackUptoSaid : Prop := rootsBackUptoRow.holds Try.pinned (OpenSpec.upto rootsBackSpec)

/-- 'demesnelaw09.RootsPlays', WHERE WHAT IT READS IS OF BULK AT MOST 1048576: true; the input reads as it did. -/
def rootsPlaysUptoRow : OpenClaim := { program := "ytgdbccficcgbdaa", sum := "61d0bb56aba412e919ca568975ac7f6c5a44dea2b5c2f34303df2c2c8a70f58d", func := "demesne/demesnelaw09.RootsPlays", spec := "rootsPlays", apart := false, narrowed := true }
def RootsPlaysUptoSaid : Prop := rootsPlaysUptoRow.holds Try.pinned (OpenSpec.upto rootsPlaysSpec)

/-- 'demesnelaw09.RootsNil', WHERE WHAT IT READS IS OF BULK AT MOST 1048576: true; the input reads as it did. -/
def rootsNilUptoRow : OpenClaim := { program := "ytgdbccficcgbdaa", sum := "61d0bb56aba412e919ca568975ac7f6c5a44dea2b5c2f34303df2c2c8a70f58d", func := "demesne/demesnelaw09.RootsNil", spec := "rootsNil", apart := false, narrowed := true }
def RootsNilUptoSaid : Prop := rootsNilUptoRow.holds Try.pinned (OpenSpec.upto rootsNilSpec)

/-- 'demesnelaw07.ListPlays', WHERE WHAT IT READS IS OF BULK AT MOST 1048576: true; the input reads as it did. -/
def listPlaysUptoRow : OpenClaim := { program := "ytgdbccficcgbdaa", sum := "61d0bb56aba412e919ca568975ac7f6c5a44dea2b5c2f34303df2c2c8a70f58d", func := "demesne/demesnelaw07.ListPlays", spec := "listPlays", unfollowed := true, recurses := true, apart := false, narrowed := true }
def ListPlaysUptoSaid : Prop := listPlaysUptoRow.holds Try.pinned (OpenSpec.upto listPlaysSpec)

/-- 'demesnelaw07.ListNil', WHERE WHAT IT READS IS OF BULK AT MOST 1048576: true; the input reads as it did. -/
def listNilUptoRow : OpenClaim := { program := "ytgdbccficcgbdaa", sum := "61d0bb56aba412e919ca568975ac7f6c5a44dea2b5c2f34303df2c2c8a70f58d", func := "demesne/demesnelaw07.ListNil", spec := "listNil", unfollowed := true, recurses := true, apart := false, narrowed := true }
def ListNilUptoSaid : Prop := listNilUptoRow.holds Try.pinned (OpenSpec.upto listNilSpec)

/-- 'demesnelaw07.ListOnce', WHERE WHAT IT READS IS OF BULK AT MOST 1048576: true; the input reads as it did. -/
def listOnceUptoRow : OpenClaim := { program := "ytgdbccficcgbdaa", sum := "61d0bb56aba412e919ca568975ac7f6c5a44dea2b5c2f34303df2c2c8a70f58d", func := "demesne/demesnelaw07.ListOnce", spec := "listOnce", unfollowed := true, recurses := true, apart := false, narrowed := true }
def ListOnceUptoSaid : Prop := listOnceUptoRow.holds Try.pinned (OpenSpec.upto listOnceSpec)

end Rows
end Go.Proofs.Ytgdbccficcgbdaa
