/-
  No cell of these rows narrows 'for every input' (looked for: loops, veiled, ifaces, maps, wideKeys, modest, calm, conditions, laid).
  DERIVED. THE GIVEN ROWS OF THIS SEAT. 11 by the template 'for every input the law returns true; each argument reads behind the call as it read before'; 0 by the template 'total and deterministic' (their statements: YtnadiddaeolanaaTotals.lean).
  GIVEN WITH THE SEED: the statements are not yours to turn. If you find one false, say at which input.
  Laid BY PROGRAM, IN A SANDBOX (cutbox-rows.mjs): the forced cells as the released guide's own fill.sh prints them over the translation 492f9f138d7f8917… (all of the seat's roots in one cut). By AI agents, Wed Nov 11 2026. No macro, syntax, notation, axiom, sorry.
-/
import Derived.Test.YtnadiddaeolanaaChecked
import GoSem.Claim
import GoSem.ClaimJoined
import GoSem.ClaimMapViews
import Derived.JoinedTies
import Derived.KernelRfl
namespace Go.Proofs.Ytnadiddaeolanaa
/- THE CELL 'sum', in the pinned program and in every row, IS THE sha256 OF THE DUMP (.gsa) THAT YtnadiddaeolanaaProg.lean LOADS. Nothing in Lean hashes anything: it is a label: what it is worth is what the hold of that sum in a sandbox is worth. -/
noncomputable def Try.pinned : Pinned := { name := "ytnadiddaeolanaa", sum := "492f9f138d7f8917da4894ccec78a4552cb07f93a4763edb9cea67da430195b7", checked := Try.checked }
namespace Rows
def none {H : Type} : Left H := { results := [], args := [] }

/-- 'demesnelaw16.PublishNil': WHATEVER THE INPUT: true; the input reads as it did. -/
def publishNilSpec : ChangeSpec := { name := "publishNil", fn := fun _ => fun
  | [d1, d2] => { results := [.lit (.bool true)], args := [d1, d2] }
  | _ => none }
def publishNilRow : OpenClaim := { program := "ytnadiddaeolanaa", sum := "492f9f138d7f8917da4894ccec78a4552cb07f93a4763edb9cea67da430195b7", func := "demesne/demesnelaw16.PublishNil", spec := "publishNil", unfollowed := true, recurses := true, apart := false }
def PublishNilSaid : Prop := publishNilRow.holds Try.pinned (OpenSpec.ofChange publishNilSpec)

/-- ITS FALSE NEIGHBOUR: 'it returns false'. Refute it at one input. -/
def publishNilWrong : ChangeSpec := { name := "publishNil", fn := fun _ => fun
  | [d1, d2] => { results := [.lit (.bool false)], args := [d1, d2] }
  | _ => none }
def PublishNilWrongFalsely : Prop := publishNilRow.holds Try.pinned (OpenSpec.ofChange publishNilWrong)

/-- 'demesnelaw13.ShadeNil': WHATEVER THE INPUT: true; the input reads as it did. -/
def shadeNilSpec : ChangeSpec := { name := "shadeNil", fn := fun _ => fun
  | [d1, d2] => { results := [.lit (.bool true)], args := [d1, d2] }
  | _ => none }
def shadeNilRow : OpenClaim := { program := "ytnadiddaeolanaa", sum := "492f9f138d7f8917da4894ccec78a4552cb07f93a4763edb9cea67da430195b7", func := "demesne/demesnelaw13.ShadeNil", spec := "shadeNil", unfollowed := true, recurses := true, apart := false }
def ShadeNilSaid : Prop := shadeNilRow.holds Try.pinned (OpenSpec.ofChange shadeNilSpec)

/-- ITS FALSE NEIGHBOUR: 'it returns false'. Refute it at one input. -/
def shadeNilWrong : ChangeSpec := { name := "shadeNil", fn := fun _ => fun
  | [d1, d2] => { results := [.lit (.bool false)], args := [d1, d2] }
  | _ => none }
def ShadeNilWrongFalsely : Prop := shadeNilRow.holds Try.pinned (OpenSpec.ofChange shadeNilWrong)

/-- 'demesnelaw16.PublishTells': WHATEVER THE INPUT: true; the input reads as it did. -/
def publishTellsSpec : ChangeSpec := { name := "publishTells", fn := fun _ => fun
  | [d1, d2, d3] => { results := [.lit (.bool true)], args := [d1, d2, d3] }
  | _ => none }
def publishTellsRow : OpenClaim := { program := "ytnadiddaeolanaa", sum := "492f9f138d7f8917da4894ccec78a4552cb07f93a4763edb9cea67da430195b7", func := "demesne/demesnelaw16.PublishTells", spec := "publishTells", unfollowed := true, recurses := true, apart := false }
def PublishTellsSaid : Prop := publishTellsRow.holds Try.pinned (OpenSpec.ofChange publishTellsSpec)

/-- ITS FALSE NEIGHBOUR: 'it returns false'. Refute it at one input. -/
def publishTellsWrong : ChangeSpec := { name := "publishTells", fn := fun _ => fun
  | [d1, d2, d3] => { results := [.lit (.bool false)], args := [d1, d2, d3] }
  | _ => none }
def PublishTellsWrongFalsely : Prop := publishTellsRow.holds Try.pinned (OpenSpec.ofChange publishTellsWrong)

/-- 'demesnelaw13.ShadeTells': WHATEVER THE INPUT: true; the input reads as it did. -/
def shadeTellsSpec : ChangeSpec := { name := "shadeTells", fn := fun _ => fun
  | [d1, d2, d3] => { results := [.lit (.bool true)], args := [d1, d2, d3] }
  | _ => none }
def shadeTellsRow : OpenClaim := { program := "ytnadiddaeolanaa", sum := "492f9f138d7f8917da4894ccec78a4552cb07f93a4763edb9cea67da430195b7", func := "demesne/demesnelaw13.ShadeTells", spec := "shadeTells", unfollowed := true, recurses := true, apart := false }
def ShadeTellsSaid : Prop := shadeTellsRow.holds Try.pinned (OpenSpec.ofChange shadeTellsSpec)

/-- ITS FALSE NEIGHBOUR: 'it returns false'. Refute it at one input. -/
def shadeTellsWrong : ChangeSpec := { name := "shadeTells", fn := fun _ => fun
  | [d1, d2, d3] => { results := [.lit (.bool false)], args := [d1, d2, d3] }
  | _ => none }
def ShadeTellsWrongFalsely : Prop := shadeTellsRow.holds Try.pinned (OpenSpec.ofChange shadeTellsWrong)

/-- 'demesnelaw14.GivePlays': WHATEVER THE INPUT: true; the input reads as it did. -/
def givePlaysSpec : ChangeSpec := { name := "givePlays", fn := fun _ => fun
  | [d1, d2] => { results := [.lit (.bool true)], args := [d1, d2] }
  | _ => none }
def givePlaysRow : OpenClaim := { program := "ytnadiddaeolanaa", sum := "492f9f138d7f8917da4894ccec78a4552cb07f93a4763edb9cea67da430195b7", func := "demesne/demesnelaw14.GivePlays", spec := "givePlays", unfollowed := true, recurses := true, apart := false }
def GivePlaysSaid : Prop := givePlaysRow.holds Try.pinned (OpenSpec.ofChange givePlaysSpec)

/-- ITS FALSE NEIGHBOUR: 'it returns false'. Refute it at one input. -/
def givePlaysWrong : ChangeSpec := { name := "givePlays", fn := fun _ => fun
  | [d1, d2] => { results := [.lit (.bool false)], args := [d1, d2] }
  | _ => none }
def GivePlaysWrongFalsely : Prop := givePlaysRow.holds Try.pinned (OpenSpec.ofChange givePlaysWrong)

/-- 'demesnelaw21.TraceAll': WHATEVER THE INPUT: true; the input reads as it did. -/
def traceAllSpec : ChangeSpec := { name := "traceAll", fn := fun _ => fun
  | [d1, d2] => { results := [.lit (.bool true)], args := [d1, d2] }
  | _ => none }
def traceAllRow : OpenClaim := { program := "ytnadiddaeolanaa", sum := "492f9f138d7f8917da4894ccec78a4552cb07f93a4763edb9cea67da430195b7", func := "demesne/demesnelaw21.TraceAll", spec := "traceAll", unfollowed := true, recurses := true, apart := false }
def TraceAllSaid : Prop := traceAllRow.holds Try.pinned (OpenSpec.ofChange traceAllSpec)

/-- ITS FALSE NEIGHBOUR: 'it returns false'. Refute it at one input. -/
def traceAllWrong : ChangeSpec := { name := "traceAll", fn := fun _ => fun
  | [d1, d2] => { results := [.lit (.bool false)], args := [d1, d2] }
  | _ => none }
def TraceAllWrongFalsely : Prop := traceAllRow.holds Try.pinned (OpenSpec.ofChange traceAllWrong)

/-- 'demesnelaw21.TraceNil': WHATEVER THE INPUT: true; the input reads as it did. -/
def traceNilSpec : ChangeSpec := { name := "traceNil", fn := fun _ => fun
  | [d] => { results := [.lit (.bool true)], args := [d] }
  | _ => none }
def traceNilRow : OpenClaim := { program := "ytnadiddaeolanaa", sum := "492f9f138d7f8917da4894ccec78a4552cb07f93a4763edb9cea67da430195b7", func := "demesne/demesnelaw21.TraceNil", spec := "traceNil", unfollowed := true, recurses := true, apart := false }
def TraceNilSaid : Prop := traceNilRow.holds Try.pinned (OpenSpec.ofChange traceNilSpec)

/-- ITS FALSE NEIGHBOUR: 'it returns false'. Refute it at one input. -/
def traceNilWrong : ChangeSpec := { name := "traceNil", fn := fun _ => fun
  | [d] => { results := [.lit (.bool false)], args := [d] }
  | _ => none }
def TraceNilWrongFalsely : Prop := traceNilRow.holds Try.pinned (OpenSpec.ofChange traceNilWrong)

/-- 'demesnelaw21.TraceTells': WHATEVER THE INPUT: true; the input reads as it did. -/
def traceTellsSpec : ChangeSpec := { name := "traceTells", fn := fun _ => fun
  | [d1, d2] => { results := [.lit (.bool true)], args := [d1, d2] }
  | _ => none }
def traceTellsRow : OpenClaim := { program := "ytnadiddaeolanaa", sum := "492f9f138d7f8917da4894ccec78a4552cb07f93a4763edb9cea67da430195b7", func := "demesne/demesnelaw21.TraceTells", spec := "traceTells", unfollowed := true, recurses := true, apart := false }
def TraceTellsSaid : Prop := traceTellsRow.holds Try.pinned (OpenSpec.ofChange traceTellsSpec)

/-- ITS FALSE NEIGHBOUR: 'it returns false'. Refute it at one input. -/
def traceTellsWrong : ChangeSpec := { name := "traceTells", fn := fun _ => fun
  | [d1, d2] => { results := [.lit (.bool false)], args := [d1, d2] }
  | _ => none }
def TraceTellsWrongFalsely : Prop := traceTellsRow.holds Try.pinned (OpenSpec.ofChange traceTellsWrong)

/-- 'demesnelaw22.ReapNil': WHATEVER THE INPUT: true; the input reads as it did. -/
def reapNilSpec : ChangeSpec := { name := "reapNil", fn := fun _ => fun
  | [d] => { results := [.lit (.bool true)], args := [d] }
  | _ => none }
def reapNilRow : OpenClaim := { program := "ytnadiddaeolanaa", sum := "492f9f138d7f8917da4894ccec78a4552cb07f93a4763edb9cea67da430195b7", func := "demesne/demesnelaw22.ReapNil", spec := "reapNil", unfollowed := true, recurses := true, apart := false }
def ReapNilSaid : Prop := reapNilRow.holds Try.pinned (OpenSpec.ofChange reapNilSpec)

/-- ITS FALSE NEIGHBOUR: 'it returns false'. Refute it at one input. -/
def reapNilWrong : ChangeSpec := { name := "reapNil", fn := fun _ => fun
  | [d] => { results := [.lit (.bool false)], args := [d] }
  | _ => none }
def ReapNilWrongFalsely : Prop := reapNilRow.holds Try.pinned (OpenSpec.ofChange reapNilWrong)

/-- 'demesnelaw22.ReapWhite': WHATEVER THE INPUT: true; the input reads as it did. -/
def reapWhiteSpec : ChangeSpec := { name := "reapWhite", fn := fun _ => fun
  | [d1, d2] => { results := [.lit (.bool true)], args := [d1, d2] }
  | _ => none }
def reapWhiteRow : OpenClaim := { program := "ytnadiddaeolanaa", sum := "492f9f138d7f8917da4894ccec78a4552cb07f93a4763edb9cea67da430195b7", func := "demesne/demesnelaw22.ReapWhite", spec := "reapWhite", unfollowed := true, recurses := true, apart := false }
def ReapWhiteSaid : Prop := reapWhiteRow.holds Try.pinned (OpenSpec.ofChange reapWhiteSpec)

/-- ITS FALSE NEIGHBOUR: 'it returns false'. Refute it at one input. -/
def reapWhiteWrong : ChangeSpec := { name := "reapWhite", fn := fun _ => fun
  | [d1, d2] => { results := [.lit (.bool false)], args := [d1, d2] }
  | _ => none }
def ReapWhiteWrongFalsely : Prop := reapWhiteRow.holds Try.pinned (OpenSpec.ofChange reapWhiteWrong)

/-- 'demesnelaw22.ReapTells': WHATEVER THE INPUT: true; the input reads as it did. -/
def reapTellsSpec : ChangeSpec := { name := "reapTells", fn := fun _ => fun
  | [d1, d2] => { results := [.lit (.bool true)], args := [d1, d2] }
  | _ => none }
def reapTellsRow : OpenClaim := { program := "ytnadiddaeolanaa", sum := "492f9f138d7f8917da4894ccec78a4552cb07f93a4763edb9cea67da430195b7", func := "demesne/demesnelaw22.ReapTells", spec := "reapTells", unfollowed := true, recurses := true, apart := false }
def ReapTellsSaid : Prop := reapTellsRow.holds Try.pinned (OpenSpec.ofChange reapTellsSpec)

/-- ITS FALSE NEIGHBOUR: 'it returns false'. Refute it at one input. -/
def reapTellsWrong : ChangeSpec := { name := "reapTells", fn := fun _ => fun
  | [d1, d2] => { results := [.lit (.bool false)], args := [d1, d2] }
  | _ => none }
def ReapTellsWrongFalsely : Prop := reapTellsRow.holds Try.pinned (OpenSpec.ofChange reapTellsWrong)

/- THE SECOND FORM. 'bulk': how many values and letters a reading holds, each counted each time it is reached (what is shared counts as often as it is met; a slice's spare places count too). A statement '..UptoSaid' is the law's where the arguments, and the package variables that the reading takes, are together of bulk at most 1048576: NARROWER than '..Said'. Prove '..Said' where nothing that the law and all that it calls make is longer than what came in: it says more and counts as full. Else prove '..UptoSaid'. A law counts once. -/
mutual
def uptoBulk {H : Type} : DataW H → Nat
  | .lit (.string bytes) => bytes.length + 1
  | .lit _ => 1
  | .nil => 1
  | .ptr d => uptoBulk d + 1
  | .slice elems spare => uptoBulkAll elems + uptoBulkAll spare + 1
  | .agg parts => uptoBulkAll parts + 1
  | .iface _ d => uptoBulk d + 1
  | .map entries => uptoBulkEntries entries + 1
  | .held _ => 1
def uptoBulkAll {H : Type} : List (DataW H) → Nat
  | [] => 0
  | d :: r => uptoBulk d + uptoBulkAll r
def uptoBulkEntries {H : Type} : List (Lit × DataW H) → Nat
  | [] => 0
  | x :: r => uptoBulkEntry x + uptoBulkEntries r
def uptoBulkEntry {H : Type} : Lit × DataW H → Nat
  | (.string bytes, d) => bytes.length + uptoBulk d + 1
  | (_, d) => uptoBulk d + 1
 end
def uptoSmall : (H : Type) → List (DataW H) → Bool := fun _ ds => decide (uptoBulkAll ds ≤ 1048576)
def OpenSpec.upto (s : _root_.Go.ChangeSpec) : _root_.Go.OpenSpec := { _root_.Go.OpenSpec.ofChange s with cond := some uptoSmall }

/-- 'demesnelaw16.PublishNil', WHERE WHAT IT READS IS OF BULK AT MOST 1048576: true; the input reads as it did. -/
def publishNilUptoRow : OpenClaim := { program := "ytnadiddaeolanaa", sum := "492f9f138d7f8917da4894ccec78a4552cb07f93a4763edb9cea67da430195b7", func := "demesne/demesnelaw16.PublishNil", spec := "publishNil", unfollowed := true, recurses := true, apart := false, narrowed := true }
def PublishNilUptoSaid : Prop := publishNilUptoRow.holds Try.pinned (OpenSpec.upto publishNilSpec)

/-- 'demesnelaw13.ShadeNil', WHERE WHAT IT READS IS OF BULK AT MOST 1048576: true; the input reads as it did. -/
def shadeNilUptoRow : OpenClaim := { program := "ytnadiddaeolanaa", sum := "492f9f138d7f8917da4894ccec78a4552cb07f93a4763edb9cea67da430195b7", func := "demesne/demesnelaw13.ShadeNil", spec := "shadeNil", unfollowed := true, recurses := true, apart := false, narrowed := true }
def ShadeNilUptoSaid : Prop := shadeNilUptoRow.holds Try.pinned (OpenSpec.upto shadeNilSpec)

/-- 'demesnelaw16.PublishTells', WHERE WHAT IT READS IS OF BULK AT MOST 1048576: true; the input reads as it did. -/
def publishTellsUptoRow : OpenClaim := { program := "ytnadiddaeolanaa", sum := "492f9f138d7f8917da4894ccec78a4552cb07f93a4763edb9cea67da430195b7", func := "demesne/demesnelaw16.PublishTells", spec := "publishTells", unfollowed := true, recurses := true, apart := false, narrowed := true }
def PublishTellsUptoSaid : Prop := publishTellsUptoRow.holds Try.pinned (OpenSpec.upto publishTellsSpec)

/-- 'demesnelaw13.ShadeTells', WHERE WHAT IT READS IS OF BULK AT MOST 1048576: true; the input reads as it did. -/
def shadeTellsUptoRow : OpenClaim := { program := "ytnadiddaeolanaa", sum := "492f9f138d7f8917da4894ccec78a4552cb07f93a4763edb9cea67da430195b7", func := "demesne/demesnelaw13.ShadeTells", spec := "shadeTells", unfollowed := true, recurses := true, apart := false, narrowed := true }
def ShadeTellsUptoSaid : Prop := shadeTellsUptoRow.holds Try.pinned (OpenSpec.upto shadeTellsSpec)

/-- 'demesnelaw14.GivePlays', WHERE WHAT IT READS IS OF BULK AT MOST 1048576: true; the input reads as it did. -/
def givePlaysUptoRow : OpenClaim := { program := "ytnadiddaeolanaa", sum := "492f9f138d7f8917da4894ccec78a4552cb07f93a4763edb9cea67da430195b7", func := "demesne/demesnelaw14.GivePlays", spec := "givePlays", unfollowed := true, recurses := true, apart := false, narrowed := true }
def GivePlaysUptoSaid : Prop := givePlaysUptoRow.holds Try.pinned (OpenSpec.upto givePlaysSpec)

/-- 'demesnelaw21.TraceAll', WHERE WHAT IT READS IS OF BULK AT MOST 1048576: true; the input reads as it did. -/
def traceAllUptoRow : OpenClaim := { program := "ytnadiddaeolanaa", sum := "492f9f138d7f8917da4894ccec78a4552cb07f93a4763edb9cea67da430195b7", func := "demesne/demesnelaw21.TraceAll", spec := "traceAll", unfollowed := true, recurses := true, apart := false, narrowed := true }
def TraceAllUptoSaid : Prop := traceAllUptoRow.holds Try.pinned (OpenSpec.upto traceAllSpec)

/-- 'demesnelaw21.TraceNil', WHERE WHAT IT READS IS OF BULK AT MOST 1048576: true; the input reads as it did. -/
def traceNilUptoRow : OpenClaim := { program := "ytnadiddaeolanaa", sum := "492f9f138d7f8917da4894ccec78a4552cb07f93a4763edb9cea67da430195b7", func := "demesne/demesnelaw21.TraceNil", spec := "traceNil", unfollowed := true, recurses := true, apart := false, narrowed := true }
def TraceNilUptoSaid : Prop := traceNilUptoRow.holds Try.pinned (OpenSpec.upto traceNilSpec)

/-- 'demesnelaw21.TraceTells', WHERE WHAT IT READS IS OF BULK AT MOST 1048576: true; the input reads as it did. -/
def traceTellsUptoRow : OpenClaim := { program := "ytnadiddaeolanaa", sum := "492f9f138d7f8917da4894ccec78a4552cb07f93a4763edb9cea67da430195b7", func := "demesne/demesnelaw21.TraceTells", spec := "traceTells", unfollowed := true, recurses := true, apart := false, narrowed := true }
def TraceTellsUptoSaid : Prop := traceTellsUptoRow.holds Try.pinned (OpenSpec.upto traceTellsSpec)

/-- 'demesnelaw22.ReapNil', WHERE WHAT IT READS IS OF BULK AT MOST 1048576: true; the input reads as it did. -/
def reapNilUptoRow : OpenClaim := { program := "ytnadiddaeolanaa", sum := "492f9f138d7f8917da4894ccec78a4552cb07f93a4763edb9cea67da430195b7", func := "demesne/demesnelaw22.ReapNil", spec := "reapNil", unfollowed := true, recurses := true, apart := false, narrowed := true }
def ReapNilUptoSaid : Prop := reapNilUptoRow.holds Try.pinned (OpenSpec.upto reapNilSpec)

/-- 'demesnelaw22.ReapWhite', WHERE WHAT IT READS IS OF BULK AT MOST 1048576: true; the input reads as it did. -/
def reapWhiteUptoRow : OpenClaim := { program := "ytnadiddaeolanaa", sum := "492f9f138d7f8917da4894ccec78a4552cb07f93a4763edb9cea67da430195b7", func := "demesne/demesnelaw22.ReapWhite", spec := "reapWhite", unfollowed := true, recurses := true, apart := false, narrowed := true }
def ReapWhiteUptoSaid : Prop := reapWhiteUptoRow.holds Try.pinned (OpenSpec.upto reapWhiteSpec)

/-- 'demesnelaw22.ReapTells', WHERE WHAT IT READS IS OF BULK AT MOST 1048576: true; the input reads as it did. -/
def reapTellsUptoRow : OpenClaim := { program := "ytnadiddaeolanaa", sum := "492f9f138d7f8917da4894ccec78a4552cb07f93a4763edb9cea67da430195b7", func := "demesne/demesnelaw22.ReapTells", spec := "reapTells", unfollowed := true, recurses := true, apart := false, narrowed := true }
def ReapTellsUptoSaid : Prop := reapTellsUptoRow.holds Try.pinned (OpenSpec.upto reapTellsSpec)

end Rows
end Go.Proofs.Ytnadiddaeolanaa
