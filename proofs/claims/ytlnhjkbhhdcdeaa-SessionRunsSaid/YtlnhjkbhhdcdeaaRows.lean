/-
  No cell of these rows narrows 'for every input' (looked for: loops, veiled, ifaces, maps, wideKeys, modest, calm, conditions, laid).
  DERIVED. THE GIVEN ROWS OF THIS SEAT. 5 by the template 'for every input the law returns true; each argument reads behind the call as it read before'; 0 by the template 'total and deterministic' (their statements: YtlnhjkbhhdcdeaaTotals.lean).
  GIVEN WITH THE SEED: the statements are not yours to turn. If you find one false, say at which input.
  Laid BY PROGRAM, IN A SANDBOX (cutbox-rows.mjs): the forced cells as the released guide's own fill.sh prints them over the translation 57a65157ff942bad… (all of the seat's roots in one cut). By AI agents, Wed Nov 11 2026. No macro, syntax, notation, axiom, sorry.
-/
import Derived.Test.YtlnhjkbhhdcdeaaChecked
import GoSem.Claim
import GoSem.ClaimJoined
import GoSem.ClaimMapViews
import Derived.JoinedTies
import Derived.KernelRfl
namespace Go.Proofs.Ytlnhjkbhhdcdeaa
/- THE CELL 'sum', in the pinned program and in every row, IS THE sha256 OF THE DUMP (.gsa) THAT YtlnhjkbhhdcdeaaProg.lean LOADS. Nothing in Lean hashes anything: it is a label: what it is worth is what the hold of that sum in a sandbox is worth. -/
noncomputable def Try.pinned : Pinned := { name := "ytlnhjkbhhdcdeaa", sum := "57a65157ff942badfec39d0138d5d2a865fcd4d35cd6814103831f85beb2951c", checked := Try.checked }
namespace Rows
def none {H : Type} : Left H := { results := [], args := [] }

/-- 'milestonelaw20.SessionFrames': WHATEVER THE INPUT: true; the input reads as it did. -/
def sessionFramesSpec : ChangeSpec := { name := "sessionFrames", fn := fun _ => fun
  | [d] => { results := [.lit (.bool true)], args := [d] }
  | _ => none }
def sessionFramesRow : OpenClaim := { program := "ytlnhjkbhhdcdeaa", sum := "57a65157ff942badfec39d0138d5d2a865fcd4d35cd6814103831f85beb2951c", func := "milestone/milestonelaw20.SessionFrames", spec := "sessionFrames", unfollowed := true, recurses := true, apart := false }
def SessionFramesSaid : Prop := sessionFramesRow.holds Try.pinned (OpenSpec.ofChange sessionFramesSpec)

/-- ITS FALSE NEIGHBOUR: 'it returns false'. Refute it at one input. -/
def sessionFramesWrong : ChangeSpec := { name := "sessionFrames", fn := fun _ => fun
  | [d] => { results := [.lit (.bool false)], args := [d] }
  | _ => none }
def SessionFramesWrongFalsely : Prop := sessionFramesRow.holds Try.pinned (OpenSpec.ofChange sessionFramesWrong)

/-- 'milestonelaw20.SessionOnce': WHATEVER THE INPUT: true; the input reads as it did. -/
def sessionOnceSpec : ChangeSpec := { name := "sessionOnce", fn := fun _ => fun
  | [d1, d2] => { results := [.lit (.bool true)], args := [d1, d2] }
  | _ => none }
def sessionOnceRow : OpenClaim := { program := "ytlnhjkbhhdcdeaa", sum := "57a65157ff942badfec39d0138d5d2a865fcd4d35cd6814103831f85beb2951c", func := "milestone/milestonelaw20.SessionOnce", spec := "sessionOnce", unfollowed := true, recurses := true, apart := false }
def SessionOnceSaid : Prop := sessionOnceRow.holds Try.pinned (OpenSpec.ofChange sessionOnceSpec)

/-- ITS FALSE NEIGHBOUR: 'it returns false'. Refute it at one input. -/
def sessionOnceWrong : ChangeSpec := { name := "sessionOnce", fn := fun _ => fun
  | [d1, d2] => { results := [.lit (.bool false)], args := [d1, d2] }
  | _ => none }
def SessionOnceWrongFalsely : Prop := sessionOnceRow.holds Try.pinned (OpenSpec.ofChange sessionOnceWrong)

/-- 'milestonelaw20.SessionBounds': WHATEVER THE INPUT: true; the input reads as it did. -/
def sessionBoundsSpec : ChangeSpec := { name := "sessionBounds", fn := fun _ => fun
  | [d1, d2] => { results := [.lit (.bool true)], args := [d1, d2] }
  | _ => none }
def sessionBoundsRow : OpenClaim := { program := "ytlnhjkbhhdcdeaa", sum := "57a65157ff942badfec39d0138d5d2a865fcd4d35cd6814103831f85beb2951c", func := "milestone/milestonelaw20.SessionBounds", spec := "sessionBounds", unfollowed := true, recurses := true, apart := false }
def SessionBoundsSaid : Prop := sessionBoundsRow.holds Try.pinned (OpenSpec.ofChange sessionBoundsSpec)

/-- ITS FALSE NEIGHBOUR: 'it returns false'. Refute it at one input. -/
def sessionBoundsWrong : ChangeSpec := { name := "sessionBounds", fn := fun _ => fun
  | [d1, d2] => { results := [.lit (.bool false)], args := [d1, d2] }
  | _ => none }
def SessionBoundsWrongFalsely : Prop := sessionBoundsRow.holds Try.pinned (OpenSpec.ofChange sessionBoundsWrong)

/-- 'milestonelaw20.SessionRuns': WHATEVER THE INPUT: true; the input reads as it did. -/
def sessionRunsSpec : ChangeSpec := { name := "sessionRuns", fn := fun _ => fun
  | [d1, d2, d3] => { results := [.lit (.bool true)], args := [d1, d2, d3] }
  | _ => none }
def sessionRunsRow : OpenClaim := { program := "ytlnhjkbhhdcdeaa", sum := "57a65157ff942badfec39d0138d5d2a865fcd4d35cd6814103831f85beb2951c", func := "milestone/milestonelaw20.SessionRuns", spec := "sessionRuns", unfollowed := true, recurses := true, apart := false }
def SessionRunsSaid : Prop := sessionRunsRow.holds Try.pinned (OpenSpec.ofChange sessionRunsSpec)

/-- ITS FALSE NEIGHBOUR: 'it returns false'. Refute it at one input. -/
def sessionRunsWrong : ChangeSpec := { name := "sessionRuns", fn := fun _ => fun
  | [d1, d2, d3] => { results := [.lit (.bool false)], args := [d1, d2, d3] }
  | _ => none }
def SessionRunsWrongFalsely : Prop := sessionRunsRow.holds Try.pinned (OpenSpec.ofChange sessionRunsWrong)

/-- 'milestonelaw20.SessionNobody': WHATEVER THE INPUT: true; the input reads as it did. -/
def sessionNobodySpec : ChangeSpec := { name := "sessionNobody", fn := fun _ => fun
  | [d1, d2] => { results := [.lit (.bool true)], args := [d1, d2] }
  | _ => none }
def sessionNobodyRow : OpenClaim := { program := "ytlnhjkbhhdcdeaa", sum := "57a65157ff942badfec39d0138d5d2a865fcd4d35cd6814103831f85beb2951c", func := "milestone/milestonelaw20.SessionNobody", spec := "sessionNobody", unfollowed := true, recurses := true, apart := false }
def SessionNobodySaid : Prop := sessionNobodyRow.holds Try.pinned (OpenSpec.ofChange sessionNobodySpec)

/-- ITS FALSE NEIGHBOUR: 'it returns false'. Refute it at one input. -/
def sessionNobodyWrong : ChangeSpec := { name := "sessionNobody", fn := fun _ => fun
  | [d1, d2] => { results := [.lit (.bool false)], args := [d1, d2] }
  | _ => none }
def SessionNobodyWrongFalsely : Prop := sessionNobodyRow.holds Try.pinned (OpenSpec.ofChange sessionNobodyWrong)

/- THE SECOND FORM. 'bulk': how many values and letters a reading holds, each counted each time it is reached (what is shared counts as often as it is met; a slice's spare places count too). A statement '..UptoSaid' is the law's where the arguments, and the package variables that the reading takes, are together of bulk at most 1048576: NARROWER than '..Said'. Prove '..Said' where nothing that the law and all that it calls make is longer than what came in: it says more and counts as full. Else prove '..UptoSaid'. A law counts once. -/
mutual
def uptoBulk {H : Type} : DataW H → Nat
  | .lit (.string bytes) => bytes.length + 1
  | .lit _ => 1
  | .nil => 1
  | .ptr d => uptoBulk d + 1
  | .slice elems spare => uptoBulkAll elems + uptoBulkAll spare + 1
  | .agg parts => uptoBulkAll parts + 1
  | .iface _ d => uptoBulk d + 1
  | .map entries => uptoBulkEntries entries + 1
  | .held _ => 1
def uptoBulkAll {H : Type} : List (DataW H) → Nat
  | [] => 0
  | d :: r => uptoBulk d + uptoBulkAll r
def uptoBulkEntries {H : Type} : List (Lit × DataW H) → Nat
  | [] => 0
  | x :: r => uptoBulkEntry x + uptoBulkEntries r
def uptoBulkEntry {H : Type} : Lit × DataW H → Nat
  | (.string bytes, d) => bytes.length + uptoBulk d + 1
  | (_, d) => uptoBulk d + 1
 end
def uptoSmall : (H : Type) → List (DataW H) → Bool := fun _ ds => decide (uptoBulkAll ds ≤ 1048576)
def OpenSpec.upto (s : _root_.Go.ChangeSpec) : _root_.Go.OpenSpec := { _root_.Go.OpenSpec.ofChange s with cond := some uptoSmall }

/-- 'milestonelaw20.SessionFrames', WHERE WHAT IT READS IS OF BULK AT MOST 1048576: true; the input reads as it did. -/
def sessionFramesUptoRow : OpenClaim := { program := "ytlnhjkbhhdcdeaa", sum := "57a65157ff942badfec39d0138d5d2a865fcd4d35cd6814103831f85beb2951c", func := "milestone/milestonelaw20.SessionFrames", spec := "sessionFrames", unfollowed := true, recurses := true, apart := false, narrowed := true }
def SessionFramesUptoSaid : Prop := sessionFramesUptoRow.holds Try.pinned (OpenSpec.upto sessionFramesSpec)

/-- 'milestonelaw20.SessionOnce', WHERE WHAT IT READS IS OF BULK AT MOST 1048576: true; the input reads as it did. -/
def sessionOnceUptoRow : OpenClaim := { program := "ytlnhjkbhhdcdeaa", sum := "57a65157ff942badfec39d0138d5d2a865fcd4d35cd6814103831f85beb2951c", func := "milestone/milestonelaw20.SessionOnce", spec := "sessionOnce", unfollowed := true, recurses := true, apart := false, narrowed := true }
def SessionOnceUptoSaid : Prop := sessionOnceUptoRow.holds Try.pinned (OpenSpec.upto sessionOnceSpec)

/-- 'milestonelaw20.SessionBounds', WHERE WHAT IT READS IS OF BULK AT MOST 1048576: true; the input reads as it did. -/
def sessionBoundsUptoRow : OpenClaim := { program := "ytlnhjkbhhdcdeaa", sum := "57a65157ff942badfec39d0138d5d2a865fcd4d35cd6814103831f85beb2951c", func := "milestone/milestonelaw20.SessionBounds", spec := "sessionBounds", unfollowed := true, recurses := true, apart := false, narrowed := true }
def SessionBoundsUptoSaid : Prop := sessionBoundsUptoRow.holds Try.pinned (OpenSpec.upto sessionBoundsSpec)

/-- 'milestonelaw20.SessionRuns', WHERE WHAT IT READS IS OF BULK AT MOST 1048576: true; the input reads as it did. -/
def sessionRunsUptoRow : OpenClaim := { program := "ytlnhjkbhhdcdeaa", sum := "57a65157ff942badfec39d0138d5d2a865fcd4d35cd6814103831f85beb2951c", func := "milestone/milestonelaw20.SessionRuns", spec := "sessionRuns", unfollowed := true, recurses := true, apart := false, narrowed := true }
def SessionRunsUptoSaid : Prop := sessionRunsUptoRow.holds Try.pinned (OpenSpec.upto sessionRunsSpec)

/-- 'milestonelaw20.SessionNobody', WHERE WHAT IT READS IS OF BULK AT MOST 1048576: true; the input reads as it did. -/
def sessionNobodyUptoRow : OpenClaim := { program := "ytlnhjkbhhdcdeaa", sum := "57a65157ff942badfec39d0138d5d2a865fcd4d35cd6814103831f85beb2951c", func := "milestone/milestonelaw20.SessionNobody", spec := "sessionNobody", unfollowed := true, recurses := true, apart := false, narrowed := true }
def SessionNobodyUptoSaid : Prop := sessionNobodyUptoRow.holds Try.pinned (OpenSpec.upto sessionNobodySpec)

end Rows
end Go.Proofs.Ytlnhjkbhhdcdeaa
