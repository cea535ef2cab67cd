/-
  No cell of these rows narrows 'for every input' (looked for: loops, veiled, ifaces, maps, wideKeys, modest, calm, conditions, laid).
  DERIVED. THE GIVEN ROWS OF THIS SEAT. 5 by the template 'for every input the law returns true; each argument reads behind the call as it read before'; 0 by the template 'total and deterministic' (their statements: YtleomcilhhdngaaTotals.lean).
  GIVEN WITH THE SEED: the statements are not yours to turn. If you find one false, say at which input.
  Laid BY PROGRAM, IN A SANDBOX (cutbox-rows.mjs): the forced cells as the released guide's own fill.sh prints them over the translation a28f2740a85315a9… (all of the seat's roots in one cut). By AI agents, Wed Nov 11 2026. No macro, syntax, notation, axiom, sorry.
-/
import Derived.Test.YtleomcilhhdngaaChecked
import GoSem.Claim
import GoSem.ClaimJoined
import GoSem.ClaimMapViews
import Derived.JoinedTies
import Derived.KernelRfl
namespace Go.Proofs.Ytleomcilhhdngaa
/- THE CELL 'sum', in the pinned program and in every row, IS THE sha256 OF THE DUMP (.gsa) THAT YtleomcilhhdngaaProg.lean LOADS. Nothing in Lean hashes anything: it is a label: what it is worth is what the hold of that sum in a sandbox is worth. -/
noncomputable def Try.pinned : Pinned := { name := "ytleomcilhhdngaa", sum := "a28f2740a85315a9da29c5102e979904847af791e1870c2b37af8d5ac06583eb", checked := Try.checked }
namespace Rows
def none {H : Type} : Left H := { results := [], args := [] }

/-- 'milestonelaw19.PiecesCut': WHATEVER THE INPUT: true; the input reads as it did. -/
def piecesCutSpec : ChangeSpec := { name := "piecesCut", fn := fun _ => fun
  | [d1, d2] => { results := [.lit (.bool true)], args := [d1, d2] }
  | _ => none }
def piecesCutRow : OpenClaim := { program := "ytleomcilhhdngaa", sum := "a28f2740a85315a9da29c5102e979904847af791e1870c2b37af8d5ac06583eb", func := "milestone/milestonelaw19.PiecesCut", spec := "piecesCut", apart := false }
def PiecesCutSaid : Prop := piecesCutRow.holds Try.pinned (OpenSpec.ofChange piecesCutSpec)

/-- ITS FALSE NEIGHBOUR: 'it returns false'. Refute it at one input. -/
def piecesCutWrong : ChangeSpec := { name := "piecesCut", fn := fun _ => fun
  | [d1, d2] => { results := [.lit (.bool false)], args := [d1, d2] }
  | _ => none }
def PiecesCutWrongFalsely : Prop := piecesCutRow.holds Try.pinned (OpenSpec.ofChange piecesCutWrong)

/-- 'milestonelaw19.PiecesFew': WHATEVER THE INPUT: true; the input reads as it did. -/
def piecesFewSpec : ChangeSpec := { name := "piecesFew", fn := fun _ => fun
  | [d1, d2] => { results := [.lit (.bool true)], args := [d1, d2] }
  | _ => none }
def piecesFewRow : OpenClaim := { program := "ytleomcilhhdngaa", sum := "a28f2740a85315a9da29c5102e979904847af791e1870c2b37af8d5ac06583eb", func := "milestone/milestonelaw19.PiecesFew", spec := "piecesFew", apart := false }
def PiecesFewSaid : Prop := piecesFewRow.holds Try.pinned (OpenSpec.ofChange piecesFewSpec)

/-- ITS FALSE NEIGHBOUR: 'it returns false'. Refute it at one input. -/
def piecesFewWrong : ChangeSpec := { name := "piecesFew", fn := fun _ => fun
  | [d1, d2] => { results := [.lit (.bool false)], args := [d1, d2] }
  | _ => none }
def PiecesFewWrongFalsely : Prop := piecesFewRow.holds Try.pinned (OpenSpec.ofChange piecesFewWrong)

/-- 'milestonelaw19.PiecesNobody': WHATEVER THE INPUT: true; the input reads as it did. -/
def piecesNobodySpec : ChangeSpec := { name := "piecesNobody", fn := fun _ => fun
  | [d] => { results := [.lit (.bool true)], args := [d] }
  | _ => none }
def piecesNobodyRow : OpenClaim := { program := "ytleomcilhhdngaa", sum := "a28f2740a85315a9da29c5102e979904847af791e1870c2b37af8d5ac06583eb", func := "milestone/milestonelaw19.PiecesNobody", spec := "piecesNobody", apart := false }
def PiecesNobodySaid : Prop := piecesNobodyRow.holds Try.pinned (OpenSpec.ofChange piecesNobodySpec)

/-- ITS FALSE NEIGHBOUR: 'it returns false'. Refute it at one input. -/
def piecesNobodyWrong : ChangeSpec := { name := "piecesNobody", fn := fun _ => fun
  | [d] => { results := [.lit (.bool false)], args := [d] }
  | _ => none }
def PiecesNobodyWrongFalsely : Prop := piecesNobodyRow.holds Try.pinned (OpenSpec.ofChange piecesNobodyWrong)

/-- 'milestonelaw19.PiecesPut': WHATEVER THE INPUT: true; the input reads as it did. -/
def piecesPutSpec : ChangeSpec := { name := "piecesPut", fn := fun _ => fun
  | [d1, d2] => { results := [.lit (.bool true)], args := [d1, d2] }
  | _ => none }
def piecesPutRow : OpenClaim := { program := "ytleomcilhhdngaa", sum := "a28f2740a85315a9da29c5102e979904847af791e1870c2b37af8d5ac06583eb", func := "milestone/milestonelaw19.PiecesPut", spec := "piecesPut", apart := false }
def PiecesPutSaid : Prop := piecesPutRow.holds Try.pinned (OpenSpec.ofChange piecesPutSpec)

/-- ITS FALSE NEIGHBOUR: 'it returns false'. Refute it at one input. -/
def piecesPutWrong : ChangeSpec := { name := "piecesPut", fn := fun _ => fun
  | [d1, d2] => { results := [.lit (.bool false)], args := [d1, d2] }
  | _ => none }
def PiecesPutWrongFalsely : Prop := piecesPutRow.holds Try.pinned (OpenSpec.ofChange piecesPutWrong)

/-- 'milestonelaw19.PiecesBack': WHATEVER THE INPUT: true; the input reads as it did. -/
def piecesBackSpec : ChangeSpec := { name := "piecesBack", fn := fun _ => fun
  | [d1, d2, d3] => { results := [.lit (.bool true)], args := [d1, d2, d3] }
  | _ => none }
def piecesBackRow : OpenClaim := { program := "ytleomcilhhdngaa", sum := "a28f2740a85315a9da29c5102e979904847af791e1870c2b37af8d5ac06583eb", func := "milestone/milestonelaw19.PiecesBack", spec := "piecesBack", apart := false }
def PiecesBackSaid : Prop := piecesBackRow.holds Try.pinned (OpenSpec.ofChange piecesBackSpec)

/-- ITS FALSE NEIGHBOUR: 'it returns false'. Refute it at one input. -/
def piecesBackWrong : ChangeSpec := { name := "piecesBack", fn := fun _ => fun
  | [d1, d2, d3] => { results := [.lit (.bool false)], args := [d1, d2, d3] }
  | _ => none }
def PiecesBackWrongFalsely : Prop := piecesBackRow.holds Try.pinned (OpenSpec.ofChange piecesBackWrong)

/- THE SECOND FORM. 'bulk': how many values and letters a reading holds, each counted each time it is reached (what is shared counts as often as it is met; a slice's spare places count too). A statement '..UptoSaid' is the law's where the arguments, and the package variables that the reading takes, are together of bulk at most 1048576: NARROWER than '..Said'. Prove '..Said' where nothing that the law and all that it calls make is longer than what came in: it says more and counts as full. Else prove '..UptoSaid'. A law counts once. -/
mutual
def uptoBulk {H : Type} : DataW H → Nat
  | .lit (.string bytes) => bytes.length + 1
  | .lit _ => 1
  | .nil => 1
  | .ptr d => uptoBulk d + 1
  | .slice elems spare => uptoBulkAll elems + uptoBulkAll spare + 1
  | .agg parts => uptoBulkAll parts + 1
  | .iface _ d => uptoBulk d + 1
  | .map entries => uptoBulkEntries entries + 1
  | .held _ => 1
def uptoBulkAll {H : Type} : List (DataW H) → Nat
  | [] => 0
  | d :: r => uptoBulk d + uptoBulkAll r
def uptoBulkEntries {H : Type} : List (Lit × DataW H) → Nat
  | [] => 0
  | x :: r => uptoBulkEntry x + uptoBulkEntries r
def uptoBulkEntry {H : Type} : Lit × DataW H → Nat
  | (.string bytes, d) => bytes.length + uptoBulk d + 1
  | (_, d) => uptoBulk d + 1
 end
def uptoSmall : (H : Type) → List (DataW H) → Bool := fun _ ds => decide (uptoBulkAll ds ≤ 1048576)
def OpenSpec.upto (s : _root_.Go.ChangeSpec) : _root_.Go.OpenSpec := { _root_.Go.OpenSpec.ofChange s with cond := some uptoSmall }

/-- 'milestonelaw19.PiecesCut', WHERE WHAT IT READS IS OF BULK AT MOST 1048576: true; the input reads as it did. -/
def piecesCutUptoRow : OpenClaim := { program := "ytleomcilhhdngaa", sum := "a28f2740a85315a9da29c5102e979904847af791e1870c2b37af8d5ac06583eb", func := "milestone/milestonelaw19.PiecesCut", spec := "piecesCut", apart := false, narrowed := true }
def PiecesCutUptoSaid : Prop := piecesCutUptoRow.holds Try.pinned (OpenSpec.upto piecesCutSpec)

/-- 'milestonelaw19.PiecesFew', WHERE WHAT IT READS IS OF BULK AT MOST 1048576: true; the input reads as it did. -/
def piecesFewUptoRow : OpenClaim := { program := "ytleomcilhhdngaa", sum := "a28f2740a85315a9da29c5102e979904847af791e1870c2b37af8d5ac06583eb", func := "milestone/milestonelaw19.PiecesFew", spec := "piecesFew", apart := false, narrowed := true }
def PiecesFewUptoSaid : Prop := piecesFewUptoRow.holds Try.pinned (OpenSpec.upto piecesFewSpec)

/-- 'milestonelaw19.PiecesNobody', WHERE WHAT IT READS IS OF BULK AT MOST 1048576: true; the input reads as it did. -/
def piecesNobodyUptoRow : OpenClaim := { program := "ytleomcilhhdngaa", sum := "a28f2740a85315a9da29c5102e979904847af791e1870c2b37af8d5ac06583eb", func := "milestone/milestonelaw19.PiecesNobody", spec := "piecesNobody", apart := false, narrowed := true }
def PiecesNobodyUptoSaid : Prop := piecesNobodyUptoRow.holds Try.pinned (OpenSpec.upto piecesNobodySpec)

/-- 'milestonelaw19.PiecesPut', WHERE WHAT IT READS IS OF BULK AT MOST 1048576: true; the input reads as it did. -/
def piecesPutUptoRow : OpenClaim := { program := "ytleomcilhhdngaa", sum := "a28f2740a85315a9da29c5102e979904847af791e1870c2b37af8d5ac06583eb", func := "milestone/milestonelaw19.PiecesPut", spec := "piecesPut", apart := false, narrowed := true }
def PiecesPutUptoSaid : Prop := piecesPutUptoRow.holds Try.pinned (OpenSpec.upto piecesPutSpec)

/-- 'milestonelaw19.PiecesBack', WHERE WHAT IT READS IS OF BULK AT MOST 1048576: true; the input reads as it did. -/
def piecesBackUptoRow : OpenClaim := { program := "ytleomcilhhdngaa", sum := "a28f2740a85315a9da29c5102e979904847af791e1870c2b37af8d5ac06583eb", func := "milestone/milestonelaw19.PiecesBack", spec := "piecesBack", apart := false, narrowed := true }
def PiecesBackUptoSaid : Prop := piecesBackUptoRow.holds Try.pinned (OpenSpec.upto piecesBackSpec)

end Rows
end Go.Proofs.Ytleomcilhhdngaa
