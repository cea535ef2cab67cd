/-
  No cell of these rows narrows 'for every input' (looked for: loops, veiled, ifaces, maps, wideKeys, modest, calm, conditions, laid).
  DERIVED. THE GIVEN ROWS OF THIS SEAT. 5 by the template 'for every input the law returns true; each argument reads behind the call as it read before'; 0 by the template 'total and deterministic' (their statements: YtbglnddjhlefnaaTotals.lean).
  GIVEN WITH THE SEED: the statements are not yours to turn. If you find one false, say at which input.
  Laid BY PROGRAM, IN A SANDBOX (cutbox-rows.mjs): the forced cells as the released guide's own fill.sh prints them over the translation a0b0c9cb026f741c… (all of the seat's roots in one cut). By AI agents, Wed Nov 11 2026. No macro, syntax, notation, axiom, sorry.
-/
import Derived.Test.YtbglnddjhlefnaaChecked
import GoSem.Claim
import GoSem.ClaimJoined
import GoSem.ClaimMapViews
import Derived.JoinedTies
import Derived.KernelRfl
namespace Go.Proofs.Ytbglnddjhlefnaa
/- THE CELL 'sum', in the pinned program and in every row, IS THE sha256 OF THE DUMP (.gsa) THAT YtbglnddjhlefnaaProg.lean LOADS. Nothing in Lean hashes anything: it is a label: what it is worth is what the hold of that sum in a sandbox is worth. -/
noncomputable def Try.pinned : Pinned := { name := "ytbglnddjhlefnaa", sum := "a0b0c9cb026f741c03d4cc708030a58775153abe7de072c6cafa0f5480526214", checked := Try.checked }
namespace Rows
def none {H : Type} : Left H := { results := [], args := [] }

/-- 'milestonelaw04.DumpSame': WHATEVER THE INPUT: true; the input reads as it did. -/
def dumpSameSpec : ChangeSpec := { name := "dumpSame", fn := fun _ => fun
  | [d1, d2, d3] => { results := [.lit (.bool true)], args := [d1, d2, d3] }
  | _ => none }
def dumpSameRow : OpenClaim := { program := "ytbglnddjhlefnaa", sum := "a0b0c9cb026f741c03d4cc708030a58775153abe7de072c6cafa0f5480526214", func := "milestone/milestonelaw04.DumpSame", spec := "dumpSame", unfollowed := true, recurses := true, plainKeys := false, apart := false }
def DumpSameSaid : Prop := dumpSameRow.holds Try.pinned (OpenSpec.ofChange dumpSameSpec)

/-- ITS FALSE NEIGHBOUR: 'it returns false'. Refute it at one input. -/
def dumpSameWrong : ChangeSpec := { name := "dumpSame", fn := fun _ => fun
  | [d1, d2, d3] => { results := [.lit (.bool false)], args := [d1, d2, d3] }
  | _ => none }
def DumpSameWrongFalsely : Prop := dumpSameRow.holds Try.pinned (OpenSpec.ofChange dumpSameWrong)

/-- 'milestonelaw02.BddCubes': WHATEVER THE INPUT: true; the input reads as it did. -/
def bddCubesSpec : ChangeSpec := { name := "bddCubes", fn := fun _ => fun
  | [d1, d2] => { results := [.lit (.bool true)], args := [d1, d2] }
  | _ => none }
def bddCubesRow : OpenClaim := { program := "ytbglnddjhlefnaa", sum := "a0b0c9cb026f741c03d4cc708030a58775153abe7de072c6cafa0f5480526214", func := "milestone/milestonelaw02.BddCubes", spec := "bddCubes", unfollowed := true, recurses := true, plainKeys := false, apart := false }
def BddCubesSaid : Prop := bddCubesRow.holds Try.pinned (OpenSpec.ofChange bddCubesSpec)

/-- ITS FALSE NEIGHBOUR: 'it returns false'. Refute it at one input. -/
def bddCubesWrong : ChangeSpec := { name := "bddCubes", fn := fun _ => fun
  | [d1, d2] => { results := [.lit (.bool false)], args := [d1, d2] }
  | _ => none }
def BddCubesWrongFalsely : Prop := bddCubesRow.holds Try.pinned (OpenSpec.ofChange bddCubesWrong)

/-- 'milestonelaw02.BddRefs': WHATEVER THE INPUT: true; the input reads as it did. -/
def bddRefsSpec : ChangeSpec := { name := "bddRefs", fn := fun _ => fun
  | [d1, d2, d3] => { results := [.lit (.bool true)], args := [d1, d2, d3] }
  | _ => none }
def bddRefsRow : OpenClaim := { program := "ytbglnddjhlefnaa", sum := "a0b0c9cb026f741c03d4cc708030a58775153abe7de072c6cafa0f5480526214", func := "milestone/milestonelaw02.BddRefs", spec := "bddRefs", unfollowed := true, recurses := true, plainKeys := false, apart := false }
def BddRefsSaid : Prop := bddRefsRow.holds Try.pinned (OpenSpec.ofChange bddRefsSpec)

/-- ITS FALSE NEIGHBOUR: 'it returns false'. Refute it at one input. -/
def bddRefsWrong : ChangeSpec := { name := "bddRefs", fn := fun _ => fun
  | [d1, d2, d3] => { results := [.lit (.bool false)], args := [d1, d2, d3] }
  | _ => none }
def BddRefsWrongFalsely : Prop := bddRefsRow.holds Try.pinned (OpenSpec.ofChange bddRefsWrong)

/-- 'milestonelaw02.BddNobody': WHATEVER THE INPUT: true; the input reads as it did. -/
def bddNobodySpec : ChangeSpec := { name := "bddNobody", fn := fun _ => fun
  | [d] => { results := [.lit (.bool true)], args := [d] }
  | _ => none }
def bddNobodyRow : OpenClaim := { program := "ytbglnddjhlefnaa", sum := "a0b0c9cb026f741c03d4cc708030a58775153abe7de072c6cafa0f5480526214", func := "milestone/milestonelaw02.BddNobody", spec := "bddNobody", unfollowed := true, recurses := true, plainKeys := false, apart := false }
def BddNobodySaid : Prop := bddNobodyRow.holds Try.pinned (OpenSpec.ofChange bddNobodySpec)

/-- ITS FALSE NEIGHBOUR: 'it returns false'. Refute it at one input. -/
def bddNobodyWrong : ChangeSpec := { name := "bddNobody", fn := fun _ => fun
  | [d] => { results := [.lit (.bool false)], args := [d] }
  | _ => none }
def BddNobodyWrongFalsely : Prop := bddNobodyRow.holds Try.pinned (OpenSpec.ofChange bddNobodyWrong)

/-- 'milestonelaw04.DumpNobody': WHATEVER THE INPUT: true; the input reads as it did. -/
def dumpNobodySpec : ChangeSpec := { name := "dumpNobody", fn := fun _ => fun
  | [d1, d2] => { results := [.lit (.bool true)], args := [d1, d2] }
  | _ => none }
def dumpNobodyRow : OpenClaim := { program := "ytbglnddjhlefnaa", sum := "a0b0c9cb026f741c03d4cc708030a58775153abe7de072c6cafa0f5480526214", func := "milestone/milestonelaw04.DumpNobody", spec := "dumpNobody", unfollowed := true, recurses := true, plainKeys := false, apart := false }
def DumpNobodySaid : Prop := dumpNobodyRow.holds Try.pinned (OpenSpec.ofChange dumpNobodySpec)

/-- ITS FALSE NEIGHBOUR: 'it returns false'. Refute it at one input. -/
def dumpNobodyWrong : ChangeSpec := { name := "dumpNobody", fn := fun _ => fun
  | [d1, d2] => { results := [.lit (.bool false)], args := [d1, d2] }
  | _ => none }
def DumpNobodyWrongFalsely : Prop := dumpNobodyRow.holds Try.pinned (OpenSpec.ofChange dumpNobodyWrong)

/- THE SECOND FORM. 'bulk': how many values and letters a reading holds, each counted each time it is reached (what is shared counts as often as it is met; a slice's spare places count too). A statement '..UptoSaid' is the law's where the arguments, and the package variables that the reading takes, are together of bulk at most 1048576: NARROWER than '..Said'. Prove '..Said' where nothing that the law and all that it calls make is longer than what came in: it says more and counts as full. Else prove '..UptoSaid'. A law counts once. -/
mutual
def uptoBulk {H : Type} : DataW H → Nat
  | .lit (.string bytes) => bytes.length + 1
  | .lit _ => 1
  | .nil => 1
  | .ptr d => uptoBulk d + 1
  | .slice elems spare => uptoBulkAll elems + uptoBulkAll spare + 1
  | .agg parts => uptoBulkAll parts + 1
  | .iface _ d => uptoBulk d + 1
  | .map entries => uptoBulkEntries entries + 1
  | .held _ => 1
def uptoBulkAll {H : Type} : List (DataW H) → Nat
  | [] => 0
  | d :: r => uptoBulk d + uptoBulkAll r
def uptoBulkEntries {H : Type} : List (Lit × DataW H) → Nat
  | [] => 0
  | x :: r => uptoBulkEntry x + uptoBulkEntries r
def uptoBulkEntry {H : Type} : Lit × DataW H → Nat
  | (.string bytes, d) => bytes.length + uptoBulk d + 1
  | (_, d) => uptoBulk d + 1
 end
def uptoSmall : (H : Type) → List (DataW H) → Bool := fun _ ds => decide (uptoBulkAll ds ≤ 1048576)
def OpenSpec.upto (s : _root_.Go.ChangeSpec) : _root_.Go.OpenSpec := { _root_.Go.OpenSpec.ofChange s with cond := some uptoSmall }

/-- 'milestonelaw04.DumpSame', WHERE WHAT IT READS IS OF BULK AT MOST 1048576: true; the input reads as it did. -/
def dumpSameUptoRow : OpenClaim := { program := "ytbglnddjhlefnaa", sum := "a0b0c9cb026f741c03d4cc708030a58775153abe7de072c6cafa0f5480526214", func := "milestone/milestonelaw04.DumpSame", spec := "dumpSame", unfollowed := true, recurses := true, plainKeys := false, apart := false, narrowed := true }
def DumpSameUptoSaid : Prop := dumpSameUptoRow.holds Try.pinned (OpenSpec.upto dumpSameSpec)

/-- 'milestonelaw02.BddCubes', WHERE WHAT IT READS IS OF BULK AT MOST 1048576: true; the input reads as it did. -/
def bddCubesUptoRow : OpenClaim := { program := "ytbglnddjhlefnaa", sum := "a0b0c9cb026f741c03d4cc708030a58775153abe7de072c6cafa0f5480526214", func := "milestone/milestonelaw02.BddCubes", spec := "bddCubes", unfollowed := true, recurses := true, plainKeys := false, apart := false, narrowed := true }
def BddCubesUptoSaid : Prop := bddCubesUptoRow.holds Try.pinned (OpenSpec.upto bddCubesSpec)

/-- 'milestonelaw02.BddRefs', WHERE WHAT IT READS IS OF BULK AT MOST 1048576: true; the input reads as it did. -/
def bddRefsUptoRow : OpenClaim := { program := "ytbglnddjhlefnaa", sum := "a0b0c9cb026f741c03d4cc708030a58775153abe7de072c6cafa0f5480526214", func := "milestone/milestonelaw02.BddRefs", spec := "bddRefs", unfollowed := true, recurses := true, plainKeys := false, apart := false, narrowed := true }
def BddRefsUptoSaid : Prop := bddRefsUptoRow.holds Try.pinned (OpenSpec.upto bddRefsSpec)

/-- 'milestonelaw02.BddNobody', WHERE WHAT IT READS IS OF BULK AT MOST 1048576: true; the input reads as it did. -/
def bddNobodyUptoRow : OpenClaim := { program := "ytbglnddjhlefnaa", sum := "a0b0c9cb026f741c03d4cc708030a58775153abe7de072c6cafa0f5480526214", func := "milestone/milestonelaw02.BddNobody", spec := "bddNobody", unfollowed := true, recurses := true, plainKeys := false, apart := false, narrowed := true }
def BddNobodyUptoSaid : Prop := bddNobodyUptoRow.holds Try.pinned (OpenSpec.upto bddNobodySpec)

/-- 'milestonelaw04.DumpNobody', WHERE WHAT IT READS IS OF BULK AT MOST 1048576: true; the input reads as it did. -/
def dumpNobodyUptoRow : OpenClaim := { program := "ytbglnddjhlefnaa", sum := "a0b0c9cb026f741c03d4cc708030a58775153abe7de072c6cafa0f5480526214", func := "milestone/milestonelaw04.DumpNobody", spec := "dumpNobody", unfollowed := true, recurses := true, plainKeys := false, apart := false, narrowed := true }
def DumpNobodyUptoSaid : Prop := dumpNobodyUptoRow.holds Try.pinned (OpenSpec.upto dumpNobodySpec)

end Rows
end Go.Proofs.Ytbglnddjhlefnaa
