/-
  DERIVED. GIVEN WITH THE SEED: THE CARDS: each row of YtgekpnbgmbbbdaaDoorRows.lean that lists a variable, with what it lists TIED to the program's text (the seventh form; the later family's looks); each row that meets fmt, with fmt's text TOLD by the authors' own Lean function (tested against real Go, not proved from fmt's source: count such statements apart). THE CARD IS WHAT COUNTS. Prove the row's statement (the work); the ties are given (YtgekpnbgmbbbdaaDoorTie.lean); close each card by the builder's one call (the guide's Derived/Test/ToyasCard.lean, 'card_holds'). Laid BY PROGRAM, IN A SANDBOX (cutbox-door.mjs). By AI agents, Wed Nov 11 2026. No macro, syntax, notation, axiom, sorry.
-/
import Derived.Test.YtgekpnbgmbbbdaaDoorRows
import GoSem.ClaimSeven
namespace Go.Proofs.YtgekpnbgmbbbdaaDoor
namespace Rows

/-- THE TIED CARD OF 'milestonelaw08.CountsOf'. -/
def countsOfCard : Claim7 := { stood := { row := countsOfRow, standIns := [], harness := (true, "5042ba23416f705dac7340dd17fcc14fac6587b0a62bcbf23e21703a6c0ced34"), looks := true }, kinds := [], alts := [], laidByText := true, laidKinds := [.data, .data, .data], laidTests := true, laidLooks := .later }
def CountsOfCardSaid : Prop := Claim7.holds Tryd.pinned (.plain (OpenSpec.ofChange countsOfSpec)) countsOfCard

/-- THE TIED CARD OF 'milestonelaw08.CountsNumbers'. -/
def countsNumbersCard : Claim7 := { stood := { row := countsNumbersRow, standIns := [], harness := (true, "5042ba23416f705dac7340dd17fcc14fac6587b0a62bcbf23e21703a6c0ced34"), looks := true }, kinds := [], alts := [], laidByText := true, laidKinds := [.data, .data, .data], laidTests := true, laidLooks := .later }
def CountsNumbersCardSaid : Prop := Claim7.holds Tryd.pinned (.plain (OpenSpec.ofChange countsNumbersSpec)) countsNumbersCard

/-- THE TIED CARD OF 'milestonelaw08.CountsSums'. -/
def countsSumsCard : Claim7 := { stood := { row := countsSumsRow, standIns := [], harness := (true, "5042ba23416f705dac7340dd17fcc14fac6587b0a62bcbf23e21703a6c0ced34"), looks := true }, kinds := [], alts := [], laidByText := true, laidKinds := [.data, .data, .data], laidTests := true, laidLooks := .later }
def CountsSumsCardSaid : Prop := Claim7.holds Tryd.pinned (.plain (OpenSpec.ofChange countsSumsSpec)) countsSumsCard

/-- THE TIED CARD OF 'milestonelaw08.CountsAlgebra'. -/
def countsAlgebraCard : Claim7 := { stood := { row := countsAlgebraRow, standIns := [], harness := (true, "5042ba23416f705dac7340dd17fcc14fac6587b0a62bcbf23e21703a6c0ced34"), looks := true }, kinds := [], alts := [], laidByText := true, laidKinds := [.data, .data, .data], laidTests := true, laidLooks := .later }
def CountsAlgebraCardSaid : Prop := Claim7.holds Tryd.pinned (.plain (OpenSpec.ofChange countsAlgebraSpec)) countsAlgebraCard

/-- THE TIED CARD OF 'milestonelaw08.CountsHolds'. -/
def countsHoldsCard : Claim7 := { stood := { row := countsHoldsRow, standIns := [], harness := (true, "5042ba23416f705dac7340dd17fcc14fac6587b0a62bcbf23e21703a6c0ced34"), looks := true }, kinds := [], alts := [], laidByText := true, laidKinds := [.data, .data, .data], laidTests := true, laidLooks := .later }
def CountsHoldsCardSaid : Prop := Claim7.holds Tryd.pinned (.plain (OpenSpec.ofChange countsHoldsSpec)) countsHoldsCard

/-- THE TIED CARD OF 'milestonelaw08.CountsMore'. -/
def countsMoreCard : Claim7 := { stood := { row := countsMoreRow, standIns := [], harness := (true, "5042ba23416f705dac7340dd17fcc14fac6587b0a62bcbf23e21703a6c0ced34"), looks := true }, kinds := [], alts := [], laidByText := true, laidKinds := [.data, .data, .data], laidTests := true, laidLooks := .later }
def CountsMoreCardSaid : Prop := Claim7.holds Tryd.pinned (.plain (OpenSpec.ofChange countsMoreSpec)) countsMoreCard

/-- THE TIED CARD OF 'milestonelaw08.CountsTexts'. -/
def countsTextsCard : Claim7 := { stood := { row := countsTextsRow, standIns := [], harness := (true, "5042ba23416f705dac7340dd17fcc14fac6587b0a62bcbf23e21703a6c0ced34"), looks := true }, kinds := [], alts := [], laidByText := true, laidKinds := [.data, .data, .data], laidTests := true, laidLooks := .later }
def CountsTextsCardSaid : Prop := Claim7.holds Tryd.pinned (.plain (OpenSpec.ofChange countsTextsSpec)) countsTextsCard

/-- THE TIED CARD OF 'milestonelaw08.CountsBack'. -/
def countsBackCard : Claim7 := { stood := { row := countsBackRow, standIns := [], harness := (true, "5042ba23416f705dac7340dd17fcc14fac6587b0a62bcbf23e21703a6c0ced34"), looks := true }, kinds := [], alts := [], laidByText := true, laidKinds := [.data, .data, .data], laidTests := true, laidLooks := .later }
def CountsBackCardSaid : Prop := Claim7.holds Tryd.pinned (.plain (OpenSpec.ofChange countsBackSpec)) countsBackCard

/-- THE SECOND FORM's CARD OF 'milestonelaw08.CountsOf'. -/
def countsOfUptoCard : Claim7 := { stood := { row := countsOfUptoRow, standIns := [], harness := (true, "5042ba23416f705dac7340dd17fcc14fac6587b0a62bcbf23e21703a6c0ced34"), looks := true }, kinds := [], alts := [], laidByText := true, laidKinds := [.data, .data, .data], laidTests := true, laidLooks := .later }
def CountsOfUptoCardSaid : Prop := Claim7.holds Tryd.pinned (.plain (OpenSpec.upto countsOfSpec)) countsOfUptoCard

/-- THE SECOND FORM's CARD OF 'milestonelaw08.CountsNumbers'. -/
def countsNumbersUptoCard : Claim7 := { stood := { row := countsNumbersUptoRow, standIns := [], harness := (true, "5042ba23416f705dac7340dd17fcc14fac6587b0a62bcbf23e21703a6c0ced34"), looks := true }, kinds := [], alts := [], laidByText := true, laidKinds := [.data, .data, .data], laidTests := true, laidLooks := .later }
def CountsNumbersUptoCardSaid : Prop := Claim7.holds Tryd.pinned (.plain (OpenSpec.upto countsNumbersSpec)) countsNumbersUptoCard

/-- THE SECOND FORM's CARD OF 'milestonelaw08.CountsSums'. -/
def countsSumsUptoCard : Claim7 := { stood := { row := countsSumsUptoRow, standIns := [], harness := (true, "5042ba23416f705dac7340dd17fcc14fac6587b0a62bcbf23e21703a6c0ced34"), looks := true }, kinds := [], alts := [], laidByText := true, laidKinds := [.data, .data, .data], laidTests := true, laidLooks := .later }
def CountsSumsUptoCardSaid : Prop := Claim7.holds Tryd.pinned (.plain (OpenSpec.upto countsSumsSpec)) countsSumsUptoCard

/-- THE SECOND FORM's CARD OF 'milestonelaw08.CountsAlgebra'. -/
def countsAlgebraUptoCard : Claim7 := { stood := { row := countsAlgebraUptoRow, standIns := [], harness := (true, "5042ba23416f705dac7340dd17fcc14fac6587b0a62bcbf23e21703a6c0ced34"), looks := true }, kinds := [], alts := [], laidByText := true, laidKinds := [.data, .data, .data], laidTests := true, laidLooks := .later }
def CountsAlgebraUptoCardSaid : Prop := Claim7.holds Tryd.pinned (.plain (OpenSpec.upto countsAlgebraSpec)) countsAlgebraUptoCard

/-- THE SECOND FORM's CARD OF 'milestonelaw08.CountsHolds'. -/
def countsHoldsUptoCard : Claim7 := { stood := { row := countsHoldsUptoRow, standIns := [], harness := (true, "5042ba23416f705dac7340dd17fcc14fac6587b0a62bcbf23e21703a6c0ced34"), looks := true }, kinds := [], alts := [], laidByText := true, laidKinds := [.data, .data, .data], laidTests := true, laidLooks := .later }
def CountsHoldsUptoCardSaid : Prop := Claim7.holds Tryd.pinned (.plain (OpenSpec.upto countsHoldsSpec)) countsHoldsUptoCard

/-- THE SECOND FORM's CARD OF 'milestonelaw08.CountsMore'. -/
def countsMoreUptoCard : Claim7 := { stood := { row := countsMoreUptoRow, standIns := [], harness := (true, "5042ba23416f705dac7340dd17fcc14fac6587b0a62bcbf23e21703a6c0ced34"), looks := true }, kinds := [], alts := [], laidByText := true, laidKinds := [.data, .data, .data], laidTests := true, laidLooks := .later }
def CountsMoreUptoCardSaid : Prop := Claim7.holds Tryd.pinned (.plain (OpenSpec.upto countsMoreSpec)) countsMoreUptoCard

/-- THE SECOND FORM's CARD OF 'milestonelaw08.CountsTexts'. -/
def countsTextsUptoCard : Claim7 := { stood := { row := countsTextsUptoRow, standIns := [], harness := (true, "5042ba23416f705dac7340dd17fcc14fac6587b0a62bcbf23e21703a6c0ced34"), looks := true }, kinds := [], alts := [], laidByText := true, laidKinds := [.data, .data, .data], laidTests := true, laidLooks := .later }
def CountsTextsUptoCardSaid : Prop := Claim7.holds Tryd.pinned (.plain (OpenSpec.upto countsTextsSpec)) countsTextsUptoCard

/-- THE SECOND FORM's CARD OF 'milestonelaw08.CountsBack'. -/
def countsBackUptoCard : Claim7 := { stood := { row := countsBackUptoRow, standIns := [], harness := (true, "5042ba23416f705dac7340dd17fcc14fac6587b0a62bcbf23e21703a6c0ced34"), looks := true }, kinds := [], alts := [], laidByText := true, laidKinds := [.data, .data, .data], laidTests := true, laidLooks := .later }
def CountsBackUptoCardSaid : Prop := Claim7.holds Tryd.pinned (.plain (OpenSpec.upto countsBackSpec)) countsBackUptoCard
end Rows
end Go.Proofs.YtgekpnbgmbbbdaaDoor
