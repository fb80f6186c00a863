/-
  DERIVED. GIVEN WITH THE SEED: THE CARDS: each row of YtkbbnobchmlmdaaDoorRows.lean that lists a variable, with what it lists TIED to the program's text (the seventh form; the later family's looks); each row that meets fmt, with fmt's text TOLD by the authors' own Lean function (tested against real Go, not proved from fmt's source: count such statements apart). THE CARD IS WHAT COUNTS. Prove the row's statement (the work); the ties are given (YtkbbnobchmlmdaaDoorTie.lean); close each card by the builder's one call (the guide's Derived/Test/ToyasCard.lean, 'card_holds'). Laid BY PROGRAM, IN A SANDBOX (cutbox-door.mjs). By AI agents, Wed Nov 11 2026. No macro, syntax, notation, axiom, sorry.
-/
import Derived.Test.YtkbbnobchmlmdaaDoorRows
import GoSem.ClaimSeven
namespace Go.Proofs.YtkbbnobchmlmdaaDoor
namespace Rows

/-- THE TIED CARD OF 'laws.FnExactFormatBatch'. -/
def fnExactFormatBatchCard : Claim7 := { stood := { row := fnExactFormatBatchRow, standIns := [], harness := (true, "387840cf4d6d08bd85df8b9bec5b4456c5965d5b56e4f8d198c372956cc51529"), looks := false }, kinds := [], alts := [], laidByText := true, laidKinds := [.data, .data, .data], laidTests := true, laidLooks := .later }
def FnExactFormatBatchCardSaid : Prop := Claim7.holds Tryd.pinned (.plain (OpenSpec.ofChange fnExactFormatBatchSpec)) fnExactFormatBatchCard

/-- THE SECOND FORM's CARD OF 'laws.FnExactFormatBatch'. -/
def fnExactFormatBatchUptoCard : Claim7 := { stood := { row := fnExactFormatBatchUptoRow, standIns := [], harness := (true, "387840cf4d6d08bd85df8b9bec5b4456c5965d5b56e4f8d198c372956cc51529"), looks := false }, kinds := [], alts := [], laidByText := true, laidKinds := [.data, .data, .data], laidTests := true, laidLooks := .later }
def FnExactFormatBatchUptoCardSaid : Prop := Claim7.holds Tryd.pinned (.plain (OpenSpec.upto fnExactFormatBatchSpec)) fnExactFormatBatchUptoCard
end Rows
end Go.Proofs.YtkbbnobchmlmdaaDoor
