/-
  DERIVED. GIVEN WITH THE SEED: THE CARDS: each row of YtkaigggidpndmaaDoorRows.lean that lists a variable, with what it lists TIED to the program's text (the seventh form; the later family's looks); each row that meets fmt, with fmt's text TOLD by the authors' own Lean function (tested against real Go, not proved from fmt's source: count such statements apart). THE CARD IS WHAT COUNTS. Prove the row's statement (the work); the ties are given (YtkaigggidpndmaaDoorTie.lean); close each card by the builder's one call (the guide's Derived/Test/ToyasCard.lean, 'card_holds'). Laid BY PROGRAM, IN A SANDBOX (cutbox-door.mjs). By AI agents, Wed Nov 11 2026. No macro, syntax, notation, axiom, sorry.
-/
import Derived.Test.YtkaigggidpndmaaDoorRows
import GoSem.ClaimSeven
namespace Go.Proofs.YtkaigggidpndmaaDoor
namespace Rows

/-- THE TIED CARD OF 'laws.FnExactDigitBars'. -/
def fnExactDigitBarsCard : Claim7 := { stood := { row := fnExactDigitBarsRow, standIns := [], harness := (true, "37ac05c94c3f84c59b0efc0904426e92a8ce8d1bd184049191229a09ce1d4940"), looks := false }, kinds := [], alts := [], laidByText := true, laidKinds := [.data], laidTests := true, laidLooks := .later }
def FnExactDigitBarsCardSaid : Prop := Claim7.holds Tryd.pinned (.plain (OpenSpec.ofChange fnExactDigitBarsSpec)) fnExactDigitBarsCard

/-- THE TIED CARD OF 'laws.FnExactBarsDigit'. -/
def fnExactBarsDigitCard : Claim7 := { stood := { row := fnExactBarsDigitRow, standIns := [], harness := (true, "37ac05c94c3f84c59b0efc0904426e92a8ce8d1bd184049191229a09ce1d4940"), looks := false }, kinds := [], alts := [], laidByText := true, laidKinds := [.data], laidTests := true, laidLooks := .later }
def FnExactBarsDigitCardSaid : Prop := Claim7.holds Tryd.pinned (.plain (OpenSpec.ofChange fnExactBarsDigitSpec)) fnExactBarsDigitCard

/-- THE SECOND FORM's CARD OF 'laws.FnExactDigitBars'. -/
def fnExactDigitBarsUptoCard : Claim7 := { stood := { row := fnExactDigitBarsUptoRow, standIns := [], harness := (true, "37ac05c94c3f84c59b0efc0904426e92a8ce8d1bd184049191229a09ce1d4940"), looks := false }, kinds := [], alts := [], laidByText := true, laidKinds := [.data], laidTests := true, laidLooks := .later }
def FnExactDigitBarsUptoCardSaid : Prop := Claim7.holds Tryd.pinned (.plain (OpenSpec.upto fnExactDigitBarsSpec)) fnExactDigitBarsUptoCard

/-- THE SECOND FORM's CARD OF 'laws.FnExactBarsDigit'. -/
def fnExactBarsDigitUptoCard : Claim7 := { stood := { row := fnExactBarsDigitUptoRow, standIns := [], harness := (true, "37ac05c94c3f84c59b0efc0904426e92a8ce8d1bd184049191229a09ce1d4940"), looks := false }, kinds := [], alts := [], laidByText := true, laidKinds := [.data], laidTests := true, laidLooks := .later }
def FnExactBarsDigitUptoCardSaid : Prop := Claim7.holds Tryd.pinned (.plain (OpenSpec.upto fnExactBarsDigitSpec)) fnExactBarsDigitUptoCard
end Rows
end Go.Proofs.YtkaigggidpndmaaDoor
