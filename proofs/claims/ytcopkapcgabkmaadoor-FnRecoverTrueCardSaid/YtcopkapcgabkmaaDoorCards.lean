/-
  DERIVED. GIVEN WITH THE SEED: THE CARDS: each row of YtcopkapcgabkmaaDoorRows.lean that lists a variable, with what it lists TIED to the program's text (the seventh form; the later family's looks); each row that meets fmt, with fmt's text TOLD by the authors' own Lean function (tested against real Go, not proved from fmt's source: count such statements apart). THE CARD IS WHAT COUNTS. Prove the row's statement (the work); the ties are given (YtcopkapcgabkmaaDoorTie.lean); close each card by the builder's one call (the guide's Derived/Test/ToyasCard.lean, 'card_holds'). Laid BY PROGRAM, IN A SANDBOX (cutbox-door.mjs). By AI agents, Wed Nov 11 2026. No macro, syntax, notation, axiom, sorry.
-/
import Derived.Test.YtcopkapcgabkmaaDoorRows
import GoSem.ClaimSeven
namespace Go.Proofs.YtcopkapcgabkmaaDoor
namespace Rows

/-- THE TIED CARD OF 'laws.FnExactBarsOf'. -/
def fnExactBarsOfCard : Claim7 := { stood := { row := fnExactBarsOfRow, standIns := [], harness := (true, "8d226106f5fbe484be8ab609bdb240f34deb1f498f3c22618c5d4ad8e3af2e54"), looks := false }, kinds := [], alts := [], laidByText := true, laidKinds := [.data], laidTests := true, laidLooks := .later }
def FnExactBarsOfCardSaid : Prop := Claim7.holds Tryd.pinned (.plain (OpenSpec.ofChange fnExactBarsOfSpec)) fnExactBarsOfCard

/-- THE TIED CARD OF 'laws.FnExactRecoverBars'. -/
def fnExactRecoverBarsCard : Claim7 := { stood := { row := fnExactRecoverBarsRow, standIns := [], harness := (true, "8d226106f5fbe484be8ab609bdb240f34deb1f498f3c22618c5d4ad8e3af2e54"), looks := false }, kinds := [], alts := [], laidByText := true, laidKinds := [.data], laidTests := true, laidLooks := .later }
def FnExactRecoverBarsCardSaid : Prop := Claim7.holds Tryd.pinned (.plain (OpenSpec.ofChange fnExactRecoverBarsSpec)) fnExactRecoverBarsCard

/-- THE TIED CARD OF 'laws.FnExactReadBars'. -/
def fnExactReadBarsCard : Claim7 := { stood := { row := fnExactReadBarsRow, standIns := [], harness := (true, "8d226106f5fbe484be8ab609bdb240f34deb1f498f3c22618c5d4ad8e3af2e54"), looks := false }, kinds := [], alts := [], laidByText := true, laidKinds := [.data], laidTests := true, laidLooks := .later }
def FnExactReadBarsCardSaid : Prop := Claim7.holds Tryd.pinned (.plain (OpenSpec.ofChange fnExactReadBarsSpec)) fnExactReadBarsCard

/-- THE TIED CARD OF 'laws.FnExactReadEither'. -/
def fnExactReadEitherCard : Claim7 := { stood := { row := fnExactReadEitherRow, standIns := [], harness := (true, "8d226106f5fbe484be8ab609bdb240f34deb1f498f3c22618c5d4ad8e3af2e54"), looks := false }, kinds := [], alts := [], laidByText := true, laidKinds := [.data], laidTests := true, laidLooks := .later }
def FnExactReadEitherCardSaid : Prop := Claim7.holds Tryd.pinned (.plain (OpenSpec.ofChange fnExactReadEitherSpec)) fnExactReadEitherCard

/-- THE TIED CARD OF 'laws.FnDigitBars'. -/
def fnDigitBarsCard : Claim7 := { stood := { row := fnDigitBarsRow, standIns := [], harness := (true, "8d226106f5fbe484be8ab609bdb240f34deb1f498f3c22618c5d4ad8e3af2e54"), looks := false }, kinds := [], alts := [], laidByText := true, laidKinds := [.data], laidTests := true, laidLooks := .later }
def FnDigitBarsCardSaid : Prop := Claim7.holds Tryd.pinned (.plain (OpenSpec.ofChange fnDigitBarsSpec)) fnDigitBarsCard

/-- THE TIED CARD OF 'laws.FnBarsDigit'. -/
def fnBarsDigitCard : Claim7 := { stood := { row := fnBarsDigitRow, standIns := [], harness := (true, "8d226106f5fbe484be8ab609bdb240f34deb1f498f3c22618c5d4ad8e3af2e54"), looks := false }, kinds := [], alts := [], laidByText := true, laidKinds := [.data], laidTests := true, laidLooks := .later }
def FnBarsDigitCardSaid : Prop := Claim7.holds Tryd.pinned (.plain (OpenSpec.ofChange fnBarsDigitSpec)) fnBarsDigitCard

/-- THE TIED CARD OF 'laws.FnBarsRead'. -/
def fnBarsReadCard : Claim7 := { stood := { row := fnBarsReadRow, standIns := [], harness := (true, "8d226106f5fbe484be8ab609bdb240f34deb1f498f3c22618c5d4ad8e3af2e54"), looks := false }, kinds := [], alts := [], laidByText := true, laidKinds := [.data], laidTests := true, laidLooks := .later }
def FnBarsReadCardSaid : Prop := Claim7.holds Tryd.pinned (.plain (OpenSpec.ofChange fnBarsReadSpec)) fnBarsReadCard

/-- THE TIED CARD OF 'laws.FnReadBars'. -/
def fnReadBarsCard : Claim7 := { stood := { row := fnReadBarsRow, standIns := [], harness := (true, "8d226106f5fbe484be8ab609bdb240f34deb1f498f3c22618c5d4ad8e3af2e54"), looks := false }, kinds := [], alts := [], laidByText := true, laidKinds := [.data], laidTests := true, laidLooks := .later }
def FnReadBarsCardSaid : Prop := Claim7.holds Tryd.pinned (.plain (OpenSpec.ofChange fnReadBarsSpec)) fnReadBarsCard

/-- THE TIED CARD OF 'laws.FnReadEither'. -/
def fnReadEitherCard : Claim7 := { stood := { row := fnReadEitherRow, standIns := [], harness := (true, "8d226106f5fbe484be8ab609bdb240f34deb1f498f3c22618c5d4ad8e3af2e54"), looks := false }, kinds := [], alts := [], laidByText := true, laidKinds := [.data], laidTests := true, laidLooks := .later }
def FnReadEitherCardSaid : Prop := Claim7.holds Tryd.pinned (.plain (OpenSpec.ofChange fnReadEitherSpec)) fnReadEitherCard

/-- THE TIED CARD OF 'laws.FnRecover'. -/
def fnRecoverCard : Claim7 := { stood := { row := fnRecoverRow, standIns := [], harness := (true, "8d226106f5fbe484be8ab609bdb240f34deb1f498f3c22618c5d4ad8e3af2e54"), looks := false }, kinds := [], alts := [], laidByText := true, laidKinds := [.data], laidTests := true, laidLooks := .later }
def FnRecoverCardSaid : Prop := Claim7.holds Tryd.pinned (.plain (OpenSpec.ofChange fnRecoverSpec)) fnRecoverCard

/-- THE TIED CARD OF 'laws.FnRecoverTrue'. -/
def fnRecoverTrueCard : Claim7 := { stood := { row := fnRecoverTrueRow, standIns := [], harness := (true, "8d226106f5fbe484be8ab609bdb240f34deb1f498f3c22618c5d4ad8e3af2e54"), looks := false }, kinds := [], alts := [], laidByText := true, laidKinds := [.data], laidTests := true, laidLooks := .later }
def FnRecoverTrueCardSaid : Prop := Claim7.holds Tryd.pinned (.plain (OpenSpec.ofChange fnRecoverTrueSpec)) fnRecoverTrueCard

/-- THE SECOND FORM's CARD OF 'laws.FnExactBarsOf'. -/
def fnExactBarsOfUptoCard : Claim7 := { stood := { row := fnExactBarsOfUptoRow, standIns := [], harness := (true, "8d226106f5fbe484be8ab609bdb240f34deb1f498f3c22618c5d4ad8e3af2e54"), looks := false }, kinds := [], alts := [], laidByText := true, laidKinds := [.data], laidTests := true, laidLooks := .later }
def FnExactBarsOfUptoCardSaid : Prop := Claim7.holds Tryd.pinned (.plain (OpenSpec.upto fnExactBarsOfSpec)) fnExactBarsOfUptoCard

/-- THE SECOND FORM's CARD OF 'laws.FnExactRecoverBars'. -/
def fnExactRecoverBarsUptoCard : Claim7 := { stood := { row := fnExactRecoverBarsUptoRow, standIns := [], harness := (true, "8d226106f5fbe484be8ab609bdb240f34deb1f498f3c22618c5d4ad8e3af2e54"), looks := false }, kinds := [], alts := [], laidByText := true, laidKinds := [.data], laidTests := true, laidLooks := .later }
def FnExactRecoverBarsUptoCardSaid : Prop := Claim7.holds Tryd.pinned (.plain (OpenSpec.upto fnExactRecoverBarsSpec)) fnExactRecoverBarsUptoCard

/-- THE SECOND FORM's CARD OF 'laws.FnExactReadBars'. -/
def fnExactReadBarsUptoCard : Claim7 := { stood := { row := fnExactReadBarsUptoRow, standIns := [], harness := (true, "8d226106f5fbe484be8ab609bdb240f34deb1f498f3c22618c5d4ad8e3af2e54"), looks := false }, kinds := [], alts := [], laidByText := true, laidKinds := [.data], laidTests := true, laidLooks := .later }
def FnExactReadBarsUptoCardSaid : Prop := Claim7.holds Tryd.pinned (.plain (OpenSpec.upto fnExactReadBarsSpec)) fnExactReadBarsUptoCard

/-- THE SECOND FORM's CARD OF 'laws.FnExactReadEither'. -/
def fnExactReadEitherUptoCard : Claim7 := { stood := { row := fnExactReadEitherUptoRow, standIns := [], harness := (true, "8d226106f5fbe484be8ab609bdb240f34deb1f498f3c22618c5d4ad8e3af2e54"), looks := false }, kinds := [], alts := [], laidByText := true, laidKinds := [.data], laidTests := true, laidLooks := .later }
def FnExactReadEitherUptoCardSaid : Prop := Claim7.holds Tryd.pinned (.plain (OpenSpec.upto fnExactReadEitherSpec)) fnExactReadEitherUptoCard

/-- THE SECOND FORM's CARD OF 'laws.FnDigitBars'. -/
def fnDigitBarsUptoCard : Claim7 := { stood := { row := fnDigitBarsUptoRow, standIns := [], harness := (true, "8d226106f5fbe484be8ab609bdb240f34deb1f498f3c22618c5d4ad8e3af2e54"), looks := false }, kinds := [], alts := [], laidByText := true, laidKinds := [.data], laidTests := true, laidLooks := .later }
def FnDigitBarsUptoCardSaid : Prop := Claim7.holds Tryd.pinned (.plain (OpenSpec.upto fnDigitBarsSpec)) fnDigitBarsUptoCard

/-- THE SECOND FORM's CARD OF 'laws.FnBarsDigit'. -/
def fnBarsDigitUptoCard : Claim7 := { stood := { row := fnBarsDigitUptoRow, standIns := [], harness := (true, "8d226106f5fbe484be8ab609bdb240f34deb1f498f3c22618c5d4ad8e3af2e54"), looks := false }, kinds := [], alts := [], laidByText := true, laidKinds := [.data], laidTests := true, laidLooks := .later }
def FnBarsDigitUptoCardSaid : Prop := Claim7.holds Tryd.pinned (.plain (OpenSpec.upto fnBarsDigitSpec)) fnBarsDigitUptoCard

/-- THE SECOND FORM's CARD OF 'laws.FnBarsRead'. -/
def fnBarsReadUptoCard : Claim7 := { stood := { row := fnBarsReadUptoRow, standIns := [], harness := (true, "8d226106f5fbe484be8ab609bdb240f34deb1f498f3c22618c5d4ad8e3af2e54"), looks := false }, kinds := [], alts := [], laidByText := true, laidKinds := [.data], laidTests := true, laidLooks := .later }
def FnBarsReadUptoCardSaid : Prop := Claim7.holds Tryd.pinned (.plain (OpenSpec.upto fnBarsReadSpec)) fnBarsReadUptoCard

/-- THE SECOND FORM's CARD OF 'laws.FnReadBars'. -/
def fnReadBarsUptoCard : Claim7 := { stood := { row := fnReadBarsUptoRow, standIns := [], harness := (true, "8d226106f5fbe484be8ab609bdb240f34deb1f498f3c22618c5d4ad8e3af2e54"), looks := false }, kinds := [], alts := [], laidByText := true, laidKinds := [.data], laidTests := true, laidLooks := .later }
def FnReadBarsUptoCardSaid : Prop := Claim7.holds Tryd.pinned (.plain (OpenSpec.upto fnReadBarsSpec)) fnReadBarsUptoCard

/-- THE SECOND FORM's CARD OF 'laws.FnReadEither'. -/
def fnReadEitherUptoCard : Claim7 := { stood := { row := fnReadEitherUptoRow, standIns := [], harness := (true, "8d226106f5fbe484be8ab609bdb240f34deb1f498f3c22618c5d4ad8e3af2e54"), looks := false }, kinds := [], alts := [], laidByText := true, laidKinds := [.data], laidTests := true, laidLooks := .later }
def FnReadEitherUptoCardSaid : Prop := Claim7.holds Tryd.pinned (.plain (OpenSpec.upto fnReadEitherSpec)) fnReadEitherUptoCard

/-- THE SECOND FORM's CARD OF 'laws.FnRecover'. -/
def fnRecoverUptoCard : Claim7 := { stood := { row := fnRecoverUptoRow, standIns := [], harness := (true, "8d226106f5fbe484be8ab609bdb240f34deb1f498f3c22618c5d4ad8e3af2e54"), looks := false }, kinds := [], alts := [], laidByText := true, laidKinds := [.data], laidTests := true, laidLooks := .later }
def FnRecoverUptoCardSaid : Prop := Claim7.holds Tryd.pinned (.plain (OpenSpec.upto fnRecoverSpec)) fnRecoverUptoCard

/-- THE SECOND FORM's CARD OF 'laws.FnRecoverTrue'. -/
def fnRecoverTrueUptoCard : Claim7 := { stood := { row := fnRecoverTrueUptoRow, standIns := [], harness := (true, "8d226106f5fbe484be8ab609bdb240f34deb1f498f3c22618c5d4ad8e3af2e54"), looks := false }, kinds := [], alts := [], laidByText := true, laidKinds := [.data], laidTests := true, laidLooks := .later }
def FnRecoverTrueUptoCardSaid : Prop := Claim7.holds Tryd.pinned (.plain (OpenSpec.upto fnRecoverTrueSpec)) fnRecoverTrueUptoCard
end Rows
end Go.Proofs.YtcopkapcgabkmaaDoor
