/-
  No cell of these rows narrows 'for every input' (looked for: loops, veiled, ifaces, maps, wideKeys, modest, calm, conditions, laid).
  DERIVED. THE GIVEN ROWS OF THIS SEAT. 10 by the template 'for every input the law returns true; each argument reads behind the call as it read before'; 0 by the template 'total and deterministic' (their statements: YtkaigggidpndmaaTotals.lean).
  GIVEN WITH THE SEED: the statements are not yours to turn. If you find one false, say at which input.
  Laid BY PROGRAM, IN A SANDBOX (cutbox-rows.mjs): the forced cells as the released guide's own fill.sh prints them over the translation c54b6d03b5e4e46b… (all of the seat's roots in one cut). By AI agents, Wed Nov 11 2026. No macro, syntax, notation, axiom, sorry.
-/
import Derived.Test.YtkaigggidpndmaaChecked
import GoSem.Claim
import GoSem.ClaimJoined
import GoSem.ClaimMapViews
import Derived.JoinedTies
import Derived.KernelRfl
namespace Go.Proofs.Ytkaigggidpndmaa
/- THE CELL 'sum', in the pinned program and in every row, IS THE sha256 OF THE DUMP (.gsa) THAT YtkaigggidpndmaaProg.lean LOADS. Nothing in Lean hashes anything: it is a label: what it is worth is what the hold of that sum in a sandbox is worth. -/
noncomputable def Try.pinned : Pinned := { name := "ytkaigggidpndmaa", sum := "c54b6d03b5e4e46ba1f3bf440e36900f6c91a98b5d9fa8b274fe388999d4e9ad", checked := Try.checked }
namespace Rows
def none {H : Type} : Left H := { results := [], args := [] }

/-- 'laws.FnExactConstants': WHATEVER THE INPUT: true; the input reads as it did. -/
def fnExactConstantsSpec : ChangeSpec := { name := "fnExactConstants", fn := fun _ => fun
  | [] => { results := [.lit (.bool true)], args := [] }
  | _ => none }
def fnExactConstantsRow : OpenClaim := { program := "ytkaigggidpndmaa", sum := "c54b6d03b5e4e46ba1f3bf440e36900f6c91a98b5d9fa8b274fe388999d4e9ad", func := "loop.example/sortingoffice/laws.FnExactConstants", spec := "fnExactConstants", apart := false }
def FnExactConstantsSaid : Prop := fnExactConstantsRow.holds Try.pinned (OpenSpec.ofChange fnExactConstantsSpec)

/-- ITS FALSE NEIGHBOUR: 'it returns false'. Refute it at one input. -/
def fnExactConstantsWrong : ChangeSpec := { name := "fnExactConstants", fn := fun _ => fun
  | [] => { results := [.lit (.bool false)], args := [] }
  | _ => none }
def FnExactConstantsWrongFalsely : Prop := fnExactConstantsRow.holds Try.pinned (OpenSpec.ofChange fnExactConstantsWrong)

/-- 'laws.FnExactTurnBars': WHATEVER THE INPUT: true; the input reads as it did. -/
def fnExactTurnBarsSpec : ChangeSpec := { name := "fnExactTurnBars", fn := fun _ => fun
  | [d] => { results := [.lit (.bool true)], args := [d] }
  | _ => none }
def fnExactTurnBarsRow : OpenClaim := { program := "ytkaigggidpndmaa", sum := "c54b6d03b5e4e46ba1f3bf440e36900f6c91a98b5d9fa8b274fe388999d4e9ad", func := "loop.example/sortingoffice/laws.FnExactTurnBars", spec := "fnExactTurnBars", apart := false }
def FnExactTurnBarsSaid : Prop := fnExactTurnBarsRow.holds Try.pinned (OpenSpec.ofChange fnExactTurnBarsSpec)

/-- ITS FALSE NEIGHBOUR: 'it returns false'. Refute it at one input. -/
def fnExactTurnBarsWrong : ChangeSpec := { name := "fnExactTurnBars", fn := fun _ => fun
  | [d] => { results := [.lit (.bool false)], args := [d] }
  | _ => none }
def FnExactTurnBarsWrongFalsely : Prop := fnExactTurnBarsRow.holds Try.pinned (OpenSpec.ofChange fnExactTurnBarsWrong)

/-- 'laws.FnExactPlaceValid': WHATEVER THE INPUT: true; the input reads as it did. -/
def fnExactPlaceValidSpec : ChangeSpec := { name := "fnExactPlaceValid", fn := fun _ => fun
  | [d] => { results := [.lit (.bool true)], args := [d] }
  | _ => none }
def fnExactPlaceValidRow : OpenClaim := { program := "ytkaigggidpndmaa", sum := "c54b6d03b5e4e46ba1f3bf440e36900f6c91a98b5d9fa8b274fe388999d4e9ad", func := "loop.example/sortingoffice/laws.FnExactPlaceValid", spec := "fnExactPlaceValid", apart := false }
def FnExactPlaceValidSaid : Prop := fnExactPlaceValidRow.holds Try.pinned (OpenSpec.ofChange fnExactPlaceValidSpec)

/-- ITS FALSE NEIGHBOUR: 'it returns false'. Refute it at one input. -/
def fnExactPlaceValidWrong : ChangeSpec := { name := "fnExactPlaceValid", fn := fun _ => fun
  | [d] => { results := [.lit (.bool false)], args := [d] }
  | _ => none }
def FnExactPlaceValidWrongFalsely : Prop := fnExactPlaceValidRow.holds Try.pinned (OpenSpec.ofChange fnExactPlaceValidWrong)

/-- 'laws.FnExactDigitsValid': WHATEVER THE INPUT: true; the input reads as it did. -/
def fnExactDigitsValidSpec : ChangeSpec := { name := "fnExactDigitsValid", fn := fun _ => fun
  | [d] => { results := [.lit (.bool true)], args := [d] }
  | _ => none }
def fnExactDigitsValidRow : OpenClaim := { program := "ytkaigggidpndmaa", sum := "c54b6d03b5e4e46ba1f3bf440e36900f6c91a98b5d9fa8b274fe388999d4e9ad", func := "loop.example/sortingoffice/laws.FnExactDigitsValid", spec := "fnExactDigitsValid", apart := false }
def FnExactDigitsValidSaid : Prop := fnExactDigitsValidRow.holds Try.pinned (OpenSpec.ofChange fnExactDigitsValidSpec)

/-- ITS FALSE NEIGHBOUR: 'it returns false'. Refute it at one input. -/
def fnExactDigitsValidWrong : ChangeSpec := { name := "fnExactDigitsValid", fn := fun _ => fun
  | [d] => { results := [.lit (.bool false)], args := [d] }
  | _ => none }
def FnExactDigitsValidWrongFalsely : Prop := fnExactDigitsValidRow.holds Try.pinned (OpenSpec.ofChange fnExactDigitsValidWrong)

/-- 'laws.FnExactCodeValid': WHATEVER THE INPUT: true; the input reads as it did. -/
def fnExactCodeValidSpec : ChangeSpec := { name := "fnExactCodeValid", fn := fun _ => fun
  | [d] => { results := [.lit (.bool true)], args := [d] }
  | _ => none }
def fnExactCodeValidRow : OpenClaim := { program := "ytkaigggidpndmaa", sum := "c54b6d03b5e4e46ba1f3bf440e36900f6c91a98b5d9fa8b274fe388999d4e9ad", func := "loop.example/sortingoffice/laws.FnExactCodeValid", spec := "fnExactCodeValid", apart := false }
def FnExactCodeValidSaid : Prop := fnExactCodeValidRow.holds Try.pinned (OpenSpec.ofChange fnExactCodeValidSpec)

/-- ITS FALSE NEIGHBOUR: 'it returns false'. Refute it at one input. -/
def fnExactCodeValidWrong : ChangeSpec := { name := "fnExactCodeValid", fn := fun _ => fun
  | [d] => { results := [.lit (.bool false)], args := [d] }
  | _ => none }
def FnExactCodeValidWrongFalsely : Prop := fnExactCodeValidRow.holds Try.pinned (OpenSpec.ofChange fnExactCodeValidWrong)

/-- 'laws.FnExactCheckValid': WHATEVER THE INPUT: true; the input reads as it did. -/
def fnExactCheckValidSpec : ChangeSpec := { name := "fnExactCheckValid", fn := fun _ => fun
  | [d] => { results := [.lit (.bool true)], args := [d] }
  | _ => none }
def fnExactCheckValidRow : OpenClaim := { program := "ytkaigggidpndmaa", sum := "c54b6d03b5e4e46ba1f3bf440e36900f6c91a98b5d9fa8b274fe388999d4e9ad", func := "loop.example/sortingoffice/laws.FnExactCheckValid", spec := "fnExactCheckValid", apart := false }
def FnExactCheckValidSaid : Prop := fnExactCheckValidRow.holds Try.pinned (OpenSpec.ofChange fnExactCheckValidSpec)

/-- ITS FALSE NEIGHBOUR: 'it returns false'. Refute it at one input. -/
def fnExactCheckValidWrong : ChangeSpec := { name := "fnExactCheckValid", fn := fun _ => fun
  | [d] => { results := [.lit (.bool false)], args := [d] }
  | _ => none }
def FnExactCheckValidWrongFalsely : Prop := fnExactCheckValidRow.holds Try.pinned (OpenSpec.ofChange fnExactCheckValidWrong)

/-- 'laws.FnExactCheckDigit': WHATEVER THE INPUT: true; the input reads as it did. -/
def fnExactCheckDigitSpec : ChangeSpec := { name := "fnExactCheckDigit", fn := fun _ => fun
  | [d] => { results := [.lit (.bool true)], args := [d] }
  | _ => none }
def fnExactCheckDigitRow : OpenClaim := { program := "ytkaigggidpndmaa", sum := "c54b6d03b5e4e46ba1f3bf440e36900f6c91a98b5d9fa8b274fe388999d4e9ad", func := "loop.example/sortingoffice/laws.FnExactCheckDigit", spec := "fnExactCheckDigit", apart := false }
def FnExactCheckDigitSaid : Prop := fnExactCheckDigitRow.holds Try.pinned (OpenSpec.ofChange fnExactCheckDigitSpec)

/-- ITS FALSE NEIGHBOUR: 'it returns false'. Refute it at one input. -/
def fnExactCheckDigitWrong : ChangeSpec := { name := "fnExactCheckDigit", fn := fun _ => fun
  | [d] => { results := [.lit (.bool false)], args := [d] }
  | _ => none }
def FnExactCheckDigitWrongFalsely : Prop := fnExactCheckDigitRow.holds Try.pinned (OpenSpec.ofChange fnExactCheckDigitWrong)

/-- 'laws.FnExactCodeOf': WHATEVER THE INPUT: true; the input reads as it did. -/
def fnExactCodeOfSpec : ChangeSpec := { name := "fnExactCodeOf", fn := fun _ => fun
  | [d] => { results := [.lit (.bool true)], args := [d] }
  | _ => none }
def fnExactCodeOfRow : OpenClaim := { program := "ytkaigggidpndmaa", sum := "c54b6d03b5e4e46ba1f3bf440e36900f6c91a98b5d9fa8b274fe388999d4e9ad", func := "loop.example/sortingoffice/laws.FnExactCodeOf", spec := "fnExactCodeOf", recurses := true, apart := false }
def FnExactCodeOfSaid : Prop := fnExactCodeOfRow.holds Try.pinned (OpenSpec.ofChange fnExactCodeOfSpec)

/-- ITS FALSE NEIGHBOUR: 'it returns false'. Refute it at one input. -/
def fnExactCodeOfWrong : ChangeSpec := { name := "fnExactCodeOf", fn := fun _ => fun
  | [d] => { results := [.lit (.bool false)], args := [d] }
  | _ => none }
def FnExactCodeOfWrongFalsely : Prop := fnExactCodeOfRow.holds Try.pinned (OpenSpec.ofChange fnExactCodeOfWrong)

/-- 'laws.FnExactPlaceOf': WHATEVER THE INPUT: true; the input reads as it did. -/
def fnExactPlaceOfSpec : ChangeSpec := { name := "fnExactPlaceOf", fn := fun _ => fun
  | [d] => { results := [.lit (.bool true)], args := [d] }
  | _ => none }
def fnExactPlaceOfRow : OpenClaim := { program := "ytkaigggidpndmaa", sum := "c54b6d03b5e4e46ba1f3bf440e36900f6c91a98b5d9fa8b274fe388999d4e9ad", func := "loop.example/sortingoffice/laws.FnExactPlaceOf", spec := "fnExactPlaceOf", apart := false }
def FnExactPlaceOfSaid : Prop := fnExactPlaceOfRow.holds Try.pinned (OpenSpec.ofChange fnExactPlaceOfSpec)

/-- ITS FALSE NEIGHBOUR: 'it returns false'. Refute it at one input. -/
def fnExactPlaceOfWrong : ChangeSpec := { name := "fnExactPlaceOf", fn := fun _ => fun
  | [d] => { results := [.lit (.bool false)], args := [d] }
  | _ => none }
def FnExactPlaceOfWrongFalsely : Prop := fnExactPlaceOfRow.holds Try.pinned (OpenSpec.ofChange fnExactPlaceOfWrong)

/-- 'laws.FnExactFormatPlace': WHATEVER THE INPUT: true; the input reads as it did. -/
def fnExactFormatPlaceSpec : ChangeSpec := { name := "fnExactFormatPlace", fn := fun _ => fun
  | [d] => { results := [.lit (.bool true)], args := [d] }
  | _ => none }
def fnExactFormatPlaceRow : OpenClaim := { program := "ytkaigggidpndmaa", sum := "c54b6d03b5e4e46ba1f3bf440e36900f6c91a98b5d9fa8b274fe388999d4e9ad", func := "loop.example/sortingoffice/laws.FnExactFormatPlace", spec := "fnExactFormatPlace", recurses := true, apart := false }
def FnExactFormatPlaceSaid : Prop := fnExactFormatPlaceRow.holds Try.pinned (OpenSpec.ofChange fnExactFormatPlaceSpec)

/-- ITS FALSE NEIGHBOUR: 'it returns false'. Refute it at one input. -/
def fnExactFormatPlaceWrong : ChangeSpec := { name := "fnExactFormatPlace", fn := fun _ => fun
  | [d] => { results := [.lit (.bool false)], args := [d] }
  | _ => none }
def FnExactFormatPlaceWrongFalsely : Prop := fnExactFormatPlaceRow.holds Try.pinned (OpenSpec.ofChange fnExactFormatPlaceWrong)

/- THE SECOND FORM. 'bulk': how many values and letters a reading holds, each counted each time it is reached (what is shared counts as often as it is met; a slice's spare places count too). A statement '..UptoSaid' is the law's where the arguments, and the package variables that the reading takes, are together of bulk at most 1048576: NARROWER than '..Said'. Prove '..Said' where nothing that the law and all that it calls make is longer than what came in: it says more and counts as full. Else prove '..UptoSaid'. A law counts once. -/
mutual
def uptoBulk {H : Type} : DataW H → Nat
  | .lit (.string bytes) => bytes.length + 1
  | .lit _ => 1
  | .nil => 1
  | .ptr d => uptoBulk d + 1
  | .slice elems spare => uptoBulkAll elems + uptoBulkAll spare + 1
  | .agg parts => uptoBulkAll parts + 1
  | .iface _ d => uptoBulk d + 1
  | .map entries => uptoBulkEntries entries + 1
  | .held _ => 1
def uptoBulkAll {H : Type} : List (DataW H) → Nat
  | [] => 0
  | d :: r => uptoBulk d + uptoBulkAll r
def uptoBulkEntries {H : Type} : List (Lit × DataW H) → Nat
  | [] => 0
  | x :: r => uptoBulkEntry x + uptoBulkEntries r
def uptoBulkEntry {H : Type} : Lit × DataW H → Nat
  | (.string bytes, d) => bytes.length + uptoBulk d + 1
  | (_, d) => uptoBulk d + 1
 end
def uptoSmall : (H : Type) → List (DataW H) → Bool := fun _ ds => decide (uptoBulkAll ds ≤ 1048576)
def OpenSpec.upto (s : _root_.Go.ChangeSpec) : _root_.Go.OpenSpec := { _root_.Go.OpenSpec.ofChange s with cond := some uptoSmall }

/-- 'laws.FnExactConstants', WHERE WHAT IT READS IS OF BULK AT MOST 1048576: true; the input reads as it did. -/
def fnExactConstantsUptoRow : OpenClaim := { program := "ytkaigggidpndmaa", sum := "c54b6d03b5e4e46ba1f3bf440e36900f6c91a98b5d9fa8b274fe388999d4e9ad", func := "loop.example/sortingoffice/laws.FnExactConstants", spec := "fnExactConstants", apart := false, narrowed := true }
def FnExactConstantsUptoSaid : Prop := fnExactConstantsUptoRow.holds Try.pinned (OpenSpec.upto fnExactConstantsSpec)

/-- 'laws.FnExactTurnBars', WHERE WHAT IT READS IS OF BULK AT MOST 1048576: true; the input reads as it did. -/
def fnExactTurnBarsUptoRow : OpenClaim := { program := "ytkaigggidpndmaa", sum := "c54b6d03b5e4e46ba1f3bf440e36900f6c91a98b5d9fa8b274fe388999d4e9ad", func := "loop.example/sortingoffice/laws.FnExactTurnBars", spec := "fnExactTurnBars", apart := false, narrowed := true }
def FnExactTurnBarsUptoSaid : Prop := fnExactTurnBarsUptoRow.holds Try.pinned (OpenSpec.upto fnExactTurnBarsSpec)

/-- 'laws.FnExactPlaceValid', WHERE WHAT IT READS IS OF BULK AT MOST 1048576: true; the input reads as it did. -/
def fnExactPlaceValidUptoRow : OpenClaim := { program := "ytkaigggidpndmaa", sum := "c54b6d03b5e4e46ba1f3bf440e36900f6c91a98b5d9fa8b274fe388999d4e9ad", func := "loop.example/sortingoffice/laws.FnExactPlaceValid", spec := "fnExactPlaceValid", apart := false, narrowed := true }
def FnExactPlaceValidUptoSaid : Prop := fnExactPlaceValidUptoRow.holds Try.pinned (OpenSpec.upto fnExactPlaceValidSpec)

/-- 'laws.FnExactDigitsValid', WHERE WHAT IT READS IS OF BULK AT MOST 1048576: true; the input reads as it did. -/
def fnExactDigitsValidUptoRow : OpenClaim := { program := "ytkaigggidpndmaa", sum := "c54b6d03b5e4e46ba1f3bf440e36900f6c91a98b5d9fa8b274fe388999d4e9ad", func := "loop.example/sortingoffice/laws.FnExactDigitsValid", spec := "fnExactDigitsValid", apart := false, narrowed := true }
def FnExactDigitsValidUptoSaid : Prop := fnExactDigitsValidUptoRow.holds Try.pinned (OpenSpec.upto fnExactDigitsValidSpec)

/-- 'laws.FnExactCodeValid', WHERE WHAT IT READS IS OF BULK AT MOST 1048576: true; the input reads as it did. -/
def fnExactCodeValidUptoRow : OpenClaim := { program := "ytkaigggidpndmaa", sum := "c54b6d03b5e4e46ba1f3bf440e36900f6c91a98b5d9fa8b274fe388999d4e9ad", func := "loop.example/sortingoffice/laws.FnExactCodeValid", spec := "fnExactCodeValid", apart := false, narrowed := true }
def FnExactCodeValidUptoSaid : Prop := fnExactCodeValidUptoRow.holds Try.pinned (OpenSpec.upto fnExactCodeValidSpec)

/-- 'laws.FnExactCheckValid', WHERE WHAT IT READS IS OF BULK AT MOST 1048576: true; the input reads as it did. -/
def fnExactCheckValidUptoRow : OpenClaim := { program := "ytkaigggidpndmaa", sum := "c54b6d03b5e4e46ba1f3bf440e36900f6c91a98b5d9fa8b274fe388999d4e9ad", func := "loop.example/sortingoffice/laws.FnExactCheckValid", spec := "fnExactCheckValid", apart := false, narrowed := true }
def FnExactCheckValidUptoSaid : Prop := fnExactCheckValidUptoRow.holds Try.pinned (OpenSpec.upto fnExactCheckValidSpec)

/-- 'laws.FnExactCheckDigit', WHERE WHAT IT READS IS OF BULK AT MOST 1048576: true; the input reads as it did. -/
def fnExactCheckDigitUptoRow : OpenClaim := { program := "ytkaigggidpndmaa", sum := "c54b6d03b5e4e46ba1f3bf440e36900f6c91a98b5d9fa8b274fe388999d4e9ad", func := "loop.example/sortingoffice/laws.FnExactCheckDigit", spec := "fnExactCheckDigit", apart := false, narrowed := true }
def FnExactCheckDigitUptoSaid : Prop := fnExactCheckDigitUptoRow.holds Try.pinned (OpenSpec.upto fnExactCheckDigitSpec)

/-- 'laws.FnExactCodeOf', WHERE WHAT IT READS IS OF BULK AT MOST 1048576: true; the input reads as it did. -/
def fnExactCodeOfUptoRow : OpenClaim := { program := "ytkaigggidpndmaa", sum := "c54b6d03b5e4e46ba1f3bf440e36900f6c91a98b5d9fa8b274fe388999d4e9ad", func := "loop.example/sortingoffice/laws.FnExactCodeOf", spec := "fnExactCodeOf", recurses := true, apart := false, narrowed := true }
def FnExactCodeOfUptoSaid : Prop := fnExactCodeOfUptoRow.holds Try.pinned (OpenSpec.upto fnExactCodeOfSpec)

/-- 'laws.FnExactPlaceOf', WHERE WHAT IT READS IS OF BULK AT MOST 1048576: true; the input reads as it did. -/
def fnExactPlaceOfUptoRow : OpenClaim := { program := "ytkaigggidpndmaa", sum := "c54b6d03b5e4e46ba1f3bf440e36900f6c91a98b5d9fa8b274fe388999d4e9ad", func := "loop.example/sortingoffice/laws.FnExactPlaceOf", spec := "fnExactPlaceOf", apart := false, narrowed := true }
def FnExactPlaceOfUptoSaid : Prop := fnExactPlaceOfUptoRow.holds Try.pinned (OpenSpec.upto fnExactPlaceOfSpec)

/-- 'laws.FnExactFormatPlace', WHERE WHAT IT READS IS OF BULK AT MOST 1048576: true; the input reads as it did. -/
def fnExactFormatPlaceUptoRow : OpenClaim := { program := "ytkaigggidpndmaa", sum := "c54b6d03b5e4e46ba1f3bf440e36900f6c91a98b5d9fa8b274fe388999d4e9ad", func := "loop.example/sortingoffice/laws.FnExactFormatPlace", spec := "fnExactFormatPlace", recurses := true, apart := false, narrowed := true }
def FnExactFormatPlaceUptoSaid : Prop := fnExactFormatPlaceUptoRow.holds Try.pinned (OpenSpec.upto fnExactFormatPlaceSpec)

end Rows
end Go.Proofs.Ytkaigggidpndmaa
