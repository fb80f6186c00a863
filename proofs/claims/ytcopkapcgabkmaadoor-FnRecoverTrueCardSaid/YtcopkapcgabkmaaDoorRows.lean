/-
  NARROWER THAN 'FOR EVERY INPUT', by the rows' own cells (each row's printed sentence says how): FnExactBarsOf: laid · FnExactRecoverBars: laid · FnExactReadBars: laid · FnExactReadEither: laid · FnDigitBars: laid · FnBarsDigit: laid · FnBarsRead: laid · FnReadBars: laid · FnReadEither: laid · FnRecover: laid · FnRecoverTrue: laid.
  DERIVED. THE GIVEN ROWS OF THIS SEAT. 11 by the template 'for every input the law returns true; each argument reads behind the call as it read before'; 0 by the template 'total and deterministic' (their statements: YtcopkapcgabkmaaDoorTotals.lean).
  GIVEN WITH THE SEED: the statements are not yours to turn. If you find one false, say at which input.
  Laid BY PROGRAM, IN A SANDBOX (cutbox-rows.mjs): the forced cells as the released guide's own fill.sh prints them over the translation 6cc4156319aa0528… (all of the seat's roots in one cut). By AI agents, Wed Nov 11 2026. No macro, syntax, notation, axiom, sorry.
-/
import Derived.Test.YtcopkapcgabkmaaDoorChecked
import GoSem.Claim
import GoSem.ClaimJoined
import GoSem.ClaimMapViews
import Derived.JoinedTies
import Derived.KernelRfl
namespace Go.Proofs.YtcopkapcgabkmaaDoor
/- THE CELL 'sum', in the pinned program and in every row, IS THE sha256 OF THE DUMP (.gsa) THAT YtcopkapcgabkmaaDoorProg.lean LOADS. Nothing in Lean hashes anything: it is a label: what it is worth is what the hold of that sum in a sandbox is worth. -/
noncomputable def Tryd.pinned : Pinned := { name := "ytcopkapcgabkmaadoor", sum := "6cc4156319aa0528805b2e6b2f0f8e6b6aa6fc61c2c87e467c2bc4b5afd5c9b2", checked := Tryd.checked }
namespace Rows
def none {H : Type} : Left H := { results := [], args := [] }

/- WHAT THE LISTED PACKAGE-LEVEL VARIABLES READ AS WHEN THE CALL BEGINS. Each datum BY PROGRAM (the guide's laid-datum.mjs) off the statement by which the dump's own 'gosem.cut.vars' lays the variable. In a bare row this is a premise. The card (YtcopkapcgabkmaaDoorCards.lean) ties it to the program's text. -/
def laid_loop_example_sortingoffice_impl_digitBars {H : Type} : DataW H := .agg [.lit (.string [124, 124, 46, 46, 46]), .lit (.string [46, 46, 46, 124, 124]), .lit (.string [46, 46, 124, 46, 124]), .lit (.string [46, 46, 124, 124, 46]), .lit (.string [46, 124, 46, 46, 124]), .lit (.string [46, 124, 46, 124, 46]), .lit (.string [46, 124, 124, 46, 46]), .lit (.string [124, 46, 46, 46, 124]), .lit (.string [124, 46, 46, 124, 46]), .lit (.string [124, 46, 124, 46, 46])]

/-- 'laws.FnExactBarsOf': WHATEVER THE INPUT: true; the input reads as it did. -/
def fnExactBarsOfSpec : ChangeSpec := { name := "fnExactBarsOf", vars := ["loop.example/sortingoffice/impl.digitBars"], fn := fun _ => fun
  | [d, g1] => { results := [.lit (.bool true)], args := [d], vars := [g1] }
  | _ => none }
def fnExactBarsOfRow : OpenClaim := { program := "ytcopkapcgabkmaadoor", sum := "6cc4156319aa0528805b2e6b2f0f8e6b6aa6fc61c2c87e467c2bc4b5afd5c9b2", func := "loop.example/sortingoffice/laws.FnExactBarsOf", spec := "fnExactBarsOf", named := ["loop.example/sortingoffice/impl.digitBars"], apart := false, laid := [("loop.example/sortingoffice/impl.digitBars", laid_loop_example_sortingoffice_impl_digitBars)] }
def FnExactBarsOfSaid : Prop := fnExactBarsOfRow.holds Tryd.pinned (OpenSpec.ofChange fnExactBarsOfSpec)

/-- ITS FALSE NEIGHBOUR: 'it returns false'. Refute it at one input. -/
def fnExactBarsOfWrong : ChangeSpec := { name := "fnExactBarsOf", vars := ["loop.example/sortingoffice/impl.digitBars"], fn := fun _ => fun
  | [d, g1] => { results := [.lit (.bool false)], args := [d], vars := [g1] }
  | _ => none }
def FnExactBarsOfWrongFalsely : Prop := fnExactBarsOfRow.holds Tryd.pinned (OpenSpec.ofChange fnExactBarsOfWrong)

/-- 'laws.FnExactRecoverBars': WHATEVER THE INPUT: true; the input reads as it did. -/
def fnExactRecoverBarsSpec : ChangeSpec := { name := "fnExactRecoverBars", vars := ["loop.example/sortingoffice/impl.digitBars"], fn := fun _ => fun
  | [d, g1] => { results := [.lit (.bool true)], args := [d], vars := [g1] }
  | _ => none }
def fnExactRecoverBarsRow : OpenClaim := { program := "ytcopkapcgabkmaadoor", sum := "6cc4156319aa0528805b2e6b2f0f8e6b6aa6fc61c2c87e467c2bc4b5afd5c9b2", func := "loop.example/sortingoffice/laws.FnExactRecoverBars", spec := "fnExactRecoverBars", recurses := true, named := ["loop.example/sortingoffice/impl.digitBars"], apart := false, laid := [("loop.example/sortingoffice/impl.digitBars", laid_loop_example_sortingoffice_impl_digitBars)] }
def FnExactRecoverBarsSaid : Prop := fnExactRecoverBarsRow.holds Tryd.pinned (OpenSpec.ofChange fnExactRecoverBarsSpec)

/-- ITS FALSE NEIGHBOUR: 'it returns false'. Refute it at one input. -/
def fnExactRecoverBarsWrong : ChangeSpec := { name := "fnExactRecoverBars", vars := ["loop.example/sortingoffice/impl.digitBars"], fn := fun _ => fun
  | [d, g1] => { results := [.lit (.bool false)], args := [d], vars := [g1] }
  | _ => none }
def FnExactRecoverBarsWrongFalsely : Prop := fnExactRecoverBarsRow.holds Tryd.pinned (OpenSpec.ofChange fnExactRecoverBarsWrong)

/-- 'laws.FnExactReadBars': WHATEVER THE INPUT: true; the input reads as it did. -/
def fnExactReadBarsSpec : ChangeSpec := { name := "fnExactReadBars", vars := ["loop.example/sortingoffice/impl.digitBars"], fn := fun _ => fun
  | [d, g1] => { results := [.lit (.bool true)], args := [d], vars := [g1] }
  | _ => none }
def fnExactReadBarsRow : OpenClaim := { program := "ytcopkapcgabkmaadoor", sum := "6cc4156319aa0528805b2e6b2f0f8e6b6aa6fc61c2c87e467c2bc4b5afd5c9b2", func := "loop.example/sortingoffice/laws.FnExactReadBars", spec := "fnExactReadBars", recurses := true, named := ["loop.example/sortingoffice/impl.digitBars"], apart := false, laid := [("loop.example/sortingoffice/impl.digitBars", laid_loop_example_sortingoffice_impl_digitBars)] }
def FnExactReadBarsSaid : Prop := fnExactReadBarsRow.holds Tryd.pinned (OpenSpec.ofChange fnExactReadBarsSpec)

/-- ITS FALSE NEIGHBOUR: 'it returns false'. Refute it at one input. -/
def fnExactReadBarsWrong : ChangeSpec := { name := "fnExactReadBars", vars := ["loop.example/sortingoffice/impl.digitBars"], fn := fun _ => fun
  | [d, g1] => { results := [.lit (.bool false)], args := [d], vars := [g1] }
  | _ => none }
def FnExactReadBarsWrongFalsely : Prop := fnExactReadBarsRow.holds Tryd.pinned (OpenSpec.ofChange fnExactReadBarsWrong)

/-- 'laws.FnExactReadEither': WHATEVER THE INPUT: true; the input reads as it did. -/
def fnExactReadEitherSpec : ChangeSpec := { name := "fnExactReadEither", vars := ["loop.example/sortingoffice/impl.digitBars"], fn := fun _ => fun
  | [d, g1] => { results := [.lit (.bool true)], args := [d], vars := [g1] }
  | _ => none }
def fnExactReadEitherRow : OpenClaim := { program := "ytcopkapcgabkmaadoor", sum := "6cc4156319aa0528805b2e6b2f0f8e6b6aa6fc61c2c87e467c2bc4b5afd5c9b2", func := "loop.example/sortingoffice/laws.FnExactReadEither", spec := "fnExactReadEither", recurses := true, named := ["loop.example/sortingoffice/impl.digitBars"], apart := false, laid := [("loop.example/sortingoffice/impl.digitBars", laid_loop_example_sortingoffice_impl_digitBars)] }
def FnExactReadEitherSaid : Prop := fnExactReadEitherRow.holds Tryd.pinned (OpenSpec.ofChange fnExactReadEitherSpec)

/-- ITS FALSE NEIGHBOUR: 'it returns false'. Refute it at one input. -/
def fnExactReadEitherWrong : ChangeSpec := { name := "fnExactReadEither", vars := ["loop.example/sortingoffice/impl.digitBars"], fn := fun _ => fun
  | [d, g1] => { results := [.lit (.bool false)], args := [d], vars := [g1] }
  | _ => none }
def FnExactReadEitherWrongFalsely : Prop := fnExactReadEitherRow.holds Tryd.pinned (OpenSpec.ofChange fnExactReadEitherWrong)

/-- 'laws.FnDigitBars': WHATEVER THE INPUT: true; the input reads as it did. -/
def fnDigitBarsSpec : ChangeSpec := { name := "fnDigitBars", vars := ["loop.example/sortingoffice/impl.digitBars"], fn := fun _ => fun
  | [d, g1] => { results := [.lit (.bool true)], args := [d], vars := [g1] }
  | _ => none }
def fnDigitBarsRow : OpenClaim := { program := "ytcopkapcgabkmaadoor", sum := "6cc4156319aa0528805b2e6b2f0f8e6b6aa6fc61c2c87e467c2bc4b5afd5c9b2", func := "loop.example/sortingoffice/laws.FnDigitBars", spec := "fnDigitBars", named := ["loop.example/sortingoffice/impl.digitBars"], apart := false, laid := [("loop.example/sortingoffice/impl.digitBars", laid_loop_example_sortingoffice_impl_digitBars)] }
def FnDigitBarsSaid : Prop := fnDigitBarsRow.holds Tryd.pinned (OpenSpec.ofChange fnDigitBarsSpec)

/-- ITS FALSE NEIGHBOUR: 'it returns false'. Refute it at one input. -/
def fnDigitBarsWrong : ChangeSpec := { name := "fnDigitBars", vars := ["loop.example/sortingoffice/impl.digitBars"], fn := fun _ => fun
  | [d, g1] => { results := [.lit (.bool false)], args := [d], vars := [g1] }
  | _ => none }
def FnDigitBarsWrongFalsely : Prop := fnDigitBarsRow.holds Tryd.pinned (OpenSpec.ofChange fnDigitBarsWrong)

/-- 'laws.FnBarsDigit': WHATEVER THE INPUT: true; the input reads as it did. -/
def fnBarsDigitSpec : ChangeSpec := { name := "fnBarsDigit", vars := ["loop.example/sortingoffice/impl.digitBars"], fn := fun _ => fun
  | [d, g1] => { results := [.lit (.bool true)], args := [d], vars := [g1] }
  | _ => none }
def fnBarsDigitRow : OpenClaim := { program := "ytcopkapcgabkmaadoor", sum := "6cc4156319aa0528805b2e6b2f0f8e6b6aa6fc61c2c87e467c2bc4b5afd5c9b2", func := "loop.example/sortingoffice/laws.FnBarsDigit", spec := "fnBarsDigit", named := ["loop.example/sortingoffice/impl.digitBars"], apart := false, laid := [("loop.example/sortingoffice/impl.digitBars", laid_loop_example_sortingoffice_impl_digitBars)] }
def FnBarsDigitSaid : Prop := fnBarsDigitRow.holds Tryd.pinned (OpenSpec.ofChange fnBarsDigitSpec)

/-- ITS FALSE NEIGHBOUR: 'it returns false'. Refute it at one input. -/
def fnBarsDigitWrong : ChangeSpec := { name := "fnBarsDigit", vars := ["loop.example/sortingoffice/impl.digitBars"], fn := fun _ => fun
  | [d, g1] => { results := [.lit (.bool false)], args := [d], vars := [g1] }
  | _ => none }
def FnBarsDigitWrongFalsely : Prop := fnBarsDigitRow.holds Tryd.pinned (OpenSpec.ofChange fnBarsDigitWrong)

/-- 'laws.FnBarsRead': WHATEVER THE INPUT: true; the input reads as it did. -/
def fnBarsReadSpec : ChangeSpec := { name := "fnBarsRead", vars := ["loop.example/sortingoffice/impl.digitBars"], fn := fun _ => fun
  | [d, g1] => { results := [.lit (.bool true)], args := [d], vars := [g1] }
  | _ => none }
def fnBarsReadRow : OpenClaim := { program := "ytcopkapcgabkmaadoor", sum := "6cc4156319aa0528805b2e6b2f0f8e6b6aa6fc61c2c87e467c2bc4b5afd5c9b2", func := "loop.example/sortingoffice/laws.FnBarsRead", spec := "fnBarsRead", recurses := true, named := ["loop.example/sortingoffice/impl.digitBars"], apart := false, laid := [("loop.example/sortingoffice/impl.digitBars", laid_loop_example_sortingoffice_impl_digitBars)] }
def FnBarsReadSaid : Prop := fnBarsReadRow.holds Tryd.pinned (OpenSpec.ofChange fnBarsReadSpec)

/-- ITS FALSE NEIGHBOUR: 'it returns false'. Refute it at one input. -/
def fnBarsReadWrong : ChangeSpec := { name := "fnBarsRead", vars := ["loop.example/sortingoffice/impl.digitBars"], fn := fun _ => fun
  | [d, g1] => { results := [.lit (.bool false)], args := [d], vars := [g1] }
  | _ => none }
def FnBarsReadWrongFalsely : Prop := fnBarsReadRow.holds Tryd.pinned (OpenSpec.ofChange fnBarsReadWrong)

/-- 'laws.FnReadBars': WHATEVER THE INPUT: true; the input reads as it did. -/
def fnReadBarsSpec : ChangeSpec := { name := "fnReadBars", vars := ["loop.example/sortingoffice/impl.digitBars"], fn := fun _ => fun
  | [d, g1] => { results := [.lit (.bool true)], args := [d], vars := [g1] }
  | _ => none }
def fnReadBarsRow : OpenClaim := { program := "ytcopkapcgabkmaadoor", sum := "6cc4156319aa0528805b2e6b2f0f8e6b6aa6fc61c2c87e467c2bc4b5afd5c9b2", func := "loop.example/sortingoffice/laws.FnReadBars", spec := "fnReadBars", recurses := true, named := ["loop.example/sortingoffice/impl.digitBars"], apart := false, laid := [("loop.example/sortingoffice/impl.digitBars", laid_loop_example_sortingoffice_impl_digitBars)] }
def FnReadBarsSaid : Prop := fnReadBarsRow.holds Tryd.pinned (OpenSpec.ofChange fnReadBarsSpec)

/-- ITS FALSE NEIGHBOUR: 'it returns false'. Refute it at one input. -/
def fnReadBarsWrong : ChangeSpec := { name := "fnReadBars", vars := ["loop.example/sortingoffice/impl.digitBars"], fn := fun _ => fun
  | [d, g1] => { results := [.lit (.bool false)], args := [d], vars := [g1] }
  | _ => none }
def FnReadBarsWrongFalsely : Prop := fnReadBarsRow.holds Tryd.pinned (OpenSpec.ofChange fnReadBarsWrong)

/-- 'laws.FnReadEither': WHATEVER THE INPUT: true; the input reads as it did. -/
def fnReadEitherSpec : ChangeSpec := { name := "fnReadEither", vars := ["loop.example/sortingoffice/impl.digitBars"], fn := fun _ => fun
  | [d, g1] => { results := [.lit (.bool true)], args := [d], vars := [g1] }
  | _ => none }
def fnReadEitherRow : OpenClaim := { program := "ytcopkapcgabkmaadoor", sum := "6cc4156319aa0528805b2e6b2f0f8e6b6aa6fc61c2c87e467c2bc4b5afd5c9b2", func := "loop.example/sortingoffice/laws.FnReadEither", spec := "fnReadEither", recurses := true, named := ["loop.example/sortingoffice/impl.digitBars"], apart := false, laid := [("loop.example/sortingoffice/impl.digitBars", laid_loop_example_sortingoffice_impl_digitBars)] }
def FnReadEitherSaid : Prop := fnReadEitherRow.holds Tryd.pinned (OpenSpec.ofChange fnReadEitherSpec)

/-- ITS FALSE NEIGHBOUR: 'it returns false'. Refute it at one input. -/
def fnReadEitherWrong : ChangeSpec := { name := "fnReadEither", vars := ["loop.example/sortingoffice/impl.digitBars"], fn := fun _ => fun
  | [d, g1] => { results := [.lit (.bool false)], args := [d], vars := [g1] }
  | _ => none }
def FnReadEitherWrongFalsely : Prop := fnReadEitherRow.holds Tryd.pinned (OpenSpec.ofChange fnReadEitherWrong)

/-- 'laws.FnRecover': WHATEVER THE INPUT: true; the input reads as it did. -/
def fnRecoverSpec : ChangeSpec := { name := "fnRecover", vars := ["loop.example/sortingoffice/impl.digitBars"], fn := fun _ => fun
  | [d1, d2, g1] => { results := [.lit (.bool true)], args := [d1, d2], vars := [g1] }
  | _ => none }
def fnRecoverRow : OpenClaim := { program := "ytcopkapcgabkmaadoor", sum := "6cc4156319aa0528805b2e6b2f0f8e6b6aa6fc61c2c87e467c2bc4b5afd5c9b2", func := "loop.example/sortingoffice/laws.FnRecover", spec := "fnRecover", recurses := true, named := ["loop.example/sortingoffice/impl.digitBars"], apart := false, laid := [("loop.example/sortingoffice/impl.digitBars", laid_loop_example_sortingoffice_impl_digitBars)] }
def FnRecoverSaid : Prop := fnRecoverRow.holds Tryd.pinned (OpenSpec.ofChange fnRecoverSpec)

/-- ITS FALSE NEIGHBOUR: 'it returns false'. Refute it at one input. -/
def fnRecoverWrong : ChangeSpec := { name := "fnRecover", vars := ["loop.example/sortingoffice/impl.digitBars"], fn := fun _ => fun
  | [d1, d2, g1] => { results := [.lit (.bool false)], args := [d1, d2], vars := [g1] }
  | _ => none }
def FnRecoverWrongFalsely : Prop := fnRecoverRow.holds Tryd.pinned (OpenSpec.ofChange fnRecoverWrong)

/-- 'laws.FnRecoverTrue': WHATEVER THE INPUT: true; the input reads as it did. -/
def fnRecoverTrueSpec : ChangeSpec := { name := "fnRecoverTrue", vars := ["loop.example/sortingoffice/impl.digitBars"], fn := fun _ => fun
  | [d, g1] => { results := [.lit (.bool true)], args := [d], vars := [g1] }
  | _ => none }
def fnRecoverTrueRow : OpenClaim := { program := "ytcopkapcgabkmaadoor", sum := "6cc4156319aa0528805b2e6b2f0f8e6b6aa6fc61c2c87e467c2bc4b5afd5c9b2", func := "loop.example/sortingoffice/laws.FnRecoverTrue", spec := "fnRecoverTrue", recurses := true, named := ["loop.example/sortingoffice/impl.digitBars"], apart := false, laid := [("loop.example/sortingoffice/impl.digitBars", laid_loop_example_sortingoffice_impl_digitBars)] }
def FnRecoverTrueSaid : Prop := fnRecoverTrueRow.holds Tryd.pinned (OpenSpec.ofChange fnRecoverTrueSpec)

/-- ITS FALSE NEIGHBOUR: 'it returns false'. Refute it at one input. -/
def fnRecoverTrueWrong : ChangeSpec := { name := "fnRecoverTrue", vars := ["loop.example/sortingoffice/impl.digitBars"], fn := fun _ => fun
  | [d, g1] => { results := [.lit (.bool false)], args := [d], vars := [g1] }
  | _ => none }
def FnRecoverTrueWrongFalsely : Prop := fnRecoverTrueRow.holds Tryd.pinned (OpenSpec.ofChange fnRecoverTrueWrong)

/- THE SECOND FORM. 'bulk': how many values and letters a reading holds, each counted each time it is reached (what is shared counts as often as it is met; a slice's spare places count too). A statement '..UptoSaid' is the law's where the arguments, and the package variables that the reading takes, are together of bulk at most 1048576: NARROWER than '..Said'. Prove '..Said' where nothing that the law and all that it calls make is longer than what came in: it says more and counts as full. Else prove '..UptoSaid'. A law counts once. -/
mutual
def uptoBulk {H : Type} : DataW H → Nat
  | .lit (.string bytes) => bytes.length + 1
  | .lit _ => 1
  | .nil => 1
  | .ptr d => uptoBulk d + 1
  | .slice elems spare => uptoBulkAll elems + uptoBulkAll spare + 1
  | .agg parts => uptoBulkAll parts + 1
  | .iface _ d => uptoBulk d + 1
  | .map entries => uptoBulkEntries entries + 1
  | .held _ => 1
def uptoBulkAll {H : Type} : List (DataW H) → Nat
  | [] => 0
  | d :: r => uptoBulk d + uptoBulkAll r
def uptoBulkEntries {H : Type} : List (Lit × DataW H) → Nat
  | [] => 0
  | x :: r => uptoBulkEntry x + uptoBulkEntries r
def uptoBulkEntry {H : Type} : Lit × DataW H → Nat
  | (.string bytes, d) => bytes.length + uptoBulk d + 1
  | (_, d) => uptoBulk d + 1
 end
def uptoSmall : (H : Type) → List (DataW H) → Bool := fun _ ds => decide (uptoBulkAll ds ≤ 1048576)
def OpenSpec.upto (s : _root_.Go.ChangeSpec) : _root_.Go.OpenSpec := { _root_.Go.OpenSpec.ofChange s with cond := some uptoSmall }

/-- 'laws.FnExactBarsOf', WHERE WHAT IT READS IS OF BULK AT MOST 1048576: true; the input reads as it did. -/
def fnExactBarsOfUptoRow : OpenClaim := { program := "ytcopkapcgabkmaadoor", sum := "6cc4156319aa0528805b2e6b2f0f8e6b6aa6fc61c2c87e467c2bc4b5afd5c9b2", func := "loop.example/sortingoffice/laws.FnExactBarsOf", spec := "fnExactBarsOf", named := ["loop.example/sortingoffice/impl.digitBars"], apart := false, laid := [("loop.example/sortingoffice/impl.digitBars", laid_loop_example_sortingoffice_impl_digitBars)], narrowed := true }
def FnExactBarsOfUptoSaid : Prop := fnExactBarsOfUptoRow.holds Tryd.pinned (OpenSpec.upto fnExactBarsOfSpec)

/-- 'laws.FnExactRecoverBars', WHERE WHAT IT READS IS OF BULK AT MOST 1048576: true; the input reads as it did. -/
def fnExactRecoverBarsUptoRow : OpenClaim := { program := "ytcopkapcgabkmaadoor", sum := "6cc4156319aa0528805b2e6b2f0f8e6b6aa6fc61c2c87e467c2bc4b5afd5c9b2", func := "loop.example/sortingoffice/laws.FnExactRecoverBars", spec := "fnExactRecoverBars", recurses := true, named := ["loop.example/sortingoffice/impl.digitBars"], apart := false, laid := [("loop.example/sortingoffice/impl.digitBars", laid_loop_example_sortingoffice_impl_digitBars)], narrowed := true }
def FnExactRecoverBarsUptoSaid : Prop := fnExactRecoverBarsUptoRow.holds Tryd.pinned (OpenSpec.upto fnExactRecoverBarsSpec)

/-- 'laws.FnExactReadBars', WHERE WHAT IT READS IS OF BULK AT MOST 1048576: true; the input reads as it did. -/
def fnExactReadBarsUptoRow : OpenClaim := { program := "ytcopkapcgabkmaadoor", sum := "6cc4156319aa0528805b2e6b2f0f8e6b6aa6fc61c2c87e467c2bc4b5afd5c9b2", func := "loop.example/sortingoffice/laws.FnExactReadBars", spec := "fnExactReadBars", recurses := true, named := ["loop.example/sortingoffice/impl.digitBars"], apart := false, laid := [("loop.example/sortingoffice/impl.digitBars", laid_loop_example_sortingoffice_impl_digitBars)], narrowed := true }
def FnExactReadBarsUptoSaid : Prop := fnExactReadBarsUptoRow.holds Tryd.pinned (OpenSpec.upto fnExactReadBarsSpec)

/-- 'laws.FnExactReadEither', WHERE WHAT IT READS IS OF BULK AT MOST 1048576: true; the input reads as it did. -/
def fnExactReadEitherUptoRow : OpenClaim := { program := "ytcopkapcgabkmaadoor", sum := "6cc4156319aa0528805b2e6b2f0f8e6b6aa6fc61c2c87e467c2bc4b5afd5c9b2", func := "loop.example/sortingoffice/laws.FnExactReadEither", spec := "fnExactReadEither", recurses := true, named := ["loop.example/sortingoffice/impl.digitBars"], apart := false, laid := [("loop.example/sortingoffice/impl.digitBars", laid_loop_example_sortingoffice_impl_digitBars)], narrowed := true }
def FnExactReadEitherUptoSaid : Prop := fnExactReadEitherUptoRow.holds Tryd.pinned (OpenSpec.upto fnExactReadEitherSpec)

/-- 'laws.FnDigitBars', WHERE WHAT IT READS IS OF BULK AT MOST 1048576: true; the input reads as it did. -/
def fnDigitBarsUptoRow : OpenClaim := { program := "ytcopkapcgabkmaadoor", sum := "6cc4156319aa0528805b2e6b2f0f8e6b6aa6fc61c2c87e467c2bc4b5afd5c9b2", func := "loop.example/sortingoffice/laws.FnDigitBars", spec := "fnDigitBars", named := ["loop.example/sortingoffice/impl.digitBars"], apart := false, laid := [("loop.example/sortingoffice/impl.digitBars", laid_loop_example_sortingoffice_impl_digitBars)], narrowed := true }
def FnDigitBarsUptoSaid : Prop := fnDigitBarsUptoRow.holds Tryd.pinned (OpenSpec.upto fnDigitBarsSpec)

/-- 'laws.FnBarsDigit', WHERE WHAT IT READS IS OF BULK AT MOST 1048576: true; the input reads as it did. -/
def fnBarsDigitUptoRow : OpenClaim := { program := "ytcopkapcgabkmaadoor", sum := "6cc4156319aa0528805b2e6b2f0f8e6b6aa6fc61c2c87e467c2bc4b5afd5c9b2", func := "loop.example/sortingoffice/laws.FnBarsDigit", spec := "fnBarsDigit", named := ["loop.example/sortingoffice/impl.digitBars"], apart := false, laid := [("loop.example/sortingoffice/impl.digitBars", laid_loop_example_sortingoffice_impl_digitBars)], narrowed := true }
def FnBarsDigitUptoSaid : Prop := fnBarsDigitUptoRow.holds Tryd.pinned (OpenSpec.upto fnBarsDigitSpec)

/-- 'laws.FnBarsRead', WHERE WHAT IT READS IS OF BULK AT MOST 1048576: true; the input reads as it did. -/
def fnBarsReadUptoRow : OpenClaim := { program := "ytcopkapcgabkmaadoor", sum := "6cc4156319aa0528805b2e6b2f0f8e6b6aa6fc61c2c87e467c2bc4b5afd5c9b2", func := "loop.example/sortingoffice/laws.FnBarsRead", spec := "fnBarsRead", recurses := true, named := ["loop.example/sortingoffice/impl.digitBars"], apart := false, laid := [("loop.example/sortingoffice/impl.digitBars", laid_loop_example_sortingoffice_impl_digitBars)], narrowed := true }
def FnBarsReadUptoSaid : Prop := fnBarsReadUptoRow.holds Tryd.pinned (OpenSpec.upto fnBarsReadSpec)

/-- 'laws.FnReadBars', WHERE WHAT IT READS IS OF BULK AT MOST 1048576: true; the input reads as it did. -/
def fnReadBarsUptoRow : OpenClaim := { program := "ytcopkapcgabkmaadoor", sum := "6cc4156319aa0528805b2e6b2f0f8e6b6aa6fc61c2c87e467c2bc4b5afd5c9b2", func := "loop.example/sortingoffice/laws.FnReadBars", spec := "fnReadBars", recurses := true, named := ["loop.example/sortingoffice/impl.digitBars"], apart := false, laid := [("loop.example/sortingoffice/impl.digitBars", laid_loop_example_sortingoffice_impl_digitBars)], narrowed := true }
def FnReadBarsUptoSaid : Prop := fnReadBarsUptoRow.holds Tryd.pinned (OpenSpec.upto fnReadBarsSpec)

/-- 'laws.FnReadEither', WHERE WHAT IT READS IS OF BULK AT MOST 1048576: true; the input reads as it did. -/
def fnReadEitherUptoRow : OpenClaim := { program := "ytcopkapcgabkmaadoor", sum := "6cc4156319aa0528805b2e6b2f0f8e6b6aa6fc61c2c87e467c2bc4b5afd5c9b2", func := "loop.example/sortingoffice/laws.FnReadEither", spec := "fnReadEither", recurses := true, named := ["loop.example/sortingoffice/impl.digitBars"], apart := false, laid := [("loop.example/sortingoffice/impl.digitBars", laid_loop_example_sortingoffice_impl_digitBars)], narrowed := true }
def FnReadEitherUptoSaid : Prop := fnReadEitherUptoRow.holds Tryd.pinned (OpenSpec.upto fnReadEitherSpec)

/-- 'laws.FnRecover', WHERE WHAT IT READS IS OF BULK AT MOST 1048576: true; the input reads as it did. -/
def fnRecoverUptoRow : OpenClaim := { program := "ytcopkapcgabkmaadoor", sum := "6cc4156319aa0528805b2e6b2f0f8e6b6aa6fc61c2c87e467c2bc4b5afd5c9b2", func := "loop.example/sortingoffice/laws.FnRecover", spec := "fnRecover", recurses := true, named := ["loop.example/sortingoffice/impl.digitBars"], apart := false, laid := [("loop.example/sortingoffice/impl.digitBars", laid_loop_example_sortingoffice_impl_digitBars)], narrowed := true }
def FnRecoverUptoSaid : Prop := fnRecoverUptoRow.holds Tryd.pinned (OpenSpec.upto fnRecoverSpec)

/-- 'laws.FnRecoverTrue', WHERE WHAT IT READS IS OF BULK AT MOST 1048576: true; the input reads as it did. -/
def fnRecoverTrueUptoRow : OpenClaim := { program := "ytcopkapcgabkmaadoor", sum := "6cc4156319aa0528805b2e6b2f0f8e6b6aa6fc61c2c87e467c2bc4b5afd5c9b2", func := "loop.example/sortingoffice/laws.FnRecoverTrue", spec := "fnRecoverTrue", recurses := true, named := ["loop.example/sortingoffice/impl.digitBars"], apart := false, laid := [("loop.example/sortingoffice/impl.digitBars", laid_loop_example_sortingoffice_impl_digitBars)], narrowed := true }
def FnRecoverTrueUptoSaid : Prop := fnRecoverTrueUptoRow.holds Tryd.pinned (OpenSpec.upto fnRecoverTrueSpec)

end Rows
end Go.Proofs.YtcopkapcgabkmaaDoor
