/-
  NARROWER THAN 'FOR EVERY INPUT', by the rows' own cells (each row's printed sentence says how): FnExactDigitBars: laid · FnExactBarsDigit: laid.
  DERIVED. THE GIVEN ROWS OF THIS SEAT. 2 by the template 'for every input the law returns true; each argument reads behind the call as it read before'; 0 by the template 'total and deterministic' (their statements: YtkaigggidpndmaaDoorTotals.lean).
  GIVEN WITH THE SEED: the statements are not yours to turn. If you find one false, say at which input.
  Laid BY PROGRAM, IN A SANDBOX (cutbox-rows.mjs): the forced cells as the released guide's own fill.sh prints them over the translation 5c4bf7d21bdfbe49… (all of the seat's roots in one cut). By AI agents, Wed Nov 11 2026. No macro, syntax, notation, axiom, sorry.
-/
import Derived.Test.YtkaigggidpndmaaDoorChecked
import GoSem.Claim
import GoSem.ClaimJoined
import GoSem.ClaimMapViews
import Derived.JoinedTies
import Derived.KernelRfl
namespace Go.Proofs.YtkaigggidpndmaaDoor
/- THE CELL 'sum', in the pinned program and in every row, IS THE sha256 OF THE DUMP (.gsa) THAT YtkaigggidpndmaaDoorProg.lean LOADS. Nothing in Lean hashes anything: it is a label: what it is worth is what the hold of that sum in a sandbox is worth. -/
noncomputable def Tryd.pinned : Pinned := { name := "ytkaigggidpndmaadoor", sum := "5c4bf7d21bdfbe49c785db61aaf115285451cb9e41c0b8b51b974c03eef744f4", checked := Tryd.checked }
namespace Rows
def none {H : Type} : Left H := { results := [], args := [] }

/- WHAT THE LISTED PACKAGE-LEVEL VARIABLES READ AS WHEN THE CALL BEGINS. Each datum BY PROGRAM (the guide's laid-datum.mjs) off the statement by which the dump's own 'gosem.cut.vars' lays the variable. In a bare row this is a premise. The card (YtkaigggidpndmaaDoorCards.lean) ties it to the program's text. -/
def laid_loop_example_sortingoffice_impl_digitBars {H : Type} : DataW H := .agg [.lit (.string [124, 124, 46, 46, 46]), .lit (.string [46, 46, 46, 124, 124]), .lit (.string [46, 46, 124, 46, 124]), .lit (.string [46, 46, 124, 124, 46]), .lit (.string [46, 124, 46, 46, 124]), .lit (.string [46, 124, 46, 124, 46]), .lit (.string [46, 124, 124, 46, 46]), .lit (.string [124, 46, 46, 46, 124]), .lit (.string [124, 46, 46, 124, 46]), .lit (.string [124, 46, 124, 46, 46])]

/-- 'laws.FnExactDigitBars': WHATEVER THE INPUT: true; the input reads as it did. -/
def fnExactDigitBarsSpec : ChangeSpec := { name := "fnExactDigitBars", vars := ["loop.example/sortingoffice/impl.digitBars"], fn := fun _ => fun
  | [d, g1] => { results := [.lit (.bool true)], args := [d], vars := [g1] }
  | _ => none }
def fnExactDigitBarsRow : OpenClaim := { program := "ytkaigggidpndmaadoor", sum := "5c4bf7d21bdfbe49c785db61aaf115285451cb9e41c0b8b51b974c03eef744f4", func := "loop.example/sortingoffice/laws.FnExactDigitBars", spec := "fnExactDigitBars", named := ["loop.example/sortingoffice/impl.digitBars"], apart := false, laid := [("loop.example/sortingoffice/impl.digitBars", laid_loop_example_sortingoffice_impl_digitBars)] }
def FnExactDigitBarsSaid : Prop := fnExactDigitBarsRow.holds Tryd.pinned (OpenSpec.ofChange fnExactDigitBarsSpec)

/-- ITS FALSE NEIGHBOUR: 'it returns false'. Refute it at one input. -/
def fnExactDigitBarsWrong : ChangeSpec := { name := "fnExactDigitBars", vars := ["loop.example/sortingoffice/impl.digitBars"], fn := fun _ => fun
  | [d, g1] => { results := [.lit (.bool false)], args := [d], vars := [g1] }
  | _ => none }
def FnExactDigitBarsWrongFalsely : Prop := fnExactDigitBarsRow.holds Tryd.pinned (OpenSpec.ofChange fnExactDigitBarsWrong)

/-- 'laws.FnExactBarsDigit': WHATEVER THE INPUT: true; the input reads as it did. -/
def fnExactBarsDigitSpec : ChangeSpec := { name := "fnExactBarsDigit", vars := ["loop.example/sortingoffice/impl.digitBars"], fn := fun _ => fun
  | [d, g1] => { results := [.lit (.bool true)], args := [d], vars := [g1] }
  | _ => none }
def fnExactBarsDigitRow : OpenClaim := { program := "ytkaigggidpndmaadoor", sum := "5c4bf7d21bdfbe49c785db61aaf115285451cb9e41c0b8b51b974c03eef744f4", func := "loop.example/sortingoffice/laws.FnExactBarsDigit", spec := "fnExactBarsDigit", named := ["loop.example/sortingoffice/impl.digitBars"], apart := false, laid := [("loop.example/sortingoffice/impl.digitBars", laid_loop_example_sortingoffice_impl_digitBars)] }
def FnExactBarsDigitSaid : Prop := fnExactBarsDigitRow.holds Tryd.pinned (OpenSpec.ofChange fnExactBarsDigitSpec)

/-- ITS FALSE NEIGHBOUR: 'it returns false'. Refute it at one input. -/
def fnExactBarsDigitWrong : ChangeSpec := { name := "fnExactBarsDigit", vars := ["loop.example/sortingoffice/impl.digitBars"], fn := fun _ => fun
  | [d, g1] => { results := [.lit (.bool false)], args := [d], vars := [g1] }
  | _ => none }
def FnExactBarsDigitWrongFalsely : Prop := fnExactBarsDigitRow.holds Tryd.pinned (OpenSpec.ofChange fnExactBarsDigitWrong)

/- THE SECOND FORM. 'bulk': how many values and letters a reading holds, each counted each time it is reached (what is shared counts as often as it is met; a slice's spare places count too). A statement '..UptoSaid' is the law's where the arguments, and the package variables that the reading takes, are together of bulk at most 1048576: NARROWER than '..Said'. Prove '..Said' where nothing that the law and all that it calls make is longer than what came in: it says more and counts as full. Else prove '..UptoSaid'. A law counts once. -/
mutual
def uptoBulk {H : Type} : DataW H → Nat
  | .lit (.string bytes) => bytes.length + 1
  | .lit _ => 1
  | .nil => 1
  | .ptr d => uptoBulk d + 1
  | .slice elems spare => uptoBulkAll elems + uptoBulkAll spare + 1
  | .agg parts => uptoBulkAll parts + 1
  | .iface _ d => uptoBulk d + 1
  | .map entries => uptoBulkEntries entries + 1
  | .held _ => 1
def uptoBulkAll {H : Type} : List (DataW H) → Nat
  | [] => 0
  | d :: r => uptoBulk d + uptoBulkAll r
def uptoBulkEntries {H : Type} : List (Lit × DataW H) → Nat
  | [] => 0
  | x :: r => uptoBulkEntry x + uptoBulkEntries r
def uptoBulkEntry {H : Type} : Lit × DataW H → Nat
  | (.string bytes, d) => bytes.length + uptoBulk d + 1
  | (_, d) => uptoBulk d + 1
 end
def uptoSmall : (H : Type) → List (DataW H) → Bool := fun _ ds => decide (uptoBulkAll ds ≤ 1048576)
def OpenSpec.upto (s : _root_.Go.ChangeSpec) : _root_.Go.OpenSpec := { _root_.Go.OpenSpec.ofChange s with cond := some uptoSmall }

/-- 'laws.FnExactDigitBars', WHERE WHAT IT READS IS OF BULK AT MOST 1048576: true; the input reads as it did. -/
def fnExactDigitBarsUptoRow : OpenClaim := { program := "ytkaigggidpndmaadoor", sum := "5c4bf7d21bdfbe49c785db61aaf115285451cb9e41c0b8b51b974c03eef744f4", func := "loop.example/sortingoffice/laws.FnExactDigitBars", spec := "fnExactDigitBars", named := ["loop.example/sortingoffice/impl.digitBars"], apart := false, laid := [("loop.example/sortingoffice/impl.digitBars", laid_loop_example_sortingoffice_impl_digitBars)], narrowed := true }
def FnExactDigitBarsUptoSaid : Prop := fnExactDigitBarsUptoRow.holds Tryd.pinned (OpenSpec.upto fnExactDigitBarsSpec)

/-- 'laws.FnExactBarsDigit', WHERE WHAT IT READS IS OF BULK AT MOST 1048576: true; the input reads as it did. -/
def fnExactBarsDigitUptoRow : OpenClaim := { program := "ytkaigggidpndmaadoor", sum := "5c4bf7d21bdfbe49c785db61aaf115285451cb9e41c0b8b51b974c03eef744f4", func := "loop.example/sortingoffice/laws.FnExactBarsDigit", spec := "fnExactBarsDigit", named := ["loop.example/sortingoffice/impl.digitBars"], apart := false, laid := [("loop.example/sortingoffice/impl.digitBars", laid_loop_example_sortingoffice_impl_digitBars)], narrowed := true }
def FnExactBarsDigitUptoSaid : Prop := fnExactBarsDigitUptoRow.holds Tryd.pinned (OpenSpec.upto fnExactBarsDigitSpec)

end Rows
end Go.Proofs.YtkaigggidpndmaaDoor
