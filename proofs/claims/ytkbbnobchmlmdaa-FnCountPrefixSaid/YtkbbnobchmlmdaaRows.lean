/-
  No cell of these rows narrows 'for every input' (looked for: loops, veiled, ifaces, maps, wideKeys, modest, calm, conditions, laid).
  DERIVED. THE GIVEN ROWS OF THIS SEAT. 2 by the template 'for every input the law returns true; each argument reads behind the call as it read before'; 0 by the template 'total and deterministic' (their statements: YtkbbnobchmlmdaaTotals.lean).
  GIVEN WITH THE SEED: the statements are not yours to turn. If you find one false, say at which input.
  Laid BY PROGRAM, IN A SANDBOX (cutbox-rows.mjs): the forced cells as the released guide's own fill.sh prints them over the translation 8494ac1f2ae43c12… (all of the seat's roots in one cut). By AI agents, Wed Nov 11 2026. No macro, syntax, notation, axiom, sorry.
-/
import Derived.Test.YtkbbnobchmlmdaaChecked
import GoSem.Claim
import GoSem.ClaimJoined
import GoSem.ClaimMapViews
import Derived.JoinedTies
import Derived.KernelRfl
namespace Go.Proofs.Ytkbbnobchmlmdaa
/- THE CELL 'sum', in the pinned program and in every row, IS THE sha256 OF THE DUMP (.gsa) THAT YtkbbnobchmlmdaaProg.lean LOADS. Nothing in Lean hashes anything: it is a label: what it is worth is what the hold of that sum in a sandbox is worth. -/
noncomputable def Try.pinned : Pinned := { name := "ytkbbnobchmlmdaa", sum := "8494ac1f2ae43c12d2936113ac9dba3910fcbed8f8c9e63bd4eb21da1f21b7eb", checked := Try.checked }
namespace Rows
def none {H : Type} : Left H := { results := [], args := [] }

/-- 'laws.FnFindLetter': WHATEVER THE INPUT: true; the input reads as it did. -/
def fnFindLetterSpec : ChangeSpec := { name := "fnFindLetter", fn := fun _ => fun
  | [d] => { results := [.lit (.bool true)], args := [d] }
  | _ => none }
def fnFindLetterRow : OpenClaim := { program := "ytkbbnobchmlmdaa", sum := "8494ac1f2ae43c12d2936113ac9dba3910fcbed8f8c9e63bd4eb21da1f21b7eb", func := "loop.example/sortingoffice/laws.FnFindLetter", spec := "fnFindLetter", recurses := true, apart := false }
def FnFindLetterSaid : Prop := fnFindLetterRow.holds Try.pinned (OpenSpec.ofChange fnFindLetterSpec)

/-- ITS FALSE NEIGHBOUR: 'it returns false'. Refute it at one input. -/
def fnFindLetterWrong : ChangeSpec := { name := "fnFindLetter", fn := fun _ => fun
  | [d] => { results := [.lit (.bool false)], args := [d] }
  | _ => none }
def FnFindLetterWrongFalsely : Prop := fnFindLetterRow.holds Try.pinned (OpenSpec.ofChange fnFindLetterWrong)

/-- 'laws.FnCountPrefix': WHATEVER THE INPUT: true; the input reads as it did. -/
def fnCountPrefixSpec : ChangeSpec := { name := "fnCountPrefix", fn := fun _ => fun
  | [d] => { results := [.lit (.bool true)], args := [d] }
  | _ => none }
def fnCountPrefixRow : OpenClaim := { program := "ytkbbnobchmlmdaa", sum := "8494ac1f2ae43c12d2936113ac9dba3910fcbed8f8c9e63bd4eb21da1f21b7eb", func := "loop.example/sortingoffice/laws.FnCountPrefix", spec := "fnCountPrefix", recurses := true, apart := false }
def FnCountPrefixSaid : Prop := fnCountPrefixRow.holds Try.pinned (OpenSpec.ofChange fnCountPrefixSpec)

/-- ITS FALSE NEIGHBOUR: 'it returns false'. Refute it at one input. -/
def fnCountPrefixWrong : ChangeSpec := { name := "fnCountPrefix", fn := fun _ => fun
  | [d] => { results := [.lit (.bool false)], args := [d] }
  | _ => none }
def FnCountPrefixWrongFalsely : Prop := fnCountPrefixRow.holds Try.pinned (OpenSpec.ofChange fnCountPrefixWrong)

/- THE SECOND FORM. 'bulk': how many values and letters a reading holds, each counted each time it is reached (what is shared counts as often as it is met; a slice's spare places count too). A statement '..UptoSaid' is the law's where the arguments, and the package variables that the reading takes, are together of bulk at most 1048576: NARROWER than '..Said'. Prove '..Said' where nothing that the law and all that it calls make is longer than what came in: it says more and counts as full. Else prove '..UptoSaid'. A law counts once. -/
mutual
def uptoBulk {H : Type} : DataW H → Nat
  | .lit (.string bytes) => bytes.length + 1
  | .lit _ => 1
  | .nil => 1
  | .ptr d => uptoBulk d + 1
  | .slice elems spare => uptoBulkAll elems + uptoBulkAll spare + 1
  | .agg parts => uptoBulkAll parts + 1
  | .iface _ d => uptoBulk d + 1
  | .map entries => uptoBulkEntries entries + 1
  | .held _ => 1
def uptoBulkAll {H : Type} : List (DataW H) → Nat
  | [] => 0
  | d :: r => uptoBulk d + uptoBulkAll r
def uptoBulkEntries {H : Type} : List (Lit × DataW H) → Nat
  | [] => 0
  | x :: r => uptoBulkEntry x + uptoBulkEntries r
def uptoBulkEntry {H : Type} : Lit × DataW H → Nat
  | (.string bytes, d) => bytes.length + uptoBulk d + 1
  | (_, d) => uptoBulk d + 1
 end
def uptoSmall : (H : Type) → List (DataW H) → Bool := fun _ ds => decide (uptoBulkAll ds ≤ 1048576)
def OpenSpec.upto (s : _root_.Go.ChangeSpec) : _root_.Go.OpenSpec := { _root_.Go.OpenSpec.ofChange s with cond := some uptoSmall }

/-- 'laws.FnFindLetter', WHERE WHAT IT READS IS OF BULK AT MOST 1048576: true; the input reads as it did. -/
def fnFindLetterUptoRow : OpenClaim := { program := "ytkbbnobchmlmdaa", sum := "8494ac1f2ae43c12d2936113ac9dba3910fcbed8f8c9e63bd4eb21da1f21b7eb", func := "loop.example/sortingoffice/laws.FnFindLetter", spec := "fnFindLetter", recurses := true, apart := false, narrowed := true }
def FnFindLetterUptoSaid : Prop := fnFindLetterUptoRow.holds Try.pinned (OpenSpec.upto fnFindLetterSpec)

/-- 'laws.FnCountPrefix', WHERE WHAT IT READS IS OF BULK AT MOST 1048576: true; the input reads as it did. -/
def fnCountPrefixUptoRow : OpenClaim := { program := "ytkbbnobchmlmdaa", sum := "8494ac1f2ae43c12d2936113ac9dba3910fcbed8f8c9e63bd4eb21da1f21b7eb", func := "loop.example/sortingoffice/laws.FnCountPrefix", spec := "fnCountPrefix", recurses := true, apart := false, narrowed := true }
def FnCountPrefixUptoSaid : Prop := fnCountPrefixUptoRow.holds Try.pinned (OpenSpec.upto fnCountPrefixSpec)

end Rows
end Go.Proofs.Ytkbbnobchmlmdaa
