/-
  No cell of these rows narrows 'for every input' (looked for: loops, veiled, ifaces, maps, wideKeys, modest, calm, conditions, laid).
  DERIVED. THE GIVEN ROWS OF THIS SEAT. 11 by the template 'for every input the law returns true; each argument reads behind the call as it read before'; 0 by the template 'total and deterministic' (their statements: YtlkpegaddbkicaaTotals.lean).
  GIVEN WITH THE SEED: the statements are not yours to turn. If you find one false, say at which input.
  Laid BY PROGRAM, IN A SANDBOX (cutbox-rows.mjs): the forced cells as the released guide's own fill.sh prints them over the translation a7a25ef448aa4fd0… (all of the seat's roots in one cut). By AI agents, Wed Nov 11 2026. No macro, syntax, notation, axiom, sorry.
-/
import Derived.Test.YtlkpegaddbkicaaChecked
import GoSem.Claim
import GoSem.ClaimJoined
import GoSem.ClaimMapViews
import Derived.JoinedTies
import Derived.KernelRfl
namespace Go.Proofs.Ytlkpegaddbkicaa
/- THE CELL 'sum', in the pinned program and in every row, IS THE sha256 OF THE DUMP (.gsa) THAT YtlkpegaddbkicaaProg.lean LOADS. Nothing in Lean hashes anything: it is a label: what it is worth is what the hold of that sum in a sandbox is worth. -/
noncomputable def Try.pinned : Pinned := { name := "ytlkpegaddbkicaa", sum := "a7a25ef448aa4fd0948363e0fad3dc16764bfaa5413096d8c0cdccb7dc6f3243", checked := Try.checked }
namespace Rows
def none {H : Type} : Left H := { results := [], args := [] }

/-- 'laws.FnExactBinPass': WHATEVER THE INPUT: true; the input reads as it did. -/
def fnExactBinPassSpec : ChangeSpec := { name := "fnExactBinPass", fn := fun _ => fun
  | [d1, d2] => { results := [.lit (.bool true)], args := [d1, d2] }
  | _ => none }
def fnExactBinPassRow : OpenClaim := { program := "ytlkpegaddbkicaa", sum := "a7a25ef448aa4fd0948363e0fad3dc16764bfaa5413096d8c0cdccb7dc6f3243", func := "loop.example/sortingoffice/laws.FnExactBinPass", spec := "fnExactBinPass", apart := false }
def FnExactBinPassSaid : Prop := fnExactBinPassRow.holds Try.pinned (OpenSpec.ofChange fnExactBinPassSpec)

/-- ITS FALSE NEIGHBOUR: 'it returns false'. Refute it at one input. -/
def fnExactBinPassWrong : ChangeSpec := { name := "fnExactBinPass", fn := fun _ => fun
  | [d1, d2] => { results := [.lit (.bool false)], args := [d1, d2] }
  | _ => none }
def FnExactBinPassWrongFalsely : Prop := fnExactBinPassRow.holds Try.pinned (OpenSpec.ofChange fnExactBinPassWrong)

/-- 'laws.FnExactSortPass': WHATEVER THE INPUT: true; the input reads as it did. -/
def fnExactSortPassSpec : ChangeSpec := { name := "fnExactSortPass", fn := fun _ => fun
  | [d1, d2] => { results := [.lit (.bool true)], args := [d1, d2] }
  | _ => none }
def fnExactSortPassRow : OpenClaim := { program := "ytlkpegaddbkicaa", sum := "a7a25ef448aa4fd0948363e0fad3dc16764bfaa5413096d8c0cdccb7dc6f3243", func := "loop.example/sortingoffice/laws.FnExactSortPass", spec := "fnExactSortPass", apart := false }
def FnExactSortPassSaid : Prop := fnExactSortPassRow.holds Try.pinned (OpenSpec.ofChange fnExactSortPassSpec)

/-- ITS FALSE NEIGHBOUR: 'it returns false'. Refute it at one input. -/
def fnExactSortPassWrong : ChangeSpec := { name := "fnExactSortPass", fn := fun _ => fun
  | [d1, d2] => { results := [.lit (.bool false)], args := [d1, d2] }
  | _ => none }
def FnExactSortPassWrongFalsely : Prop := fnExactSortPassRow.holds Try.pinned (OpenSpec.ofChange fnExactSortPassWrong)

/-- 'laws.FnExactCollectBins': WHATEVER THE INPUT: true; the input reads as it did. -/
def fnExactCollectBinsSpec : ChangeSpec := { name := "fnExactCollectBins", fn := fun _ => fun
  | [d] => { results := [.lit (.bool true)], args := [d] }
  | _ => none }
def fnExactCollectBinsRow : OpenClaim := { program := "ytlkpegaddbkicaa", sum := "a7a25ef448aa4fd0948363e0fad3dc16764bfaa5413096d8c0cdccb7dc6f3243", func := "loop.example/sortingoffice/laws.FnExactCollectBins", spec := "fnExactCollectBins", apart := false }
def FnExactCollectBinsSaid : Prop := fnExactCollectBinsRow.holds Try.pinned (OpenSpec.ofChange fnExactCollectBinsSpec)

/-- ITS FALSE NEIGHBOUR: 'it returns false'. Refute it at one input. -/
def fnExactCollectBinsWrong : ChangeSpec := { name := "fnExactCollectBins", fn := fun _ => fun
  | [d] => { results := [.lit (.bool false)], args := [d] }
  | _ => none }
def FnExactCollectBinsWrongFalsely : Prop := fnExactCollectBinsRow.holds Try.pinned (OpenSpec.ofChange fnExactCollectBinsWrong)

/-- 'laws.FnExactSortShort': WHATEVER THE INPUT: true; the input reads as it did. -/
def fnExactSortShortSpec : ChangeSpec := { name := "fnExactSortShort", fn := fun _ => fun
  | [d] => { results := [.lit (.bool true)], args := [d] }
  | _ => none }
def fnExactSortShortRow : OpenClaim := { program := "ytlkpegaddbkicaa", sum := "a7a25ef448aa4fd0948363e0fad3dc16764bfaa5413096d8c0cdccb7dc6f3243", func := "loop.example/sortingoffice/laws.FnExactSortShort", spec := "fnExactSortShort", apart := false }
def FnExactSortShortSaid : Prop := fnExactSortShortRow.holds Try.pinned (OpenSpec.ofChange fnExactSortShortSpec)

/-- ITS FALSE NEIGHBOUR: 'it returns false'. Refute it at one input. -/
def fnExactSortShortWrong : ChangeSpec := { name := "fnExactSortShort", fn := fun _ => fun
  | [d] => { results := [.lit (.bool false)], args := [d] }
  | _ => none }
def FnExactSortShortWrongFalsely : Prop := fnExactSortShortRow.holds Try.pinned (OpenSpec.ofChange fnExactSortShortWrong)

/-- 'laws.FnFindLetter': WHATEVER THE INPUT: true; the input reads as it did. -/
def fnFindLetterSpec : ChangeSpec := { name := "fnFindLetter", fn := fun _ => fun
  | [d] => { results := [.lit (.bool true)], args := [d] }
  | _ => none }
def fnFindLetterRow : OpenClaim := { program := "ytlkpegaddbkicaa", sum := "a7a25ef448aa4fd0948363e0fad3dc16764bfaa5413096d8c0cdccb7dc6f3243", func := "loop.example/sortingoffice/laws.FnFindLetter", spec := "fnFindLetter", recurses := true, apart := false }
def FnFindLetterSaid : Prop := fnFindLetterRow.holds Try.pinned (OpenSpec.ofChange fnFindLetterSpec)

/-- ITS FALSE NEIGHBOUR: 'it returns false'. Refute it at one input. -/
def fnFindLetterWrong : ChangeSpec := { name := "fnFindLetter", fn := fun _ => fun
  | [d] => { results := [.lit (.bool false)], args := [d] }
  | _ => none }
def FnFindLetterWrongFalsely : Prop := fnFindLetterRow.holds Try.pinned (OpenSpec.ofChange fnFindLetterWrong)

/-- 'laws.FnBinPass': WHATEVER THE INPUT: true; the input reads as it did. -/
def fnBinPassSpec : ChangeSpec := { name := "fnBinPass", fn := fun _ => fun
  | [d] => { results := [.lit (.bool true)], args := [d] }
  | _ => none }
def fnBinPassRow : OpenClaim := { program := "ytlkpegaddbkicaa", sum := "a7a25ef448aa4fd0948363e0fad3dc16764bfaa5413096d8c0cdccb7dc6f3243", func := "loop.example/sortingoffice/laws.FnBinPass", spec := "fnBinPass", recurses := true, apart := false }
def FnBinPassSaid : Prop := fnBinPassRow.holds Try.pinned (OpenSpec.ofChange fnBinPassSpec)

/-- ITS FALSE NEIGHBOUR: 'it returns false'. Refute it at one input. -/
def fnBinPassWrong : ChangeSpec := { name := "fnBinPass", fn := fun _ => fun
  | [d] => { results := [.lit (.bool false)], args := [d] }
  | _ => none }
def FnBinPassWrongFalsely : Prop := fnBinPassRow.holds Try.pinned (OpenSpec.ofChange fnBinPassWrong)

/-- 'laws.FnCountPrefix': WHATEVER THE INPUT: true; the input reads as it did. -/
def fnCountPrefixSpec : ChangeSpec := { name := "fnCountPrefix", fn := fun _ => fun
  | [d] => { results := [.lit (.bool true)], args := [d] }
  | _ => none }
def fnCountPrefixRow : OpenClaim := { program := "ytlkpegaddbkicaa", sum := "a7a25ef448aa4fd0948363e0fad3dc16764bfaa5413096d8c0cdccb7dc6f3243", func := "loop.example/sortingoffice/laws.FnCountPrefix", spec := "fnCountPrefix", recurses := true, apart := false }
def FnCountPrefixSaid : Prop := fnCountPrefixRow.holds Try.pinned (OpenSpec.ofChange fnCountPrefixSpec)

/-- ITS FALSE NEIGHBOUR: 'it returns false'. Refute it at one input. -/
def fnCountPrefixWrong : ChangeSpec := { name := "fnCountPrefix", fn := fun _ => fun
  | [d] => { results := [.lit (.bool false)], args := [d] }
  | _ => none }
def FnCountPrefixWrongFalsely : Prop := fnCountPrefixRow.holds Try.pinned (OpenSpec.ofChange fnCountPrefixWrong)

/-- 'laws.FnSplit': WHATEVER THE INPUT: true; the input reads as it did. -/
def fnSplitSpec : ChangeSpec := { name := "fnSplit", fn := fun _ => fun
  | [d] => { results := [.lit (.bool true)], args := [d] }
  | _ => none }
def fnSplitRow : OpenClaim := { program := "ytlkpegaddbkicaa", sum := "a7a25ef448aa4fd0948363e0fad3dc16764bfaa5413096d8c0cdccb7dc6f3243", func := "loop.example/sortingoffice/laws.FnSplit", spec := "fnSplit", recurses := true, apart := false }
def FnSplitSaid : Prop := fnSplitRow.holds Try.pinned (OpenSpec.ofChange fnSplitSpec)

/-- ITS FALSE NEIGHBOUR: 'it returns false'. Refute it at one input. -/
def fnSplitWrong : ChangeSpec := { name := "fnSplit", fn := fun _ => fun
  | [d] => { results := [.lit (.bool false)], args := [d] }
  | _ => none }
def FnSplitWrongFalsely : Prop := fnSplitRow.holds Try.pinned (OpenSpec.ofChange fnSplitWrong)

/-- 'laws.FnCollect': WHATEVER THE INPUT: true; the input reads as it did. -/
def fnCollectSpec : ChangeSpec := { name := "fnCollect", fn := fun _ => fun
  | [d] => { results := [.lit (.bool true)], args := [d] }
  | _ => none }
def fnCollectRow : OpenClaim := { program := "ytlkpegaddbkicaa", sum := "a7a25ef448aa4fd0948363e0fad3dc16764bfaa5413096d8c0cdccb7dc6f3243", func := "loop.example/sortingoffice/laws.FnCollect", spec := "fnCollect", recurses := true, apart := false }
def FnCollectSaid : Prop := fnCollectRow.holds Try.pinned (OpenSpec.ofChange fnCollectSpec)

/-- ITS FALSE NEIGHBOUR: 'it returns false'. Refute it at one input. -/
def fnCollectWrong : ChangeSpec := { name := "fnCollect", fn := fun _ => fun
  | [d] => { results := [.lit (.bool false)], args := [d] }
  | _ => none }
def FnCollectWrongFalsely : Prop := fnCollectRow.holds Try.pinned (OpenSpec.ofChange fnCollectWrong)

/-- 'laws.FnInversions': WHATEVER THE INPUT: true; the input reads as it did. -/
def fnInversionsSpec : ChangeSpec := { name := "fnInversions", fn := fun _ => fun
  | [d] => { results := [.lit (.bool true)], args := [d] }
  | _ => none }
def fnInversionsRow : OpenClaim := { program := "ytlkpegaddbkicaa", sum := "a7a25ef448aa4fd0948363e0fad3dc16764bfaa5413096d8c0cdccb7dc6f3243", func := "loop.example/sortingoffice/laws.FnInversions", spec := "fnInversions", recurses := true, apart := false }
def FnInversionsSaid : Prop := fnInversionsRow.holds Try.pinned (OpenSpec.ofChange fnInversionsSpec)

/-- ITS FALSE NEIGHBOUR: 'it returns false'. Refute it at one input. -/
def fnInversionsWrong : ChangeSpec := { name := "fnInversions", fn := fun _ => fun
  | [d] => { results := [.lit (.bool false)], args := [d] }
  | _ => none }
def FnInversionsWrongFalsely : Prop := fnInversionsRow.holds Try.pinned (OpenSpec.ofChange fnInversionsWrong)

/-- 'laws.FnSortPass': WHATEVER THE INPUT: true; the input reads as it did. -/
def fnSortPassSpec : ChangeSpec := { name := "fnSortPass", fn := fun _ => fun
  | [d] => { results := [.lit (.bool true)], args := [d] }
  | _ => none }
def fnSortPassRow : OpenClaim := { program := "ytlkpegaddbkicaa", sum := "a7a25ef448aa4fd0948363e0fad3dc16764bfaa5413096d8c0cdccb7dc6f3243", func := "loop.example/sortingoffice/laws.FnSortPass", spec := "fnSortPass", recurses := true, apart := false }
def FnSortPassSaid : Prop := fnSortPassRow.holds Try.pinned (OpenSpec.ofChange fnSortPassSpec)

/-- ITS FALSE NEIGHBOUR: 'it returns false'. Refute it at one input. -/
def fnSortPassWrong : ChangeSpec := { name := "fnSortPass", fn := fun _ => fun
  | [d] => { results := [.lit (.bool false)], args := [d] }
  | _ => none }
def FnSortPassWrongFalsely : Prop := fnSortPassRow.holds Try.pinned (OpenSpec.ofChange fnSortPassWrong)

/- THE SECOND FORM. 'bulk': how many values and letters a reading holds, each counted each time it is reached (what is shared counts as often as it is met; a slice's spare places count too). A statement '..UptoSaid' is the law's where the arguments, and the package variables that the reading takes, are together of bulk at most 1048576: NARROWER than '..Said'. Prove '..Said' where nothing that the law and all that it calls make is longer than what came in: it says more and counts as full. Else prove '..UptoSaid'. A law counts once. -/
mutual
def uptoBulk {H : Type} : DataW H → Nat
  | .lit (.string bytes) => bytes.length + 1
  | .lit _ => 1
  | .nil => 1
  | .ptr d => uptoBulk d + 1
  | .slice elems spare => uptoBulkAll elems + uptoBulkAll spare + 1
  | .agg parts => uptoBulkAll parts + 1
  | .iface _ d => uptoBulk d + 1
  | .map entries => uptoBulkEntries entries + 1
  | .held _ => 1
def uptoBulkAll {H : Type} : List (DataW H) → Nat
  | [] => 0
  | d :: r => uptoBulk d + uptoBulkAll r
def uptoBulkEntries {H : Type} : List (Lit × DataW H) → Nat
  | [] => 0
  | x :: r => uptoBulkEntry x + uptoBulkEntries r
def uptoBulkEntry {H : Type} : Lit × DataW H → Nat
  | (.string bytes, d) => bytes.length + uptoBulk d + 1
  | (_, d) => uptoBulk d + 1
 end
def uptoSmall : (H : Type) → List (DataW H) → Bool := fun _ ds => decide (uptoBulkAll ds ≤ 1048576)
def OpenSpec.upto (s : _root_.Go.ChangeSpec) : _root_.Go.OpenSpec := { _root_.Go.OpenSpec.ofChange s with cond := some uptoSmall }

/-- 'laws.FnExactBinPass', WHERE WHAT IT READS IS OF BULK AT MOST 1048576: true; the input reads as it did. -/
def fnExactBinPassUptoRow : OpenClaim := { program := "ytlkpegaddbkicaa", sum := "a7a25ef448aa4fd0948363e0fad3dc16764bfaa5413096d8c0cdccb7dc6f3243", func := "loop.example/sortingoffice/laws.FnExactBinPass", spec := "fnExactBinPass", apart := false, narrowed := true }
def FnExactBinPassUptoSaid : Prop := fnExactBinPassUptoRow.holds Try.pinned (OpenSpec.upto fnExactBinPassSpec)

/-- 'laws.FnExactSortPass', WHERE WHAT IT READS IS OF BULK AT MOST 1048576: true; the input reads as it did. -/
def fnExactSortPassUptoRow : OpenClaim := { program := "ytlkpegaddbkicaa", sum := "a7a25ef448aa4fd0948363e0fad3dc16764bfaa5413096d8c0cdccb7dc6f3243", func := "loop.example/sortingoffice/laws.FnExactSortPass", spec := "fnExactSortPass", apart := false, narrowed := true }
def FnExactSortPassUptoSaid : Prop := fnExactSortPassUptoRow.holds Try.pinned (OpenSpec.upto fnExactSortPassSpec)

/-- 'laws.FnExactCollectBins', WHERE WHAT IT READS IS OF BULK AT MOST 1048576: true; the input reads as it did. -/
def fnExactCollectBinsUptoRow : OpenClaim := { program := "ytlkpegaddbkicaa", sum := "a7a25ef448aa4fd0948363e0fad3dc16764bfaa5413096d8c0cdccb7dc6f3243", func := "loop.example/sortingoffice/laws.FnExactCollectBins", spec := "fnExactCollectBins", apart := false, narrowed := true }
def FnExactCollectBinsUptoSaid : Prop := fnExactCollectBinsUptoRow.holds Try.pinned (OpenSpec.upto fnExactCollectBinsSpec)

/-- 'laws.FnExactSortShort', WHERE WHAT IT READS IS OF BULK AT MOST 1048576: true; the input reads as it did. -/
def fnExactSortShortUptoRow : OpenClaim := { program := "ytlkpegaddbkicaa", sum := "a7a25ef448aa4fd0948363e0fad3dc16764bfaa5413096d8c0cdccb7dc6f3243", func := "loop.example/sortingoffice/laws.FnExactSortShort", spec := "fnExactSortShort", apart := false, narrowed := true }
def FnExactSortShortUptoSaid : Prop := fnExactSortShortUptoRow.holds Try.pinned (OpenSpec.upto fnExactSortShortSpec)

/-- 'laws.FnFindLetter', WHERE WHAT IT READS IS OF BULK AT MOST 1048576: true; the input reads as it did. -/
def fnFindLetterUptoRow : OpenClaim := { program := "ytlkpegaddbkicaa", sum := "a7a25ef448aa4fd0948363e0fad3dc16764bfaa5413096d8c0cdccb7dc6f3243", func := "loop.example/sortingoffice/laws.FnFindLetter", spec := "fnFindLetter", recurses := true, apart := false, narrowed := true }
def FnFindLetterUptoSaid : Prop := fnFindLetterUptoRow.holds Try.pinned (OpenSpec.upto fnFindLetterSpec)

/-- 'laws.FnBinPass', WHERE WHAT IT READS IS OF BULK AT MOST 1048576: true; the input reads as it did. -/
def fnBinPassUptoRow : OpenClaim := { program := "ytlkpegaddbkicaa", sum := "a7a25ef448aa4fd0948363e0fad3dc16764bfaa5413096d8c0cdccb7dc6f3243", func := "loop.example/sortingoffice/laws.FnBinPass", spec := "fnBinPass", recurses := true, apart := false, narrowed := true }
def FnBinPassUptoSaid : Prop := fnBinPassUptoRow.holds Try.pinned (OpenSpec.upto fnBinPassSpec)

/-- 'laws.FnCountPrefix', WHERE WHAT IT READS IS OF BULK AT MOST 1048576: true; the input reads as it did. -/
def fnCountPrefixUptoRow : OpenClaim := { program := "ytlkpegaddbkicaa", sum := "a7a25ef448aa4fd0948363e0fad3dc16764bfaa5413096d8c0cdccb7dc6f3243", func := "loop.example/sortingoffice/laws.FnCountPrefix", spec := "fnCountPrefix", recurses := true, apart := false, narrowed := true }
def FnCountPrefixUptoSaid : Prop := fnCountPrefixUptoRow.holds Try.pinned (OpenSpec.upto fnCountPrefixSpec)

/-- 'laws.FnSplit', WHERE WHAT IT READS IS OF BULK AT MOST 1048576: true; the input reads as it did. -/
def fnSplitUptoRow : OpenClaim := { program := "ytlkpegaddbkicaa", sum := "a7a25ef448aa4fd0948363e0fad3dc16764bfaa5413096d8c0cdccb7dc6f3243", func := "loop.example/sortingoffice/laws.FnSplit", spec := "fnSplit", recurses := true, apart := false, narrowed := true }
def FnSplitUptoSaid : Prop := fnSplitUptoRow.holds Try.pinned (OpenSpec.upto fnSplitSpec)

/-- 'laws.FnCollect', WHERE WHAT IT READS IS OF BULK AT MOST 1048576: true; the input reads as it did. -/
def fnCollectUptoRow : OpenClaim := { program := "ytlkpegaddbkicaa", sum := "a7a25ef448aa4fd0948363e0fad3dc16764bfaa5413096d8c0cdccb7dc6f3243", func := "loop.example/sortingoffice/laws.FnCollect", spec := "fnCollect", recurses := true, apart := false, narrowed := true }
def FnCollectUptoSaid : Prop := fnCollectUptoRow.holds Try.pinned (OpenSpec.upto fnCollectSpec)

/-- 'laws.FnInversions', WHERE WHAT IT READS IS OF BULK AT MOST 1048576: true; the input reads as it did. -/
def fnInversionsUptoRow : OpenClaim := { program := "ytlkpegaddbkicaa", sum := "a7a25ef448aa4fd0948363e0fad3dc16764bfaa5413096d8c0cdccb7dc6f3243", func := "loop.example/sortingoffice/laws.FnInversions", spec := "fnInversions", recurses := true, apart := false, narrowed := true }
def FnInversionsUptoSaid : Prop := fnInversionsUptoRow.holds Try.pinned (OpenSpec.upto fnInversionsSpec)

/-- 'laws.FnSortPass', WHERE WHAT IT READS IS OF BULK AT MOST 1048576: true; the input reads as it did. -/
def fnSortPassUptoRow : OpenClaim := { program := "ytlkpegaddbkicaa", sum := "a7a25ef448aa4fd0948363e0fad3dc16764bfaa5413096d8c0cdccb7dc6f3243", func := "loop.example/sortingoffice/laws.FnSortPass", spec := "fnSortPass", recurses := true, apart := false, narrowed := true }
def FnSortPassUptoSaid : Prop := fnSortPassUptoRow.holds Try.pinned (OpenSpec.upto fnSortPassSpec)

end Rows
end Go.Proofs.Ytlkpegaddbkicaa
