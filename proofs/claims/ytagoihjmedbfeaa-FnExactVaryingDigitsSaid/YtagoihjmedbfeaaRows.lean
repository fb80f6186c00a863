/-
  No cell of these rows narrows 'for every input' (looked for: loops, veiled, ifaces, maps, wideKeys, modest, calm, conditions, laid).
  DERIVED. THE GIVEN ROWS OF THIS SEAT. 12 by the template 'for every input the law returns true; each argument reads behind the call as it read before'; 0 by the template 'total and deterministic' (their statements: YtagoihjmedbfeaaTotals.lean).
  GIVEN WITH THE SEED: the statements are not yours to turn. If you find one false, say at which input.
  Laid BY PROGRAM, IN A SANDBOX (cutbox-rows.mjs): the forced cells as the released guide's own fill.sh prints them over the translation cb402dbcc65a3f25… (all of the seat's roots in one cut). By AI agents, Wed Nov 11 2026. No macro, syntax, notation, axiom, sorry.
-/
import Derived.Test.YtagoihjmedbfeaaChecked
import GoSem.Claim
import GoSem.ClaimJoined
import GoSem.ClaimMapViews
import Derived.JoinedTies
import Derived.KernelRfl
namespace Go.Proofs.Ytagoihjmedbfeaa
/- THE CELL 'sum', in the pinned program and in every row, IS THE sha256 OF THE DUMP (.gsa) THAT YtagoihjmedbfeaaProg.lean LOADS. Nothing in Lean hashes anything: it is a label: what it is worth is what the hold of that sum in a sandbox is worth. -/
noncomputable def Try.pinned : Pinned := { name := "ytagoihjmedbfeaa", sum := "cb402dbcc65a3f251196f1ba5b6890b557e383cecc6870116bd681316aa11bfb", checked := Try.checked }
namespace Rows
def none {H : Type} : Left H := { results := [], args := [] }

/-- 'laws.FnExactBatchValid': WHATEVER THE INPUT: true; the input reads as it did. -/
def fnExactBatchValidSpec : ChangeSpec := { name := "fnExactBatchValid", fn := fun _ => fun
  | [d] => { results := [.lit (.bool true)], args := [d] }
  | _ => none }
def fnExactBatchValidRow : OpenClaim := { program := "ytagoihjmedbfeaa", sum := "cb402dbcc65a3f251196f1ba5b6890b557e383cecc6870116bd681316aa11bfb", func := "loop.example/sortingoffice/laws.FnExactBatchValid", spec := "fnExactBatchValid", apart := false }
def FnExactBatchValidSaid : Prop := fnExactBatchValidRow.holds Try.pinned (OpenSpec.ofChange fnExactBatchValidSpec)

/-- ITS FALSE NEIGHBOUR: 'it returns false'. Refute it at one input. -/
def fnExactBatchValidWrong : ChangeSpec := { name := "fnExactBatchValid", fn := fun _ => fun
  | [d] => { results := [.lit (.bool false)], args := [d] }
  | _ => none }
def FnExactBatchValidWrongFalsely : Prop := fnExactBatchValidRow.holds Try.pinned (OpenSpec.ofChange fnExactBatchValidWrong)

/-- 'laws.FnExactFindLetter': WHATEVER THE INPUT: true; the input reads as it did. -/
def fnExactFindLetterSpec : ChangeSpec := { name := "fnExactFindLetter", fn := fun _ => fun
  | [d1, d2] => { results := [.lit (.bool true)], args := [d1, d2] }
  | _ => none }
def fnExactFindLetterRow : OpenClaim := { program := "ytagoihjmedbfeaa", sum := "cb402dbcc65a3f251196f1ba5b6890b557e383cecc6870116bd681316aa11bfb", func := "loop.example/sortingoffice/laws.FnExactFindLetter", spec := "fnExactFindLetter", apart := false }
def FnExactFindLetterSaid : Prop := fnExactFindLetterRow.holds Try.pinned (OpenSpec.ofChange fnExactFindLetterSpec)

/-- ITS FALSE NEIGHBOUR: 'it returns false'. Refute it at one input. -/
def fnExactFindLetterWrong : ChangeSpec := { name := "fnExactFindLetter", fn := fun _ => fun
  | [d1, d2] => { results := [.lit (.bool false)], args := [d1, d2] }
  | _ => none }
def FnExactFindLetterWrongFalsely : Prop := fnExactFindLetterRow.holds Try.pinned (OpenSpec.ofChange fnExactFindLetterWrong)

/-- 'laws.FnExactSortedBatch': WHATEVER THE INPUT: true; the input reads as it did. -/
def fnExactSortedBatchSpec : ChangeSpec := { name := "fnExactSortedBatch", fn := fun _ => fun
  | [d] => { results := [.lit (.bool true)], args := [d] }
  | _ => none }
def fnExactSortedBatchRow : OpenClaim := { program := "ytagoihjmedbfeaa", sum := "cb402dbcc65a3f251196f1ba5b6890b557e383cecc6870116bd681316aa11bfb", func := "loop.example/sortingoffice/laws.FnExactSortedBatch", spec := "fnExactSortedBatch", apart := false }
def FnExactSortedBatchSaid : Prop := fnExactSortedBatchRow.holds Try.pinned (OpenSpec.ofChange fnExactSortedBatchSpec)

/-- ITS FALSE NEIGHBOUR: 'it returns false'. Refute it at one input. -/
def fnExactSortedBatchWrong : ChangeSpec := { name := "fnExactSortedBatch", fn := fun _ => fun
  | [d] => { results := [.lit (.bool false)], args := [d] }
  | _ => none }
def FnExactSortedBatchWrongFalsely : Prop := fnExactSortedBatchRow.holds Try.pinned (OpenSpec.ofChange fnExactSortedBatchWrong)

/-- 'laws.FnExactInversions': WHATEVER THE INPUT: true; the input reads as it did. -/
def fnExactInversionsSpec : ChangeSpec := { name := "fnExactInversions", fn := fun _ => fun
  | [d] => { results := [.lit (.bool true)], args := [d] }
  | _ => none }
def fnExactInversionsRow : OpenClaim := { program := "ytagoihjmedbfeaa", sum := "cb402dbcc65a3f251196f1ba5b6890b557e383cecc6870116bd681316aa11bfb", func := "loop.example/sortingoffice/laws.FnExactInversions", spec := "fnExactInversions", apart := false }
def FnExactInversionsSaid : Prop := fnExactInversionsRow.holds Try.pinned (OpenSpec.ofChange fnExactInversionsSpec)

/-- ITS FALSE NEIGHBOUR: 'it returns false'. Refute it at one input. -/
def fnExactInversionsWrong : ChangeSpec := { name := "fnExactInversions", fn := fun _ => fun
  | [d] => { results := [.lit (.bool false)], args := [d] }
  | _ => none }
def FnExactInversionsWrongFalsely : Prop := fnExactInversionsRow.holds Try.pinned (OpenSpec.ofChange fnExactInversionsWrong)

/-- 'laws.FnExactCountPrefix': WHATEVER THE INPUT: true; the input reads as it did. -/
def fnExactCountPrefixSpec : ChangeSpec := { name := "fnExactCountPrefix", fn := fun _ => fun
  | [d1, d2] => { results := [.lit (.bool true)], args := [d1, d2] }
  | _ => none }
def fnExactCountPrefixRow : OpenClaim := { program := "ytagoihjmedbfeaa", sum := "cb402dbcc65a3f251196f1ba5b6890b557e383cecc6870116bd681316aa11bfb", func := "loop.example/sortingoffice/laws.FnExactCountPrefix", spec := "fnExactCountPrefix", apart := false }
def FnExactCountPrefixSaid : Prop := fnExactCountPrefixRow.holds Try.pinned (OpenSpec.ofChange fnExactCountPrefixSpec)

/-- ITS FALSE NEIGHBOUR: 'it returns false'. Refute it at one input. -/
def fnExactCountPrefixWrong : ChangeSpec := { name := "fnExactCountPrefix", fn := fun _ => fun
  | [d1, d2] => { results := [.lit (.bool false)], args := [d1, d2] }
  | _ => none }
def FnExactCountPrefixWrongFalsely : Prop := fnExactCountPrefixRow.holds Try.pinned (OpenSpec.ofChange fnExactCountPrefixWrong)

/-- 'laws.FnExactVaryingDigits': WHATEVER THE INPUT: true; the input reads as it did. -/
def fnExactVaryingDigitsSpec : ChangeSpec := { name := "fnExactVaryingDigits", fn := fun _ => fun
  | [d] => { results := [.lit (.bool true)], args := [d] }
  | _ => none }
def fnExactVaryingDigitsRow : OpenClaim := { program := "ytagoihjmedbfeaa", sum := "cb402dbcc65a3f251196f1ba5b6890b557e383cecc6870116bd681316aa11bfb", func := "loop.example/sortingoffice/laws.FnExactVaryingDigits", spec := "fnExactVaryingDigits", apart := false }
def FnExactVaryingDigitsSaid : Prop := fnExactVaryingDigitsRow.holds Try.pinned (OpenSpec.ofChange fnExactVaryingDigitsSpec)

/-- ITS FALSE NEIGHBOUR: 'it returns false'. Refute it at one input. -/
def fnExactVaryingDigitsWrong : ChangeSpec := { name := "fnExactVaryingDigits", fn := fun _ => fun
  | [d] => { results := [.lit (.bool false)], args := [d] }
  | _ => none }
def FnExactVaryingDigitsWrongFalsely : Prop := fnExactVaryingDigitsRow.holds Try.pinned (OpenSpec.ofChange fnExactVaryingDigitsWrong)

/-- 'laws.FnExactSplitBatch': WHATEVER THE INPUT: true; the input reads as it did. -/
def fnExactSplitBatchSpec : ChangeSpec := { name := "fnExactSplitBatch", fn := fun _ => fun
  | [d1, d2] => { results := [.lit (.bool true)], args := [d1, d2] }
  | _ => none }
def fnExactSplitBatchRow : OpenClaim := { program := "ytagoihjmedbfeaa", sum := "cb402dbcc65a3f251196f1ba5b6890b557e383cecc6870116bd681316aa11bfb", func := "loop.example/sortingoffice/laws.FnExactSplitBatch", spec := "fnExactSplitBatch", apart := false }
def FnExactSplitBatchSaid : Prop := fnExactSplitBatchRow.holds Try.pinned (OpenSpec.ofChange fnExactSplitBatchSpec)

/-- ITS FALSE NEIGHBOUR: 'it returns false'. Refute it at one input. -/
def fnExactSplitBatchWrong : ChangeSpec := { name := "fnExactSplitBatch", fn := fun _ => fun
  | [d1, d2] => { results := [.lit (.bool false)], args := [d1, d2] }
  | _ => none }
def FnExactSplitBatchWrongFalsely : Prop := fnExactSplitBatchRow.holds Try.pinned (OpenSpec.ofChange fnExactSplitBatchWrong)

/-- 'laws.FnExactMergeBatches': WHATEVER THE INPUT: true; the input reads as it did. -/
def fnExactMergeBatchesSpec : ChangeSpec := { name := "fnExactMergeBatches", fn := fun _ => fun
  | [d1, d2] => { results := [.lit (.bool true)], args := [d1, d2] }
  | _ => none }
def fnExactMergeBatchesRow : OpenClaim := { program := "ytagoihjmedbfeaa", sum := "cb402dbcc65a3f251196f1ba5b6890b557e383cecc6870116bd681316aa11bfb", func := "loop.example/sortingoffice/laws.FnExactMergeBatches", spec := "fnExactMergeBatches", apart := false }
def FnExactMergeBatchesSaid : Prop := fnExactMergeBatchesRow.holds Try.pinned (OpenSpec.ofChange fnExactMergeBatchesSpec)

/-- ITS FALSE NEIGHBOUR: 'it returns false'. Refute it at one input. -/
def fnExactMergeBatchesWrong : ChangeSpec := { name := "fnExactMergeBatches", fn := fun _ => fun
  | [d1, d2] => { results := [.lit (.bool false)], args := [d1, d2] }
  | _ => none }
def FnExactMergeBatchesWrongFalsely : Prop := fnExactMergeBatchesRow.holds Try.pinned (OpenSpec.ofChange fnExactMergeBatchesWrong)

/-- 'laws.FnExactSortPass': WHATEVER THE INPUT: true; the input reads as it did. -/
def fnExactSortPassSpec : ChangeSpec := { name := "fnExactSortPass", fn := fun _ => fun
  | [d1, d2] => { results := [.lit (.bool true)], args := [d1, d2] }
  | _ => none }
def fnExactSortPassRow : OpenClaim := { program := "ytagoihjmedbfeaa", sum := "cb402dbcc65a3f251196f1ba5b6890b557e383cecc6870116bd681316aa11bfb", func := "loop.example/sortingoffice/laws.FnExactSortPass", spec := "fnExactSortPass", apart := false }
def FnExactSortPassSaid : Prop := fnExactSortPassRow.holds Try.pinned (OpenSpec.ofChange fnExactSortPassSpec)

/-- ITS FALSE NEIGHBOUR: 'it returns false'. Refute it at one input. -/
def fnExactSortPassWrong : ChangeSpec := { name := "fnExactSortPass", fn := fun _ => fun
  | [d1, d2] => { results := [.lit (.bool false)], args := [d1, d2] }
  | _ => none }
def FnExactSortPassWrongFalsely : Prop := fnExactSortPassRow.holds Try.pinned (OpenSpec.ofChange fnExactSortPassWrong)

/-- 'laws.FnExactBinPass': WHATEVER THE INPUT: true; the input reads as it did. -/
def fnExactBinPassSpec : ChangeSpec := { name := "fnExactBinPass", fn := fun _ => fun
  | [d1, d2] => { results := [.lit (.bool true)], args := [d1, d2] }
  | _ => none }
def fnExactBinPassRow : OpenClaim := { program := "ytagoihjmedbfeaa", sum := "cb402dbcc65a3f251196f1ba5b6890b557e383cecc6870116bd681316aa11bfb", func := "loop.example/sortingoffice/laws.FnExactBinPass", spec := "fnExactBinPass", apart := false }
def FnExactBinPassSaid : Prop := fnExactBinPassRow.holds Try.pinned (OpenSpec.ofChange fnExactBinPassSpec)

/-- ITS FALSE NEIGHBOUR: 'it returns false'. Refute it at one input. -/
def fnExactBinPassWrong : ChangeSpec := { name := "fnExactBinPass", fn := fun _ => fun
  | [d1, d2] => { results := [.lit (.bool false)], args := [d1, d2] }
  | _ => none }
def FnExactBinPassWrongFalsely : Prop := fnExactBinPassRow.holds Try.pinned (OpenSpec.ofChange fnExactBinPassWrong)

/-- 'laws.FnExactCollectBins': WHATEVER THE INPUT: true; the input reads as it did. -/
def fnExactCollectBinsSpec : ChangeSpec := { name := "fnExactCollectBins", fn := fun _ => fun
  | [d] => { results := [.lit (.bool true)], args := [d] }
  | _ => none }
def fnExactCollectBinsRow : OpenClaim := { program := "ytagoihjmedbfeaa", sum := "cb402dbcc65a3f251196f1ba5b6890b557e383cecc6870116bd681316aa11bfb", func := "loop.example/sortingoffice/laws.FnExactCollectBins", spec := "fnExactCollectBins", apart := false }
def FnExactCollectBinsSaid : Prop := fnExactCollectBinsRow.holds Try.pinned (OpenSpec.ofChange fnExactCollectBinsSpec)

/-- ITS FALSE NEIGHBOUR: 'it returns false'. Refute it at one input. -/
def fnExactCollectBinsWrong : ChangeSpec := { name := "fnExactCollectBins", fn := fun _ => fun
  | [d] => { results := [.lit (.bool false)], args := [d] }
  | _ => none }
def FnExactCollectBinsWrongFalsely : Prop := fnExactCollectBinsRow.holds Try.pinned (OpenSpec.ofChange fnExactCollectBinsWrong)

/-- 'laws.FnExactSortShort': WHATEVER THE INPUT: true; the input reads as it did. -/
def fnExactSortShortSpec : ChangeSpec := { name := "fnExactSortShort", fn := fun _ => fun
  | [d] => { results := [.lit (.bool true)], args := [d] }
  | _ => none }
def fnExactSortShortRow : OpenClaim := { program := "ytagoihjmedbfeaa", sum := "cb402dbcc65a3f251196f1ba5b6890b557e383cecc6870116bd681316aa11bfb", func := "loop.example/sortingoffice/laws.FnExactSortShort", spec := "fnExactSortShort", apart := false }
def FnExactSortShortSaid : Prop := fnExactSortShortRow.holds Try.pinned (OpenSpec.ofChange fnExactSortShortSpec)

/-- ITS FALSE NEIGHBOUR: 'it returns false'. Refute it at one input. -/
def fnExactSortShortWrong : ChangeSpec := { name := "fnExactSortShort", fn := fun _ => fun
  | [d] => { results := [.lit (.bool false)], args := [d] }
  | _ => none }
def FnExactSortShortWrongFalsely : Prop := fnExactSortShortRow.holds Try.pinned (OpenSpec.ofChange fnExactSortShortWrong)

/- THE SECOND FORM. 'bulk': how many values and letters a reading holds, each counted each time it is reached (what is shared counts as often as it is met; a slice's spare places count too). A statement '..UptoSaid' is the law's where the arguments, and the package variables that the reading takes, are together of bulk at most 1048576: NARROWER than '..Said'. Prove '..Said' where nothing that the law and all that it calls make is longer than what came in: it says more and counts as full. Else prove '..UptoSaid'. A law counts once. -/
mutual
def uptoBulk {H : Type} : DataW H → Nat
  | .lit (.string bytes) => bytes.length + 1
  | .lit _ => 1
  | .nil => 1
  | .ptr d => uptoBulk d + 1
  | .slice elems spare => uptoBulkAll elems + uptoBulkAll spare + 1
  | .agg parts => uptoBulkAll parts + 1
  | .iface _ d => uptoBulk d + 1
  | .map entries => uptoBulkEntries entries + 1
  | .held _ => 1
def uptoBulkAll {H : Type} : List (DataW H) → Nat
  | [] => 0
  | d :: r => uptoBulk d + uptoBulkAll r
def uptoBulkEntries {H : Type} : List (Lit × DataW H) → Nat
  | [] => 0
  | x :: r => uptoBulkEntry x + uptoBulkEntries r
def uptoBulkEntry {H : Type} : Lit × DataW H → Nat
  | (.string bytes, d) => bytes.length + uptoBulk d + 1
  | (_, d) => uptoBulk d + 1
 end
def uptoSmall : (H : Type) → List (DataW H) → Bool := fun _ ds => decide (uptoBulkAll ds ≤ 1048576)
def OpenSpec.upto (s : _root_.Go.ChangeSpec) : _root_.Go.OpenSpec := { _root_.Go.OpenSpec.ofChange s with cond := some uptoSmall }

/-- 'laws.FnExactBatchValid', WHERE WHAT IT READS IS OF BULK AT MOST 1048576: true; the input reads as it did. -/
def fnExactBatchValidUptoRow : OpenClaim := { program := "ytagoihjmedbfeaa", sum := "cb402dbcc65a3f251196f1ba5b6890b557e383cecc6870116bd681316aa11bfb", func := "loop.example/sortingoffice/laws.FnExactBatchValid", spec := "fnExactBatchValid", apart := false, narrowed := true }
def FnExactBatchValidUptoSaid : Prop := fnExactBatchValidUptoRow.holds Try.pinned (OpenSpec.upto fnExactBatchValidSpec)

/-- 'laws.FnExactFindLetter', WHERE WHAT IT READS IS OF BULK AT MOST 1048576: true; the input reads as it did. -/
def fnExactFindLetterUptoRow : OpenClaim := { program := "ytagoihjmedbfeaa", sum := "cb402dbcc65a3f251196f1ba5b6890b557e383cecc6870116bd681316aa11bfb", func := "loop.example/sortingoffice/laws.FnExactFindLetter", spec := "fnExactFindLetter", apart := false, narrowed := true }
def FnExactFindLetterUptoSaid : Prop := fnExactFindLetterUptoRow.holds Try.pinned (OpenSpec.upto fnExactFindLetterSpec)

/-- 'laws.FnExactSortedBatch', WHERE WHAT IT READS IS OF BULK AT MOST 1048576: true; the input reads as it did. -/
def fnExactSortedBatchUptoRow : OpenClaim := { program := "ytagoihjmedbfeaa", sum := "cb402dbcc65a3f251196f1ba5b6890b557e383cecc6870116bd681316aa11bfb", func := "loop.example/sortingoffice/laws.FnExactSortedBatch", spec := "fnExactSortedBatch", apart := false, narrowed := true }
def FnExactSortedBatchUptoSaid : Prop := fnExactSortedBatchUptoRow.holds Try.pinned (OpenSpec.upto fnExactSortedBatchSpec)

/-- 'laws.FnExactInversions', WHERE WHAT IT READS IS OF BULK AT MOST 1048576: true; the input reads as it did. -/
def fnExactInversionsUptoRow : OpenClaim := { program := "ytagoihjmedbfeaa", sum := "cb402dbcc65a3f251196f1ba5b6890b557e383cecc6870116bd681316aa11bfb", func := "loop.example/sortingoffice/laws.FnExactInversions", spec := "fnExactInversions", apart := false, narrowed := true }
def FnExactInversionsUptoSaid : Prop := fnExactInversionsUptoRow.holds Try.pinned (OpenSpec.upto fnExactInversionsSpec)

/-- 'laws.FnExactCountPrefix', WHERE WHAT IT READS IS OF BULK AT MOST 1048576: true; the input reads as it did. -/
def fnExactCountPrefixUptoRow : OpenClaim := { program := "ytagoihjmedbfeaa", sum := "cb402dbcc65a3f251196f1ba5b6890b557e383cecc6870116bd681316aa11bfb", func := "loop.example/sortingoffice/laws.FnExactCountPrefix", spec := "fnExactCountPrefix", apart := false, narrowed := true }
def FnExactCountPrefixUptoSaid : Prop := fnExactCountPrefixUptoRow.holds Try.pinned (OpenSpec.upto fnExactCountPrefixSpec)

/-- 'laws.FnExactVaryingDigits', WHERE WHAT IT READS IS OF BULK AT MOST 1048576: true; the input reads as it did. -/
def fnExactVaryingDigitsUptoRow : OpenClaim := { program := "ytagoihjmedbfeaa", sum := "cb402dbcc65a3f251196f1ba5b6890b557e383cecc6870116bd681316aa11bfb", func := "loop.example/sortingoffice/laws.FnExactVaryingDigits", spec := "fnExactVaryingDigits", apart := false, narrowed := true }
def FnExactVaryingDigitsUptoSaid : Prop := fnExactVaryingDigitsUptoRow.holds Try.pinned (OpenSpec.upto fnExactVaryingDigitsSpec)

/-- 'laws.FnExactSplitBatch', WHERE WHAT IT READS IS OF BULK AT MOST 1048576: true; the input reads as it did. -/
def fnExactSplitBatchUptoRow : OpenClaim := { program := "ytagoihjmedbfeaa", sum := "cb402dbcc65a3f251196f1ba5b6890b557e383cecc6870116bd681316aa11bfb", func := "loop.example/sortingoffice/laws.FnExactSplitBatch", spec := "fnExactSplitBatch", apart := false, narrowed := true }
def FnExactSplitBatchUptoSaid : Prop := fnExactSplitBatchUptoRow.holds Try.pinned (OpenSpec.upto fnExactSplitBatchSpec)

/-- 'laws.FnExactMergeBatches', WHERE WHAT IT READS IS OF BULK AT MOST 1048576: true; the input reads as it did. -/
def fnExactMergeBatchesUptoRow : OpenClaim := { program := "ytagoihjmedbfeaa", sum := "cb402dbcc65a3f251196f1ba5b6890b557e383cecc6870116bd681316aa11bfb", func := "loop.example/sortingoffice/laws.FnExactMergeBatches", spec := "fnExactMergeBatches", apart := false, narrowed := true }
def FnExactMergeBatchesUptoSaid : Prop := fnExactMergeBatchesUptoRow.holds Try.pinned (OpenSpec.upto fnExactMergeBatchesSpec)

/-- 'laws.FnExactSortPass', WHERE WHAT IT READS IS OF BULK AT MOST 1048576: true; the input reads as it did. -/
def fnExactSortPassUptoRow : OpenClaim := { program := "ytagoihjmedbfeaa", sum := "cb402dbcc65a3f251196f1ba5b6890b557e383cecc6870116bd681316aa11bfb", func := "loop.example/sortingoffice/laws.FnExactSortPass", spec := "fnExactSortPass", apart := false, narrowed := true }
def FnExactSortPassUptoSaid : Prop := fnExactSortPassUptoRow.holds Try.pinned (OpenSpec.upto fnExactSortPassSpec)

/-- 'laws.FnExactBinPass', WHERE WHAT IT READS IS OF BULK AT MOST 1048576: true; the input reads as it did. -/
def fnExactBinPassUptoRow : OpenClaim := { program := "ytagoihjmedbfeaa", sum := "cb402dbcc65a3f251196f1ba5b6890b557e383cecc6870116bd681316aa11bfb", func := "loop.example/sortingoffice/laws.FnExactBinPass", spec := "fnExactBinPass", apart := false, narrowed := true }
def FnExactBinPassUptoSaid : Prop := fnExactBinPassUptoRow.holds Try.pinned (OpenSpec.upto fnExactBinPassSpec)

/-- 'laws.FnExactCollectBins', WHERE WHAT IT READS IS OF BULK AT MOST 1048576: true; the input reads as it did. -/
def fnExactCollectBinsUptoRow : OpenClaim := { program := "ytagoihjmedbfeaa", sum := "cb402dbcc65a3f251196f1ba5b6890b557e383cecc6870116bd681316aa11bfb", func := "loop.example/sortingoffice/laws.FnExactCollectBins", spec := "fnExactCollectBins", apart := false, narrowed := true }
def FnExactCollectBinsUptoSaid : Prop := fnExactCollectBinsUptoRow.holds Try.pinned (OpenSpec.upto fnExactCollectBinsSpec)

/-- 'laws.FnExactSortShort', WHERE WHAT IT READS IS OF BULK AT MOST 1048576: true; the input reads as it did. -/
def fnExactSortShortUptoRow : OpenClaim := { program := "ytagoihjmedbfeaa", sum := "cb402dbcc65a3f251196f1ba5b6890b557e383cecc6870116bd681316aa11bfb", func := "loop.example/sortingoffice/laws.FnExactSortShort", spec := "fnExactSortShort", apart := false, narrowed := true }
def FnExactSortShortUptoSaid : Prop := fnExactSortShortUptoRow.holds Try.pinned (OpenSpec.upto fnExactSortShortSpec)

end Rows
end Go.Proofs.Ytagoihjmedbfeaa
