/-
  No cell of these rows narrows 'for every input' (looked for: loops, veiled, ifaces, maps, wideKeys, modest, calm, conditions, laid).
  DERIVED. THE GIVEN ROWS OF THIS SEAT. 12 by the template 'for every input the law returns true; each argument reads behind the call as it read before'; 0 by the template 'total and deterministic' (their statements: YtafngfmloiikoaaTotals.lean).
  GIVEN WITH THE SEED: the statements are not yours to turn. If you find one false, say at which input.
  Laid BY PROGRAM, IN A SANDBOX (cutbox-rows.mjs): the forced cells as the released guide's own fill.sh prints them over the translation 5fc50404620385a9… (all of the seat's roots in one cut). By AI agents, Wed Nov 11 2026. No macro, syntax, notation, axiom, sorry.
-/
import Derived.Test.YtafngfmloiikoaaChecked
import GoSem.Claim
import GoSem.ClaimJoined
import GoSem.ClaimMapViews
import Derived.JoinedTies
import Derived.KernelRfl
namespace Go.Proofs.Ytafngfmloiikoaa
/- THE CELL 'sum', in the pinned program and in every row, IS THE sha256 OF THE DUMP (.gsa) THAT YtafngfmloiikoaaProg.lean LOADS. Nothing in Lean hashes anything: it is a label: what it is worth is what the hold of that sum in a sandbox is worth. -/
noncomputable def Try.pinned : Pinned := { name := "ytafngfmloiikoaa", sum := "5fc50404620385a9b28ce0589c53a716c11b1c10b9f53a78ff8d34a46e7d85b5", checked := Try.checked }
namespace Rows
def none {H : Type} : Left H := { results := [], args := [] }

/-- 'laws.FnBinPass': WHATEVER THE INPUT: true; the input reads as it did. -/
def fnBinPassSpec : ChangeSpec := { name := "fnBinPass", fn := fun _ => fun
  | [d] => { results := [.lit (.bool true)], args := [d] }
  | _ => none }
def fnBinPassRow : OpenClaim := { program := "ytafngfmloiikoaa", sum := "5fc50404620385a9b28ce0589c53a716c11b1c10b9f53a78ff8d34a46e7d85b5", func := "loop.example/sortingoffice/laws.FnBinPass", spec := "fnBinPass", recurses := true, apart := false }
def FnBinPassSaid : Prop := fnBinPassRow.holds Try.pinned (OpenSpec.ofChange fnBinPassSpec)

/-- ITS FALSE NEIGHBOUR: 'it returns false'. Refute it at one input. -/
def fnBinPassWrong : ChangeSpec := { name := "fnBinPass", fn := fun _ => fun
  | [d] => { results := [.lit (.bool false)], args := [d] }
  | _ => none }
def FnBinPassWrongFalsely : Prop := fnBinPassRow.holds Try.pinned (OpenSpec.ofChange fnBinPassWrong)

/-- 'laws.FnSplit': WHATEVER THE INPUT: true; the input reads as it did. -/
def fnSplitSpec : ChangeSpec := { name := "fnSplit", fn := fun _ => fun
  | [d] => { results := [.lit (.bool true)], args := [d] }
  | _ => none }
def fnSplitRow : OpenClaim := { program := "ytafngfmloiikoaa", sum := "5fc50404620385a9b28ce0589c53a716c11b1c10b9f53a78ff8d34a46e7d85b5", func := "loop.example/sortingoffice/laws.FnSplit", spec := "fnSplit", recurses := true, apart := false }
def FnSplitSaid : Prop := fnSplitRow.holds Try.pinned (OpenSpec.ofChange fnSplitSpec)

/-- ITS FALSE NEIGHBOUR: 'it returns false'. Refute it at one input. -/
def fnSplitWrong : ChangeSpec := { name := "fnSplit", fn := fun _ => fun
  | [d] => { results := [.lit (.bool false)], args := [d] }
  | _ => none }
def FnSplitWrongFalsely : Prop := fnSplitRow.holds Try.pinned (OpenSpec.ofChange fnSplitWrong)

/-- 'laws.FnCollect': WHATEVER THE INPUT: true; the input reads as it did. -/
def fnCollectSpec : ChangeSpec := { name := "fnCollect", fn := fun _ => fun
  | [d] => { results := [.lit (.bool true)], args := [d] }
  | _ => none }
def fnCollectRow : OpenClaim := { program := "ytafngfmloiikoaa", sum := "5fc50404620385a9b28ce0589c53a716c11b1c10b9f53a78ff8d34a46e7d85b5", func := "loop.example/sortingoffice/laws.FnCollect", spec := "fnCollect", recurses := true, apart := false }
def FnCollectSaid : Prop := fnCollectRow.holds Try.pinned (OpenSpec.ofChange fnCollectSpec)

/-- ITS FALSE NEIGHBOUR: 'it returns false'. Refute it at one input. -/
def fnCollectWrong : ChangeSpec := { name := "fnCollect", fn := fun _ => fun
  | [d] => { results := [.lit (.bool false)], args := [d] }
  | _ => none }
def FnCollectWrongFalsely : Prop := fnCollectRow.holds Try.pinned (OpenSpec.ofChange fnCollectWrong)

/-- 'laws.FnInversions': WHATEVER THE INPUT: true; the input reads as it did. -/
def fnInversionsSpec : ChangeSpec := { name := "fnInversions", fn := fun _ => fun
  | [d] => { results := [.lit (.bool true)], args := [d] }
  | _ => none }
def fnInversionsRow : OpenClaim := { program := "ytafngfmloiikoaa", sum := "5fc50404620385a9b28ce0589c53a716c11b1c10b9f53a78ff8d34a46e7d85b5", func := "loop.example/sortingoffice/laws.FnInversions", spec := "fnInversions", recurses := true, apart := false }
def FnInversionsSaid : Prop := fnInversionsRow.holds Try.pinned (OpenSpec.ofChange fnInversionsSpec)

/-- ITS FALSE NEIGHBOUR: 'it returns false'. Refute it at one input. -/
def fnInversionsWrong : ChangeSpec := { name := "fnInversions", fn := fun _ => fun
  | [d] => { results := [.lit (.bool false)], args := [d] }
  | _ => none }
def FnInversionsWrongFalsely : Prop := fnInversionsRow.holds Try.pinned (OpenSpec.ofChange fnInversionsWrong)

/-- 'laws.FnSortPass': WHATEVER THE INPUT: true; the input reads as it did. -/
def fnSortPassSpec : ChangeSpec := { name := "fnSortPass", fn := fun _ => fun
  | [d] => { results := [.lit (.bool true)], args := [d] }
  | _ => none }
def fnSortPassRow : OpenClaim := { program := "ytafngfmloiikoaa", sum := "5fc50404620385a9b28ce0589c53a716c11b1c10b9f53a78ff8d34a46e7d85b5", func := "loop.example/sortingoffice/laws.FnSortPass", spec := "fnSortPass", recurses := true, apart := false }
def FnSortPassSaid : Prop := fnSortPassRow.holds Try.pinned (OpenSpec.ofChange fnSortPassSpec)

/-- ITS FALSE NEIGHBOUR: 'it returns false'. Refute it at one input. -/
def fnSortPassWrong : ChangeSpec := { name := "fnSortPass", fn := fun _ => fun
  | [d] => { results := [.lit (.bool false)], args := [d] }
  | _ => none }
def FnSortPassWrongFalsely : Prop := fnSortPassRow.holds Try.pinned (OpenSpec.ofChange fnSortPassWrong)

/-- 'laws.FnExactSortBatch': WHATEVER THE INPUT: true; the input reads as it did. -/
def fnExactSortBatchSpec : ChangeSpec := { name := "fnExactSortBatch", fn := fun _ => fun
  | [d] => { results := [.lit (.bool true)], args := [d] }
  | _ => none }
def fnExactSortBatchRow : OpenClaim := { program := "ytafngfmloiikoaa", sum := "5fc50404620385a9b28ce0589c53a716c11b1c10b9f53a78ff8d34a46e7d85b5", func := "loop.example/sortingoffice/laws.FnExactSortBatch", spec := "fnExactSortBatch", inPlace := ["internal/bytealg.abigen_runtime_cmpstring"], unfollowed := true, recurses := true, apart := false }
def FnExactSortBatchSaid : Prop := fnExactSortBatchRow.holds Try.pinned (OpenSpec.ofChange fnExactSortBatchSpec)

/-- ITS FALSE NEIGHBOUR: 'it returns false'. Refute it at one input. -/
def fnExactSortBatchWrong : ChangeSpec := { name := "fnExactSortBatch", fn := fun _ => fun
  | [d] => { results := [.lit (.bool false)], args := [d] }
  | _ => none }
def FnExactSortBatchWrongFalsely : Prop := fnExactSortBatchRow.holds Try.pinned (OpenSpec.ofChange fnExactSortBatchWrong)

/-- 'laws.FnMerge': WHATEVER THE INPUT: true; the input reads as it did. -/
def fnMergeSpec : ChangeSpec := { name := "fnMerge", fn := fun _ => fun
  | [d] => { results := [.lit (.bool true)], args := [d] }
  | _ => none }
def fnMergeRow : OpenClaim := { program := "ytafngfmloiikoaa", sum := "5fc50404620385a9b28ce0589c53a716c11b1c10b9f53a78ff8d34a46e7d85b5", func := "loop.example/sortingoffice/laws.FnMerge", spec := "fnMerge", inPlace := ["internal/bytealg.abigen_runtime_cmpstring"], unfollowed := true, recurses := true, apart := false }
def FnMergeSaid : Prop := fnMergeRow.holds Try.pinned (OpenSpec.ofChange fnMergeSpec)

/-- ITS FALSE NEIGHBOUR: 'it returns false'. Refute it at one input. -/
def fnMergeWrong : ChangeSpec := { name := "fnMerge", fn := fun _ => fun
  | [d] => { results := [.lit (.bool false)], args := [d] }
  | _ => none }
def FnMergeWrongFalsely : Prop := fnMergeRow.holds Try.pinned (OpenSpec.ofChange fnMergeWrong)

/-- 'laws.FnPasses': WHATEVER THE INPUT: true; the input reads as it did. -/
def fnPassesSpec : ChangeSpec := { name := "fnPasses", fn := fun _ => fun
  | [d] => { results := [.lit (.bool true)], args := [d] }
  | _ => none }
def fnPassesRow : OpenClaim := { program := "ytafngfmloiikoaa", sum := "5fc50404620385a9b28ce0589c53a716c11b1c10b9f53a78ff8d34a46e7d85b5", func := "loop.example/sortingoffice/laws.FnPasses", spec := "fnPasses", inPlace := ["internal/bytealg.abigen_runtime_cmpstring"], unfollowed := true, recurses := true, apart := false }
def FnPassesSaid : Prop := fnPassesRow.holds Try.pinned (OpenSpec.ofChange fnPassesSpec)

/-- ITS FALSE NEIGHBOUR: 'it returns false'. Refute it at one input. -/
def fnPassesWrong : ChangeSpec := { name := "fnPasses", fn := fun _ => fun
  | [d] => { results := [.lit (.bool false)], args := [d] }
  | _ => none }
def FnPassesWrongFalsely : Prop := fnPassesRow.holds Try.pinned (OpenSpec.ofChange fnPassesWrong)

/-- 'laws.FnMergeSort': WHATEVER THE INPUT: true; the input reads as it did. -/
def fnMergeSortSpec : ChangeSpec := { name := "fnMergeSort", fn := fun _ => fun
  | [d1, d2] => { results := [.lit (.bool true)], args := [d1, d2] }
  | _ => none }
def fnMergeSortRow : OpenClaim := { program := "ytafngfmloiikoaa", sum := "5fc50404620385a9b28ce0589c53a716c11b1c10b9f53a78ff8d34a46e7d85b5", func := "loop.example/sortingoffice/laws.FnMergeSort", spec := "fnMergeSort", inPlace := ["internal/bytealg.abigen_runtime_cmpstring"], unfollowed := true, recurses := true, apart := false }
def FnMergeSortSaid : Prop := fnMergeSortRow.holds Try.pinned (OpenSpec.ofChange fnMergeSortSpec)

/-- ITS FALSE NEIGHBOUR: 'it returns false'. Refute it at one input. -/
def fnMergeSortWrong : ChangeSpec := { name := "fnMergeSort", fn := fun _ => fun
  | [d1, d2] => { results := [.lit (.bool false)], args := [d1, d2] }
  | _ => none }
def FnMergeSortWrongFalsely : Prop := fnMergeSortRow.holds Try.pinned (OpenSpec.ofChange fnMergeSortWrong)

/-- 'laws.FnSortBatch': WHATEVER THE INPUT: true; the input reads as it did. -/
def fnSortBatchSpec : ChangeSpec := { name := "fnSortBatch", fn := fun _ => fun
  | [d] => { results := [.lit (.bool true)], args := [d] }
  | _ => none }
def fnSortBatchRow : OpenClaim := { program := "ytafngfmloiikoaa", sum := "5fc50404620385a9b28ce0589c53a716c11b1c10b9f53a78ff8d34a46e7d85b5", func := "loop.example/sortingoffice/laws.FnSortBatch", spec := "fnSortBatch", inPlace := ["internal/bytealg.abigen_runtime_cmpstring"], unfollowed := true, recurses := true, apart := false }
def FnSortBatchSaid : Prop := fnSortBatchRow.holds Try.pinned (OpenSpec.ofChange fnSortBatchSpec)

/-- ITS FALSE NEIGHBOUR: 'it returns false'. Refute it at one input. -/
def fnSortBatchWrong : ChangeSpec := { name := "fnSortBatch", fn := fun _ => fun
  | [d] => { results := [.lit (.bool false)], args := [d] }
  | _ => none }
def FnSortBatchWrongFalsely : Prop := fnSortBatchRow.holds Try.pinned (OpenSpec.ofChange fnSortBatchWrong)

/-- 'laws.FnExactCodesOf': WHATEVER THE INPUT: true; the input reads as it did. -/
def fnExactCodesOfSpec : ChangeSpec := { name := "fnExactCodesOf", fn := fun _ => fun
  | [d] => { results := [.lit (.bool true)], args := [d] }
  | _ => none }
def fnExactCodesOfRow : OpenClaim := { program := "ytafngfmloiikoaa", sum := "5fc50404620385a9b28ce0589c53a716c11b1c10b9f53a78ff8d34a46e7d85b5", func := "loop.example/sortingoffice/laws.FnExactCodesOf", spec := "fnExactCodesOf", inPlace := ["internal/bytealg.abigen_runtime_cmpstring"], unfollowed := true, recurses := true, apart := false }
def FnExactCodesOfSaid : Prop := fnExactCodesOfRow.holds Try.pinned (OpenSpec.ofChange fnExactCodesOfSpec)

/-- ITS FALSE NEIGHBOUR: 'it returns false'. Refute it at one input. -/
def fnExactCodesOfWrong : ChangeSpec := { name := "fnExactCodesOf", fn := fun _ => fun
  | [d] => { results := [.lit (.bool false)], args := [d] }
  | _ => none }
def FnExactCodesOfWrongFalsely : Prop := fnExactCodesOfRow.holds Try.pinned (OpenSpec.ofChange fnExactCodesOfWrong)

/-- 'laws.FnCodesOf': WHATEVER THE INPUT: true; the input reads as it did. -/
def fnCodesOfSpec : ChangeSpec := { name := "fnCodesOf", fn := fun _ => fun
  | [d] => { results := [.lit (.bool true)], args := [d] }
  | _ => none }
def fnCodesOfRow : OpenClaim := { program := "ytafngfmloiikoaa", sum := "5fc50404620385a9b28ce0589c53a716c11b1c10b9f53a78ff8d34a46e7d85b5", func := "loop.example/sortingoffice/laws.FnCodesOf", spec := "fnCodesOf", inPlace := ["internal/bytealg.abigen_runtime_cmpstring"], unfollowed := true, recurses := true, apart := false }
def FnCodesOfSaid : Prop := fnCodesOfRow.holds Try.pinned (OpenSpec.ofChange fnCodesOfSpec)

/-- ITS FALSE NEIGHBOUR: 'it returns false'. Refute it at one input. -/
def fnCodesOfWrong : ChangeSpec := { name := "fnCodesOf", fn := fun _ => fun
  | [d] => { results := [.lit (.bool false)], args := [d] }
  | _ => none }
def FnCodesOfWrongFalsely : Prop := fnCodesOfRow.holds Try.pinned (OpenSpec.ofChange fnCodesOfWrong)

/- THE SECOND FORM. 'bulk': how many values and letters a reading holds, each counted each time it is reached (what is shared counts as often as it is met; a slice's spare places count too). A statement '..UptoSaid' is the law's where the arguments, and the package variables that the reading takes, are together of bulk at most 1048576: NARROWER than '..Said'. Prove '..Said' where nothing that the law and all that it calls make is longer than what came in: it says more and counts as full. Else prove '..UptoSaid'. A law counts once. -/
mutual
def uptoBulk {H : Type} : DataW H → Nat
  | .lit (.string bytes) => bytes.length + 1
  | .lit _ => 1
  | .nil => 1
  | .ptr d => uptoBulk d + 1
  | .slice elems spare => uptoBulkAll elems + uptoBulkAll spare + 1
  | .agg parts => uptoBulkAll parts + 1
  | .iface _ d => uptoBulk d + 1
  | .map entries => uptoBulkEntries entries + 1
  | .held _ => 1
def uptoBulkAll {H : Type} : List (DataW H) → Nat
  | [] => 0
  | d :: r => uptoBulk d + uptoBulkAll r
def uptoBulkEntries {H : Type} : List (Lit × DataW H) → Nat
  | [] => 0
  | x :: r => uptoBulkEntry x + uptoBulkEntries r
def uptoBulkEntry {H : Type} : Lit × DataW H → Nat
  | (.string bytes, d) => bytes.length + uptoBulk d + 1
  | (_, d) => uptoBulk d + 1
 end
def uptoSmall : (H : Type) → List (DataW H) → Bool := fun _ ds => decide (uptoBulkAll ds ≤ 1048576)
def OpenSpec.upto (s : _root_.Go.ChangeSpec) : _root_.Go.OpenSpec := { _root_.Go.OpenSpec.ofChange s with cond := some uptoSmall }

/-- 'laws.FnBinPass', WHERE WHAT IT READS IS OF BULK AT MOST 1048576: true; the input reads as it did. -/
def fnBinPassUptoRow : OpenClaim := { program := "ytafngfmloiikoaa", sum := "5fc50404620385a9b28ce0589c53a716c11b1c10b9f53a78ff8d34a46e7d85b5", func := "loop.example/sortingoffice/laws.FnBinPass", spec := "fnBinPass", recurses := true, apart := false, narrowed := true }
def FnBinPassUptoSaid : Prop := fnBinPassUptoRow.holds Try.pinned (OpenSpec.upto fnBinPassSpec)

/-- 'laws.FnSplit', WHERE WHAT IT READS IS OF BULK AT MOST 1048576: true; the input reads as it did. -/
def fnSplitUptoRow : OpenClaim := { program := "ytafngfmloiikoaa", sum := "5fc50404620385a9b28ce0589c53a716c11b1c10b9f53a78ff8d34a46e7d85b5", func := "loop.example/sortingoffice/laws.FnSplit", spec := "fnSplit", recurses := true, apart := false, narrowed := true }
def FnSplitUptoSaid : Prop := fnSplitUptoRow.holds Try.pinned (OpenSpec.upto fnSplitSpec)

/-- 'laws.FnCollect', WHERE WHAT IT READS IS OF BULK AT MOST 1048576: true; the input reads as it did. -/
def fnCollectUptoRow : OpenClaim := { program := "ytafngfmloiikoaa", sum := "5fc50404620385a9b28ce0589c53a716c11b1c10b9f53a78ff8d34a46e7d85b5", func := "loop.example/sortingoffice/laws.FnCollect", spec := "fnCollect", recurses := true, apart := false, narrowed := true }
def FnCollectUptoSaid : Prop := fnCollectUptoRow.holds Try.pinned (OpenSpec.upto fnCollectSpec)

/-- 'laws.FnInversions', WHERE WHAT IT READS IS OF BULK AT MOST 1048576: true; the input reads as it did. -/
def fnInversionsUptoRow : OpenClaim := { program := "ytafngfmloiikoaa", sum := "5fc50404620385a9b28ce0589c53a716c11b1c10b9f53a78ff8d34a46e7d85b5", func := "loop.example/sortingoffice/laws.FnInversions", spec := "fnInversions", recurses := true, apart := false, narrowed := true }
def FnInversionsUptoSaid : Prop := fnInversionsUptoRow.holds Try.pinned (OpenSpec.upto fnInversionsSpec)

/-- 'laws.FnSortPass', WHERE WHAT IT READS IS OF BULK AT MOST 1048576: true; the input reads as it did. -/
def fnSortPassUptoRow : OpenClaim := { program := "ytafngfmloiikoaa", sum := "5fc50404620385a9b28ce0589c53a716c11b1c10b9f53a78ff8d34a46e7d85b5", func := "loop.example/sortingoffice/laws.FnSortPass", spec := "fnSortPass", recurses := true, apart := false, narrowed := true }
def FnSortPassUptoSaid : Prop := fnSortPassUptoRow.holds Try.pinned (OpenSpec.upto fnSortPassSpec)

/-- 'laws.FnExactSortBatch', WHERE WHAT IT READS IS OF BULK AT MOST 1048576: true; the input reads as it did. -/
def fnExactSortBatchUptoRow : OpenClaim := { program := "ytafngfmloiikoaa", sum := "5fc50404620385a9b28ce0589c53a716c11b1c10b9f53a78ff8d34a46e7d85b5", func := "loop.example/sortingoffice/laws.FnExactSortBatch", spec := "fnExactSortBatch", inPlace := ["internal/bytealg.abigen_runtime_cmpstring"], unfollowed := true, recurses := true, apart := false, narrowed := true }
def FnExactSortBatchUptoSaid : Prop := fnExactSortBatchUptoRow.holds Try.pinned (OpenSpec.upto fnExactSortBatchSpec)

/-- 'laws.FnMerge', WHERE WHAT IT READS IS OF BULK AT MOST 1048576: true; the input reads as it did. -/
def fnMergeUptoRow : OpenClaim := { program := "ytafngfmloiikoaa", sum := "5fc50404620385a9b28ce0589c53a716c11b1c10b9f53a78ff8d34a46e7d85b5", func := "loop.example/sortingoffice/laws.FnMerge", spec := "fnMerge", inPlace := ["internal/bytealg.abigen_runtime_cmpstring"], unfollowed := true, recurses := true, apart := false, narrowed := true }
def FnMergeUptoSaid : Prop := fnMergeUptoRow.holds Try.pinned (OpenSpec.upto fnMergeSpec)

/-- 'laws.FnPasses', WHERE WHAT IT READS IS OF BULK AT MOST 1048576: true; the input reads as it did. -/
def fnPassesUptoRow : OpenClaim := { program := "ytafngfmloiikoaa", sum := "5fc50404620385a9b28ce0589c53a716c11b1c10b9f53a78ff8d34a46e7d85b5", func := "loop.example/sortingoffice/laws.FnPasses", spec := "fnPasses", inPlace := ["internal/bytealg.abigen_runtime_cmpstring"], unfollowed := true, recurses := true, apart := false, narrowed := true }
def FnPassesUptoSaid : Prop := fnPassesUptoRow.holds Try.pinned (OpenSpec.upto fnPassesSpec)

/-- 'laws.FnMergeSort', WHERE WHAT IT READS IS OF BULK AT MOST 1048576: true; the input reads as it did. -/
def fnMergeSortUptoRow : OpenClaim := { program := "ytafngfmloiikoaa", sum := "5fc50404620385a9b28ce0589c53a716c11b1c10b9f53a78ff8d34a46e7d85b5", func := "loop.example/sortingoffice/laws.FnMergeSort", spec := "fnMergeSort", inPlace := ["internal/bytealg.abigen_runtime_cmpstring"], unfollowed := true, recurses := true, apart := false, narrowed := true }
def FnMergeSortUptoSaid : Prop := fnMergeSortUptoRow.holds Try.pinned (OpenSpec.upto fnMergeSortSpec)

/-- 'laws.FnSortBatch', WHERE WHAT IT READS IS OF BULK AT MOST 1048576: true; the input reads as it did. -/
def fnSortBatchUptoRow : OpenClaim := { program := "ytafngfmloiikoaa", sum := "5fc50404620385a9b28ce0589c53a716c11b1c10b9f53a78ff8d34a46e7d85b5", func := "loop.example/sortingoffice/laws.FnSortBatch", spec := "fnSortBatch", inPlace := ["internal/bytealg.abigen_runtime_cmpstring"], unfollowed := true, recurses := true, apart := false, narrowed := true }
def FnSortBatchUptoSaid : Prop := fnSortBatchUptoRow.holds Try.pinned (OpenSpec.upto fnSortBatchSpec)

/-- 'laws.FnExactCodesOf', WHERE WHAT IT READS IS OF BULK AT MOST 1048576: true; the input reads as it did. -/
def fnExactCodesOfUptoRow : OpenClaim := { program := "ytafngfmloiikoaa", sum := "5fc50404620385a9b28ce0589c53a716c11b1c10b9f53a78ff8d34a46e7d85b5", func := "loop.example/sortingoffice/laws.FnExactCodesOf", spec := "fnExactCodesOf", inPlace := ["internal/bytealg.abigen_runtime_cmpstring"], unfollowed := true, recurses := true, apart := false, narrowed := true }
def FnExactCodesOfUptoSaid : Prop := fnExactCodesOfUptoRow.holds Try.pinned (OpenSpec.upto fnExactCodesOfSpec)

/-- 'laws.FnCodesOf', WHERE WHAT IT READS IS OF BULK AT MOST 1048576: true; the input reads as it did. -/
def fnCodesOfUptoRow : OpenClaim := { program := "ytafngfmloiikoaa", sum := "5fc50404620385a9b28ce0589c53a716c11b1c10b9f53a78ff8d34a46e7d85b5", func := "loop.example/sortingoffice/laws.FnCodesOf", spec := "fnCodesOf", inPlace := ["internal/bytealg.abigen_runtime_cmpstring"], unfollowed := true, recurses := true, apart := false, narrowed := true }
def FnCodesOfUptoSaid : Prop := fnCodesOfUptoRow.holds Try.pinned (OpenSpec.upto fnCodesOfSpec)

end Rows
end Go.Proofs.Ytafngfmloiikoaa
