/-
  No cell of these rows narrows 'for every input' (looked for: loops, veiled, ifaces, maps, wideKeys, modest, calm, conditions, laid).
  DERIVED. THE GIVEN ROWS OF THIS SEAT. 5 by the template 'for every input the law returns true; each argument reads behind the call as it read before'; 0 by the template 'total and deterministic' (their statements: YtcopkapcgabkmaaTotals.lean).
  GIVEN WITH THE SEED: the statements are not yours to turn. If you find one false, say at which input.
  Laid BY PROGRAM, IN A SANDBOX (cutbox-rows.mjs): the forced cells as the released guide's own fill.sh prints them over the translation 7e99464b40785dae… (all of the seat's roots in one cut). By AI agents, Wed Nov 11 2026. No macro, syntax, notation, axiom, sorry.
-/
import Derived.Test.YtcopkapcgabkmaaChecked
import GoSem.Claim
import GoSem.ClaimJoined
import GoSem.ClaimMapViews
import Derived.JoinedTies
import Derived.KernelRfl
namespace Go.Proofs.Ytcopkapcgabkmaa
/- THE CELL 'sum', in the pinned program and in every row, IS THE sha256 OF THE DUMP (.gsa) THAT YtcopkapcgabkmaaProg.lean LOADS. Nothing in Lean hashes anything: it is a label: what it is worth is what the hold of that sum in a sandbox is worth. -/
noncomputable def Try.pinned : Pinned := { name := "ytcopkapcgabkmaa", sum := "7e99464b40785daeb70ac0e904dc0789452d6fb4390566bdd65dd32d77aae30b", checked := Try.checked }
namespace Rows
def none {H : Type} : Left H := { results := [], args := [] }

/-- 'laws.FnExactParsePlace': WHATEVER THE INPUT: true; the input reads as it did. -/
def fnExactParsePlaceSpec : ChangeSpec := { name := "fnExactParsePlace", fn := fun _ => fun
  | [d] => { results := [.lit (.bool true)], args := [d] }
  | _ => none }
def fnExactParsePlaceRow : OpenClaim := { program := "ytcopkapcgabkmaa", sum := "7e99464b40785daeb70ac0e904dc0789452d6fb4390566bdd65dd32d77aae30b", func := "loop.example/sortingoffice/laws.FnExactParsePlace", spec := "fnExactParsePlace", recurses := true, apart := false }
def FnExactParsePlaceSaid : Prop := fnExactParsePlaceRow.holds Try.pinned (OpenSpec.ofChange fnExactParsePlaceSpec)

/-- ITS FALSE NEIGHBOUR: 'it returns false'. Refute it at one input. -/
def fnExactParsePlaceWrong : ChangeSpec := { name := "fnExactParsePlace", fn := fun _ => fun
  | [d] => { results := [.lit (.bool false)], args := [d] }
  | _ => none }
def FnExactParsePlaceWrongFalsely : Prop := fnExactParsePlaceRow.holds Try.pinned (OpenSpec.ofChange fnExactParsePlaceWrong)

/-- 'laws.FnCheckValid': WHATEVER THE INPUT: true; the input reads as it did. -/
def fnCheckValidSpec : ChangeSpec := { name := "fnCheckValid", fn := fun _ => fun
  | [d1, d2] => { results := [.lit (.bool true)], args := [d1, d2] }
  | _ => none }
def fnCheckValidRow : OpenClaim := { program := "ytcopkapcgabkmaa", sum := "7e99464b40785daeb70ac0e904dc0789452d6fb4390566bdd65dd32d77aae30b", func := "loop.example/sortingoffice/laws.FnCheckValid", spec := "fnCheckValid", recurses := true, apart := false }
def FnCheckValidSaid : Prop := fnCheckValidRow.holds Try.pinned (OpenSpec.ofChange fnCheckValidSpec)

/-- ITS FALSE NEIGHBOUR: 'it returns false'. Refute it at one input. -/
def fnCheckValidWrong : ChangeSpec := { name := "fnCheckValid", fn := fun _ => fun
  | [d1, d2] => { results := [.lit (.bool false)], args := [d1, d2] }
  | _ => none }
def FnCheckValidWrongFalsely : Prop := fnCheckValidRow.holds Try.pinned (OpenSpec.ofChange fnCheckValidWrong)

/-- 'laws.FnCheckDigit': WHATEVER THE INPUT: true; the input reads as it did. -/
def fnCheckDigitSpec : ChangeSpec := { name := "fnCheckDigit", fn := fun _ => fun
  | [d] => { results := [.lit (.bool true)], args := [d] }
  | _ => none }
def fnCheckDigitRow : OpenClaim := { program := "ytcopkapcgabkmaa", sum := "7e99464b40785daeb70ac0e904dc0789452d6fb4390566bdd65dd32d77aae30b", func := "loop.example/sortingoffice/laws.FnCheckDigit", spec := "fnCheckDigit", recurses := true, apart := false }
def FnCheckDigitSaid : Prop := fnCheckDigitRow.holds Try.pinned (OpenSpec.ofChange fnCheckDigitSpec)

/-- ITS FALSE NEIGHBOUR: 'it returns false'. Refute it at one input. -/
def fnCheckDigitWrong : ChangeSpec := { name := "fnCheckDigit", fn := fun _ => fun
  | [d] => { results := [.lit (.bool false)], args := [d] }
  | _ => none }
def FnCheckDigitWrongFalsely : Prop := fnCheckDigitRow.holds Try.pinned (OpenSpec.ofChange fnCheckDigitWrong)

/-- 'laws.FnPlaceCode': WHATEVER THE INPUT: true; the input reads as it did. -/
def fnPlaceCodeSpec : ChangeSpec := { name := "fnPlaceCode", fn := fun _ => fun
  | [d] => { results := [.lit (.bool true)], args := [d] }
  | _ => none }
def fnPlaceCodeRow : OpenClaim := { program := "ytcopkapcgabkmaa", sum := "7e99464b40785daeb70ac0e904dc0789452d6fb4390566bdd65dd32d77aae30b", func := "loop.example/sortingoffice/laws.FnPlaceCode", spec := "fnPlaceCode", recurses := true, apart := false }
def FnPlaceCodeSaid : Prop := fnPlaceCodeRow.holds Try.pinned (OpenSpec.ofChange fnPlaceCodeSpec)

/-- ITS FALSE NEIGHBOUR: 'it returns false'. Refute it at one input. -/
def fnPlaceCodeWrong : ChangeSpec := { name := "fnPlaceCode", fn := fun _ => fun
  | [d] => { results := [.lit (.bool false)], args := [d] }
  | _ => none }
def FnPlaceCodeWrongFalsely : Prop := fnPlaceCodeRow.holds Try.pinned (OpenSpec.ofChange fnPlaceCodeWrong)

/-- 'laws.FnCodePlace': WHATEVER THE INPUT: true; the input reads as it did. -/
def fnCodePlaceSpec : ChangeSpec := { name := "fnCodePlace", fn := fun _ => fun
  | [d1, d2] => { results := [.lit (.bool true)], args := [d1, d2] }
  | _ => none }
def fnCodePlaceRow : OpenClaim := { program := "ytcopkapcgabkmaa", sum := "7e99464b40785daeb70ac0e904dc0789452d6fb4390566bdd65dd32d77aae30b", func := "loop.example/sortingoffice/laws.FnCodePlace", spec := "fnCodePlace", recurses := true, apart := false }
def FnCodePlaceSaid : Prop := fnCodePlaceRow.holds Try.pinned (OpenSpec.ofChange fnCodePlaceSpec)

/-- ITS FALSE NEIGHBOUR: 'it returns false'. Refute it at one input. -/
def fnCodePlaceWrong : ChangeSpec := { name := "fnCodePlace", fn := fun _ => fun
  | [d1, d2] => { results := [.lit (.bool false)], args := [d1, d2] }
  | _ => none }
def FnCodePlaceWrongFalsely : Prop := fnCodePlaceRow.holds Try.pinned (OpenSpec.ofChange fnCodePlaceWrong)

/- THE SECOND FORM. 'bulk': how many values and letters a reading holds, each counted each time it is reached (what is shared counts as often as it is met; a slice's spare places count too). A statement '..UptoSaid' is the law's where the arguments, and the package variables that the reading takes, are together of bulk at most 1048576: NARROWER than '..Said'. Prove '..Said' where nothing that the law and all that it calls make is longer than what came in: it says more and counts as full. Else prove '..UptoSaid'. A law counts once. -/
mutual
def uptoBulk {H : Type} : DataW H → Nat
  | .lit (.string bytes) => bytes.length + 1
  | .lit _ => 1
  | .nil => 1
  | .ptr d => uptoBulk d + 1
  | .slice elems spare => uptoBulkAll elems + uptoBulkAll spare + 1
  | .agg parts => uptoBulkAll parts + 1
  | .iface _ d => uptoBulk d + 1
  | .map entries => uptoBulkEntries entries + 1
  | .held _ => 1
def uptoBulkAll {H : Type} : List (DataW H) → Nat
  | [] => 0
  | d :: r => uptoBulk d + uptoBulkAll r
def uptoBulkEntries {H : Type} : List (Lit × DataW H) → Nat
  | [] => 0
  | x :: r => uptoBulkEntry x + uptoBulkEntries r
def uptoBulkEntry {H : Type} : Lit × DataW H → Nat
  | (.string bytes, d) => bytes.length + uptoBulk d + 1
  | (_, d) => uptoBulk d + 1
 end
def uptoSmall : (H : Type) → List (DataW H) → Bool := fun _ ds => decide (uptoBulkAll ds ≤ 1048576)
def OpenSpec.upto (s : _root_.Go.ChangeSpec) : _root_.Go.OpenSpec := { _root_.Go.OpenSpec.ofChange s with cond := some uptoSmall }

/-- 'laws.FnExactParsePlace', WHERE WHAT IT READS IS OF BULK AT MOST 1048576: true; the input reads as it did. -/
def fnExactParsePlaceUptoRow : OpenClaim := { program := "ytcopkapcgabkmaa", sum := "7e99464b40785daeb70ac0e904dc0789452d6fb4390566bdd65dd32d77aae30b", func := "loop.example/sortingoffice/laws.FnExactParsePlace", spec := "fnExactParsePlace", recurses := true, apart := false, narrowed := true }
def FnExactParsePlaceUptoSaid : Prop := fnExactParsePlaceUptoRow.holds Try.pinned (OpenSpec.upto fnExactParsePlaceSpec)

/-- 'laws.FnCheckValid', WHERE WHAT IT READS IS OF BULK AT MOST 1048576: true; the input reads as it did. -/
def fnCheckValidUptoRow : OpenClaim := { program := "ytcopkapcgabkmaa", sum := "7e99464b40785daeb70ac0e904dc0789452d6fb4390566bdd65dd32d77aae30b", func := "loop.example/sortingoffice/laws.FnCheckValid", spec := "fnCheckValid", recurses := true, apart := false, narrowed := true }
def FnCheckValidUptoSaid : Prop := fnCheckValidUptoRow.holds Try.pinned (OpenSpec.upto fnCheckValidSpec)

/-- 'laws.FnCheckDigit', WHERE WHAT IT READS IS OF BULK AT MOST 1048576: true; the input reads as it did. -/
def fnCheckDigitUptoRow : OpenClaim := { program := "ytcopkapcgabkmaa", sum := "7e99464b40785daeb70ac0e904dc0789452d6fb4390566bdd65dd32d77aae30b", func := "loop.example/sortingoffice/laws.FnCheckDigit", spec := "fnCheckDigit", recurses := true, apart := false, narrowed := true }
def FnCheckDigitUptoSaid : Prop := fnCheckDigitUptoRow.holds Try.pinned (OpenSpec.upto fnCheckDigitSpec)

/-- 'laws.FnPlaceCode', WHERE WHAT IT READS IS OF BULK AT MOST 1048576: true; the input reads as it did. -/
def fnPlaceCodeUptoRow : OpenClaim := { program := "ytcopkapcgabkmaa", sum := "7e99464b40785daeb70ac0e904dc0789452d6fb4390566bdd65dd32d77aae30b", func := "loop.example/sortingoffice/laws.FnPlaceCode", spec := "fnPlaceCode", recurses := true, apart := false, narrowed := true }
def FnPlaceCodeUptoSaid : Prop := fnPlaceCodeUptoRow.holds Try.pinned (OpenSpec.upto fnPlaceCodeSpec)

/-- 'laws.FnCodePlace', WHERE WHAT IT READS IS OF BULK AT MOST 1048576: true; the input reads as it did. -/
def fnCodePlaceUptoRow : OpenClaim := { program := "ytcopkapcgabkmaa", sum := "7e99464b40785daeb70ac0e904dc0789452d6fb4390566bdd65dd32d77aae30b", func := "loop.example/sortingoffice/laws.FnCodePlace", spec := "fnCodePlace", recurses := true, apart := false, narrowed := true }
def FnCodePlaceUptoSaid : Prop := fnCodePlaceUptoRow.holds Try.pinned (OpenSpec.upto fnCodePlaceSpec)

end Rows
end Go.Proofs.Ytcopkapcgabkmaa
