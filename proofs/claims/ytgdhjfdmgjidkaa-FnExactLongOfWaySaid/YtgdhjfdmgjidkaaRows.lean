/-
  No cell of these rows narrows 'for every input' (looked for: loops, veiled, ifaces, maps, wideKeys, modest, calm, conditions, laid).
  DERIVED. THE GIVEN ROWS OF THIS SEAT. 12 by the template 'for every input the law returns true; each argument reads behind the call as it read before'; 0 by the template 'total and deterministic' (their statements: YtgdhjfdmgjidkaaTotals.lean).
  GIVEN WITH THE SEED: the statements are not yours to turn. If you find one false, say at which input.
  Laid BY PROGRAM, IN A SANDBOX (cutbox-rows.mjs): the forced cells as the released guide's own fill.sh prints them over the translation d5f6d6264ad6d9ed… (all of the seat's roots in one cut). By AI agents, Wed Nov 11 2026. No macro, syntax, notation, axiom, sorry.
-/
import Derived.Test.YtgdhjfdmgjidkaaChecked
import GoSem.Claim
import GoSem.ClaimJoined
import GoSem.ClaimMapViews
import Derived.JoinedTies
import Derived.KernelRfl
namespace Go.Proofs.Ytgdhjfdmgjidkaa
/- THE CELL 'sum', in the pinned program and in every row, IS THE sha256 OF THE DUMP (.gsa) THAT YtgdhjfdmgjidkaaProg.lean LOADS. Nothing in Lean hashes anything: it is a label: what it is worth is what the hold of that sum in a sandbox is worth. -/
noncomputable def Try.pinned : Pinned := { name := "ytgdhjfdmgjidkaa", sum := "d5f6d6264ad6d9ed2b4e9a8b9755361b187f422ad9f3401ec968da6a843edbfe", checked := Try.checked }
namespace Rows
def none {H : Type} : Left H := { results := [], args := [] }

/-- 'laws.FnExactFromBits': WHATEVER THE INPUT: true; the input reads as it did. -/
def fnExactFromBitsSpec : ChangeSpec := { name := "fnExactFromBits", fn := fun _ => fun
  | [d] => { results := [.lit (.bool true)], args := [d] }
  | _ => none }
def fnExactFromBitsRow : OpenClaim := { program := "ytgdhjfdmgjidkaa", sum := "d5f6d6264ad6d9ed2b4e9a8b9755361b187f422ad9f3401ec968da6a843edbfe", func := "loop.example/g01341/laws.FnExactFromBits", spec := "fnExactFromBits", inPlace := ["math.Float32frombits"], apart := false }
def FnExactFromBitsSaid : Prop := fnExactFromBitsRow.holds Try.pinned (OpenSpec.ofChange fnExactFromBitsSpec)

/-- ITS FALSE NEIGHBOUR: 'it returns false'. Refute it at one input. -/
def fnExactFromBitsWrong : ChangeSpec := { name := "fnExactFromBits", fn := fun _ => fun
  | [d] => { results := [.lit (.bool false)], args := [d] }
  | _ => none }
def FnExactFromBitsWrongFalsely : Prop := fnExactFromBitsRow.holds Try.pinned (OpenSpec.ofChange fnExactFromBitsWrong)

/-- 'laws.FnExactPlaceOfSteps': WHATEVER THE INPUT: true; the input reads as it did. -/
def fnExactPlaceOfStepsSpec : ChangeSpec := { name := "fnExactPlaceOfSteps", fn := fun _ => fun
  | [d1, d2] => { results := [.lit (.bool true)], args := [d1, d2] }
  | _ => none }
def fnExactPlaceOfStepsRow : OpenClaim := { program := "ytgdhjfdmgjidkaa", sum := "d5f6d6264ad6d9ed2b4e9a8b9755361b187f422ad9f3401ec968da6a843edbfe", func := "loop.example/g01341/laws.FnExactPlaceOfSteps", spec := "fnExactPlaceOfSteps", apart := false }
def FnExactPlaceOfStepsSaid : Prop := fnExactPlaceOfStepsRow.holds Try.pinned (OpenSpec.ofChange fnExactPlaceOfStepsSpec)

/-- ITS FALSE NEIGHBOUR: 'it returns false'. Refute it at one input. -/
def fnExactPlaceOfStepsWrong : ChangeSpec := { name := "fnExactPlaceOfSteps", fn := fun _ => fun
  | [d1, d2] => { results := [.lit (.bool false)], args := [d1, d2] }
  | _ => none }
def FnExactPlaceOfStepsWrongFalsely : Prop := fnExactPlaceOfStepsRow.holds Try.pinned (OpenSpec.ofChange fnExactPlaceOfStepsWrong)

/-- 'laws.FnExactFlushNumber': WHATEVER THE INPUT: true; the input reads as it did. -/
def fnExactFlushNumberSpec : ChangeSpec := { name := "fnExactFlushNumber", fn := fun _ => fun
  | [d] => { results := [.lit (.bool true)], args := [d] }
  | _ => none }
def fnExactFlushNumberRow : OpenClaim := { program := "ytgdhjfdmgjidkaa", sum := "d5f6d6264ad6d9ed2b4e9a8b9755361b187f422ad9f3401ec968da6a843edbfe", func := "loop.example/g01341/laws.FnExactFlushNumber", spec := "fnExactFlushNumber", inPlace := ["math.Float32bits", "math.Float32frombits", "math.Float64bits", "math.Float64frombits"], apart := false }
def FnExactFlushNumberSaid : Prop := fnExactFlushNumberRow.holds Try.pinned (OpenSpec.ofChange fnExactFlushNumberSpec)

/-- ITS FALSE NEIGHBOUR: 'it returns false'. Refute it at one input. -/
def fnExactFlushNumberWrong : ChangeSpec := { name := "fnExactFlushNumber", fn := fun _ => fun
  | [d] => { results := [.lit (.bool false)], args := [d] }
  | _ => none }
def FnExactFlushNumberWrongFalsely : Prop := fnExactFlushNumberRow.holds Try.pinned (OpenSpec.ofChange fnExactFlushNumberWrong)

/-- 'laws.FnExactRootNumber': WHATEVER THE INPUT: true; the input reads as it did. -/
def fnExactRootNumberSpec : ChangeSpec := { name := "fnExactRootNumber", fn := fun _ => fun
  | [d] => { results := [.lit (.bool true)], args := [d] }
  | _ => none }
def fnExactRootNumberRow : OpenClaim := { program := "ytgdhjfdmgjidkaa", sum := "d5f6d6264ad6d9ed2b4e9a8b9755361b187f422ad9f3401ec968da6a843edbfe", func := "loop.example/g01341/laws.FnExactRootNumber", spec := "fnExactRootNumber", inPlace := ["math.sqrt"], apart := false }
def FnExactRootNumberSaid : Prop := fnExactRootNumberRow.holds Try.pinned (OpenSpec.ofChange fnExactRootNumberSpec)

/-- ITS FALSE NEIGHBOUR: 'it returns false'. Refute it at one input. -/
def fnExactRootNumberWrong : ChangeSpec := { name := "fnExactRootNumber", fn := fun _ => fun
  | [d] => { results := [.lit (.bool false)], args := [d] }
  | _ => none }
def FnExactRootNumberWrongFalsely : Prop := fnExactRootNumberRow.holds Try.pinned (OpenSpec.ofChange fnExactRootNumberWrong)

/-- 'laws.FnExactDotWays': WHATEVER THE INPUT: true; the input reads as it did. -/
def fnExactDotWaysSpec : ChangeSpec := { name := "fnExactDotWays", fn := fun _ => fun
  | [d1, d2] => { results := [.lit (.bool true)], args := [d1, d2] }
  | _ => none }
def fnExactDotWaysRow : OpenClaim := { program := "ytgdhjfdmgjidkaa", sum := "d5f6d6264ad6d9ed2b4e9a8b9755361b187f422ad9f3401ec968da6a843edbfe", func := "loop.example/g01341/laws.FnExactDotWays", spec := "fnExactDotWays", apart := false }
def FnExactDotWaysSaid : Prop := fnExactDotWaysRow.holds Try.pinned (OpenSpec.ofChange fnExactDotWaysSpec)

/-- ITS FALSE NEIGHBOUR: 'it returns false'. Refute it at one input. -/
def fnExactDotWaysWrong : ChangeSpec := { name := "fnExactDotWays", fn := fun _ => fun
  | [d1, d2] => { results := [.lit (.bool false)], args := [d1, d2] }
  | _ => none }
def FnExactDotWaysWrongFalsely : Prop := fnExactDotWaysRow.holds Try.pinned (OpenSpec.ofChange fnExactDotWaysWrong)

/-- 'laws.FnExactCrossWays': WHATEVER THE INPUT: true; the input reads as it did. -/
def fnExactCrossWaysSpec : ChangeSpec := { name := "fnExactCrossWays", fn := fun _ => fun
  | [d1, d2] => { results := [.lit (.bool true)], args := [d1, d2] }
  | _ => none }
def fnExactCrossWaysRow : OpenClaim := { program := "ytgdhjfdmgjidkaa", sum := "d5f6d6264ad6d9ed2b4e9a8b9755361b187f422ad9f3401ec968da6a843edbfe", func := "loop.example/g01341/laws.FnExactCrossWays", spec := "fnExactCrossWays", apart := false }
def FnExactCrossWaysSaid : Prop := fnExactCrossWaysRow.holds Try.pinned (OpenSpec.ofChange fnExactCrossWaysSpec)

/-- ITS FALSE NEIGHBOUR: 'it returns false'. Refute it at one input. -/
def fnExactCrossWaysWrong : ChangeSpec := { name := "fnExactCrossWays", fn := fun _ => fun
  | [d1, d2] => { results := [.lit (.bool false)], args := [d1, d2] }
  | _ => none }
def FnExactCrossWaysWrongFalsely : Prop := fnExactCrossWaysRow.holds Try.pinned (OpenSpec.ofChange fnExactCrossWaysWrong)

/-- 'laws.FnExactLongOfWay': WHATEVER THE INPUT: true; the input reads as it did. -/
def fnExactLongOfWaySpec : ChangeSpec := { name := "fnExactLongOfWay", fn := fun _ => fun
  | [d] => { results := [.lit (.bool true)], args := [d] }
  | _ => none }
def fnExactLongOfWayRow : OpenClaim := { program := "ytgdhjfdmgjidkaa", sum := "d5f6d6264ad6d9ed2b4e9a8b9755361b187f422ad9f3401ec968da6a843edbfe", func := "loop.example/g01341/laws.FnExactLongOfWay", spec := "fnExactLongOfWay", inPlace := ["math.sqrt"], apart := false }
def FnExactLongOfWaySaid : Prop := fnExactLongOfWayRow.holds Try.pinned (OpenSpec.ofChange fnExactLongOfWaySpec)

/-- ITS FALSE NEIGHBOUR: 'it returns false'. Refute it at one input. -/
def fnExactLongOfWayWrong : ChangeSpec := { name := "fnExactLongOfWay", fn := fun _ => fun
  | [d] => { results := [.lit (.bool false)], args := [d] }
  | _ => none }
def FnExactLongOfWayWrongFalsely : Prop := fnExactLongOfWayRow.holds Try.pinned (OpenSpec.ofChange fnExactLongOfWayWrong)

/-- 'laws.FnExactDotNumbers': WHATEVER THE INPUT: true; the input reads as it did. -/
def fnExactDotNumbersSpec : ChangeSpec := { name := "fnExactDotNumbers", fn := fun _ => fun
  | [d1, d2] => { results := [.lit (.bool true)], args := [d1, d2] }
  | _ => none }
def fnExactDotNumbersRow : OpenClaim := { program := "ytgdhjfdmgjidkaa", sum := "d5f6d6264ad6d9ed2b4e9a8b9755361b187f422ad9f3401ec968da6a843edbfe", func := "loop.example/g01341/laws.FnExactDotNumbers", spec := "fnExactDotNumbers", apart := false }
def FnExactDotNumbersSaid : Prop := fnExactDotNumbersRow.holds Try.pinned (OpenSpec.ofChange fnExactDotNumbersSpec)

/-- ITS FALSE NEIGHBOUR: 'it returns false'. Refute it at one input. -/
def fnExactDotNumbersWrong : ChangeSpec := { name := "fnExactDotNumbers", fn := fun _ => fun
  | [d1, d2] => { results := [.lit (.bool false)], args := [d1, d2] }
  | _ => none }
def FnExactDotNumbersWrongFalsely : Prop := fnExactDotNumbersRow.holds Try.pinned (OpenSpec.ofChange fnExactDotNumbersWrong)

/-- 'laws.FnExactSumNumbers': WHATEVER THE INPUT: true; the input reads as it did. -/
def fnExactSumNumbersSpec : ChangeSpec := { name := "fnExactSumNumbers", fn := fun _ => fun
  | [d] => { results := [.lit (.bool true)], args := [d] }
  | _ => none }
def fnExactSumNumbersRow : OpenClaim := { program := "ytgdhjfdmgjidkaa", sum := "d5f6d6264ad6d9ed2b4e9a8b9755361b187f422ad9f3401ec968da6a843edbfe", func := "loop.example/g01341/laws.FnExactSumNumbers", spec := "fnExactSumNumbers", apart := false }
def FnExactSumNumbersSaid : Prop := fnExactSumNumbersRow.holds Try.pinned (OpenSpec.ofChange fnExactSumNumbersSpec)

/-- ITS FALSE NEIGHBOUR: 'it returns false'. Refute it at one input. -/
def fnExactSumNumbersWrong : ChangeSpec := { name := "fnExactSumNumbers", fn := fun _ => fun
  | [d] => { results := [.lit (.bool false)], args := [d] }
  | _ => none }
def FnExactSumNumbersWrongFalsely : Prop := fnExactSumNumbersRow.holds Try.pinned (OpenSpec.ofChange fnExactSumNumbersWrong)

/-- 'laws.FnExactExpNumber': WHATEVER THE INPUT: true; the input reads as it did. -/
def fnExactExpNumberSpec : ChangeSpec := { name := "fnExactExpNumber", fn := fun _ => fun
  | [d] => { results := [.lit (.bool true)], args := [d] }
  | _ => none }
def fnExactExpNumberRow : OpenClaim := { program := "ytgdhjfdmgjidkaa", sum := "d5f6d6264ad6d9ed2b4e9a8b9755361b187f422ad9f3401ec968da6a843edbfe", func := "loop.example/g01341/laws.FnExactExpNumber", spec := "fnExactExpNumber", inPlace := ["math.Float64frombits"], apart := false }
def FnExactExpNumberSaid : Prop := fnExactExpNumberRow.holds Try.pinned (OpenSpec.ofChange fnExactExpNumberSpec)

/-- ITS FALSE NEIGHBOUR: 'it returns false'. Refute it at one input. -/
def fnExactExpNumberWrong : ChangeSpec := { name := "fnExactExpNumber", fn := fun _ => fun
  | [d] => { results := [.lit (.bool false)], args := [d] }
  | _ => none }
def FnExactExpNumberWrongFalsely : Prop := fnExactExpNumberRow.holds Try.pinned (OpenSpec.ofChange fnExactExpNumberWrong)

/-- 'laws.FnExactLogNumber': WHATEVER THE INPUT: true; the input reads as it did. -/
def fnExactLogNumberSpec : ChangeSpec := { name := "fnExactLogNumber", fn := fun _ => fun
  | [d] => { results := [.lit (.bool true)], args := [d] }
  | _ => none }
def fnExactLogNumberRow : OpenClaim := { program := "ytgdhjfdmgjidkaa", sum := "d5f6d6264ad6d9ed2b4e9a8b9755361b187f422ad9f3401ec968da6a843edbfe", func := "loop.example/g01341/laws.FnExactLogNumber", spec := "fnExactLogNumber", inPlace := ["math.Float64frombits", "math.Float64bits"], apart := false }
def FnExactLogNumberSaid : Prop := fnExactLogNumberRow.holds Try.pinned (OpenSpec.ofChange fnExactLogNumberSpec)

/-- ITS FALSE NEIGHBOUR: 'it returns false'. Refute it at one input. -/
def fnExactLogNumberWrong : ChangeSpec := { name := "fnExactLogNumber", fn := fun _ => fun
  | [d] => { results := [.lit (.bool false)], args := [d] }
  | _ => none }
def FnExactLogNumberWrongFalsely : Prop := fnExactLogNumberRow.holds Try.pinned (OpenSpec.ofChange fnExactLogNumberWrong)

/-- 'laws.FnPowers': WHATEVER THE INPUT: true; the input reads as it did. -/
def fnPowersSpec : ChangeSpec := { name := "fnPowers", fn := fun _ => fun
  | [d1, d2] => { results := [.lit (.bool true)], args := [d1, d2] }
  | _ => none }
def fnPowersRow : OpenClaim := { program := "ytgdhjfdmgjidkaa", sum := "d5f6d6264ad6d9ed2b4e9a8b9755361b187f422ad9f3401ec968da6a843edbfe", func := "loop.example/g01341/laws.FnPowers", spec := "fnPowers", inPlace := ["math.Float64frombits"], apart := false }
def FnPowersSaid : Prop := fnPowersRow.holds Try.pinned (OpenSpec.ofChange fnPowersSpec)

/-- ITS FALSE NEIGHBOUR: 'it returns false'. Refute it at one input. -/
def fnPowersWrong : ChangeSpec := { name := "fnPowers", fn := fun _ => fun
  | [d1, d2] => { results := [.lit (.bool false)], args := [d1, d2] }
  | _ => none }
def FnPowersWrongFalsely : Prop := fnPowersRow.holds Try.pinned (OpenSpec.ofChange fnPowersWrong)

/- THE SECOND FORM. 'bulk': how many values and letters a reading holds, each counted each time it is reached (what is shared counts as often as it is met; a slice's spare places count too). A statement '..UptoSaid' is the law's where the arguments, and the package variables that the reading takes, are together of bulk at most 1048576: NARROWER than '..Said'. Prove '..Said' where nothing that the law and all that it calls make is longer than what came in: it says more and counts as full. Else prove '..UptoSaid'. A law counts once. -/
mutual
def uptoBulk {H : Type} : DataW H → Nat
  | .lit (.string bytes) => bytes.length + 1
  | .lit _ => 1
  | .nil => 1
  | .ptr d => uptoBulk d + 1
  | .slice elems spare => uptoBulkAll elems + uptoBulkAll spare + 1
  | .agg parts => uptoBulkAll parts + 1
  | .iface _ d => uptoBulk d + 1
  | .map entries => uptoBulkEntries entries + 1
  | .held _ => 1
def uptoBulkAll {H : Type} : List (DataW H) → Nat
  | [] => 0
  | d :: r => uptoBulk d + uptoBulkAll r
def uptoBulkEntries {H : Type} : List (Lit × DataW H) → Nat
  | [] => 0
  | x :: r => uptoBulkEntry x + uptoBulkEntries r
def uptoBulkEntry {H : Type} : Lit × DataW H → Nat
  | (.string bytes, d) => bytes.length + uptoBulk d + 1
  | (_, d) => uptoBulk d + 1
 end
def uptoSmall : (H : Type) → List (DataW H) → Bool := fun _ ds => decide (uptoBulkAll ds ≤ 1048576)
def OpenSpec.upto (s : _root_.Go.ChangeSpec) : _root_.Go.OpenSpec := { _root_.Go.OpenSpec.ofChange s with cond := some uptoSmall }

/-- 'laws.FnExactFromBits', WHERE WHAT IT READS IS OF BULK AT MOST 1048576: true; the input reads as it did. -/
def fnExactFromBitsUptoRow : OpenClaim := { program := "ytgdhjfdmgjidkaa", sum := "d5f6d6264ad6d9ed2b4e9a8b9755361b187f422ad9f3401ec968da6a843edbfe", func := "loop.example/g01341/laws.FnExactFromBits", spec := "fnExactFromBits", inPlace := ["math.Float32frombits"], apart := false, narrowed := true }
def FnExactFromBitsUptoSaid : Prop := fnExactFromBitsUptoRow.holds Try.pinned (OpenSpec.upto fnExactFromBitsSpec)

/-- 'laws.FnExactPlaceOfSteps', WHERE WHAT IT READS IS OF BULK AT MOST 1048576: true; the input reads as it did. -/
def fnExactPlaceOfStepsUptoRow : OpenClaim := { program := "ytgdhjfdmgjidkaa", sum := "d5f6d6264ad6d9ed2b4e9a8b9755361b187f422ad9f3401ec968da6a843edbfe", func := "loop.example/g01341/laws.FnExactPlaceOfSteps", spec := "fnExactPlaceOfSteps", apart := false, narrowed := true }
def FnExactPlaceOfStepsUptoSaid : Prop := fnExactPlaceOfStepsUptoRow.holds Try.pinned (OpenSpec.upto fnExactPlaceOfStepsSpec)

/-- 'laws.FnExactFlushNumber', WHERE WHAT IT READS IS OF BULK AT MOST 1048576: true; the input reads as it did. -/
def fnExactFlushNumberUptoRow : OpenClaim := { program := "ytgdhjfdmgjidkaa", sum := "d5f6d6264ad6d9ed2b4e9a8b9755361b187f422ad9f3401ec968da6a843edbfe", func := "loop.example/g01341/laws.FnExactFlushNumber", spec := "fnExactFlushNumber", inPlace := ["math.Float32bits", "math.Float32frombits", "math.Float64bits", "math.Float64frombits"], apart := false, narrowed := true }
def FnExactFlushNumberUptoSaid : Prop := fnExactFlushNumberUptoRow.holds Try.pinned (OpenSpec.upto fnExactFlushNumberSpec)

/-- 'laws.FnExactRootNumber', WHERE WHAT IT READS IS OF BULK AT MOST 1048576: true; the input reads as it did. -/
def fnExactRootNumberUptoRow : OpenClaim := { program := "ytgdhjfdmgjidkaa", sum := "d5f6d6264ad6d9ed2b4e9a8b9755361b187f422ad9f3401ec968da6a843edbfe", func := "loop.example/g01341/laws.FnExactRootNumber", spec := "fnExactRootNumber", inPlace := ["math.sqrt"], apart := false, narrowed := true }
def FnExactRootNumberUptoSaid : Prop := fnExactRootNumberUptoRow.holds Try.pinned (OpenSpec.upto fnExactRootNumberSpec)

/-- 'laws.FnExactDotWays', WHERE WHAT IT READS IS OF BULK AT MOST 1048576: true; the input reads as it did. -/
def fnExactDotWaysUptoRow : OpenClaim := { program := "ytgdhjfdmgjidkaa", sum := "d5f6d6264ad6d9ed2b4e9a8b9755361b187f422ad9f3401ec968da6a843edbfe", func := "loop.example/g01341/laws.FnExactDotWays", spec := "fnExactDotWays", apart := false, narrowed := true }
def FnExactDotWaysUptoSaid : Prop := fnExactDotWaysUptoRow.holds Try.pinned (OpenSpec.upto fnExactDotWaysSpec)

/-- 'laws.FnExactCrossWays', WHERE WHAT IT READS IS OF BULK AT MOST 1048576: true; the input reads as it did. -/
def fnExactCrossWaysUptoRow : OpenClaim := { program := "ytgdhjfdmgjidkaa", sum := "d5f6d6264ad6d9ed2b4e9a8b9755361b187f422ad9f3401ec968da6a843edbfe", func := "loop.example/g01341/laws.FnExactCrossWays", spec := "fnExactCrossWays", apart := false, narrowed := true }
def FnExactCrossWaysUptoSaid : Prop := fnExactCrossWaysUptoRow.holds Try.pinned (OpenSpec.upto fnExactCrossWaysSpec)

/-- 'laws.FnExactLongOfWay', WHERE WHAT IT READS IS OF BULK AT MOST 1048576: true; the input reads as it did. -/
def fnExactLongOfWayUptoRow : OpenClaim := { program := "ytgdhjfdmgjidkaa", sum := "d5f6d6264ad6d9ed2b4e9a8b9755361b187f422ad9f3401ec968da6a843edbfe", func := "loop.example/g01341/laws.FnExactLongOfWay", spec := "fnExactLongOfWay", inPlace := ["math.sqrt"], apart := false, narrowed := true }
def FnExactLongOfWayUptoSaid : Prop := fnExactLongOfWayUptoRow.holds Try.pinned (OpenSpec.upto fnExactLongOfWaySpec)

/-- 'laws.FnExactDotNumbers', WHERE WHAT IT READS IS OF BULK AT MOST 1048576: true; the input reads as it did. -/
def fnExactDotNumbersUptoRow : OpenClaim := { program := "ytgdhjfdmgjidkaa", sum := "d5f6d6264ad6d9ed2b4e9a8b9755361b187f422ad9f3401ec968da6a843edbfe", func := "loop.example/g01341/laws.FnExactDotNumbers", spec := "fnExactDotNumbers", apart := false, narrowed := true }
def FnExactDotNumbersUptoSaid : Prop := fnExactDotNumbersUptoRow.holds Try.pinned (OpenSpec.upto fnExactDotNumbersSpec)

/-- 'laws.FnExactSumNumbers', WHERE WHAT IT READS IS OF BULK AT MOST 1048576: true; the input reads as it did. -/
def fnExactSumNumbersUptoRow : OpenClaim := { program := "ytgdhjfdmgjidkaa", sum := "d5f6d6264ad6d9ed2b4e9a8b9755361b187f422ad9f3401ec968da6a843edbfe", func := "loop.example/g01341/laws.FnExactSumNumbers", spec := "fnExactSumNumbers", apart := false, narrowed := true }
def FnExactSumNumbersUptoSaid : Prop := fnExactSumNumbersUptoRow.holds Try.pinned (OpenSpec.upto fnExactSumNumbersSpec)

/-- 'laws.FnExactExpNumber', WHERE WHAT IT READS IS OF BULK AT MOST 1048576: true; the input reads as it did. -/
def fnExactExpNumberUptoRow : OpenClaim := { program := "ytgdhjfdmgjidkaa", sum := "d5f6d6264ad6d9ed2b4e9a8b9755361b187f422ad9f3401ec968da6a843edbfe", func := "loop.example/g01341/laws.FnExactExpNumber", spec := "fnExactExpNumber", inPlace := ["math.Float64frombits"], apart := false, narrowed := true }
def FnExactExpNumberUptoSaid : Prop := fnExactExpNumberUptoRow.holds Try.pinned (OpenSpec.upto fnExactExpNumberSpec)

/-- 'laws.FnExactLogNumber', WHERE WHAT IT READS IS OF BULK AT MOST 1048576: true; the input reads as it did. -/
def fnExactLogNumberUptoRow : OpenClaim := { program := "ytgdhjfdmgjidkaa", sum := "d5f6d6264ad6d9ed2b4e9a8b9755361b187f422ad9f3401ec968da6a843edbfe", func := "loop.example/g01341/laws.FnExactLogNumber", spec := "fnExactLogNumber", inPlace := ["math.Float64frombits", "math.Float64bits"], apart := false, narrowed := true }
def FnExactLogNumberUptoSaid : Prop := fnExactLogNumberUptoRow.holds Try.pinned (OpenSpec.upto fnExactLogNumberSpec)

/-- 'laws.FnPowers', WHERE WHAT IT READS IS OF BULK AT MOST 1048576: true; the input reads as it did. -/
def fnPowersUptoRow : OpenClaim := { program := "ytgdhjfdmgjidkaa", sum := "d5f6d6264ad6d9ed2b4e9a8b9755361b187f422ad9f3401ec968da6a843edbfe", func := "loop.example/g01341/laws.FnPowers", spec := "fnPowers", inPlace := ["math.Float64frombits"], apart := false, narrowed := true }
def FnPowersUptoSaid : Prop := fnPowersUptoRow.holds Try.pinned (OpenSpec.upto fnPowersSpec)

end Rows
end Go.Proofs.Ytgdhjfdmgjidkaa
