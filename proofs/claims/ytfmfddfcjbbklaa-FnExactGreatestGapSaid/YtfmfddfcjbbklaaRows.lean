/-
  No cell of these rows narrows 'for every input' (looked for: loops, veiled, ifaces, maps, wideKeys, modest, calm, conditions, laid).
  DERIVED. THE GIVEN ROWS OF THIS SEAT. 12 by the template 'for every input the law returns true; each argument reads behind the call as it read before'; 0 by the template 'total and deterministic' (their statements: YtfmfddfcjbbklaaTotals.lean).
  GIVEN WITH THE SEED: the statements are not yours to turn. If you find one false, say at which input.
  Laid BY PROGRAM, IN A SANDBOX (cutbox-rows.mjs): the forced cells as the released guide's own fill.sh prints them over the translation 7b188fff0f033c1c… (all of the seat's roots in one cut). By AI agents, Wed Nov 11 2026. No macro, syntax, notation, axiom, sorry.
-/
import Derived.Test.YtfmfddfcjbbklaaChecked
import GoSem.Claim
import GoSem.ClaimJoined
import GoSem.ClaimMapViews
import Derived.JoinedTies
import Derived.KernelRfl
namespace Go.Proofs.Ytfmfddfcjbbklaa
/- THE CELL 'sum', in the pinned program and in every row, IS THE sha256 OF THE DUMP (.gsa) THAT YtfmfddfcjbbklaaProg.lean LOADS. Nothing in Lean hashes anything: it is a label: what it is worth is what the hold of that sum in a sandbox is worth. -/
noncomputable def Try.pinned : Pinned := { name := "ytfmfddfcjbbklaa", sum := "7b188fff0f033c1cf5311e559a31078abbf78460583573560002913584b95e69", checked := Try.checked }
namespace Rows
def none {H : Type} : Left H := { results := [], args := [] }

/-- 'laws.FnExactValidTensor': WHATEVER THE INPUT: true; the input reads as it did. -/
def fnExactValidTensorSpec : ChangeSpec := { name := "fnExactValidTensor", fn := fun _ => fun
  | [d] => { results := [.lit (.bool true)], args := [d] }
  | _ => none }
def fnExactValidTensorRow : OpenClaim := { program := "ytfmfddfcjbbklaa", sum := "7b188fff0f033c1cf5311e559a31078abbf78460583573560002913584b95e69", func := "loop.example/g01157/laws.FnExactValidTensor", spec := "fnExactValidTensor", apart := false }
def FnExactValidTensorSaid : Prop := fnExactValidTensorRow.holds Try.pinned (OpenSpec.ofChange fnExactValidTensorSpec)

/-- ITS FALSE NEIGHBOUR: 'it returns false'. Refute it at one input. -/
def fnExactValidTensorWrong : ChangeSpec := { name := "fnExactValidTensor", fn := fun _ => fun
  | [d] => { results := [.lit (.bool false)], args := [d] }
  | _ => none }
def FnExactValidTensorWrongFalsely : Prop := fnExactValidTensorRow.holds Try.pinned (OpenSpec.ofChange fnExactValidTensorWrong)

/-- 'laws.FnExactSumAll': WHATEVER THE INPUT: true; the input reads as it did. -/
def fnExactSumAllSpec : ChangeSpec := { name := "fnExactSumAll", fn := fun _ => fun
  | [d] => { results := [.lit (.bool true)], args := [d] }
  | _ => none }
def fnExactSumAllRow : OpenClaim := { program := "ytfmfddfcjbbklaa", sum := "7b188fff0f033c1cf5311e559a31078abbf78460583573560002913584b95e69", func := "loop.example/g01157/laws.FnExactSumAll", spec := "fnExactSumAll", apart := false }
def FnExactSumAllSaid : Prop := fnExactSumAllRow.holds Try.pinned (OpenSpec.ofChange fnExactSumAllSpec)

/-- ITS FALSE NEIGHBOUR: 'it returns false'. Refute it at one input. -/
def fnExactSumAllWrong : ChangeSpec := { name := "fnExactSumAll", fn := fun _ => fun
  | [d] => { results := [.lit (.bool false)], args := [d] }
  | _ => none }
def FnExactSumAllWrongFalsely : Prop := fnExactSumAllRow.holds Try.pinned (OpenSpec.ofChange fnExactSumAllWrong)

/-- 'laws.FnExactGreatestGap': WHATEVER THE INPUT: true; the input reads as it did. -/
def fnExactGreatestGapSpec : ChangeSpec := { name := "fnExactGreatestGap", fn := fun _ => fun
  | [d1, d2] => { results := [.lit (.bool true)], args := [d1, d2] }
  | _ => none }
def fnExactGreatestGapRow : OpenClaim := { program := "ytfmfddfcjbbklaa", sum := "7b188fff0f033c1cf5311e559a31078abbf78460583573560002913584b95e69", func := "loop.example/g01157/laws.FnExactGreatestGap", spec := "fnExactGreatestGap", inPlace := ["math.Float64bits", "math.Float64frombits"], apart := false }
def FnExactGreatestGapSaid : Prop := fnExactGreatestGapRow.holds Try.pinned (OpenSpec.ofChange fnExactGreatestGapSpec)

/-- ITS FALSE NEIGHBOUR: 'it returns false'. Refute it at one input. -/
def fnExactGreatestGapWrong : ChangeSpec := { name := "fnExactGreatestGap", fn := fun _ => fun
  | [d1, d2] => { results := [.lit (.bool false)], args := [d1, d2] }
  | _ => none }
def FnExactGreatestGapWrongFalsely : Prop := fnExactGreatestGapRow.holds Try.pinned (OpenSpec.ofChange fnExactGreatestGapWrong)

/-- 'laws.FnExactRowOf': WHATEVER THE INPUT: true; the input reads as it did. -/
def fnExactRowOfSpec : ChangeSpec := { name := "fnExactRowOf", fn := fun _ => fun
  | [d1, d2] => { results := [.lit (.bool true)], args := [d1, d2] }
  | _ => none }
def fnExactRowOfRow : OpenClaim := { program := "ytfmfddfcjbbklaa", sum := "7b188fff0f033c1cf5311e559a31078abbf78460583573560002913584b95e69", func := "loop.example/g01157/laws.FnExactRowOf", spec := "fnExactRowOf", apart := false }
def FnExactRowOfSaid : Prop := fnExactRowOfRow.holds Try.pinned (OpenSpec.ofChange fnExactRowOfSpec)

/-- ITS FALSE NEIGHBOUR: 'it returns false'. Refute it at one input. -/
def fnExactRowOfWrong : ChangeSpec := { name := "fnExactRowOf", fn := fun _ => fun
  | [d1, d2] => { results := [.lit (.bool false)], args := [d1, d2] }
  | _ => none }
def FnExactRowOfWrongFalsely : Prop := fnExactRowOfRow.holds Try.pinned (OpenSpec.ofChange fnExactRowOfWrong)

/-- 'laws.FnExactSumRows': WHATEVER THE INPUT: true; the input reads as it did. -/
def fnExactSumRowsSpec : ChangeSpec := { name := "fnExactSumRows", fn := fun _ => fun
  | [d] => { results := [.lit (.bool true)], args := [d] }
  | _ => none }
def fnExactSumRowsRow : OpenClaim := { program := "ytfmfddfcjbbklaa", sum := "7b188fff0f033c1cf5311e559a31078abbf78460583573560002913584b95e69", func := "loop.example/g01157/laws.FnExactSumRows", spec := "fnExactSumRows", apart := false }
def FnExactSumRowsSaid : Prop := fnExactSumRowsRow.holds Try.pinned (OpenSpec.ofChange fnExactSumRowsSpec)

/-- ITS FALSE NEIGHBOUR: 'it returns false'. Refute it at one input. -/
def fnExactSumRowsWrong : ChangeSpec := { name := "fnExactSumRows", fn := fun _ => fun
  | [d] => { results := [.lit (.bool false)], args := [d] }
  | _ => none }
def FnExactSumRowsWrongFalsely : Prop := fnExactSumRowsRow.holds Try.pinned (OpenSpec.ofChange fnExactSumRowsWrong)

/-- 'laws.FnExactSameTensors': WHATEVER THE INPUT: true; the input reads as it did. -/
def fnExactSameTensorsSpec : ChangeSpec := { name := "fnExactSameTensors", fn := fun _ => fun
  | [d1, d2] => { results := [.lit (.bool true)], args := [d1, d2] }
  | _ => none }
def fnExactSameTensorsRow : OpenClaim := { program := "ytfmfddfcjbbklaa", sum := "7b188fff0f033c1cf5311e559a31078abbf78460583573560002913584b95e69", func := "loop.example/g01157/laws.FnExactSameTensors", spec := "fnExactSameTensors", inPlace := ["math.Float32bits", "math.Float64bits"], unfollowed := true, recurses := true, apart := false }
def FnExactSameTensorsSaid : Prop := fnExactSameTensorsRow.holds Try.pinned (OpenSpec.ofChange fnExactSameTensorsSpec)

/-- ITS FALSE NEIGHBOUR: 'it returns false'. Refute it at one input. -/
def fnExactSameTensorsWrong : ChangeSpec := { name := "fnExactSameTensors", fn := fun _ => fun
  | [d1, d2] => { results := [.lit (.bool false)], args := [d1, d2] }
  | _ => none }
def FnExactSameTensorsWrongFalsely : Prop := fnExactSameTensorsRow.holds Try.pinned (OpenSpec.ofChange fnExactSameTensorsWrong)

/-- 'laws.FnExactSliceRows': WHATEVER THE INPUT: true; the input reads as it did. -/
def fnExactSliceRowsSpec : ChangeSpec := { name := "fnExactSliceRows", fn := fun _ => fun
  | [d1, d2, d3] => { results := [.lit (.bool true)], args := [d1, d2, d3] }
  | _ => none }
def fnExactSliceRowsRow : OpenClaim := { program := "ytfmfddfcjbbklaa", sum := "7b188fff0f033c1cf5311e559a31078abbf78460583573560002913584b95e69", func := "loop.example/g01157/laws.FnExactSliceRows", spec := "fnExactSliceRows", apart := false }
def FnExactSliceRowsSaid : Prop := fnExactSliceRowsRow.holds Try.pinned (OpenSpec.ofChange fnExactSliceRowsSpec)

/-- ITS FALSE NEIGHBOUR: 'it returns false'. Refute it at one input. -/
def fnExactSliceRowsWrong : ChangeSpec := { name := "fnExactSliceRows", fn := fun _ => fun
  | [d1, d2, d3] => { results := [.lit (.bool false)], args := [d1, d2, d3] }
  | _ => none }
def FnExactSliceRowsWrongFalsely : Prop := fnExactSliceRowsRow.holds Try.pinned (OpenSpec.ofChange fnExactSliceRowsWrong)

/-- 'laws.FnExactScaleTensor': WHATEVER THE INPUT: true; the input reads as it did. -/
def fnExactScaleTensorSpec : ChangeSpec := { name := "fnExactScaleTensor", fn := fun _ => fun
  | [d1, d2] => { results := [.lit (.bool true)], args := [d1, d2] }
  | _ => none }
def fnExactScaleTensorRow : OpenClaim := { program := "ytfmfddfcjbbklaa", sum := "7b188fff0f033c1cf5311e559a31078abbf78460583573560002913584b95e69", func := "loop.example/g01157/laws.FnExactScaleTensor", spec := "fnExactScaleTensor", unfollowed := true, recurses := true, apart := false }
def FnExactScaleTensorSaid : Prop := fnExactScaleTensorRow.holds Try.pinned (OpenSpec.ofChange fnExactScaleTensorSpec)

/-- ITS FALSE NEIGHBOUR: 'it returns false'. Refute it at one input. -/
def fnExactScaleTensorWrong : ChangeSpec := { name := "fnExactScaleTensor", fn := fun _ => fun
  | [d1, d2] => { results := [.lit (.bool false)], args := [d1, d2] }
  | _ => none }
def FnExactScaleTensorWrongFalsely : Prop := fnExactScaleTensorRow.holds Try.pinned (OpenSpec.ofChange fnExactScaleTensorWrong)

/-- 'laws.FnExactAddRow': WHATEVER THE INPUT: true; the input reads as it did. -/
def fnExactAddRowSpec : ChangeSpec := { name := "fnExactAddRow", fn := fun _ => fun
  | [d1, d2] => { results := [.lit (.bool true)], args := [d1, d2] }
  | _ => none }
def fnExactAddRowRow : OpenClaim := { program := "ytfmfddfcjbbklaa", sum := "7b188fff0f033c1cf5311e559a31078abbf78460583573560002913584b95e69", func := "loop.example/g01157/laws.FnExactAddRow", spec := "fnExactAddRow", unfollowed := true, recurses := true, apart := false }
def FnExactAddRowSaid : Prop := fnExactAddRowRow.holds Try.pinned (OpenSpec.ofChange fnExactAddRowSpec)

/-- ITS FALSE NEIGHBOUR: 'it returns false'. Refute it at one input. -/
def fnExactAddRowWrong : ChangeSpec := { name := "fnExactAddRow", fn := fun _ => fun
  | [d1, d2] => { results := [.lit (.bool false)], args := [d1, d2] }
  | _ => none }
def FnExactAddRowWrongFalsely : Prop := fnExactAddRowRow.holds Try.pinned (OpenSpec.ofChange fnExactAddRowWrong)

/-- 'laws.FnExactMulRow': WHATEVER THE INPUT: true; the input reads as it did. -/
def fnExactMulRowSpec : ChangeSpec := { name := "fnExactMulRow", fn := fun _ => fun
  | [d1, d2] => { results := [.lit (.bool true)], args := [d1, d2] }
  | _ => none }
def fnExactMulRowRow : OpenClaim := { program := "ytfmfddfcjbbklaa", sum := "7b188fff0f033c1cf5311e559a31078abbf78460583573560002913584b95e69", func := "loop.example/g01157/laws.FnExactMulRow", spec := "fnExactMulRow", unfollowed := true, recurses := true, apart := false }
def FnExactMulRowSaid : Prop := fnExactMulRowRow.holds Try.pinned (OpenSpec.ofChange fnExactMulRowSpec)

/-- ITS FALSE NEIGHBOUR: 'it returns false'. Refute it at one input. -/
def fnExactMulRowWrong : ChangeSpec := { name := "fnExactMulRow", fn := fun _ => fun
  | [d1, d2] => { results := [.lit (.bool false)], args := [d1, d2] }
  | _ => none }
def FnExactMulRowWrongFalsely : Prop := fnExactMulRowRow.holds Try.pinned (OpenSpec.ofChange fnExactMulRowWrong)

/-- 'laws.FnExactAddTensors': WHATEVER THE INPUT: true; the input reads as it did. -/
def fnExactAddTensorsSpec : ChangeSpec := { name := "fnExactAddTensors", fn := fun _ => fun
  | [d1, d2] => { results := [.lit (.bool true)], args := [d1, d2] }
  | _ => none }
def fnExactAddTensorsRow : OpenClaim := { program := "ytfmfddfcjbbklaa", sum := "7b188fff0f033c1cf5311e559a31078abbf78460583573560002913584b95e69", func := "loop.example/g01157/laws.FnExactAddTensors", spec := "fnExactAddTensors", unfollowed := true, recurses := true, apart := false }
def FnExactAddTensorsSaid : Prop := fnExactAddTensorsRow.holds Try.pinned (OpenSpec.ofChange fnExactAddTensorsSpec)

/-- ITS FALSE NEIGHBOUR: 'it returns false'. Refute it at one input. -/
def fnExactAddTensorsWrong : ChangeSpec := { name := "fnExactAddTensors", fn := fun _ => fun
  | [d1, d2] => { results := [.lit (.bool false)], args := [d1, d2] }
  | _ => none }
def FnExactAddTensorsWrongFalsely : Prop := fnExactAddTensorsRow.holds Try.pinned (OpenSpec.ofChange fnExactAddTensorsWrong)

/-- 'laws.FnExactMulTensors': WHATEVER THE INPUT: true; the input reads as it did. -/
def fnExactMulTensorsSpec : ChangeSpec := { name := "fnExactMulTensors", fn := fun _ => fun
  | [d1, d2] => { results := [.lit (.bool true)], args := [d1, d2] }
  | _ => none }
def fnExactMulTensorsRow : OpenClaim := { program := "ytfmfddfcjbbklaa", sum := "7b188fff0f033c1cf5311e559a31078abbf78460583573560002913584b95e69", func := "loop.example/g01157/laws.FnExactMulTensors", spec := "fnExactMulTensors", unfollowed := true, recurses := true, apart := false }
def FnExactMulTensorsSaid : Prop := fnExactMulTensorsRow.holds Try.pinned (OpenSpec.ofChange fnExactMulTensorsSpec)

/-- ITS FALSE NEIGHBOUR: 'it returns false'. Refute it at one input. -/
def fnExactMulTensorsWrong : ChangeSpec := { name := "fnExactMulTensors", fn := fun _ => fun
  | [d1, d2] => { results := [.lit (.bool false)], args := [d1, d2] }
  | _ => none }
def FnExactMulTensorsWrongFalsely : Prop := fnExactMulTensorsRow.holds Try.pinned (OpenSpec.ofChange fnExactMulTensorsWrong)

/- THE SECOND FORM. 'bulk': how many values and letters a reading holds, each counted each time it is reached (what is shared counts as often as it is met; a slice's spare places count too). A statement '..UptoSaid' is the law's where the arguments, and the package variables that the reading takes, are together of bulk at most 1048576: NARROWER than '..Said'. Prove '..Said' where nothing that the law and all that it calls make is longer than what came in: it says more and counts as full. Else prove '..UptoSaid'. A law counts once. -/
mutual
def uptoBulk {H : Type} : DataW H → Nat
  | .lit (.string bytes) => bytes.length + 1
  | .lit _ => 1
  | .nil => 1
  | .ptr d => uptoBulk d + 1
  | .slice elems spare => uptoBulkAll elems + uptoBulkAll spare + 1
  | .agg parts => uptoBulkAll parts + 1
  | .iface _ d => uptoBulk d + 1
  | .map entries => uptoBulkEntries entries + 1
  | .held _ => 1
def uptoBulkAll {H : Type} : List (DataW H) → Nat
  | [] => 0
  | d :: r => uptoBulk d + uptoBulkAll r
def uptoBulkEntries {H : Type} : List (Lit × DataW H) → Nat
  | [] => 0
  | x :: r => uptoBulkEntry x + uptoBulkEntries r
def uptoBulkEntry {H : Type} : Lit × DataW H → Nat
  | (.string bytes, d) => bytes.length + uptoBulk d + 1
  | (_, d) => uptoBulk d + 1
 end
def uptoSmall : (H : Type) → List (DataW H) → Bool := fun _ ds => decide (uptoBulkAll ds ≤ 1048576)
def OpenSpec.upto (s : _root_.Go.ChangeSpec) : _root_.Go.OpenSpec := { _root_.Go.OpenSpec.ofChange s with cond := some uptoSmall }

/-- 'laws.FnExactValidTensor', WHERE WHAT IT READS IS OF BULK AT MOST 1048576: true; the input reads as it did. -/
def fnExactValidTensorUptoRow : OpenClaim := { program := "ytfmfddfcjbbklaa", sum := "7b188fff0f033c1cf5311e559a31078abbf78460583573560002913584b95e69", func := "loop.example/g01157/laws.FnExactValidTensor", spec := "fnExactValidTensor", apart := false, narrowed := true }
def FnExactValidTensorUptoSaid : Prop := fnExactValidTensorUptoRow.holds Try.pinned (OpenSpec.upto fnExactValidTensorSpec)

/-- 'laws.FnExactSumAll', WHERE WHAT IT READS IS OF BULK AT MOST 1048576: true; the input reads as it did. -/
def fnExactSumAllUptoRow : OpenClaim := { program := "ytfmfddfcjbbklaa", sum := "7b188fff0f033c1cf5311e559a31078abbf78460583573560002913584b95e69", func := "loop.example/g01157/laws.FnExactSumAll", spec := "fnExactSumAll", apart := false, narrowed := true }
def FnExactSumAllUptoSaid : Prop := fnExactSumAllUptoRow.holds Try.pinned (OpenSpec.upto fnExactSumAllSpec)

/-- 'laws.FnExactGreatestGap', WHERE WHAT IT READS IS OF BULK AT MOST 1048576: true; the input reads as it did. -/
def fnExactGreatestGapUptoRow : OpenClaim := { program := "ytfmfddfcjbbklaa", sum := "7b188fff0f033c1cf5311e559a31078abbf78460583573560002913584b95e69", func := "loop.example/g01157/laws.FnExactGreatestGap", spec := "fnExactGreatestGap", inPlace := ["math.Float64bits", "math.Float64frombits"], apart := false, narrowed := true }
def FnExactGreatestGapUptoSaid : Prop := fnExactGreatestGapUptoRow.holds Try.pinned (OpenSpec.upto fnExactGreatestGapSpec)

/-- 'laws.FnExactRowOf', WHERE WHAT IT READS IS OF BULK AT MOST 1048576: true; the input reads as it did. -/
def fnExactRowOfUptoRow : OpenClaim := { program := "ytfmfddfcjbbklaa", sum := "7b188fff0f033c1cf5311e559a31078abbf78460583573560002913584b95e69", func := "loop.example/g01157/laws.FnExactRowOf", spec := "fnExactRowOf", apart := false, narrowed := true }
def FnExactRowOfUptoSaid : Prop := fnExactRowOfUptoRow.holds Try.pinned (OpenSpec.upto fnExactRowOfSpec)

/-- 'laws.FnExactSumRows', WHERE WHAT IT READS IS OF BULK AT MOST 1048576: true; the input reads as it did. -/
def fnExactSumRowsUptoRow : OpenClaim := { program := "ytfmfddfcjbbklaa", sum := "7b188fff0f033c1cf5311e559a31078abbf78460583573560002913584b95e69", func := "loop.example/g01157/laws.FnExactSumRows", spec := "fnExactSumRows", apart := false, narrowed := true }
def FnExactSumRowsUptoSaid : Prop := fnExactSumRowsUptoRow.holds Try.pinned (OpenSpec.upto fnExactSumRowsSpec)

/-- 'laws.FnExactSameTensors', WHERE WHAT IT READS IS OF BULK AT MOST 1048576: true; the input reads as it did. -/
def fnExactSameTensorsUptoRow : OpenClaim := { program := "ytfmfddfcjbbklaa", sum := "7b188fff0f033c1cf5311e559a31078abbf78460583573560002913584b95e69", func := "loop.example/g01157/laws.FnExactSameTensors", spec := "fnExactSameTensors", inPlace := ["math.Float32bits", "math.Float64bits"], unfollowed := true, recurses := true, apart := false, narrowed := true }
def FnExactSameTensorsUptoSaid : Prop := fnExactSameTensorsUptoRow.holds Try.pinned (OpenSpec.upto fnExactSameTensorsSpec)

/-- 'laws.FnExactSliceRows', WHERE WHAT IT READS IS OF BULK AT MOST 1048576: true; the input reads as it did. -/
def fnExactSliceRowsUptoRow : OpenClaim := { program := "ytfmfddfcjbbklaa", sum := "7b188fff0f033c1cf5311e559a31078abbf78460583573560002913584b95e69", func := "loop.example/g01157/laws.FnExactSliceRows", spec := "fnExactSliceRows", apart := false, narrowed := true }
def FnExactSliceRowsUptoSaid : Prop := fnExactSliceRowsUptoRow.holds Try.pinned (OpenSpec.upto fnExactSliceRowsSpec)

/-- 'laws.FnExactScaleTensor', WHERE WHAT IT READS IS OF BULK AT MOST 1048576: true; the input reads as it did. -/
def fnExactScaleTensorUptoRow : OpenClaim := { program := "ytfmfddfcjbbklaa", sum := "7b188fff0f033c1cf5311e559a31078abbf78460583573560002913584b95e69", func := "loop.example/g01157/laws.FnExactScaleTensor", spec := "fnExactScaleTensor", unfollowed := true, recurses := true, apart := false, narrowed := true }
def FnExactScaleTensorUptoSaid : Prop := fnExactScaleTensorUptoRow.holds Try.pinned (OpenSpec.upto fnExactScaleTensorSpec)

/-- 'laws.FnExactAddRow', WHERE WHAT IT READS IS OF BULK AT MOST 1048576: true; the input reads as it did. -/
def fnExactAddRowUptoRow : OpenClaim := { program := "ytfmfddfcjbbklaa", sum := "7b188fff0f033c1cf5311e559a31078abbf78460583573560002913584b95e69", func := "loop.example/g01157/laws.FnExactAddRow", spec := "fnExactAddRow", unfollowed := true, recurses := true, apart := false, narrowed := true }
def FnExactAddRowUptoSaid : Prop := fnExactAddRowUptoRow.holds Try.pinned (OpenSpec.upto fnExactAddRowSpec)

/-- 'laws.FnExactMulRow', WHERE WHAT IT READS IS OF BULK AT MOST 1048576: true; the input reads as it did. -/
def fnExactMulRowUptoRow : OpenClaim := { program := "ytfmfddfcjbbklaa", sum := "7b188fff0f033c1cf5311e559a31078abbf78460583573560002913584b95e69", func := "loop.example/g01157/laws.FnExactMulRow", spec := "fnExactMulRow", unfollowed := true, recurses := true, apart := false, narrowed := true }
def FnExactMulRowUptoSaid : Prop := fnExactMulRowUptoRow.holds Try.pinned (OpenSpec.upto fnExactMulRowSpec)

/-- 'laws.FnExactAddTensors', WHERE WHAT IT READS IS OF BULK AT MOST 1048576: true; the input reads as it did. -/
def fnExactAddTensorsUptoRow : OpenClaim := { program := "ytfmfddfcjbbklaa", sum := "7b188fff0f033c1cf5311e559a31078abbf78460583573560002913584b95e69", func := "loop.example/g01157/laws.FnExactAddTensors", spec := "fnExactAddTensors", unfollowed := true, recurses := true, apart := false, narrowed := true }
def FnExactAddTensorsUptoSaid : Prop := fnExactAddTensorsUptoRow.holds Try.pinned (OpenSpec.upto fnExactAddTensorsSpec)

/-- 'laws.FnExactMulTensors', WHERE WHAT IT READS IS OF BULK AT MOST 1048576: true; the input reads as it did. -/
def fnExactMulTensorsUptoRow : OpenClaim := { program := "ytfmfddfcjbbklaa", sum := "7b188fff0f033c1cf5311e559a31078abbf78460583573560002913584b95e69", func := "loop.example/g01157/laws.FnExactMulTensors", spec := "fnExactMulTensors", unfollowed := true, recurses := true, apart := false, narrowed := true }
def FnExactMulTensorsUptoSaid : Prop := fnExactMulTensorsUptoRow.holds Try.pinned (OpenSpec.upto fnExactMulTensorsSpec)

end Rows
end Go.Proofs.Ytfmfddfcjbbklaa
