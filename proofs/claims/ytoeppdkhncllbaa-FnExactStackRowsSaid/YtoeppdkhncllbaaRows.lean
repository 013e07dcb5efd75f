/-
  No cell of these rows narrows 'for every input' (looked for: loops, veiled, ifaces, maps, wideKeys, modest, calm, conditions, laid).
  DERIVED. THE GIVEN ROWS OF THIS SEAT. 8 by the template 'for every input the law returns true; each argument reads behind the call as it read before'; 0 by the template 'total and deterministic' (their statements: YtoeppdkhncllbaaTotals.lean).
  GIVEN WITH THE SEED: the statements are not yours to turn. If you find one false, say at which input.
  Laid BY PROGRAM, IN A SANDBOX (cutbox-rows.mjs): the forced cells as the released guide's own fill.sh prints them over the translation 891c709b6e529ac2… (all of the seat's roots in one cut). By AI agents, Wed Nov 11 2026. No macro, syntax, notation, axiom, sorry.
-/
import Derived.Test.YtoeppdkhncllbaaChecked
import GoSem.Claim
import GoSem.ClaimJoined
import GoSem.ClaimMapViews
import Derived.JoinedTies
import Derived.KernelRfl
namespace Go.Proofs.Ytoeppdkhncllbaa
/- THE CELL 'sum', in the pinned program and in every row, IS THE sha256 OF THE DUMP (.gsa) THAT YtoeppdkhncllbaaProg.lean LOADS. Nothing in Lean hashes anything: it is a label: what it is worth is what the hold of that sum in a sandbox is worth. -/
noncomputable def Try.pinned : Pinned := { name := "ytoeppdkhncllbaa", sum := "891c709b6e529ac2182aeb98593493085921953e4fa80ff3e695c65349ab53ca", checked := Try.checked }
namespace Rows
def none {H : Type} : Left H := { results := [], args := [] }

/-- 'laws.FnExactTransposeTensor': WHATEVER THE INPUT: true; the input reads as it did. -/
def fnExactTransposeTensorSpec : ChangeSpec := { name := "fnExactTransposeTensor", fn := fun _ => fun
  | [d] => { results := [.lit (.bool true)], args := [d] }
  | _ => none }
def fnExactTransposeTensorRow : OpenClaim := { program := "ytoeppdkhncllbaa", sum := "891c709b6e529ac2182aeb98593493085921953e4fa80ff3e695c65349ab53ca", func := "loop.example/g01157/laws.FnExactTransposeTensor", spec := "fnExactTransposeTensor", apart := false }
def FnExactTransposeTensorSaid : Prop := fnExactTransposeTensorRow.holds Try.pinned (OpenSpec.ofChange fnExactTransposeTensorSpec)

/-- ITS FALSE NEIGHBOUR: 'it returns false'. Refute it at one input. -/
def fnExactTransposeTensorWrong : ChangeSpec := { name := "fnExactTransposeTensor", fn := fun _ => fun
  | [d] => { results := [.lit (.bool false)], args := [d] }
  | _ => none }
def FnExactTransposeTensorWrongFalsely : Prop := fnExactTransposeTensorRow.holds Try.pinned (OpenSpec.ofChange fnExactTransposeTensorWrong)

/-- 'laws.FnExactFilledTensor': WHATEVER THE INPUT: true; the input reads as it did. -/
def fnExactFilledTensorSpec : ChangeSpec := { name := "fnExactFilledTensor", fn := fun _ => fun
  | [d1, d2, d3] => { results := [.lit (.bool true)], args := [d1, d2, d3] }
  | _ => none }
def fnExactFilledTensorRow : OpenClaim := { program := "ytoeppdkhncllbaa", sum := "891c709b6e529ac2182aeb98593493085921953e4fa80ff3e695c65349ab53ca", func := "loop.example/g01157/laws.FnExactFilledTensor", spec := "fnExactFilledTensor", apart := false }
def FnExactFilledTensorSaid : Prop := fnExactFilledTensorRow.holds Try.pinned (OpenSpec.ofChange fnExactFilledTensorSpec)

/-- ITS FALSE NEIGHBOUR: 'it returns false'. Refute it at one input. -/
def fnExactFilledTensorWrong : ChangeSpec := { name := "fnExactFilledTensor", fn := fun _ => fun
  | [d1, d2, d3] => { results := [.lit (.bool false)], args := [d1, d2, d3] }
  | _ => none }
def FnExactFilledTensorWrongFalsely : Prop := fnExactFilledTensorRow.holds Try.pinned (OpenSpec.ofChange fnExactFilledTensorWrong)

/-- 'laws.FnExactReluTensor': WHATEVER THE INPUT: true; the input reads as it did. -/
def fnExactReluTensorSpec : ChangeSpec := { name := "fnExactReluTensor", fn := fun _ => fun
  | [d] => { results := [.lit (.bool true)], args := [d] }
  | _ => none }
def fnExactReluTensorRow : OpenClaim := { program := "ytoeppdkhncllbaa", sum := "891c709b6e529ac2182aeb98593493085921953e4fa80ff3e695c65349ab53ca", func := "loop.example/g01157/laws.FnExactReluTensor", spec := "fnExactReluTensor", unfollowed := true, recurses := true, apart := false }
def FnExactReluTensorSaid : Prop := fnExactReluTensorRow.holds Try.pinned (OpenSpec.ofChange fnExactReluTensorSpec)

/-- ITS FALSE NEIGHBOUR: 'it returns false'. Refute it at one input. -/
def fnExactReluTensorWrong : ChangeSpec := { name := "fnExactReluTensor", fn := fun _ => fun
  | [d] => { results := [.lit (.bool false)], args := [d] }
  | _ => none }
def FnExactReluTensorWrongFalsely : Prop := fnExactReluTensorRow.holds Try.pinned (OpenSpec.ofChange fnExactReluTensorWrong)

/-- 'laws.FnExactGreatestColumns': WHATEVER THE INPUT: true; the input reads as it did. -/
def fnExactGreatestColumnsSpec : ChangeSpec := { name := "fnExactGreatestColumns", fn := fun _ => fun
  | [d] => { results := [.lit (.bool true)], args := [d] }
  | _ => none }
def fnExactGreatestColumnsRow : OpenClaim := { program := "ytoeppdkhncllbaa", sum := "891c709b6e529ac2182aeb98593493085921953e4fa80ff3e695c65349ab53ca", func := "loop.example/g01157/laws.FnExactGreatestColumns", spec := "fnExactGreatestColumns", apart := false }
def FnExactGreatestColumnsSaid : Prop := fnExactGreatestColumnsRow.holds Try.pinned (OpenSpec.ofChange fnExactGreatestColumnsSpec)

/-- ITS FALSE NEIGHBOUR: 'it returns false'. Refute it at one input. -/
def fnExactGreatestColumnsWrong : ChangeSpec := { name := "fnExactGreatestColumns", fn := fun _ => fun
  | [d] => { results := [.lit (.bool false)], args := [d] }
  | _ => none }
def FnExactGreatestColumnsWrongFalsely : Prop := fnExactGreatestColumnsRow.holds Try.pinned (OpenSpec.ofChange fnExactGreatestColumnsWrong)

/-- 'laws.FnExactMatMul': WHATEVER THE INPUT: true; the input reads as it did. -/
def fnExactMatMulSpec : ChangeSpec := { name := "fnExactMatMul", fn := fun _ => fun
  | [d1, d2] => { results := [.lit (.bool true)], args := [d1, d2] }
  | _ => none }
def fnExactMatMulRow : OpenClaim := { program := "ytoeppdkhncllbaa", sum := "891c709b6e529ac2182aeb98593493085921953e4fa80ff3e695c65349ab53ca", func := "loop.example/g01157/laws.FnExactMatMul", spec := "fnExactMatMul", unfollowed := true, recurses := true, apart := false }
def FnExactMatMulSaid : Prop := fnExactMatMulRow.holds Try.pinned (OpenSpec.ofChange fnExactMatMulSpec)

/-- ITS FALSE NEIGHBOUR: 'it returns false'. Refute it at one input. -/
def fnExactMatMulWrong : ChangeSpec := { name := "fnExactMatMul", fn := fun _ => fun
  | [d1, d2] => { results := [.lit (.bool false)], args := [d1, d2] }
  | _ => none }
def FnExactMatMulWrongFalsely : Prop := fnExactMatMulRow.holds Try.pinned (OpenSpec.ofChange fnExactMatMulWrong)

/-- 'laws.FnExactMatMulBlocks': WHATEVER THE INPUT: true; the input reads as it did. -/
def fnExactMatMulBlocksSpec : ChangeSpec := { name := "fnExactMatMulBlocks", fn := fun _ => fun
  | [d1, d2, d3] => { results := [.lit (.bool true)], args := [d1, d2, d3] }
  | _ => none }
def fnExactMatMulBlocksRow : OpenClaim := { program := "ytoeppdkhncllbaa", sum := "891c709b6e529ac2182aeb98593493085921953e4fa80ff3e695c65349ab53ca", func := "loop.example/g01157/laws.FnExactMatMulBlocks", spec := "fnExactMatMulBlocks", unfollowed := true, recurses := true, apart := false }
def FnExactMatMulBlocksSaid : Prop := fnExactMatMulBlocksRow.holds Try.pinned (OpenSpec.ofChange fnExactMatMulBlocksSpec)

/-- ITS FALSE NEIGHBOUR: 'it returns false'. Refute it at one input. -/
def fnExactMatMulBlocksWrong : ChangeSpec := { name := "fnExactMatMulBlocks", fn := fun _ => fun
  | [d1, d2, d3] => { results := [.lit (.bool false)], args := [d1, d2, d3] }
  | _ => none }
def FnExactMatMulBlocksWrongFalsely : Prop := fnExactMatMulBlocksRow.holds Try.pinned (OpenSpec.ofChange fnExactMatMulBlocksWrong)

/-- 'laws.FnExactMatMulWide': WHATEVER THE INPUT: true; the input reads as it did. -/
def fnExactMatMulWideSpec : ChangeSpec := { name := "fnExactMatMulWide", fn := fun _ => fun
  | [d1, d2] => { results := [.lit (.bool true)], args := [d1, d2] }
  | _ => none }
def fnExactMatMulWideRow : OpenClaim := { program := "ytoeppdkhncllbaa", sum := "891c709b6e529ac2182aeb98593493085921953e4fa80ff3e695c65349ab53ca", func := "loop.example/g01157/laws.FnExactMatMulWide", spec := "fnExactMatMulWide", unfollowed := true, recurses := true, apart := false }
def FnExactMatMulWideSaid : Prop := fnExactMatMulWideRow.holds Try.pinned (OpenSpec.ofChange fnExactMatMulWideSpec)

/-- ITS FALSE NEIGHBOUR: 'it returns false'. Refute it at one input. -/
def fnExactMatMulWideWrong : ChangeSpec := { name := "fnExactMatMulWide", fn := fun _ => fun
  | [d1, d2] => { results := [.lit (.bool false)], args := [d1, d2] }
  | _ => none }
def FnExactMatMulWideWrongFalsely : Prop := fnExactMatMulWideRow.holds Try.pinned (OpenSpec.ofChange fnExactMatMulWideWrong)

/-- 'laws.FnExactStackRows': WHATEVER THE INPUT: true; the input reads as it did. -/
def fnExactStackRowsSpec : ChangeSpec := { name := "fnExactStackRows", fn := fun _ => fun
  | [d] => { results := [.lit (.bool true)], args := [d] }
  | _ => none }
def fnExactStackRowsRow : OpenClaim := { program := "ytoeppdkhncllbaa", sum := "891c709b6e529ac2182aeb98593493085921953e4fa80ff3e695c65349ab53ca", func := "loop.example/g01157/laws.FnExactStackRows", spec := "fnExactStackRows", apart := false }
def FnExactStackRowsSaid : Prop := fnExactStackRowsRow.holds Try.pinned (OpenSpec.ofChange fnExactStackRowsSpec)

/-- ITS FALSE NEIGHBOUR: 'it returns false'. Refute it at one input. -/
def fnExactStackRowsWrong : ChangeSpec := { name := "fnExactStackRows", fn := fun _ => fun
  | [d] => { results := [.lit (.bool false)], args := [d] }
  | _ => none }
def FnExactStackRowsWrongFalsely : Prop := fnExactStackRowsRow.holds Try.pinned (OpenSpec.ofChange fnExactStackRowsWrong)

/- THE SECOND FORM. 'bulk': how many values and letters a reading holds, each counted each time it is reached (what is shared counts as often as it is met; a slice's spare places count too). A statement '..UptoSaid' is the law's where the arguments, and the package variables that the reading takes, are together of bulk at most 1048576: NARROWER than '..Said'. Prove '..Said' where nothing that the law and all that it calls make is longer than what came in: it says more and counts as full. Else prove '..UptoSaid'. A law counts once. -/
mutual
def uptoBulk {H : Type} : DataW H → Nat
  | .lit (.string bytes) => bytes.length + 1
  | .lit _ => 1
  | .nil => 1
  | .ptr d => uptoBulk d + 1
  | .slice elems spare => uptoBulkAll elems + uptoBulkAll spare + 1
  | .agg parts => uptoBulkAll parts + 1
  | .iface _ d => uptoBulk d + 1
  | .map entries => uptoBulkEntries entries + 1
  | .held _ => 1
def uptoBulkAll {H : Type} : List (DataW H) → Nat
  | [] => 0
  | d :: r => uptoBulk d + uptoBulkAll r
def uptoBulkEntries {H : Type} : List (Lit × DataW H) → Nat
  | [] => 0
  | x :: r => uptoBulkEntry x + uptoBulkEntries r
def uptoBulkEntry {H : Type} : Lit × DataW H → Nat
  | (.string bytes, d) => bytes.length + uptoBulk d + 1
  | (_, d) => uptoBulk d + 1
 end
def uptoSmall : (H : Type) → List (DataW H) → Bool := fun _ ds => decide (uptoBulkAll ds ≤ 1048576)
def OpenSpec.upto (s : _root_.Go.ChangeSpec) : _root_.Go.OpenSpec := { _root_.Go.OpenSpec.ofChange s with cond := some uptoSmall }

/-- 'laws.FnExactTransposeTensor', WHERE WHAT IT READS IS OF BULK AT MOST 1048576: true; the input reads as it did. -/
def fnExactTransposeTensorUptoRow : OpenClaim := { program := "ytoeppdkhncllbaa", sum := "891c709b6e529ac2182aeb98593493085921953e4fa80ff3e695c65349ab53ca", func := "loop.example/g01157/laws.FnExactTransposeTensor", spec := "fnExactTransposeTensor", apart := false, narrowed := true }
def FnExactTransposeTensorUptoSaid : Prop := fnExactTransposeTensorUptoRow.holds Try.pinned (OpenSpec.upto fnExactTransposeTensorSpec)

/-- 'laws.FnExactFilledTensor', WHERE WHAT IT READS IS OF BULK AT MOST 1048576: true; the input reads as it did. -/
def fnExactFilledTensorUptoRow : OpenClaim := { program := "ytoeppdkhncllbaa", sum := "891c709b6e529ac2182aeb98593493085921953e4fa80ff3e695c65349ab53ca", func := "loop.example/g01157/laws.FnExactFilledTensor", spec := "fnExactFilledTensor", apart := false, narrowed := true }
def FnExactFilledTensorUptoSaid : Prop := fnExactFilledTensorUptoRow.holds Try.pinned (OpenSpec.upto fnExactFilledTensorSpec)

/-- 'laws.FnExactReluTensor', WHERE WHAT IT READS IS OF BULK AT MOST 1048576: true; the input reads as it did. -/
def fnExactReluTensorUptoRow : OpenClaim := { program := "ytoeppdkhncllbaa", sum := "891c709b6e529ac2182aeb98593493085921953e4fa80ff3e695c65349ab53ca", func := "loop.example/g01157/laws.FnExactReluTensor", spec := "fnExactReluTensor", unfollowed := true, recurses := true, apart := false, narrowed := true }
def FnExactReluTensorUptoSaid : Prop := fnExactReluTensorUptoRow.holds Try.pinned (OpenSpec.upto fnExactReluTensorSpec)

/-- 'laws.FnExactGreatestColumns', WHERE WHAT IT READS IS OF BULK AT MOST 1048576: true; the input reads as it did. -/
def fnExactGreatestColumnsUptoRow : OpenClaim := { program := "ytoeppdkhncllbaa", sum := "891c709b6e529ac2182aeb98593493085921953e4fa80ff3e695c65349ab53ca", func := "loop.example/g01157/laws.FnExactGreatestColumns", spec := "fnExactGreatestColumns", apart := false, narrowed := true }
def FnExactGreatestColumnsUptoSaid : Prop := fnExactGreatestColumnsUptoRow.holds Try.pinned (OpenSpec.upto fnExactGreatestColumnsSpec)

/-- 'laws.FnExactMatMul', WHERE WHAT IT READS IS OF BULK AT MOST 1048576: true; the input reads as it did. -/
def fnExactMatMulUptoRow : OpenClaim := { program := "ytoeppdkhncllbaa", sum := "891c709b6e529ac2182aeb98593493085921953e4fa80ff3e695c65349ab53ca", func := "loop.example/g01157/laws.FnExactMatMul", spec := "fnExactMatMul", unfollowed := true, recurses := true, apart := false, narrowed := true }
def FnExactMatMulUptoSaid : Prop := fnExactMatMulUptoRow.holds Try.pinned (OpenSpec.upto fnExactMatMulSpec)

/-- 'laws.FnExactMatMulBlocks', WHERE WHAT IT READS IS OF BULK AT MOST 1048576: true; the input reads as it did. -/
def fnExactMatMulBlocksUptoRow : OpenClaim := { program := "ytoeppdkhncllbaa", sum := "891c709b6e529ac2182aeb98593493085921953e4fa80ff3e695c65349ab53ca", func := "loop.example/g01157/laws.FnExactMatMulBlocks", spec := "fnExactMatMulBlocks", unfollowed := true, recurses := true, apart := false, narrowed := true }
def FnExactMatMulBlocksUptoSaid : Prop := fnExactMatMulBlocksUptoRow.holds Try.pinned (OpenSpec.upto fnExactMatMulBlocksSpec)

/-- 'laws.FnExactMatMulWide', WHERE WHAT IT READS IS OF BULK AT MOST 1048576: true; the input reads as it did. -/
def fnExactMatMulWideUptoRow : OpenClaim := { program := "ytoeppdkhncllbaa", sum := "891c709b6e529ac2182aeb98593493085921953e4fa80ff3e695c65349ab53ca", func := "loop.example/g01157/laws.FnExactMatMulWide", spec := "fnExactMatMulWide", unfollowed := true, recurses := true, apart := false, narrowed := true }
def FnExactMatMulWideUptoSaid : Prop := fnExactMatMulWideUptoRow.holds Try.pinned (OpenSpec.upto fnExactMatMulWideSpec)

/-- 'laws.FnExactStackRows', WHERE WHAT IT READS IS OF BULK AT MOST 1048576: true; the input reads as it did. -/
def fnExactStackRowsUptoRow : OpenClaim := { program := "ytoeppdkhncllbaa", sum := "891c709b6e529ac2182aeb98593493085921953e4fa80ff3e695c65349ab53ca", func := "loop.example/g01157/laws.FnExactStackRows", spec := "fnExactStackRows", apart := false, narrowed := true }
def FnExactStackRowsUptoSaid : Prop := fnExactStackRowsUptoRow.holds Try.pinned (OpenSpec.upto fnExactStackRowsSpec)

end Rows
end Go.Proofs.Ytoeppdkhncllbaa
