/-
  No cell of these rows narrows 'for every input' (looked for: loops, veiled, ifaces, maps, wideKeys, modest, calm, conditions, laid).
  DERIVED. THE GIVEN ROWS OF THIS SEAT. 6 by the template 'for every input the law returns true; each argument reads behind the call as it read before'; 0 by the template 'total and deterministic' (their statements: YtclhemjanhhioaaTotals.lean).
  GIVEN WITH THE SEED: the statements are not yours to turn. If you find one false, say at which input.
  Laid BY PROGRAM, IN A SANDBOX (cutbox-rows.mjs): the forced cells as the released guide's own fill.sh prints them over the translation 3ba72591085f8c98… (all of the seat's roots in one cut). By AI agents, Wed Nov 11 2026. No macro, syntax, notation, axiom, sorry.
-/
import Derived.Test.YtclhemjanhhioaaChecked
import GoSem.Claim
import GoSem.ClaimJoined
import GoSem.ClaimMapViews
import Derived.JoinedTies
import Derived.KernelRfl
namespace Go.Proofs.Ytclhemjanhhioaa
/- THE CELL 'sum', in the pinned program and in every row, IS THE sha256 OF THE DUMP (.gsa) THAT YtclhemjanhhioaaProg.lean LOADS. Nothing in Lean hashes anything: it is a label: what it is worth is what the hold of that sum in a sandbox is worth. -/
noncomputable def Try.pinned : Pinned := { name := "ytclhemjanhhioaa", sum := "3ba72591085f8c98b3495b5a105ab44a96f48b58c2ac469878d32f052b907916", checked := Try.checked }
namespace Rows
def none {H : Type} : Left H := { results := [], args := [] }

/-- 'laws.FnExactValidLayer': WHATEVER THE INPUT: true; the input reads as it did. -/
def fnExactValidLayerSpec : ChangeSpec := { name := "fnExactValidLayer", fn := fun _ => fun
  | [d] => { results := [.lit (.bool true)], args := [d] }
  | _ => none }
def fnExactValidLayerRow : OpenClaim := { program := "ytclhemjanhhioaa", sum := "3ba72591085f8c98b3495b5a105ab44a96f48b58c2ac469878d32f052b907916", func := "loop.example/g01157/laws.FnExactValidLayer", spec := "fnExactValidLayer", apart := false }
def FnExactValidLayerSaid : Prop := fnExactValidLayerRow.holds Try.pinned (OpenSpec.ofChange fnExactValidLayerSpec)

/-- ITS FALSE NEIGHBOUR: 'it returns false'. Refute it at one input. -/
def fnExactValidLayerWrong : ChangeSpec := { name := "fnExactValidLayer", fn := fun _ => fun
  | [d] => { results := [.lit (.bool false)], args := [d] }
  | _ => none }
def FnExactValidLayerWrongFalsely : Prop := fnExactValidLayerRow.holds Try.pinned (OpenSpec.ofChange fnExactValidLayerWrong)

/-- 'laws.FnExactValidModel': WHATEVER THE INPUT: true; the input reads as it did. -/
def fnExactValidModelSpec : ChangeSpec := { name := "fnExactValidModel", fn := fun _ => fun
  | [d] => { results := [.lit (.bool true)], args := [d] }
  | _ => none }
def fnExactValidModelRow : OpenClaim := { program := "ytclhemjanhhioaa", sum := "3ba72591085f8c98b3495b5a105ab44a96f48b58c2ac469878d32f052b907916", func := "loop.example/g01157/laws.FnExactValidModel", spec := "fnExactValidModel", apart := false }
def FnExactValidModelSaid : Prop := fnExactValidModelRow.holds Try.pinned (OpenSpec.ofChange fnExactValidModelSpec)

/-- ITS FALSE NEIGHBOUR: 'it returns false'. Refute it at one input. -/
def fnExactValidModelWrong : ChangeSpec := { name := "fnExactValidModel", fn := fun _ => fun
  | [d] => { results := [.lit (.bool false)], args := [d] }
  | _ => none }
def FnExactValidModelWrongFalsely : Prop := fnExactValidModelRow.holds Try.pinned (OpenSpec.ofChange fnExactValidModelWrong)

/-- 'laws.FnExactCountParams': WHATEVER THE INPUT: true; the input reads as it did. -/
def fnExactCountParamsSpec : ChangeSpec := { name := "fnExactCountParams", fn := fun _ => fun
  | [d] => { results := [.lit (.bool true)], args := [d] }
  | _ => none }
def fnExactCountParamsRow : OpenClaim := { program := "ytclhemjanhhioaa", sum := "3ba72591085f8c98b3495b5a105ab44a96f48b58c2ac469878d32f052b907916", func := "loop.example/g01157/laws.FnExactCountParams", spec := "fnExactCountParams", apart := false }
def FnExactCountParamsSaid : Prop := fnExactCountParamsRow.holds Try.pinned (OpenSpec.ofChange fnExactCountParamsSpec)

/-- ITS FALSE NEIGHBOUR: 'it returns false'. Refute it at one input. -/
def fnExactCountParamsWrong : ChangeSpec := { name := "fnExactCountParams", fn := fun _ => fun
  | [d] => { results := [.lit (.bool false)], args := [d] }
  | _ => none }
def FnExactCountParamsWrongFalsely : Prop := fnExactCountParamsRow.holds Try.pinned (OpenSpec.ofChange fnExactCountParamsWrong)

/-- 'laws.FnExactParamsOf': WHATEVER THE INPUT: true; the input reads as it did. -/
def fnExactParamsOfSpec : ChangeSpec := { name := "fnExactParamsOf", fn := fun _ => fun
  | [d] => { results := [.lit (.bool true)], args := [d] }
  | _ => none }
def fnExactParamsOfRow : OpenClaim := { program := "ytclhemjanhhioaa", sum := "3ba72591085f8c98b3495b5a105ab44a96f48b58c2ac469878d32f052b907916", func := "loop.example/g01157/laws.FnExactParamsOf", spec := "fnExactParamsOf", apart := false }
def FnExactParamsOfSaid : Prop := fnExactParamsOfRow.holds Try.pinned (OpenSpec.ofChange fnExactParamsOfSpec)

/-- ITS FALSE NEIGHBOUR: 'it returns false'. Refute it at one input. -/
def fnExactParamsOfWrong : ChangeSpec := { name := "fnExactParamsOf", fn := fun _ => fun
  | [d] => { results := [.lit (.bool false)], args := [d] }
  | _ => none }
def FnExactParamsOfWrongFalsely : Prop := fnExactParamsOfRow.holds Try.pinned (OpenSpec.ofChange fnExactParamsOfWrong)

/-- 'laws.FnExactWithParams': WHATEVER THE INPUT: true; the input reads as it did. -/
def fnExactWithParamsSpec : ChangeSpec := { name := "fnExactWithParams", fn := fun _ => fun
  | [d1, d2] => { results := [.lit (.bool true)], args := [d1, d2] }
  | _ => none }
def fnExactWithParamsRow : OpenClaim := { program := "ytclhemjanhhioaa", sum := "3ba72591085f8c98b3495b5a105ab44a96f48b58c2ac469878d32f052b907916", func := "loop.example/g01157/laws.FnExactWithParams", spec := "fnExactWithParams", unfollowed := true, recurses := true, apart := false }
def FnExactWithParamsSaid : Prop := fnExactWithParamsRow.holds Try.pinned (OpenSpec.ofChange fnExactWithParamsSpec)

/-- ITS FALSE NEIGHBOUR: 'it returns false'. Refute it at one input. -/
def fnExactWithParamsWrong : ChangeSpec := { name := "fnExactWithParams", fn := fun _ => fun
  | [d1, d2] => { results := [.lit (.bool false)], args := [d1, d2] }
  | _ => none }
def FnExactWithParamsWrongFalsely : Prop := fnExactWithParamsRow.holds Try.pinned (OpenSpec.ofChange fnExactWithParamsWrong)

/-- 'laws.FnExactRoundModel': WHATEVER THE INPUT: true; the input reads as it did. -/
def fnExactRoundModelSpec : ChangeSpec := { name := "fnExactRoundModel", fn := fun _ => fun
  | [d] => { results := [.lit (.bool true)], args := [d] }
  | _ => none }
def fnExactRoundModelRow : OpenClaim := { program := "ytclhemjanhhioaa", sum := "3ba72591085f8c98b3495b5a105ab44a96f48b58c2ac469878d32f052b907916", func := "loop.example/g01157/laws.FnExactRoundModel", spec := "fnExactRoundModel", inPlace := ["math.Float32bits", "math.Float32frombits", "math.Float64frombits"], unfollowed := true, recurses := true, apart := false }
def FnExactRoundModelSaid : Prop := fnExactRoundModelRow.holds Try.pinned (OpenSpec.ofChange fnExactRoundModelSpec)

/-- ITS FALSE NEIGHBOUR: 'it returns false'. Refute it at one input. -/
def fnExactRoundModelWrong : ChangeSpec := { name := "fnExactRoundModel", fn := fun _ => fun
  | [d] => { results := [.lit (.bool false)], args := [d] }
  | _ => none }
def FnExactRoundModelWrongFalsely : Prop := fnExactRoundModelRow.holds Try.pinned (OpenSpec.ofChange fnExactRoundModelWrong)

/- THE SECOND FORM. 'bulk': how many values and letters a reading holds, each counted each time it is reached (what is shared counts as often as it is met; a slice's spare places count too). A statement '..UptoSaid' is the law's where the arguments, and the package variables that the reading takes, are together of bulk at most 1048576: NARROWER than '..Said'. Prove '..Said' where nothing that the law and all that it calls make is longer than what came in: it says more and counts as full. Else prove '..UptoSaid'. A law counts once. -/
mutual
def uptoBulk {H : Type} : DataW H → Nat
  | .lit (.string bytes) => bytes.length + 1
  | .lit _ => 1
  | .nil => 1
  | .ptr d => uptoBulk d + 1
  | .slice elems spare => uptoBulkAll elems + uptoBulkAll spare + 1
  | .agg parts => uptoBulkAll parts + 1
  | .iface _ d => uptoBulk d + 1
  | .map entries => uptoBulkEntries entries + 1
  | .held _ => 1
def uptoBulkAll {H : Type} : List (DataW H) → Nat
  | [] => 0
  | d :: r => uptoBulk d + uptoBulkAll r
def uptoBulkEntries {H : Type} : List (Lit × DataW H) → Nat
  | [] => 0
  | x :: r => uptoBulkEntry x + uptoBulkEntries r
def uptoBulkEntry {H : Type} : Lit × DataW H → Nat
  | (.string bytes, d) => bytes.length + uptoBulk d + 1
  | (_, d) => uptoBulk d + 1
 end
def uptoSmall : (H : Type) → List (DataW H) → Bool := fun _ ds => decide (uptoBulkAll ds ≤ 1048576)
def OpenSpec.upto (s : _root_.Go.ChangeSpec) : _root_.Go.OpenSpec := { _root_.Go.OpenSpec.ofChange s with cond := some uptoSmall }

/-- 'laws.FnExactValidLayer', WHERE WHAT IT READS IS OF BULK AT MOST 1048576: true; the input reads as it did. -/
def fnExactValidLayerUptoRow : OpenClaim := { program := "ytclhemjanhhioaa", sum := "3ba72591085f8c98b3495b5a105ab44a96f48b58c2ac469878d32f052b907916", func := "loop.example/g01157/laws.FnExactValidLayer", spec := "fnExactValidLayer", apart := false, narrowed := true }
def FnExactValidLayerUptoSaid : Prop := fnExactValidLayerUptoRow.holds Try.pinned (OpenSpec.upto fnExactValidLayerSpec)

/-- 'laws.FnExactValidModel', WHERE WHAT IT READS IS OF BULK AT MOST 1048576: true; the input reads as it did. -/
def fnExactValidModelUptoRow : OpenClaim := { program := "ytclhemjanhhioaa", sum := "3ba72591085f8c98b3495b5a105ab44a96f48b58c2ac469878d32f052b907916", func := "loop.example/g01157/laws.FnExactValidModel", spec := "fnExactValidModel", apart := false, narrowed := true }
def FnExactValidModelUptoSaid : Prop := fnExactValidModelUptoRow.holds Try.pinned (OpenSpec.upto fnExactValidModelSpec)

/-- 'laws.FnExactCountParams', WHERE WHAT IT READS IS OF BULK AT MOST 1048576: true; the input reads as it did. -/
def fnExactCountParamsUptoRow : OpenClaim := { program := "ytclhemjanhhioaa", sum := "3ba72591085f8c98b3495b5a105ab44a96f48b58c2ac469878d32f052b907916", func := "loop.example/g01157/laws.FnExactCountParams", spec := "fnExactCountParams", apart := false, narrowed := true }
def FnExactCountParamsUptoSaid : Prop := fnExactCountParamsUptoRow.holds Try.pinned (OpenSpec.upto fnExactCountParamsSpec)

/-- 'laws.FnExactParamsOf', WHERE WHAT IT READS IS OF BULK AT MOST 1048576: true; the input reads as it did. -/
def fnExactParamsOfUptoRow : OpenClaim := { program := "ytclhemjanhhioaa", sum := "3ba72591085f8c98b3495b5a105ab44a96f48b58c2ac469878d32f052b907916", func := "loop.example/g01157/laws.FnExactParamsOf", spec := "fnExactParamsOf", apart := false, narrowed := true }
def FnExactParamsOfUptoSaid : Prop := fnExactParamsOfUptoRow.holds Try.pinned (OpenSpec.upto fnExactParamsOfSpec)

/-- 'laws.FnExactWithParams', WHERE WHAT IT READS IS OF BULK AT MOST 1048576: true; the input reads as it did. -/
def fnExactWithParamsUptoRow : OpenClaim := { program := "ytclhemjanhhioaa", sum := "3ba72591085f8c98b3495b5a105ab44a96f48b58c2ac469878d32f052b907916", func := "loop.example/g01157/laws.FnExactWithParams", spec := "fnExactWithParams", unfollowed := true, recurses := true, apart := false, narrowed := true }
def FnExactWithParamsUptoSaid : Prop := fnExactWithParamsUptoRow.holds Try.pinned (OpenSpec.upto fnExactWithParamsSpec)

/-- 'laws.FnExactRoundModel', WHERE WHAT IT READS IS OF BULK AT MOST 1048576: true; the input reads as it did. -/
def fnExactRoundModelUptoRow : OpenClaim := { program := "ytclhemjanhhioaa", sum := "3ba72591085f8c98b3495b5a105ab44a96f48b58c2ac469878d32f052b907916", func := "loop.example/g01157/laws.FnExactRoundModel", spec := "fnExactRoundModel", inPlace := ["math.Float32bits", "math.Float32frombits", "math.Float64frombits"], unfollowed := true, recurses := true, apart := false, narrowed := true }
def FnExactRoundModelUptoSaid : Prop := fnExactRoundModelUptoRow.holds Try.pinned (OpenSpec.upto fnExactRoundModelSpec)

end Rows
end Go.Proofs.Ytclhemjanhhioaa
