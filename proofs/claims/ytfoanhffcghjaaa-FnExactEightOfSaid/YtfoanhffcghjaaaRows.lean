/-
  No cell of these rows narrows 'for every input' (looked for: loops, veiled, ifaces, maps, wideKeys, modest, calm, conditions, laid).
  DERIVED. THE GIVEN ROWS OF THIS SEAT. 12 by the template 'for every input the law returns true; each argument reads behind the call as it read before'; 0 by the template 'total and deterministic' (their statements: YtfoanhffcghjaaaTotals.lean).
  GIVEN WITH THE SEED: the statements are not yours to turn. If you find one false, say at which input.
  Laid BY PROGRAM, IN A SANDBOX (cutbox-rows.mjs): the forced cells as the released guide's own fill.sh prints them over the translation 4fd3420684793677… (all of the seat's roots in one cut). By AI agents, Wed Nov 11 2026. No macro, syntax, notation, axiom, sorry.
-/
import Derived.Test.YtfoanhffcghjaaaChecked
import GoSem.Claim
import GoSem.ClaimJoined
import GoSem.ClaimMapViews
import Derived.JoinedTies
import Derived.KernelRfl
namespace Go.Proofs.Ytfoanhffcghjaaa
/- THE CELL 'sum', in the pinned program and in every row, IS THE sha256 OF THE DUMP (.gsa) THAT YtfoanhffcghjaaaProg.lean LOADS. Nothing in Lean hashes anything: it is a label: what it is worth is what the hold of that sum in a sandbox is worth. -/
noncomputable def Try.pinned : Pinned := { name := "ytfoanhffcghjaaa", sum := "4fd34206847936776e404707fb14661121fcf8b8ff43b07f8f74a86f253c1cc0", checked := Try.checked }
namespace Rows
def none {H : Type} : Left H := { results := [], args := [] }

/-- 'laws.FnExactDotWide': WHATEVER THE INPUT: true; the input reads as it did. -/
def fnExactDotWideSpec : ChangeSpec := { name := "fnExactDotWide", fn := fun _ => fun
  | [d1, d2] => { results := [.lit (.bool true)], args := [d1, d2] }
  | _ => none }
def fnExactDotWideRow : OpenClaim := { program := "ytfoanhffcghjaaa", sum := "4fd34206847936776e404707fb14661121fcf8b8ff43b07f8f74a86f253c1cc0", func := "loop.example/g01157/laws.FnExactDotWide", spec := "fnExactDotWide", apart := false }
def FnExactDotWideSaid : Prop := fnExactDotWideRow.holds Try.pinned (OpenSpec.ofChange fnExactDotWideSpec)

/-- ITS FALSE NEIGHBOUR: 'it returns false'. Refute it at one input. -/
def fnExactDotWideWrong : ChangeSpec := { name := "fnExactDotWide", fn := fun _ => fun
  | [d1, d2] => { results := [.lit (.bool false)], args := [d1, d2] }
  | _ => none }
def FnExactDotWideWrongFalsely : Prop := fnExactDotWideRow.holds Try.pinned (OpenSpec.ofChange fnExactDotWideWrong)

/-- 'laws.FnExactDotNumbers': WHATEVER THE INPUT: true; the input reads as it did. -/
def fnExactDotNumbersSpec : ChangeSpec := { name := "fnExactDotNumbers", fn := fun _ => fun
  | [d1, d2] => { results := [.lit (.bool true)], args := [d1, d2] }
  | _ => none }
def fnExactDotNumbersRow : OpenClaim := { program := "ytfoanhffcghjaaa", sum := "4fd34206847936776e404707fb14661121fcf8b8ff43b07f8f74a86f253c1cc0", func := "loop.example/g01157/laws.FnExactDotNumbers", spec := "fnExactDotNumbers", apart := false }
def FnExactDotNumbersSaid : Prop := fnExactDotNumbersRow.holds Try.pinned (OpenSpec.ofChange fnExactDotNumbersSpec)

/-- ITS FALSE NEIGHBOUR: 'it returns false'. Refute it at one input. -/
def fnExactDotNumbersWrong : ChangeSpec := { name := "fnExactDotNumbers", fn := fun _ => fun
  | [d1, d2] => { results := [.lit (.bool false)], args := [d1, d2] }
  | _ => none }
def FnExactDotNumbersWrongFalsely : Prop := fnExactDotNumbersRow.holds Try.pinned (OpenSpec.ofChange fnExactDotNumbersWrong)

/-- 'laws.FnExactSumNumbers': WHATEVER THE INPUT: true; the input reads as it did. -/
def fnExactSumNumbersSpec : ChangeSpec := { name := "fnExactSumNumbers", fn := fun _ => fun
  | [d] => { results := [.lit (.bool true)], args := [d] }
  | _ => none }
def fnExactSumNumbersRow : OpenClaim := { program := "ytfoanhffcghjaaa", sum := "4fd34206847936776e404707fb14661121fcf8b8ff43b07f8f74a86f253c1cc0", func := "loop.example/g01157/laws.FnExactSumNumbers", spec := "fnExactSumNumbers", apart := false }
def FnExactSumNumbersSaid : Prop := fnExactSumNumbersRow.holds Try.pinned (OpenSpec.ofChange fnExactSumNumbersSpec)

/-- ITS FALSE NEIGHBOUR: 'it returns false'. Refute it at one input. -/
def fnExactSumNumbersWrong : ChangeSpec := { name := "fnExactSumNumbers", fn := fun _ => fun
  | [d] => { results := [.lit (.bool false)], args := [d] }
  | _ => none }
def FnExactSumNumbersWrongFalsely : Prop := fnExactSumNumbersRow.holds Try.pinned (OpenSpec.ofChange fnExactSumNumbersWrong)

/-- 'laws.FnExactSumCarried': WHATEVER THE INPUT: true; the input reads as it did. -/
def fnExactSumCarriedSpec : ChangeSpec := { name := "fnExactSumCarried", fn := fun _ => fun
  | [d] => { results := [.lit (.bool true)], args := [d] }
  | _ => none }
def fnExactSumCarriedRow : OpenClaim := { program := "ytfoanhffcghjaaa", sum := "4fd34206847936776e404707fb14661121fcf8b8ff43b07f8f74a86f253c1cc0", func := "loop.example/g01157/laws.FnExactSumCarried", spec := "fnExactSumCarried", apart := false }
def FnExactSumCarriedSaid : Prop := fnExactSumCarriedRow.holds Try.pinned (OpenSpec.ofChange fnExactSumCarriedSpec)

/-- ITS FALSE NEIGHBOUR: 'it returns false'. Refute it at one input. -/
def fnExactSumCarriedWrong : ChangeSpec := { name := "fnExactSumCarried", fn := fun _ => fun
  | [d] => { results := [.lit (.bool false)], args := [d] }
  | _ => none }
def FnExactSumCarriedWrongFalsely : Prop := fnExactSumCarriedRow.holds Try.pinned (OpenSpec.ofChange fnExactSumCarriedWrong)

/-- 'laws.FnExactNextDown': WHATEVER THE INPUT: true; the input reads as it did. -/
def fnExactNextDownSpec : ChangeSpec := { name := "fnExactNextDown", fn := fun _ => fun
  | [d] => { results := [.lit (.bool true)], args := [d] }
  | _ => none }
def fnExactNextDownRow : OpenClaim := { program := "ytfoanhffcghjaaa", sum := "4fd34206847936776e404707fb14661121fcf8b8ff43b07f8f74a86f253c1cc0", func := "loop.example/g01157/laws.FnExactNextDown", spec := "fnExactNextDown", inPlace := ["math.Float32bits", "math.Float32frombits", "math.Float64frombits"], apart := false }
def FnExactNextDownSaid : Prop := fnExactNextDownRow.holds Try.pinned (OpenSpec.ofChange fnExactNextDownSpec)

/-- ITS FALSE NEIGHBOUR: 'it returns false'. Refute it at one input. -/
def fnExactNextDownWrong : ChangeSpec := { name := "fnExactNextDown", fn := fun _ => fun
  | [d] => { results := [.lit (.bool false)], args := [d] }
  | _ => none }
def FnExactNextDownWrongFalsely : Prop := fnExactNextDownRow.holds Try.pinned (OpenSpec.ofChange fnExactNextDownWrong)

/-- 'laws.FnExactSumPairs': WHATEVER THE INPUT: true; the input reads as it did. -/
def fnExactSumPairsSpec : ChangeSpec := { name := "fnExactSumPairs", fn := fun _ => fun
  | [d] => { results := [.lit (.bool true)], args := [d] }
  | _ => none }
def fnExactSumPairsRow : OpenClaim := { program := "ytfoanhffcghjaaa", sum := "4fd34206847936776e404707fb14661121fcf8b8ff43b07f8f74a86f253c1cc0", func := "loop.example/g01157/laws.FnExactSumPairs", spec := "fnExactSumPairs", recurses := true, apart := false }
def FnExactSumPairsSaid : Prop := fnExactSumPairsRow.holds Try.pinned (OpenSpec.ofChange fnExactSumPairsSpec)

/-- ITS FALSE NEIGHBOUR: 'it returns false'. Refute it at one input. -/
def fnExactSumPairsWrong : ChangeSpec := { name := "fnExactSumPairs", fn := fun _ => fun
  | [d] => { results := [.lit (.bool false)], args := [d] }
  | _ => none }
def FnExactSumPairsWrongFalsely : Prop := fnExactSumPairsRow.holds Try.pinned (OpenSpec.ofChange fnExactSumPairsWrong)

/-- 'laws.FnExactExpNumber': WHATEVER THE INPUT: true; the input reads as it did. -/
def fnExactExpNumberSpec : ChangeSpec := { name := "fnExactExpNumber", fn := fun _ => fun
  | [d] => { results := [.lit (.bool true)], args := [d] }
  | _ => none }
def fnExactExpNumberRow : OpenClaim := { program := "ytfoanhffcghjaaa", sum := "4fd34206847936776e404707fb14661121fcf8b8ff43b07f8f74a86f253c1cc0", func := "loop.example/g01157/laws.FnExactExpNumber", spec := "fnExactExpNumber", inPlace := ["math.Float64frombits"], apart := false }
def FnExactExpNumberSaid : Prop := fnExactExpNumberRow.holds Try.pinned (OpenSpec.ofChange fnExactExpNumberSpec)

/-- ITS FALSE NEIGHBOUR: 'it returns false'. Refute it at one input. -/
def fnExactExpNumberWrong : ChangeSpec := { name := "fnExactExpNumber", fn := fun _ => fun
  | [d] => { results := [.lit (.bool false)], args := [d] }
  | _ => none }
def FnExactExpNumberWrongFalsely : Prop := fnExactExpNumberRow.holds Try.pinned (OpenSpec.ofChange fnExactExpNumberWrong)

/-- 'laws.FnExactTanhNumber': WHATEVER THE INPUT: true; the input reads as it did. -/
def fnExactTanhNumberSpec : ChangeSpec := { name := "fnExactTanhNumber", fn := fun _ => fun
  | [d] => { results := [.lit (.bool true)], args := [d] }
  | _ => none }
def fnExactTanhNumberRow : OpenClaim := { program := "ytfoanhffcghjaaa", sum := "4fd34206847936776e404707fb14661121fcf8b8ff43b07f8f74a86f253c1cc0", func := "loop.example/g01157/laws.FnExactTanhNumber", spec := "fnExactTanhNumber", inPlace := ["math.Float64frombits"], apart := false }
def FnExactTanhNumberSaid : Prop := fnExactTanhNumberRow.holds Try.pinned (OpenSpec.ofChange fnExactTanhNumberSpec)

/-- ITS FALSE NEIGHBOUR: 'it returns false'. Refute it at one input. -/
def fnExactTanhNumberWrong : ChangeSpec := { name := "fnExactTanhNumber", fn := fun _ => fun
  | [d] => { results := [.lit (.bool false)], args := [d] }
  | _ => none }
def FnExactTanhNumberWrongFalsely : Prop := fnExactTanhNumberRow.holds Try.pinned (OpenSpec.ofChange fnExactTanhNumberWrong)

/-- 'laws.FnExactRootNumber': WHATEVER THE INPUT: true; the input reads as it did. -/
def fnExactRootNumberSpec : ChangeSpec := { name := "fnExactRootNumber", fn := fun _ => fun
  | [d] => { results := [.lit (.bool true)], args := [d] }
  | _ => none }
def fnExactRootNumberRow : OpenClaim := { program := "ytfoanhffcghjaaa", sum := "4fd34206847936776e404707fb14661121fcf8b8ff43b07f8f74a86f253c1cc0", func := "loop.example/g01157/laws.FnExactRootNumber", spec := "fnExactRootNumber", inPlace := ["math.sqrt"], apart := false }
def FnExactRootNumberSaid : Prop := fnExactRootNumberRow.holds Try.pinned (OpenSpec.ofChange fnExactRootNumberSpec)

/-- ITS FALSE NEIGHBOUR: 'it returns false'. Refute it at one input. -/
def fnExactRootNumberWrong : ChangeSpec := { name := "fnExactRootNumber", fn := fun _ => fun
  | [d] => { results := [.lit (.bool false)], args := [d] }
  | _ => none }
def FnExactRootNumberWrongFalsely : Prop := fnExactRootNumberRow.holds Try.pinned (OpenSpec.ofChange fnExactRootNumberWrong)

/-- 'laws.FnExactLogNumber': WHATEVER THE INPUT: true; the input reads as it did. -/
def fnExactLogNumberSpec : ChangeSpec := { name := "fnExactLogNumber", fn := fun _ => fun
  | [d] => { results := [.lit (.bool true)], args := [d] }
  | _ => none }
def fnExactLogNumberRow : OpenClaim := { program := "ytfoanhffcghjaaa", sum := "4fd34206847936776e404707fb14661121fcf8b8ff43b07f8f74a86f253c1cc0", func := "loop.example/g01157/laws.FnExactLogNumber", spec := "fnExactLogNumber", inPlace := ["math.Float64frombits", "math.Float64bits"], apart := false }
def FnExactLogNumberSaid : Prop := fnExactLogNumberRow.holds Try.pinned (OpenSpec.ofChange fnExactLogNumberSpec)

/-- ITS FALSE NEIGHBOUR: 'it returns false'. Refute it at one input. -/
def fnExactLogNumberWrong : ChangeSpec := { name := "fnExactLogNumber", fn := fun _ => fun
  | [d] => { results := [.lit (.bool false)], args := [d] }
  | _ => none }
def FnExactLogNumberWrongFalsely : Prop := fnExactLogNumberRow.holds Try.pinned (OpenSpec.ofChange fnExactLogNumberWrong)

/-- 'laws.FnExactEightValue': WHATEVER THE INPUT: true; the input reads as it did. -/
def fnExactEightValueSpec : ChangeSpec := { name := "fnExactEightValue", fn := fun _ => fun
  | [d1, d2] => { results := [.lit (.bool true)], args := [d1, d2] }
  | _ => none }
def fnExactEightValueRow : OpenClaim := { program := "ytfoanhffcghjaaa", sum := "4fd34206847936776e404707fb14661121fcf8b8ff43b07f8f74a86f253c1cc0", func := "loop.example/g01157/laws.FnExactEightValue", spec := "fnExactEightValue", inPlace := ["math.Float32frombits", "math.Float64frombits", "math.Float64bits"], apart := false }
def FnExactEightValueSaid : Prop := fnExactEightValueRow.holds Try.pinned (OpenSpec.ofChange fnExactEightValueSpec)

/-- ITS FALSE NEIGHBOUR: 'it returns false'. Refute it at one input. -/
def fnExactEightValueWrong : ChangeSpec := { name := "fnExactEightValue", fn := fun _ => fun
  | [d1, d2] => { results := [.lit (.bool false)], args := [d1, d2] }
  | _ => none }
def FnExactEightValueWrongFalsely : Prop := fnExactEightValueRow.holds Try.pinned (OpenSpec.ofChange fnExactEightValueWrong)

/-- 'laws.FnExactEightOf': WHATEVER THE INPUT: true; the input reads as it did. -/
def fnExactEightOfSpec : ChangeSpec := { name := "fnExactEightOf", fn := fun _ => fun
  | [d1, d2] => { results := [.lit (.bool true)], args := [d1, d2] }
  | _ => none }
def fnExactEightOfRow : OpenClaim := { program := "ytfoanhffcghjaaa", sum := "4fd34206847936776e404707fb14661121fcf8b8ff43b07f8f74a86f253c1cc0", func := "loop.example/g01157/laws.FnExactEightOf", spec := "fnExactEightOf", inPlace := ["math.Float32bits", "math.Float64bits", "math.Float64frombits"], apart := false }
def FnExactEightOfSaid : Prop := fnExactEightOfRow.holds Try.pinned (OpenSpec.ofChange fnExactEightOfSpec)

/-- ITS FALSE NEIGHBOUR: 'it returns false'. Refute it at one input. -/
def fnExactEightOfWrong : ChangeSpec := { name := "fnExactEightOf", fn := fun _ => fun
  | [d1, d2] => { results := [.lit (.bool false)], args := [d1, d2] }
  | _ => none }
def FnExactEightOfWrongFalsely : Prop := fnExactEightOfRow.holds Try.pinned (OpenSpec.ofChange fnExactEightOfWrong)

/- THE SECOND FORM. 'bulk': how many values and letters a reading holds, each counted each time it is reached (what is shared counts as often as it is met; a slice's spare places count too). A statement '..UptoSaid' is the law's where the arguments, and the package variables that the reading takes, are together of bulk at most 1048576: NARROWER than '..Said'. Prove '..Said' where nothing that the law and all that it calls make is longer than what came in: it says more and counts as full. Else prove '..UptoSaid'. A law counts once. -/
mutual
def uptoBulk {H : Type} : DataW H → Nat
  | .lit (.string bytes) => bytes.length + 1
  | .lit _ => 1
  | .nil => 1
  | .ptr d => uptoBulk d + 1
  | .slice elems spare => uptoBulkAll elems + uptoBulkAll spare + 1
  | .agg parts => uptoBulkAll parts + 1
  | .iface _ d => uptoBulk d + 1
  | .map entries => uptoBulkEntries entries + 1
  | .held _ => 1
def uptoBulkAll {H : Type} : List (DataW H) → Nat
  | [] => 0
  | d :: r => uptoBulk d + uptoBulkAll r
def uptoBulkEntries {H : Type} : List (Lit × DataW H) → Nat
  | [] => 0
  | x :: r => uptoBulkEntry x + uptoBulkEntries r
def uptoBulkEntry {H : Type} : Lit × DataW H → Nat
  | (.string bytes, d) => bytes.length + uptoBulk d + 1
  | (_, d) => uptoBulk d + 1
 end
def uptoSmall : (H : Type) → List (DataW H) → Bool := fun _ ds => decide (uptoBulkAll ds ≤ 1048576)
def OpenSpec.upto (s : _root_.Go.ChangeSpec) : _root_.Go.OpenSpec := { _root_.Go.OpenSpec.ofChange s with cond := some uptoSmall }

/-- 'laws.FnExactDotWide', WHERE WHAT IT READS IS OF BULK AT MOST 1048576: true; the input reads as it did. -/
def fnExactDotWideUptoRow : OpenClaim := { program := "ytfoanhffcghjaaa", sum := "4fd34206847936776e404707fb14661121fcf8b8ff43b07f8f74a86f253c1cc0", func := "loop.example/g01157/laws.FnExactDotWide", spec := "fnExactDotWide", apart := false, narrowed := true }
def FnExactDotWideUptoSaid : Prop := fnExactDotWideUptoRow.holds Try.pinned (OpenSpec.upto fnExactDotWideSpec)

/-- 'laws.FnExactDotNumbers', WHERE WHAT IT READS IS OF BULK AT MOST 1048576: true; the input reads as it did. -/
def fnExactDotNumbersUptoRow : OpenClaim := { program := "ytfoanhffcghjaaa", sum := "4fd34206847936776e404707fb14661121fcf8b8ff43b07f8f74a86f253c1cc0", func := "loop.example/g01157/laws.FnExactDotNumbers", spec := "fnExactDotNumbers", apart := false, narrowed := true }
def FnExactDotNumbersUptoSaid : Prop := fnExactDotNumbersUptoRow.holds Try.pinned (OpenSpec.upto fnExactDotNumbersSpec)

/-- 'laws.FnExactSumNumbers', WHERE WHAT IT READS IS OF BULK AT MOST 1048576: true; the input reads as it did. -/
def fnExactSumNumbersUptoRow : OpenClaim := { program := "ytfoanhffcghjaaa", sum := "4fd34206847936776e404707fb14661121fcf8b8ff43b07f8f74a86f253c1cc0", func := "loop.example/g01157/laws.FnExactSumNumbers", spec := "fnExactSumNumbers", apart := false, narrowed := true }
def FnExactSumNumbersUptoSaid : Prop := fnExactSumNumbersUptoRow.holds Try.pinned (OpenSpec.upto fnExactSumNumbersSpec)

/-- 'laws.FnExactSumCarried', WHERE WHAT IT READS IS OF BULK AT MOST 1048576: true; the input reads as it did. -/
def fnExactSumCarriedUptoRow : OpenClaim := { program := "ytfoanhffcghjaaa", sum := "4fd34206847936776e404707fb14661121fcf8b8ff43b07f8f74a86f253c1cc0", func := "loop.example/g01157/laws.FnExactSumCarried", spec := "fnExactSumCarried", apart := false, narrowed := true }
def FnExactSumCarriedUptoSaid : Prop := fnExactSumCarriedUptoRow.holds Try.pinned (OpenSpec.upto fnExactSumCarriedSpec)

/-- 'laws.FnExactNextDown', WHERE WHAT IT READS IS OF BULK AT MOST 1048576: true; the input reads as it did. -/
def fnExactNextDownUptoRow : OpenClaim := { program := "ytfoanhffcghjaaa", sum := "4fd34206847936776e404707fb14661121fcf8b8ff43b07f8f74a86f253c1cc0", func := "loop.example/g01157/laws.FnExactNextDown", spec := "fnExactNextDown", inPlace := ["math.Float32bits", "math.Float32frombits", "math.Float64frombits"], apart := false, narrowed := true }
def FnExactNextDownUptoSaid : Prop := fnExactNextDownUptoRow.holds Try.pinned (OpenSpec.upto fnExactNextDownSpec)

/-- 'laws.FnExactSumPairs', WHERE WHAT IT READS IS OF BULK AT MOST 1048576: true; the input reads as it did. -/
def fnExactSumPairsUptoRow : OpenClaim := { program := "ytfoanhffcghjaaa", sum := "4fd34206847936776e404707fb14661121fcf8b8ff43b07f8f74a86f253c1cc0", func := "loop.example/g01157/laws.FnExactSumPairs", spec := "fnExactSumPairs", recurses := true, apart := false, narrowed := true }
def FnExactSumPairsUptoSaid : Prop := fnExactSumPairsUptoRow.holds Try.pinned (OpenSpec.upto fnExactSumPairsSpec)

/-- 'laws.FnExactExpNumber', WHERE WHAT IT READS IS OF BULK AT MOST 1048576: true; the input reads as it did. -/
def fnExactExpNumberUptoRow : OpenClaim := { program := "ytfoanhffcghjaaa", sum := "4fd34206847936776e404707fb14661121fcf8b8ff43b07f8f74a86f253c1cc0", func := "loop.example/g01157/laws.FnExactExpNumber", spec := "fnExactExpNumber", inPlace := ["math.Float64frombits"], apart := false, narrowed := true }
def FnExactExpNumberUptoSaid : Prop := fnExactExpNumberUptoRow.holds Try.pinned (OpenSpec.upto fnExactExpNumberSpec)

/-- 'laws.FnExactTanhNumber', WHERE WHAT IT READS IS OF BULK AT MOST 1048576: true; the input reads as it did. -/
def fnExactTanhNumberUptoRow : OpenClaim := { program := "ytfoanhffcghjaaa", sum := "4fd34206847936776e404707fb14661121fcf8b8ff43b07f8f74a86f253c1cc0", func := "loop.example/g01157/laws.FnExactTanhNumber", spec := "fnExactTanhNumber", inPlace := ["math.Float64frombits"], apart := false, narrowed := true }
def FnExactTanhNumberUptoSaid : Prop := fnExactTanhNumberUptoRow.holds Try.pinned (OpenSpec.upto fnExactTanhNumberSpec)

/-- 'laws.FnExactRootNumber', WHERE WHAT IT READS IS OF BULK AT MOST 1048576: true; the input reads as it did. -/
def fnExactRootNumberUptoRow : OpenClaim := { program := "ytfoanhffcghjaaa", sum := "4fd34206847936776e404707fb14661121fcf8b8ff43b07f8f74a86f253c1cc0", func := "loop.example/g01157/laws.FnExactRootNumber", spec := "fnExactRootNumber", inPlace := ["math.sqrt"], apart := false, narrowed := true }
def FnExactRootNumberUptoSaid : Prop := fnExactRootNumberUptoRow.holds Try.pinned (OpenSpec.upto fnExactRootNumberSpec)

/-- 'laws.FnExactLogNumber', WHERE WHAT IT READS IS OF BULK AT MOST 1048576: true; the input reads as it did. -/
def fnExactLogNumberUptoRow : OpenClaim := { program := "ytfoanhffcghjaaa", sum := "4fd34206847936776e404707fb14661121fcf8b8ff43b07f8f74a86f253c1cc0", func := "loop.example/g01157/laws.FnExactLogNumber", spec := "fnExactLogNumber", inPlace := ["math.Float64frombits", "math.Float64bits"], apart := false, narrowed := true }
def FnExactLogNumberUptoSaid : Prop := fnExactLogNumberUptoRow.holds Try.pinned (OpenSpec.upto fnExactLogNumberSpec)

/-- 'laws.FnExactEightValue', WHERE WHAT IT READS IS OF BULK AT MOST 1048576: true; the input reads as it did. -/
def fnExactEightValueUptoRow : OpenClaim := { program := "ytfoanhffcghjaaa", sum := "4fd34206847936776e404707fb14661121fcf8b8ff43b07f8f74a86f253c1cc0", func := "loop.example/g01157/laws.FnExactEightValue", spec := "fnExactEightValue", inPlace := ["math.Float32frombits", "math.Float64frombits", "math.Float64bits"], apart := false, narrowed := true }
def FnExactEightValueUptoSaid : Prop := fnExactEightValueUptoRow.holds Try.pinned (OpenSpec.upto fnExactEightValueSpec)

/-- 'laws.FnExactEightOf', WHERE WHAT IT READS IS OF BULK AT MOST 1048576: true; the input reads as it did. -/
def fnExactEightOfUptoRow : OpenClaim := { program := "ytfoanhffcghjaaa", sum := "4fd34206847936776e404707fb14661121fcf8b8ff43b07f8f74a86f253c1cc0", func := "loop.example/g01157/laws.FnExactEightOf", spec := "fnExactEightOf", inPlace := ["math.Float32bits", "math.Float64bits", "math.Float64frombits"], apart := false, narrowed := true }
def FnExactEightOfUptoSaid : Prop := fnExactEightOfUptoRow.holds Try.pinned (OpenSpec.upto fnExactEightOfSpec)

end Rows
end Go.Proofs.Ytfoanhffcghjaaa
