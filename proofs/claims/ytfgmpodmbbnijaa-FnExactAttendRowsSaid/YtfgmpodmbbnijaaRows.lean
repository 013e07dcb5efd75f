/-
  No cell of these rows narrows 'for every input' (looked for: loops, veiled, ifaces, maps, wideKeys, modest, calm, conditions, laid).
  DERIVED. THE GIVEN ROWS OF THIS SEAT. 5 by the template 'for every input the law returns true; each argument reads behind the call as it read before'; 0 by the template 'total and deterministic' (their statements: YtfgmpodmbbnijaaTotals.lean).
  GIVEN WITH THE SEED: the statements are not yours to turn. If you find one false, say at which input.
  Laid BY PROGRAM, IN A SANDBOX (cutbox-rows.mjs): the forced cells as the released guide's own fill.sh prints them over the translation 464b947ce702df40… (all of the seat's roots in one cut). By AI agents, Wed Nov 11 2026. No macro, syntax, notation, axiom, sorry.
-/
import Derived.Test.YtfgmpodmbbnijaaChecked
import GoSem.Claim
import GoSem.ClaimJoined
import GoSem.ClaimMapViews
import Derived.JoinedTies
import Derived.KernelRfl
namespace Go.Proofs.Ytfgmpodmbbnijaa
/- THE CELL 'sum', in the pinned program and in every row, IS THE sha256 OF THE DUMP (.gsa) THAT YtfgmpodmbbnijaaProg.lean LOADS. Nothing in Lean hashes anything: it is a label: what it is worth is what the hold of that sum in a sandbox is worth. -/
noncomputable def Try.pinned : Pinned := { name := "ytfgmpodmbbnijaa", sum := "464b947ce702df401160f442c1857911226cc3c4e558321eef102d1bab0e872c", checked := Try.checked }
namespace Rows
def none {H : Type} : Left H := { results := [], args := [] }

/-- 'laws.FnExactConvolveRow': WHATEVER THE INPUT: true; the input reads as it did. -/
def fnExactConvolveRowSpec : ChangeSpec := { name := "fnExactConvolveRow", fn := fun _ => fun
  | [d1, d2, d3] => { results := [.lit (.bool true)], args := [d1, d2, d3] }
  | _ => none }
def fnExactConvolveRowRow : OpenClaim := { program := "ytfgmpodmbbnijaa", sum := "464b947ce702df401160f442c1857911226cc3c4e558321eef102d1bab0e872c", func := "loop.example/g01157/laws.FnExactConvolveRow", spec := "fnExactConvolveRow", apart := false }
def FnExactConvolveRowSaid : Prop := fnExactConvolveRowRow.holds Try.pinned (OpenSpec.ofChange fnExactConvolveRowSpec)

/-- ITS FALSE NEIGHBOUR: 'it returns false'. Refute it at one input. -/
def fnExactConvolveRowWrong : ChangeSpec := { name := "fnExactConvolveRow", fn := fun _ => fun
  | [d1, d2, d3] => { results := [.lit (.bool false)], args := [d1, d2, d3] }
  | _ => none }
def FnExactConvolveRowWrongFalsely : Prop := fnExactConvolveRowRow.holds Try.pinned (OpenSpec.ofChange fnExactConvolveRowWrong)

/-- 'laws.FnExactConvolveImage': WHATEVER THE INPUT: true; the input reads as it did. -/
def fnExactConvolveImageSpec : ChangeSpec := { name := "fnExactConvolveImage", fn := fun _ => fun
  | [d1, d2] => { results := [.lit (.bool true)], args := [d1, d2] }
  | _ => none }
def fnExactConvolveImageRow : OpenClaim := { program := "ytfgmpodmbbnijaa", sum := "464b947ce702df401160f442c1857911226cc3c4e558321eef102d1bab0e872c", func := "loop.example/g01157/laws.FnExactConvolveImage", spec := "fnExactConvolveImage", apart := false }
def FnExactConvolveImageSaid : Prop := fnExactConvolveImageRow.holds Try.pinned (OpenSpec.ofChange fnExactConvolveImageSpec)

/-- ITS FALSE NEIGHBOUR: 'it returns false'. Refute it at one input. -/
def fnExactConvolveImageWrong : ChangeSpec := { name := "fnExactConvolveImage", fn := fun _ => fun
  | [d1, d2] => { results := [.lit (.bool false)], args := [d1, d2] }
  | _ => none }
def FnExactConvolveImageWrongFalsely : Prop := fnExactConvolveImageRow.holds Try.pinned (OpenSpec.ofChange fnExactConvolveImageWrong)

/-- 'laws.FnExactPoolMean': WHATEVER THE INPUT: true; the input reads as it did. -/
def fnExactPoolMeanSpec : ChangeSpec := { name := "fnExactPoolMean", fn := fun _ => fun
  | [d1, d2] => { results := [.lit (.bool true)], args := [d1, d2] }
  | _ => none }
def fnExactPoolMeanRow : OpenClaim := { program := "ytfgmpodmbbnijaa", sum := "464b947ce702df401160f442c1857911226cc3c4e558321eef102d1bab0e872c", func := "loop.example/g01157/laws.FnExactPoolMean", spec := "fnExactPoolMean", unfollowed := true, recurses := true, apart := false }
def FnExactPoolMeanSaid : Prop := fnExactPoolMeanRow.holds Try.pinned (OpenSpec.ofChange fnExactPoolMeanSpec)

/-- ITS FALSE NEIGHBOUR: 'it returns false'. Refute it at one input. -/
def fnExactPoolMeanWrong : ChangeSpec := { name := "fnExactPoolMean", fn := fun _ => fun
  | [d1, d2] => { results := [.lit (.bool false)], args := [d1, d2] }
  | _ => none }
def FnExactPoolMeanWrongFalsely : Prop := fnExactPoolMeanRow.holds Try.pinned (OpenSpec.ofChange fnExactPoolMeanWrong)

/-- 'laws.FnExactPoolMost': WHATEVER THE INPUT: true; the input reads as it did. -/
def fnExactPoolMostSpec : ChangeSpec := { name := "fnExactPoolMost", fn := fun _ => fun
  | [d1, d2] => { results := [.lit (.bool true)], args := [d1, d2] }
  | _ => none }
def fnExactPoolMostRow : OpenClaim := { program := "ytfgmpodmbbnijaa", sum := "464b947ce702df401160f442c1857911226cc3c4e558321eef102d1bab0e872c", func := "loop.example/g01157/laws.FnExactPoolMost", spec := "fnExactPoolMost", unfollowed := true, recurses := true, apart := false }
def FnExactPoolMostSaid : Prop := fnExactPoolMostRow.holds Try.pinned (OpenSpec.ofChange fnExactPoolMostSpec)

/-- ITS FALSE NEIGHBOUR: 'it returns false'. Refute it at one input. -/
def fnExactPoolMostWrong : ChangeSpec := { name := "fnExactPoolMost", fn := fun _ => fun
  | [d1, d2] => { results := [.lit (.bool false)], args := [d1, d2] }
  | _ => none }
def FnExactPoolMostWrongFalsely : Prop := fnExactPoolMostRow.holds Try.pinned (OpenSpec.ofChange fnExactPoolMostWrong)

/-- 'laws.FnExactAttendRows': WHATEVER THE INPUT: true; the input reads as it did. -/
def fnExactAttendRowsSpec : ChangeSpec := { name := "fnExactAttendRows", fn := fun _ => fun
  | [d1, d2, d3, d4] => { results := [.lit (.bool true)], args := [d1, d2, d3, d4] }
  | _ => none }
def fnExactAttendRowsRow : OpenClaim := { program := "ytfgmpodmbbnijaa", sum := "464b947ce702df401160f442c1857911226cc3c4e558321eef102d1bab0e872c", func := "loop.example/g01157/laws.FnExactAttendRows", spec := "fnExactAttendRows", inPlace := ["math.sqrt", "math.Float64frombits"], apart := false }
def FnExactAttendRowsSaid : Prop := fnExactAttendRowsRow.holds Try.pinned (OpenSpec.ofChange fnExactAttendRowsSpec)

/-- ITS FALSE NEIGHBOUR: 'it returns false'. Refute it at one input. -/
def fnExactAttendRowsWrong : ChangeSpec := { name := "fnExactAttendRows", fn := fun _ => fun
  | [d1, d2, d3, d4] => { results := [.lit (.bool false)], args := [d1, d2, d3, d4] }
  | _ => none }
def FnExactAttendRowsWrongFalsely : Prop := fnExactAttendRowsRow.holds Try.pinned (OpenSpec.ofChange fnExactAttendRowsWrong)

/- THE SECOND FORM. 'bulk': how many values and letters a reading holds, each counted each time it is reached (what is shared counts as often as it is met; a slice's spare places count too). A statement '..UptoSaid' is the law's where the arguments, and the package variables that the reading takes, are together of bulk at most 1048576: NARROWER than '..Said'. Prove '..Said' where nothing that the law and all that it calls make is longer than what came in: it says more and counts as full. Else prove '..UptoSaid'. A law counts once. -/
mutual
def uptoBulk {H : Type} : DataW H → Nat
  | .lit (.string bytes) => bytes.length + 1
  | .lit _ => 1
  | .nil => 1
  | .ptr d => uptoBulk d + 1
  | .slice elems spare => uptoBulkAll elems + uptoBulkAll spare + 1
  | .agg parts => uptoBulkAll parts + 1
  | .iface _ d => uptoBulk d + 1
  | .map entries => uptoBulkEntries entries + 1
  | .held _ => 1
def uptoBulkAll {H : Type} : List (DataW H) → Nat
  | [] => 0
  | d :: r => uptoBulk d + uptoBulkAll r
def uptoBulkEntries {H : Type} : List (Lit × DataW H) → Nat
  | [] => 0
  | x :: r => uptoBulkEntry x + uptoBulkEntries r
def uptoBulkEntry {H : Type} : Lit × DataW H → Nat
  | (.string bytes, d) => bytes.length + uptoBulk d + 1
  | (_, d) => uptoBulk d + 1
 end
def uptoSmall : (H : Type) → List (DataW H) → Bool := fun _ ds => decide (uptoBulkAll ds ≤ 1048576)
def OpenSpec.upto (s : _root_.Go.ChangeSpec) : _root_.Go.OpenSpec := { _root_.Go.OpenSpec.ofChange s with cond := some uptoSmall }

/-- 'laws.FnExactConvolveRow', WHERE WHAT IT READS IS OF BULK AT MOST 1048576: true; the input reads as it did. -/
def fnExactConvolveRowUptoRow : OpenClaim := { program := "ytfgmpodmbbnijaa", sum := "464b947ce702df401160f442c1857911226cc3c4e558321eef102d1bab0e872c", func := "loop.example/g01157/laws.FnExactConvolveRow", spec := "fnExactConvolveRow", apart := false, narrowed := true }
def FnExactConvolveRowUptoSaid : Prop := fnExactConvolveRowUptoRow.holds Try.pinned (OpenSpec.upto fnExactConvolveRowSpec)

/-- 'laws.FnExactConvolveImage', WHERE WHAT IT READS IS OF BULK AT MOST 1048576: true; the input reads as it did. -/
def fnExactConvolveImageUptoRow : OpenClaim := { program := "ytfgmpodmbbnijaa", sum := "464b947ce702df401160f442c1857911226cc3c4e558321eef102d1bab0e872c", func := "loop.example/g01157/laws.FnExactConvolveImage", spec := "fnExactConvolveImage", apart := false, narrowed := true }
def FnExactConvolveImageUptoSaid : Prop := fnExactConvolveImageUptoRow.holds Try.pinned (OpenSpec.upto fnExactConvolveImageSpec)

/-- 'laws.FnExactPoolMean', WHERE WHAT IT READS IS OF BULK AT MOST 1048576: true; the input reads as it did. -/
def fnExactPoolMeanUptoRow : OpenClaim := { program := "ytfgmpodmbbnijaa", sum := "464b947ce702df401160f442c1857911226cc3c4e558321eef102d1bab0e872c", func := "loop.example/g01157/laws.FnExactPoolMean", spec := "fnExactPoolMean", unfollowed := true, recurses := true, apart := false, narrowed := true }
def FnExactPoolMeanUptoSaid : Prop := fnExactPoolMeanUptoRow.holds Try.pinned (OpenSpec.upto fnExactPoolMeanSpec)

/-- 'laws.FnExactPoolMost', WHERE WHAT IT READS IS OF BULK AT MOST 1048576: true; the input reads as it did. -/
def fnExactPoolMostUptoRow : OpenClaim := { program := "ytfgmpodmbbnijaa", sum := "464b947ce702df401160f442c1857911226cc3c4e558321eef102d1bab0e872c", func := "loop.example/g01157/laws.FnExactPoolMost", spec := "fnExactPoolMost", unfollowed := true, recurses := true, apart := false, narrowed := true }
def FnExactPoolMostUptoSaid : Prop := fnExactPoolMostUptoRow.holds Try.pinned (OpenSpec.upto fnExactPoolMostSpec)

/-- 'laws.FnExactAttendRows', WHERE WHAT IT READS IS OF BULK AT MOST 1048576: true; the input reads as it did. -/
def fnExactAttendRowsUptoRow : OpenClaim := { program := "ytfgmpodmbbnijaa", sum := "464b947ce702df401160f442c1857911226cc3c4e558321eef102d1bab0e872c", func := "loop.example/g01157/laws.FnExactAttendRows", spec := "fnExactAttendRows", inPlace := ["math.sqrt", "math.Float64frombits"], apart := false, narrowed := true }
def FnExactAttendRowsUptoSaid : Prop := fnExactAttendRowsUptoRow.holds Try.pinned (OpenSpec.upto fnExactAttendRowsSpec)

end Rows
end Go.Proofs.Ytfgmpodmbbnijaa
