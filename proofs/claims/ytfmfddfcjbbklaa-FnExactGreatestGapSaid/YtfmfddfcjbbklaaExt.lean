/- The functions of package math that the model itself answers: what a call gives. -/
import Derived.Test.YtfmfddfcjbbklaaRows
import Derived.Test.YtfmfddfcjbbklaaFl2
import Derived.Test.YtfmfddfcjbbklaaReg
namespace Go.Proofs.Ytfmfddfcjbbklaa
open Go.RowKit Go.Fl
@[go_sem] theorem call_f32bits (b : Nat) (w : World) : (callFunc 95 #[.float .f32 b]).run Try.prog w = .ok (.value (.int .u32 b)) w := by rw [run_callFunc_extern Try.func95 (by kernel_rfl) rfl (by kernel_rfl) (e := Extern.MathFloatBits.float32bits) (by kernel_rfl)]; rfl
@[go_sem] theorem call_f64bits (b : Nat) (w : World) : (callFunc 82 #[.float .f64 b]).run Try.prog w = .ok (.value (.int .u64 b)) w := by rw [run_callFunc_extern Try.func82 (by kernel_rfl) rfl (by kernel_rfl) (e := Extern.MathFloatBits.float64bits) (by kernel_rfl)]; rfl

@[go_sem] theorem call_f64from (b : Int) (w : World) : (callFunc 81 #[.int .u64 b]).run Try.prog w = .ok (.value (.float .f64 b.toNat)) w := by rw [run_callFunc_extern Try.func81 (by kernel_rfl) rfl (by kernel_rfl) (e := Extern.MathFloatBits.float64frombits) (by kernel_rfl)]; rfl
end Go.Proofs.Ytfmfddfcjbbklaa
