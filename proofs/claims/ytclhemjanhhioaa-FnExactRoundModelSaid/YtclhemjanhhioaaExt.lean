/- The functions of package math that the model itself answers: what a call gives. -/
import Derived.Test.YtclhemjanhhioaaRows
import Derived.Test.YtclhemjanhhioaaFl2
import Derived.Test.YtclhemjanhhioaaReg
namespace Go.Proofs.Ytclhemjanhhioaa
open Go.RowKit Go.Fl
@[go_sem] theorem call_f32bits (b : Nat) (w : World) : (callFunc 59 #[.float .f32 b]).run Try.prog w = .ok (.value (.int .u32 b)) w := by rw [run_callFunc_extern Try.func59 (by kernel_rfl) rfl (by kernel_rfl) (e := Extern.MathFloatBits.float32bits) (by kernel_rfl)]; rfl

@[go_sem] theorem call_f32from (b : Int) (w : World) : (callFunc 60 #[.int .u32 b]).run Try.prog w = .ok (.value (.float .f32 b.toNat)) w := by rw [run_callFunc_extern Try.func60 (by kernel_rfl) rfl (by kernel_rfl) (e := Extern.MathFloatBits.float32frombits) (by kernel_rfl)]; rfl
@[go_sem] theorem call_f64from (b : Int) (w : World) : (callFunc 63 #[.int .u64 b]).run Try.prog w = .ok (.value (.float .f64 b.toNat)) w := by rw [run_callFunc_extern Try.func63 (by kernel_rfl) rfl (by kernel_rfl) (e := Extern.MathFloatBits.float64frombits) (by kernel_rfl)]; rfl
end Go.Proofs.Ytclhemjanhhioaa
