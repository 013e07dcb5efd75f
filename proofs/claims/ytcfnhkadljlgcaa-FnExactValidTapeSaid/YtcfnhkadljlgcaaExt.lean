/- The functions of package math that the model itself answers: what a call gives. -/
import Derived.Test.YtcfnhkadljlgcaaRows
import Derived.Test.YtcfnhkadljlgcaaFl2
import Derived.Test.YtcfnhkadljlgcaaReg
namespace Go.Proofs.Ytcfnhkadljlgcaa
open Go.RowKit Go.Fl
@[go_sem] theorem call_f32bits (b : Nat) (w : World) : (callFunc 36 #[.float .f32 b]).run Try.prog w = .ok (.value (.int .u32 b)) w := by rw [run_callFunc_extern Try.func36 (by kernel_rfl) rfl (by kernel_rfl) (e := Extern.MathFloatBits.float32bits) (by kernel_rfl)]; rfl
@[go_sem] theorem call_f64bits (b : Nat) (w : World) : (callFunc 37 #[.float .f64 b]).run Try.prog w = .ok (.value (.int .u64 b)) w := by rw [run_callFunc_extern Try.func37 (by kernel_rfl) rfl (by kernel_rfl) (e := Extern.MathFloatBits.float64bits) (by kernel_rfl)]; rfl


end Go.Proofs.Ytcfnhkadljlgcaa
