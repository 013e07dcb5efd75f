/- The functions of package math that the model itself answers: what a call gives. -/
import Derived.Test.YtfoanhffcghjaaaRows
import Derived.Test.YtfoanhffcghjaaaFl2
import Derived.Test.YtfoanhffcghjaaaReg
namespace Go.Proofs.Ytfoanhffcghjaaa
open Go.RowKit Go.Fl
@[go_sem] theorem call_f32bits (b : Nat) (w : World) : (callFunc 75 #[.float .f32 b]).run Try.prog w = .ok (.value (.int .u32 b)) w := by rw [run_callFunc_extern Try.func75 (by kernel_rfl) rfl (by kernel_rfl) (e := Extern.MathFloatBits.float32bits) (by kernel_rfl)]; rfl
@[go_sem] theorem call_f64bits (b : Nat) (w : World) : (callFunc 85 #[.float .f64 b]).run Try.prog w = .ok (.value (.int .u64 b)) w := by rw [run_callFunc_extern Try.func85 (by kernel_rfl) rfl (by kernel_rfl) (e := Extern.MathFloatBits.float64bits) (by kernel_rfl)]; rfl
@[go_sem] theorem call_f32from (b : Int) (w : World) : (callFunc 74 #[.int .u32 b]).run Try.prog w = .ok (.value (.float .f32 b.toNat)) w := by rw [run_callFunc_extern Try.func74 (by kernel_rfl) rfl (by kernel_rfl) (e := Extern.MathFloatBits.float32frombits) (by kernel_rfl)]; rfl
@[go_sem] theorem call_f64from (b : Int) (w : World) : (callFunc 84 #[.int .u64 b]).run Try.prog w = .ok (.value (.float .f64 b.toNat)) w := by rw [run_callFunc_extern Try.func84 (by kernel_rfl) rfl (by kernel_rfl) (e := Extern.MathFloatBits.float64frombits) (by kernel_rfl)]; rfl
end Go.Proofs.Ytfoanhffcghjaaa
