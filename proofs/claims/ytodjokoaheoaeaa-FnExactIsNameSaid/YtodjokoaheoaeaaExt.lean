/- The functions of package math that the model itself answers: what a call gives. -/
import Derived.Test.YtodjokoaheoaeaaRows
import Derived.Test.YtodjokoaheoaeaaFl2
namespace Go.Proofs.Ytodjokoaheoaeaa
open Go.RowKit Go.Fl
@[go_sem] theorem call_f32bits (b : Nat) (w : World) : (callFunc 42 #[.float .f32 b]).run Try.prog w = .ok (.value (.int .u32 b)) w := by rw [run_callFunc_extern Try.func42 (by kernel_rfl) rfl (by kernel_rfl) (e := Extern.MathFloatBits.float32bits) (by kernel_rfl)]; rfl
@[go_sem] theorem call_f64bits (b : Nat) (w : World) : (callFunc 40 #[.float .f64 b]).run Try.prog w = .ok (.value (.int .u64 b)) w := by rw [run_callFunc_extern Try.func40 (by kernel_rfl) rfl (by kernel_rfl) (e := Extern.MathFloatBits.float64bits) (by kernel_rfl)]; rfl
@[go_sem] theorem call_f32from (b : Int) (w : World) : (callFunc 49 #[.int .u32 b]).run Try.prog w = .ok (.value (.float .f32 b.toNat)) w := by rw [run_callFunc_extern Try.func49 (by kernel_rfl) rfl (by kernel_rfl) (e := Extern.MathFloatBits.float32frombits) (by kernel_rfl)]; rfl
@[go_sem] theorem call_f64from (b : Int) (w : World) : (callFunc 57 #[.int .u64 b]).run Try.prog w = .ok (.value (.float .f64 b.toNat)) w := by rw [run_callFunc_extern Try.func57 (by kernel_rfl) rfl (by kernel_rfl) (e := Extern.MathFloatBits.float64frombits) (by kernel_rfl)]; rfl
end Go.Proofs.Ytodjokoaheoaeaa
