/- The functions of package math that the model itself answers: what a call gives. -/
import Derived.Test.YtfgmpodmbbnijaaRows
import Derived.Test.YtfgmpodmbbnijaaFl2
import Derived.Test.YtfgmpodmbbnijaaReg
namespace Go.Proofs.Ytfgmpodmbbnijaa
open Go.RowKit Go.Fl



@[go_sem] theorem call_f64from (b : Int) (w : World) : (callFunc 65 #[.int .u64 b]).run Try.prog w = .ok (.value (.float .f64 b.toNat)) w := by rw [run_callFunc_extern Try.func65 (by kernel_rfl) rfl (by kernel_rfl) (e := Extern.MathFloatBits.float64frombits) (by kernel_rfl)]; rfl
end Go.Proofs.Ytfgmpodmbbnijaa
