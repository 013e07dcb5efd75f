/- Comparisons of floats: what is no not-a-number has an order. -/
import Derived.Test.YtfoanhffcghjaaaFl2
namespace Go.Fl
open Ieee Go.RowKit
theorem order_some {k : FloatKind} {a b : Nat} (ha : isNaN k a = false) (hb : isNaN k b = false) : ∃ o, k.format.order a b = some o := by
  unfold isNaN FloatKind.decode at ha hb
  unfold Format.order
  cases h1 : k.format.read a <;> cases h2 : k.format.read b <;> rw [h1] at ha <;> rw [h2] at hb <;> simp [Datum.isNaN] at ha hb <;> exact ⟨_, rfl⟩
end Go.Fl
