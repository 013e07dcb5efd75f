/- A list of numbers that is built by appending, in a variable. -/
import Derived.Test.YtclhemjanhhioaaAcc
namespace Go.Fl
open Go.RowKit Go.Reg
structure OwnS (B : Nat) (t : TypeId) (w0 w : World) (k : Nat) (a : Option Addr) (cap : Nat) (ys : List Nat) : Prop where
  below : Below B w0 w
  own : w.ownsRow B t 1 (.slice a k cap) k (fl ys)
  le : B ≤ w.heap.size
section
variable {B : Nat} {t : TypeId} {w0 w w' : World} {k : Nat} {a : Option Addr} {cap : Nat} {ys : List Nat}
theorem OwnS.next (h : OwnS B t w0 w k a cap ys) (hb : Below w.heap.size w w') : OwnS B t w0 w' k a cap ys := ⟨h.below.trans (hb.mono h.le), own_below h.own hb, Nat.le_trans h.le hb.size⟩
theorem OwnS.drew (h : OwnS B t w0 w k a cap ys) (m : Nat) : OwnS B t w0 (w.drewN m) k a cap ys := ⟨bdrew h.below m, h.own, h.le⟩
theorem OwnS.alloc (h : OwnS B t w0 w k a cap ys) (o : Obj) : OwnS B t w0 (w.alloc o) k a cap ys := h.next ((Below.refl _ _).alloc (Nat.le_refl _) o)
theorem OwnS.app {v' : Value} {m : Nat} {us : List Nat} {o : Obj} (h : OwnS B t w0 w k a cap ys) (hown : w'.ownsRow B t 1 v' (k + m) (fl ys ++ fl us)) (hg : (w.alloc o).grownBy w' (Value.slice a k cap).ownBlock) :
    ∃ a' cap', v' = .slice a' (k + m) cap' ∧ OwnS B t w0 w' (k + m) a' cap' (ys ++ us) := by
  obtain ⟨a', cap', rfl, hp⟩ := own_shape hown
  have hA := h.alloc o
  refine ⟨a', cap', rfl, hA.below.grown hg hA.le (fun q hq => (h.own.lt q hq).1), ?_, Nat.le_trans hA.le hg.size⟩
  rw [← fl_append]; exact hown
/-- the same where nothing was made on the way -/
theorem OwnS.app0 {v' : Value} {m : Nat} {us : List Nat} (h : OwnS B t w0 w k a cap ys) (hown : w'.ownsRow B t 1 v' (k + m) (fl ys ++ fl us)) (hg : w.grownBy w' (Value.slice a k cap).ownBlock) :
    ∃ a' cap', v' = .slice a' (k + m) cap' ∧ OwnS B t w0 w' (k + m) a' cap' (ys ++ us) := by
  obtain ⟨a', cap', rfl, hp⟩ := own_shape hown
  refine ⟨a', cap', rfl, h.below.grown hg h.le (fun q hq => (h.own.lt q hq).1), ?_, Nat.le_trans h.le hg.size⟩
  rw [← fl_append]; exact hown
theorem OwnS.row (h : OwnS B t w0 w k a cap ys) : Row w B w.heap.size t (.slice a k cap) k ys := Row.of h.own h.le
theorem OwnS.len (h : OwnS B t w0 w k a cap ys) : ys.length = k := by have := h.own.1; rw [fl_length, Nat.mul_one] at this; exact this
theorem own_start (w : World) (t : TypeId) : OwnS w.heap.size t w (w.alloc (.cells #[] t)) 0 (some ⟨w.heap.size, 0, none⟩) 0 [] :=
  ⟨(Below.refl _ _).alloc (Nat.le_refl _) _, World.ownsRow_made w #[] 0 (Nat.le_refl _) (by simp [maxLen]) rfl, by simp⟩
end
end Go.Fl
