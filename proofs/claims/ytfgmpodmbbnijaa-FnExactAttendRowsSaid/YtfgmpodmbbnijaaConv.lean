/- What the walks over images share: a tensor's start in one region, the sum of products over a window. -/
import Derived.Test.YtfgmpodmbbnijaaAccX
import Derived.Test.YtfgmpodmbbnijaaSums
namespace Go.Fl
open Go.RowKit Go.Reg
theorem accStartP {w w' : World} {t tt : TypeId} {r c : Int} (h : w' = (w.alloc (.cells #[] t)).alloc (.cells #[.int .i64 r, .int .i64 c, .slice (some ⟨w.heap.size, 0, none⟩) 0 0] tt)) :
    Acc w.heap.size (w.heap.size + 1) t r c w w' 0 (some ⟨w.heap.size, 0, none⟩) 0 [] ∧ Below w.heap.size w w' := by
  have B : Below w.heap.size w w' := by rw [h]; exact ((Below.refl _ _).alloc (Nat.le_refl _) _).alloc (by simp) _
  refine ⟨⟨B, by rw [h]; exact ⟨by simp [go_sem], by simp [go_sem], by simp [go_sem], by simp⟩, by rw [h]; simp [go_sem], ?_, fun q hq => by cases hq; simp⟩, B⟩
  rw [h]
  exact (World.ownsRow_made w #[] 0 (Nat.le_refl _) (by simp [maxLen]) rfl : (w.alloc (.cells #[] t)).ownsRow w.heap.size t 1 (.slice (some ⟨w.heap.size, 0, none⟩) 0 0) 0 []).alloc _
def dotG (f g : Nat → Nat) : Nat → Nat
  | 0 => 0
  | k + 1 => fop .add .f32 (dotG f g k) (fop .mul .f32 (f k) (g k))
theorem dotG_step {f g : Nat → Nat} {k r x y : Nat} (h : cn .f32 r = cn .f32 (dotG f g k)) (hx : x = f k) (hy : y = g k) (w w' : World) : cn .f32 (fres .add .f32 r (fres .mul .f32 x y w) w') = cn .f32 (dotG f g (k + 1)) := by
  subst hx; subst hy
  show _ = cn .f32 (fop .add .f32 (dotG f g k) (fop .mul .f32 (f k) (g k)))
  rw [fres_fop, fop_l .add h, fop_r .add (fres_fop .mul .f32 (f k) (g k) w)]
/-- the number at m of a table with C columns -/
def tab (G : Nat → Nat → Nat) (C m : Nat) : Nat := G (m / C) (m % C)
theorem tab_at (G : Nat → Nat → Nat) {C i j : Nat} (hj : j < C) : tab G C (i * C + j) = G i j := by
  unfold tab
  rw [Nat.mul_comm i C, Nat.mul_add_mod, Nat.mod_eq_of_lt hj, Nat.mul_add_div (by omega), Nat.div_eq_of_lt hj, Nat.add_zero]
/-- the number at t of a window Q wide that begins at row r, column c -/
def win (xs : List Nat) (C Q r c t : Nat) : Nat := xs[(r + t / Q) * C + (c + t % Q)]?.getD 0
theorem win_at (xs : List Nat) {C Q r c i j : Nat} (hj : j < Q) : win xs C Q r c (i * Q + j) = xs[(r + i) * C + (c + j)]?.getD 0 := by
  unfold win
  rw [Nat.mul_comm i Q, Nat.mul_add_mod, Nat.mod_eq_of_lt hj, Nat.mul_add_div (by omega), Nat.div_eq_of_lt hj, Nat.add_zero]
end Go.Fl
