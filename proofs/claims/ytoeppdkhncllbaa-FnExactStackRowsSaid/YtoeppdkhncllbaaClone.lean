/- A list of numbers copied: the spec's l02Own and the library's slices.Clone. -/
import Derived.Test.YtoeppdkhncllbaaLst
import Derived.Test.YtoeppdkhncllbaaOwn
import Derived.Test.YtoeppdkhncllbaaAcc
import Derived.WalkSpells
namespace Go.Proofs.Ytoeppdkhncllbaa
open Go.RowKit Go.Fl Go.Reg
/-- a row of its own is handed back, word for word -/
def RW (t : TypeId) (w : World) (n : Nat) (xs : List Nat) (e : Ending) (w' : World) : Prop :=
  ∃ a cap, e = .returned (.slice (some a) n cap) ∧ Row w' w.heap.size w'.heap.size t (.slice (some a) n cap) n xs ∧ Below w.heap.size w w'
theorem made0 (w : World) (t : TypeId) : (w.alloc (.cells #[] t)).ownsRow w.heap.size t 1 (.slice (some ⟨w.heap.size, 0, none⟩) 0 0) 0 (fl []) := World.ownsRow_made w #[] 0 (Nat.le_refl _) (by simp [maxLen]) rfl
theorem some_of {w : World} {base n cap : Nat} {t : TypeId} {a : Option Addr} {xs : List Value} (h : w.ownsRow base t 1 (.slice a n cap) n xs) (hn : ¬ (Value.slice a n cap = .slice none 0 0)) : ∃ g, a = some ⟨g, 0, none⟩ := by
  rcases h.2 with ⟨e, _⟩ | ⟨g, c, cur, e, _⟩
  · exact absurd e hn
  · injection e with e1; exact ⟨g, e1⟩
theorem add_at (b o j : Nat) : (⟨b, o, none⟩ : Addr).add j = ⟨b, o + j, none⟩ := by
  unfold Addr.add
  split
  · rename_i h; subst h; rfl
  · rfl
theorem rw_end {t : TypeId} {w w0 w' : World} {n m : Nat} {xs : List Nat} {v : Value} (hw : w0 = w.alloc (.cells #[] t)) (hown : w'.ownsRow w.heap.size t 1 v m (fl [] ++ fl xs)) (hm : m = n) (hg : w0.grownBy w' (Value.slice (some ⟨w.heap.size, 0, none⟩) 0 0).ownBlock) (hz : v = .slice none 0 0 ↔ (Value.slice (some ⟨w.heap.size, 0, none⟩) 0 0) = .slice none 0 0 ∧ m = 0) : RW t w n xs (.returned v) w' := by
  subst hm
  rw [show fl [] ++ fl xs = fl xs from rfl] at hown
  obtain ⟨a, cap, rfl, hp⟩ := own_shape hown
  have hne : ¬ (Value.slice a m cap = .slice none 0 0) := fun e => by have := (hz.1 e).1; cases this
  obtain ⟨g, rfl⟩ := some_of hown hne
  subst hw
  have hA : Below w.heap.size w (w.alloc (.cells #[] t)) := (Below.refl _ _).alloc (Nat.le_refl _) _
  have hB : Below w.heap.size w w' := hA.trans (bel_grow hg (Nat.le_refl _) (by simp))
  exact ⟨_, cap, rfl, Row.of hown hB.size, hB⟩
end Go.Proofs.Ytoeppdkhncllbaa
