/- What every function that builds a tensor does alike: its result's cells are written and the tensor is handed back. -/
import Derived.Test.YtcfnhkadljlgcaaPar
namespace Go.Fl
open Go.RowKit Go.Reg
theorem Box.upto {w w' : World} {B b : Nat} {r c : Int} {a : Option Addr} {n cap : Nat} (h : Box w b r c a n cap) (hb : Below B w w') (hl : b < B) : Box w' b r c a n cap :=
  ⟨(hb.cell (p := ⟨b, 0, none⟩) hl).trans h.c0, (hb.cell (p := ⟨b, 1, none⟩) hl).trans h.c1, (hb.cell (p := ⟨b, 2, none⟩) hl).trans h.c2, Nat.lt_of_lt_of_le h.lt hb.size⟩
theorem Zbox.upto {w w' : World} {B b : Nat} (h : Zbox w b) (hb : Below B w w') (hl : b < B) : Zbox w' b :=
  ⟨h.box.upto hb hl, (hb.frozen (p := ⟨b, 0, none⟩) hl).trans h.f0, (hb.frozen (p := ⟨b, 1, none⟩) hl).trans h.f1, (hb.frozen (p := ⟨b, 2, none⟩) hl).trans h.f2⟩
/-- a box with no numbers yet that lies in this world -/
theorem accHere {w : World} {b : Nat} {r c : Int} (t : TypeId) (h : Box w b r c none 0 0) (hf : w.frozen? ⟨b, 2, none⟩ = false) : Acc b b t r c w w 0 none 0 [] := ⟨Below.refl _ _, h, hf, World.ownsRow_nil _ _ _ _, fun q hq => by cases hq⟩
/-- a cell of its own -/
structure Cell1 (w : World) (b : Nat) (v : Value) : Prop where
  c0 : w.cell? ⟨b, 0, none⟩ = some v
  lt : b < w.heap.size
theorem Cell1.below {w w' : World} {b : Nat} {v : Value} (h : Cell1 w b v) (hb : Below w.heap.size w w') : Cell1 w' b v := ⟨(hb.cell (p := ⟨b, 0, none⟩) h.lt).trans h.c0, Nat.lt_of_lt_of_le h.lt hb.size⟩
section
variable {w wr : World} {rb lo : Nat} {t : TypeId} {r c : Int} {a : Option Addr} {k cap : Nat} {ys S : List Nat}
theorem RT1_end (B : Below w.heap.size w wr) (hr : w.heap.size ≤ rb) (R : Row wr lo wr.heap.size t (.slice a k cap) k ys) (hlo : rb < lo) (hy : ys.map (cn .f32) = S.map (cn .f32)) (hS : S.length = k) :
    RT1 t w r c S (.returned (.agg #[.int .i64 r, .int .i64 c, .slice a k cap])) (((wr.setCell ⟨rb, 0, none⟩ (.int .i64 r)).setCell ⟨rb, 1, none⟩ (.int .i64 c)).setCell ⟨rb, 2, none⟩ (.slice a k cap)) := by
  subst hS
  exact ⟨a, cap, ys, rfl, (row_set (row_set (row_set R (p := ⟨rb, 0, none⟩) hlo _) (p := ⟨rb, 1, none⟩) hlo _) (p := ⟨rb, 2, none⟩) hlo _).down (by omega), hy, ((B.setCell (p := ⟨rb, 0, none⟩) hr _).setCell (p := ⟨rb, 1, none⟩) hr _).setCell (p := ⟨rb, 2, none⟩) hr _⟩
theorem RT_end (B : Below w.heap.size w wr) (hr : w.heap.size ≤ rb) (R : Row wr lo wr.heap.size t (.slice a k cap) k ys) (hlo : rb < lo) (hy : ys.map (cn .f32) = S.map (cn .f32)) (hS : S.length = k) :
    RT t w r c S true (.returned (.tuple #[.agg #[.int .i64 r, .int .i64 c, .slice a k cap], .bool true])) (((wr.setCell ⟨rb, 0, none⟩ (.int .i64 r)).setCell ⟨rb, 1, none⟩ (.int .i64 c)).setCell ⟨rb, 2, none⟩ (.slice a k cap)) := by
  subst hS
  exact ⟨a, cap, ys, rfl, (row_set (row_set (row_set R (p := ⟨rb, 0, none⟩) hlo _) (p := ⟨rb, 1, none⟩) hlo _) (p := ⟨rb, 2, none⟩) hlo _).down (by omega), hy, ((B.setCell (p := ⟨rb, 0, none⟩) hr _).setCell (p := ⟨rb, 1, none⟩) hr _).setCell (p := ⟨rb, 2, none⟩) hr _⟩
theorem RT_no (B : Below w.heap.size w wr) (hr : w.heap.size ≤ rb) :
    RT t w 0 0 [] false (.returned (.tuple #[.agg #[.int .i64 0, .int .i64 0, .slice none 0 0], .bool false])) (((wr.setCell ⟨rb, 0, none⟩ (.int .i64 0)).setCell ⟨rb, 1, none⟩ (.int .i64 0)).setCell ⟨rb, 2, none⟩ (.slice none 0 0)) := by
  have TN := ((B.setCell (p := ⟨rb, 0, none⟩) hr (.int .i64 0)).setCell (p := ⟨rb, 1, none⟩) hr (.int .i64 0)).setCell (p := ⟨rb, 2, none⟩) hr (.slice none 0 0)
  exact ⟨none, 0, [], rfl, Row.nil _ _ _ TN.size, rfl, TN⟩
end
end Go.Fl
