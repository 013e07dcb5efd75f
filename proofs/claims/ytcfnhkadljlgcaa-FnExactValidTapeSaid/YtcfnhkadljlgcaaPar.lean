/- A drawn region in which a law hands several tensors to a function and lays the tensor that comes back into a box that may be made at any moment. -/
import Derived.Test.YtcfnhkadljlgcaaPlan
import Derived.Test.YtcfnhkadljlgcaaAcc
namespace Go.Reg
open Go.RowKit Go.Fl
theorem plan_at {P : Program} {ops : Array Oper} {C : World → Prop} {lab : Nat → Nat} {Q : Act → World → Prop} {p : Plan} {a : Act} {w : World} (h : ∀ w', w' = w → wpP P ops C lab Q p a w') : wpP P ops C lab Q p a w := h _ rfl
end Go.Reg
namespace Go.Fl
open Go.RowKit Go.Reg
theorem row_setne {w : World} {lo hi : Nat} {t : TypeId} {a : Option Addr} {k cap n : Nat} {ys : List Nat} (R : Row w lo hi t (.slice a k cap) n ys) {p : Addr} (hp : p.block < lo ∨ hi ≤ p.block) (u : Value) : Row (w.setCell p u) lo hi t (.slice a k cap) n ys :=
  ⟨own_set2 R.own (fun q hq => by
    subst hq
    have h1 := (R.own.lt q.block rfl).1
    have h2 := R.lt q.block rfl
    omega) u, R.low, by simpa [World.setCell] using R.top, R.lt⟩
/-- a fresh box, zero yet, that may be written -/
structure Zbox (w : World) (b : Nat) : Prop where
  box : Box w b 0 0 none 0 0
  f0 : w.frozen? ⟨b, 0, none⟩ = false
  f1 : w.frozen? ⟨b, 1, none⟩ = false
  f2 : w.frozen? ⟨b, 2, none⟩ = false
theorem zbox_new {w w' : World} {tt : TypeId} (h : w' = w.alloc (.cells #[.int .i64 0, .int .i64 0, .slice none 0 0] tt)) : Zbox w' w.heap.size ∧ Below w.heap.size w w' ∧ w.heap.size < w'.heap.size := by
  subst h
  obtain ⟨d0, d1, d2, d3, d4, d5⟩ := frzs w tt
  exact ⟨⟨⟨d3, d4, d5, by simp⟩, d0, d1, d2⟩, (Below.refl _ _).alloc (Nat.le_refl _) _, by simp⟩
theorem Zbox.below {w w' : World} {b : Nat} (h : Zbox w b) (hb : Below w.heap.size w w') : Zbox w' b :=
  ⟨h.box.below hb, (hb.frozen (p := ⟨b, 0, none⟩) h.box.lt).trans h.f0, (hb.frozen (p := ⟨b, 1, none⟩) h.box.lt).trans h.f1, (hb.frozen (p := ⟨b, 2, none⟩) h.box.lt).trans h.f2⟩
theorem par_end {w0 w : World} {bb lo hi : Nat} {t : TypeId} {a : Option Addr} {k cap : Nat} {ys : List Nat} {r c : Int} (T : Below w0.heap.size w0 w) (hb : w0.heap.size ≤ bb) (Q : Zbox w bb) (R : Row w lo hi t (.slice a k cap) k ys) (hl : w0.heap.size ≤ lo) (hd : bb < lo ∨ hi ≤ bb) (m q : Nat) :
    Box (((((w.drewN m).setCell ⟨bb, 0, none⟩ (.int .i64 r)).setCell ⟨bb, 1, none⟩ (.int .i64 c)).setCell ⟨bb, 2, none⟩ (.slice a k cap)).drewN q) bb r c a k cap ∧
    Row (((((w.drewN m).setCell ⟨bb, 0, none⟩ (.int .i64 r)).setCell ⟨bb, 1, none⟩ (.int .i64 c)).setCell ⟨bb, 2, none⟩ (.slice a k cap)).drewN q) w0.heap.size (((((w.drewN m).setCell ⟨bb, 0, none⟩ (.int .i64 r)).setCell ⟨bb, 1, none⟩ (.int .i64 c)).setCell ⟨bb, 2, none⟩ (.slice a k cap)).drewN q).heap.size t (.slice a k cap) k ys ∧
    Below w0.heap.size w0 (((((w.drewN m).setCell ⟨bb, 0, none⟩ (.int .i64 r)).setCell ⟨bb, 1, none⟩ (.int .i64 c)).setCell ⟨bb, 2, none⟩ (.slice a k cap)).drewN q) := by
  have q1 : Box (w.drewN m) bb 0 0 none 0 0 := ⟨Q.box.c0, Q.box.c1, Q.box.c2, Q.box.lt⟩
  have X := box_set (r := r) (c := c) (a := a) (n := k) (cap := cap) q1
  have R3 := row_setne (row_setne (row_setne (R.drew m) (p := ⟨bb, 0, none⟩) hd (.int .i64 r)) (p := ⟨bb, 1, none⟩) hd (.int .i64 c)) (p := ⟨bb, 2, none⟩) hd (.slice a k cap)
  have B3 := (((bdrew T m).setCell (p := ⟨bb, 0, none⟩) hb (.int .i64 r)).setCell (p := ⟨bb, 1, none⟩) hb (.int .i64 c)).setCell (p := ⟨bb, 2, none⟩) hb (.slice a k cap)
  exact ⟨⟨X.c0, X.c1, X.c2, X.lt⟩, ((R3.drew q).up (by simpa [World.setCell] using R.top) (Nat.le_refl _)).down hl, bdrew B3 q⟩
end Go.Fl
