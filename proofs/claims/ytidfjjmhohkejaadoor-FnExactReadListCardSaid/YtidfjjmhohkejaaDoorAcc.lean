/- A tensor that is built by appending to its numbers: the box, the row that it owns, and what a step does. -/
import Derived.Test.YtidfjjmhohkejaaDoorCls
namespace Go.Fl
open Go.RowKit Go.Reg

theorem own_shape {w : World} {base : Nat} {e : TypeId} {v : Value} {n : Nat} {xs : List Value} (h : w.ownsRow base e 1 v n xs) : ∃ a cap, v = .slice a n cap ∧ (∀ p, a = some p → ∃ g, p = ⟨g, 0, none⟩) := by
  rcases h.2 with ⟨rfl, rfl⟩ | ⟨g, cap, cur, rfl, _⟩
  · exact ⟨none, 0, rfl, fun _ h => by cases h⟩
  · exact ⟨_, cap, rfl, fun p h => by cases h; exact ⟨g, rfl⟩⟩

theorem own_set2 {w : World} {base : Nat} {e : TypeId} {a : Option Addr} {k cap n : Nat} {xs : List Value} (h : w.ownsRow base e 1 (.slice a k cap) n xs) {p : Addr} (hp : ∀ q, a = some q → q.block ≠ p.block) (u : Value) : (w.setCell p u).ownsRow base e 1 (.slice a k cap) n xs :=
  h.kept (row := some p.block) ⟨rfl, rfl, rfl, by simp [World.setCell], fun k hk hr => Below.heap_setCell _ _ _ _ (by simpa using hr)⟩ (by
    cases a with
    | none => exact .inl rfl
    | some q => exact .inr (by simpa [Value.ownBlock] using hp q rfl))
/-- the tensor in block b (its rows r, its columns c), with k numbers ys so far, in a row of its own in another block from B on; below B all is as in w0 -/
structure Acc (B b : Nat) (t : TypeId) (r c : Int) (w0 w : World) (k : Nat) (a : Option Addr) (cap : Nat) (ys : List Nat) : Prop where
  below : Below B w0 w
  box : Box w b r c a k cap
  fr : w.frozen? ⟨b, 2, none⟩ = false
  own : w.ownsRow B t 1 (.slice a k cap) k (fl ys)
  ne : ∀ q, a = some q → q.block ≠ b
section
variable {B b : Nat} {t : TypeId} {r c : Int} {w0 w w' : World} {k : Nat} {a : Option Addr} {cap : Nat} {ys : List Nat}
theorem Acc.len (h : Acc B b t r c w0 w k a cap ys) : ys.length = k := by have := h.own.1; rw [fl_length, Nat.mul_one] at this; exact this
theorem Acc.drew (h : Acc B b t r c w0 w k a cap ys) (m : Nat) : Acc B b t r c w0 (w.drewN m) k a cap ys := ⟨bdrew h.below m, ⟨h.box.c0, h.box.c1, h.box.c2, h.box.lt⟩, h.fr, h.own, h.ne⟩
theorem Acc.next (h : Acc B b t r c w0 w k a cap ys) (hb : Below w.heap.size w w') (hB : B ≤ w.heap.size) : Acc B b t r c w0 w' k a cap ys :=
  ⟨h.below.trans (hb.mono hB), h.box.below hb, (hb.frozen (p := ⟨b, 2, none⟩) h.box.lt).trans h.fr, own_below h.own hb, h.ne⟩
theorem Acc.alloc (h : Acc B b t r c w0 w k a cap ys) (hB : B ≤ w.heap.size) (o : Obj) : Acc B b t r c w0 (w.alloc o) k a cap ys := h.next ((Below.refl _ _).alloc (Nat.le_refl _) o) hB
/-- what the append leaves, and the store of the new slice behind it -/
theorem Acc.app {v' : Value} {u : Nat} {o : Obj} (hBb : B ≤ b) (h : Acc B b t r c w0 w k a cap ys) (hown : w'.ownsRow B t 1 v' (k + 1) (fl ys ++ [.float .f32 u])) (hg : (w.alloc o).grownBy w' (Value.slice a k cap).ownBlock) :
    ∃ a' cap', v' = .slice a' (k + 1) cap' ∧ Box w' b r c a k cap ∧ w'.frozen? ⟨b, 2, none⟩ = false ∧ Cl B b w w' ∧ Acc B b t r c w0 (w'.setCell ⟨b, 2, none⟩ (.slice a' (k + 1) cap')) (k + 1) a' cap' (ys ++ [u]) := by
  obtain ⟨a', cap', rfl, hp⟩ := own_shape hown
  have hlt := h.box.lt
  have hrow : ∀ q, (Value.slice a k cap).ownBlock = some q → B ≤ q ∧ q ≠ b := fun q hq => ⟨(h.own.lt q hq).1, by
    cases a with
    | none => cases hq
    | some p => have := h.ne p rfl; simp [Value.ownBlock] at hq; omega⟩
  have hA := h.alloc (by omega) o
  have hbl : w'.heap[b]? = (w.alloc o).heap[b]? := hg.block b (by simp; omega) (by intro e; exact (hrow b e.symm).2 rfl)
  have hbox : Box w' b r c a k cap := ⟨(World.cell?_of_block (a := ⟨b, 0, none⟩) hbl).trans hA.box.c0, (World.cell?_of_block (a := ⟨b, 1, none⟩) hbl).trans hA.box.c1, (World.cell?_of_block (a := ⟨b, 2, none⟩) hbl).trans hA.box.c2, Nat.lt_of_lt_of_le hA.box.lt hg.size⟩
  have hfr : w'.frozen? ⟨b, 2, none⟩ = false := (World.frozen?_of_block (a := ⟨b, 2, none⟩) hbl).trans hA.fr
  have hbel : Below B w w' := ((Below.refl B w).alloc (by omega) o).grown hg (by simp; omega) (fun q hq => (hrow q hq).1)
  have hne : ∀ q, a' = some q → q.block ≠ b := by
    intro q hq e
    obtain ⟨g, rfl⟩ := hp q hq
    subst hq
    have h0 := hown.cellAt 0 (by omega)
    simp only at e
    subst e
    rw [hbox.c0] at h0
    cases ys <;> simp [fl] at h0
  refine ⟨a', cap', rfl, hbox, hfr, ⟨hbel, hbl.trans (Below.heap_alloc _ _ _ hlt)⟩, ⟨(h.below.trans hbel).setCell hBb _, ⟨?_, ?_, ?_, ?_⟩, ?_, ?_, hne⟩⟩
  · simp [go_sem, hbox.c0]
  · simp [go_sem, hbox.c1]
  · simp [go_sem, hbox.c2]
  · simpa [World.setCell] using hbox.lt
  · simp [go_sem, hfr]
  · have : fl ys ++ [Value.float .f32 u] = fl (ys ++ [u]) := by simp [fl]
    rw [← this]
    exact own_set2 hown hne _
/-- the tensor is handed back -/
theorem Acc.row (h : Acc B b t r c w0 w k a cap ys) (hw : B ≤ w.heap.size) : Row w B w.heap.size t (.slice a k cap) k ys := Row.of h.own hw
end
section
variable {B : Nat} {t tt : TypeId} {r c : Int} {w w1 : World}
/-- the empty slice was made first, the box behind it -/
theorem accStartA (T : Below B w w1) (hB : B ≤ w1.heap.size) (p q s : Nat) (Z : Array Value) (hZ : Z = #[.int .i64 0, .int .i64 0, .slice none 0 0]) :
    ∃ b g, b = w1.heap.size + 1 ∧ g = w1.heap.size ∧ Acc B b t r c w (((((((w1.drewN p).alloc (.cells #[] t)).drewN q).alloc (.cells Z tt)).drewN s).setCell ⟨w1.heap.size + 1, 0, none⟩ (.int .i64 r)).setCell ⟨w1.heap.size + 1, 1, none⟩ (.int .i64 c) |>.setCell ⟨w1.heap.size + 1, 2, none⟩ (.slice (some ⟨w1.heap.size, 0, none⟩) 0 0)) 0 (some ⟨g, 0, none⟩) 0 [] := by
  subst hZ
  refine ⟨_, _, rfl, rfl, ⟨?_, ⟨by simp [go_sem], by simp [go_sem], by simp [go_sem], by simp⟩, by simp [go_sem], ?_, fun q hq => by cases hq; simp⟩⟩
  · exact (((bdrew ((bdrew ((bdrew T p).alloc hB _) q).alloc (by simp; omega) _) s).setCell (by simp; omega) _).setCell (by simp; omega) _).setCell (by simp; omega) _
  · refine own_set2 (own_set2 (own_set2 ?_ (fun q hq => by cases hq; simp) _) (fun q hq => by cases hq; simp) _) (fun q hq => by cases hq; simp) _
    exact (World.ownsRow_made (w1.drewN p) #[] 0 hB (by simp [maxLen]) rfl : ((w1.drewN p).alloc (.cells #[] t)).ownsRow B t 1 (.slice (some ⟨w1.heap.size, 0, none⟩) 0 0) 0 []).alloc _
theorem box_set {w : World} {b : Nat} {r0 c0 r c : Int} {a0 a : Option Addr} {n0 n cap0 cap : Nat} (h : Box w b r0 c0 a0 n0 cap0) :
    Box (((w.setCell ⟨b, 0, none⟩ (.int .i64 r)).setCell ⟨b, 1, none⟩ (.int .i64 c)).setCell ⟨b, 2, none⟩ (.slice a n cap)) b r c a n cap :=
  ⟨by simp [go_sem, h.c0], by simp [go_sem, h.c1], by simp [go_sem, h.c2], by simpa [World.setCell] using h.lt⟩
theorem frzs (w : World) (tt : TypeId) : (w.alloc (.cells #[.int .i64 0, .int .i64 0, .slice none 0 0] tt)).frozen? ⟨w.heap.size, 0, none⟩ = false ∧ (w.alloc (.cells #[.int .i64 0, .int .i64 0, .slice none 0 0] tt)).frozen? ⟨w.heap.size, 1, none⟩ = false ∧ (w.alloc (.cells #[.int .i64 0, .int .i64 0, .slice none 0 0] tt)).frozen? ⟨w.heap.size, 2, none⟩ = false ∧
    (w.alloc (.cells #[.int .i64 0, .int .i64 0, .slice none 0 0] tt)).cell? ⟨w.heap.size, 0, none⟩ = some (.int .i64 0) ∧ (w.alloc (.cells #[.int .i64 0, .int .i64 0, .slice none 0 0] tt)).cell? ⟨w.heap.size, 1, none⟩ = some (.int .i64 0) ∧ (w.alloc (.cells #[.int .i64 0, .int .i64 0, .slice none 0 0] tt)).cell? ⟨w.heap.size, 2, none⟩ = some (.slice none 0 0) := by simp [go_sem]
theorem frz (w : World) (tt : TypeId) : (w.alloc (.cells #[.int .i64 0, .int .i64 0, .slice none 0 0] tt)).frozen? ⟨w.heap.size, 2, none⟩ = false := by simp [go_sem]
/-- the box first -/
theorem accStartB (T : Below B w w1) (hB : B ≤ w1.heap.size) (p q s : Nat) (Z : Array Value) (hZ : Z = #[.int .i64 0, .int .i64 0, .slice none 0 0]) :
    ∃ b g, b = w1.heap.size ∧ g = w1.heap.size + 1 ∧ Acc B b t r c w (((((((w1.drewN p).alloc (.cells Z tt)).drewN q).alloc (.cells #[] t)).drewN s).setCell ⟨w1.heap.size, 0, none⟩ (.int .i64 r)).setCell ⟨w1.heap.size, 1, none⟩ (.int .i64 c) |>.setCell ⟨w1.heap.size, 2, none⟩ (.slice (some ⟨w1.heap.size + 1, 0, none⟩) 0 0)) 0 (some ⟨g, 0, none⟩) 0 [] := by
  subst hZ
  obtain ⟨X, A, z1, z2⟩ := box_new (w := w1.drewN p) (r := 0) (c := 0) (a := none) (n := 0) (cap := 0) (t := tt) rfl
  have hf : ((w1.drewN p).alloc (.cells #[.int .i64 0, .int .i64 0, .slice none 0 0] tt)).frozen? ⟨w1.heap.size, 2, none⟩ = false := frz (w1.drewN p) tt
  generalize (w1.drewN p).alloc (.cells #[.int .i64 0, .int .i64 0, .slice none 0 0] tt) = w2 at *
  have X : Box w2 w1.heap.size 0 0 none 0 0 := X
  have A : Below w1.heap.size w1 w2 := (bdrew (Below.refl _ _) p).trans A
  have z1 : w1.heap.size < w2.heap.size := z1
  have z2 : w2.heap.size ≤ w1.heap.size + 1 := z2
  have A2 : Below w2.heap.size w2 (((w2.drewN q).alloc (.cells #[] t)).drewN s) := bdrew ((bdrew (Below.refl _ _) q).alloc (Nat.le_refl _) _) s
  have hg : (w2.drewN q).heap.size = w1.heap.size + 1 := by show w2.heap.size = _; omega
  have O : (((w2.drewN q).alloc (.cells #[] t)).drewN s).ownsRow B t 1 (.slice (some ⟨w1.heap.size + 1, 0, none⟩) 0 0) 0 (fl []) := by
    have := (World.ownsRow_made (e := t) (size := 1) (w2.drewN q) #[] 0 (base := B) (by show B ≤ w2.heap.size; omega) (by simp [maxLen]) rfl)
    rw [hg] at this
    exact this
  have X2 := X.below A2
  have hf2 : (((w2.drewN q).alloc (.cells #[] t)).drewN s).frozen? ⟨w1.heap.size, 2, none⟩ = false := (A2.frozen (p := ⟨w1.heap.size, 2, none⟩) z1).trans hf
  have T2 := T.trans ((A.trans (A2.mono A.size)).mono hB)
  generalize ((w2.drewN q).alloc (.cells #[] t)).drewN s = w3 at *
  refine ⟨_, _, rfl, rfl, ⟨?_, box_set X2, by simp [go_sem, hf2], ?_, fun q hq => by cases hq; simp⟩⟩
  · exact ((T2.setCell (by simp; omega) _).setCell (by simp; omega) _).setCell (by simp; omega) _
  · exact own_set2 (own_set2 (own_set2 O (fun q hq => by cases hq; simp) _) (fun q hq => by cases hq; simp) _) (fun q hq => by cases hq; simp) _
end
/-- a box with no numbers yet, nil -/
theorem accNil (w : World) (t tt : TypeId) (r c : Int) : Acc w.heap.size w.heap.size t r c w (w.alloc (.cells #[.int .i64 r, .int .i64 c, .slice none 0 0] tt)) 0 none 0 [] := by
  obtain ⟨X, A, _, _⟩ := box_new (w := w) (r := r) (c := c) (a := none) (n := 0) (cap := 0) (t := tt) rfl
  exact ⟨A, X, by simp [go_sem], World.ownsRow_nil _ _ _ _, fun q hq => by cases hq⟩
theorem row_set {w : World} {lo : Nat} {t : TypeId} {a : Option Addr} {k cap n : Nat} {ys : List Nat} (R : Row w lo w.heap.size t (.slice a k cap) n ys) {p : Addr} (hp : p.block < lo) (u : Value) : Row (w.setCell p u) lo (w.setCell p u).heap.size t (.slice a k cap) n ys :=
  ⟨own_set R.own hp u, by simpa [World.setCell] using R.low, Nat.le_refl _, by simpa [World.setCell] using R.lt⟩
theorem cell_new (w : World) (v : Value) (t : TypeId) : (w.alloc (.cells #[v] t)).cell? ⟨w.heap.size, 0, none⟩ = some v := by simp [go_sem]
theorem reg_at {P : Program} {c : Code} {Q : Exit → Act → World → Prop} {a : Act} {w : World} (h : ∀ w', w' = w → c.wp P Q a w') : c.wp P Q a w := h _ rfl
/-- the numbers F 0, F 1, .. -/
def upto (F : Nat → Nat) (k : Nat) : List Nat := (List.range k).map F
theorem upto_length (F : Nat → Nat) (k : Nat) : (upto F k).length = k := by simp [upto]
theorem upto_step {F : Nat → Nat} {k : Nat} {ys : List Nat} {u : Nat} (h : ys.map (cn .f32) = (upto F k).map (cn .f32)) (hu : cn .f32 u = cn .f32 (F k)) : (ys ++ [u]).map (cn .f32) = (upto F (k + 1)).map (cn .f32) := by
  simp only [upto, List.range_succ, List.map_append, List.map_cons, List.map_nil] at h ⊢
  rw [h, hu]
end Go.Fl
