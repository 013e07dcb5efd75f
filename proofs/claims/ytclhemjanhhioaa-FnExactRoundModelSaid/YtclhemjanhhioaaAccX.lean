/- A tensor that is built by appending to its numbers, where its box lies among blocks that are kept. -/
import Derived.Test.YtclhemjanhhioaaFin
namespace Go.Fl
open Go.RowKit Go.Reg
/-- below B, but for block b, memory stays as it was -/
structure Bx (B b : Nat) (w w' : World) : Prop where
  os : w'.os = w.os
  tape : w'.tape = w.tape
  output : w'.output = w.output
  size : w.heap.size ≤ w'.heap.size
  block : ∀ k, k < B → k ≠ b → w'.heap[k]? = w.heap[k]?
theorem Bx.refl (B b : Nat) (w : World) : Bx B b w w := ⟨rfl, rfl, rfl, Nat.le_refl _, fun _ _ _ => rfl⟩
theorem Bx.trans {B b : Nat} {w1 w2 w3 : World} (h : Bx B b w1 w2) (k : Bx B b w2 w3) : Bx B b w1 w3 := ⟨k.os.trans h.os, k.tape.trans h.tape, k.output.trans h.output, Nat.le_trans h.size k.size, fun i hi hr => (k.block i hi hr).trans (h.block i hi hr)⟩
theorem Bx.of {B b : Nat} {w w' : World} (h : Below B w w') : Bx B b w w' := ⟨h.os, h.tape, h.output, h.size, fun k hk _ => h.block k hk⟩
theorem Bx.below {B b N : Nat} {w w' : World} (h : Bx B b w w') (h1 : N ≤ B) (h2 : N ≤ b) : Below N w w' := ⟨h.os, h.tape, h.output, h.size, fun k hk => h.block k (by omega) (by omega)⟩
theorem Bx.setCell {B b : Nat} {w w' : World} (h : Bx B b w w') {p : Addr} (hp : p.block = b) (v : Value) : Bx B b w (w'.setCell p v) :=
  ⟨h.os, h.tape, h.output, by simpa [World.setCell] using h.size, fun k hk hr => (Below.heap_setCell _ _ _ _ (by rw [hp]; exact hr)).trans (h.block k hk hr)⟩
theorem Bx.drew {B b : Nat} {w w' : World} (h : Bx B b w w') (n : Nat) : Bx B b w (w'.drewN n) := ⟨h.os, h.tape, h.output, h.size, h.block⟩
theorem Box.uptoX {w w' : World} {B b x : Nat} {r c : Int} {a : Option Addr} {n cap : Nat} (h : Box w x r c a n cap) (hb : Bx B b w w') (hl : x < B) (hx : x ≠ b) : Box w' x r c a n cap := by
  have e := hb.block x hl hx
  exact ⟨(World.cell?_of_block (a := ⟨x, 0, none⟩) e).trans h.c0, (World.cell?_of_block (a := ⟨x, 1, none⟩) e).trans h.c1, (World.cell?_of_block (a := ⟨x, 2, none⟩) e).trans h.c2, Nat.lt_of_lt_of_le h.lt hb.size⟩
theorem Zbox.uptoX {w w' : World} {B b x : Nat} (h : Zbox w x) (hb : Bx B b w w') (hl : x < B) (hx : x ≠ b) : Zbox w' x := by
  have e := hb.block x hl hx
  exact ⟨h.box.uptoX hb hl hx, (World.frozen?_of_block (a := ⟨x, 0, none⟩) e).trans h.f0, (World.frozen?_of_block (a := ⟨x, 1, none⟩) e).trans h.f1, (World.frozen?_of_block (a := ⟨x, 2, none⟩) e).trans h.f2⟩
theorem Row.uptoX {w w' : World} {B b lo hi : Nat} {t : TypeId} {v : Value} {n : Nat} {xs : List Nat} (h : Row w lo hi t v n xs) (hb : Bx B b w w') (h1 : hi ≤ B) (h2 : b < lo ∨ hi ≤ b) : Row w' lo hi t v n xs := by
  refine ⟨⟨h.own.1, ?_⟩, h.low, Nat.le_trans h.top hb.size, h.lt⟩
  have hl := h.own.lt
  have hh := h.lt
  rcases h.own.2 with hn | ⟨g, cap, cur, rfl, hbg, hgg, rest⟩
  · exact .inl hn
  · have h3 := hh g rfl
    have h4 := hl g rfl
    exact .inr ⟨g, cap, cur, rfl, hbg, by rw [hb.block g (by omega) (by omega)]; exact hgg, rest⟩
/-- a new tensor's box, no numbers yet -/
structure Nbox (w : World) (b : Nat) (r c : Int) : Prop where
  box : Box w b r c none 0 0
  fr : w.frozen? ⟨b, 2, none⟩ = false
theorem Nbox.below {w w' : World} {b : Nat} {r c : Int} (h : Nbox w b r c) (hb : Below w.heap.size w w') : Nbox w' b r c := ⟨h.box.below hb, (hb.frozen (p := ⟨b, 2, none⟩) h.box.lt).trans h.fr⟩
/-- a row of a table -/
theorem Fs.part {w : World} {b o n cap : Nat} {xs : List Nat} (h : Fs w (some ⟨b, o, none⟩) n cap xs) (i K : Nat) (hi : i * K + K ≤ n) : Fs w (some ⟨b, o + i * K, none⟩) K (cap - i * K) ((xs.drop (i * K)).take K) := by
  have := h.sub (i := i * K) (j := i * K + K) (by omega) hi (cap - i * K) rfl
  rwa [show i * K + K - i * K = K by omega] at this
theorem Fs.part0 {w : World} {b n cap : Nat} {xs : List Nat} (h : Fs w (some ⟨b, 0, none⟩) n cap xs) (i K : Nat) (hi : i * K + K ≤ n) : Fs w (some ⟨b, i * K, none⟩) K (cap - i * K) ((xs.drop (i * K)).take K) := by
  have := h.part i K hi
  rwa [Nat.zero_add] at this
theorem part_get (xs : List Nat) {i K l : Nat} (hl : l < K) : ((xs.drop (i * K)).take K)[l]?.getD 0 = xs[i * K + l]?.getD 0 := by rw [List.getElem?_take, if_pos hl, List.getElem?_drop]
structure AccX (B b : Nat) (t : TypeId) (r c : Int) (w0 w : World) (k : Nat) (a : Option Addr) (cap : Nat) (ys : List Nat) : Prop where
  below : Bx B b w0 w
  box : Box w b r c a k cap
  fr : w.frozen? ⟨b, 2, none⟩ = false
  own : w.ownsRow B t 1 (.slice a k cap) k (fl ys)
  ne : ∀ q, a = some q → q.block ≠ b
section
variable {B b : Nat} {t : TypeId} {r c : Int} {w0 w w' : World} {k : Nat} {a : Option Addr} {cap : Nat} {ys : List Nat}
theorem accXHere (t : TypeId) (hB : Bx B b w0 w) (h : Box w b r c none 0 0) (hf : w.frozen? ⟨b, 2, none⟩ = false) : AccX B b t r c w0 w 0 none 0 [] := ⟨hB, h, hf, World.ownsRow_nil _ _ _ _, fun q hq => by cases hq⟩
theorem AccX.drew (h : AccX B b t r c w0 w k a cap ys) (m : Nat) : AccX B b t r c w0 (w.drewN m) k a cap ys := ⟨h.below.drew m, ⟨h.box.c0, h.box.c1, h.box.c2, h.box.lt⟩, h.fr, h.own, h.ne⟩
theorem AccX.next (h : AccX B b t r c w0 w k a cap ys) (hb : Below w.heap.size w w') (hB : B ≤ w.heap.size) : AccX B b t r c w0 w' k a cap ys :=
  ⟨h.below.trans (Bx.of (hb.mono hB)), h.box.below hb, (hb.frozen (p := ⟨b, 2, none⟩) h.box.lt).trans h.fr, own_below h.own hb, h.ne⟩
theorem AccX.alloc (h : AccX B b t r c w0 w k a cap ys) (hB : B ≤ w.heap.size) (o : Obj) : AccX B b t r c w0 (w.alloc o) k a cap ys := h.next ((Below.refl _ _).alloc (Nat.le_refl _) o) hB
theorem AccX.app {v' : Value} {u : Nat} {o : Obj} (hBs : B ≤ w.heap.size) (h : AccX B b t r c w0 w k a cap ys) (hown : w'.ownsRow B t 1 v' (k + 1) (fl ys ++ [.float .f32 u])) (hg : (w.alloc o).grownBy w' (Value.slice a k cap).ownBlock) :
    ∃ a' cap', v' = .slice a' (k + 1) cap' ∧ Box w' b r c a k cap ∧ w'.frozen? ⟨b, 2, none⟩ = false ∧ Cl B b w w' ∧ AccX B b t r c w0 (w'.setCell ⟨b, 2, none⟩ (.slice a' (k + 1) cap')) (k + 1) a' cap' (ys ++ [u]) := by
  obtain ⟨a', cap', rfl, hp⟩ := own_shape hown
  have hlt := h.box.lt
  have hrow : ∀ q, (Value.slice a k cap).ownBlock = some q → B ≤ q ∧ q ≠ b := fun q hq => ⟨(h.own.lt q hq).1, by
    cases a with
    | none => cases hq
    | some p => have := h.ne p rfl; simp [Value.ownBlock] at hq; omega⟩
  have hA := h.alloc hBs o
  have hbl : w'.heap[b]? = (w.alloc o).heap[b]? := hg.block b (by simp; omega) (by intro e; exact (hrow b e.symm).2 rfl)
  have hbox : Box w' b r c a k cap := ⟨(World.cell?_of_block (a := ⟨b, 0, none⟩) hbl).trans hA.box.c0, (World.cell?_of_block (a := ⟨b, 1, none⟩) hbl).trans hA.box.c1, (World.cell?_of_block (a := ⟨b, 2, none⟩) hbl).trans hA.box.c2, Nat.lt_of_lt_of_le hA.box.lt hg.size⟩
  have hfr : w'.frozen? ⟨b, 2, none⟩ = false := (World.frozen?_of_block (a := ⟨b, 2, none⟩) hbl).trans hA.fr
  have hbel : Below B w w' := ((Below.refl B w).alloc hBs o).grown hg (by simp; omega) (fun q hq => (hrow q hq).1)
  have hne : ∀ q, a' = some q → q.block ≠ b := by
    intro q hq e
    obtain ⟨g, rfl⟩ := hp q hq
    subst hq
    have h0 := hown.cellAt 0 (by omega)
    simp only at e
    subst e
    rw [hbox.c0] at h0
    cases ys <;> simp [fl] at h0
  refine ⟨a', cap', rfl, hbox, hfr, ⟨hbel, hbl.trans (Below.heap_alloc _ _ _ hlt)⟩, ⟨(h.below.trans (Bx.of hbel)).setCell rfl _, ⟨?_, ?_, ?_, ?_⟩, ?_, ?_, hne⟩⟩
  · simp [go_sem, hbox.c0]
  · simp [go_sem, hbox.c1]
  · simp [go_sem, hbox.c2]
  · simpa [World.setCell] using hbox.lt
  · simp [go_sem, hfr]
  · have : fl ys ++ [Value.float .f32 u] = fl (ys ++ [u]) := by simp [fl]
    rw [← this]
    exact own_set2 hown hne _
theorem AccX.row (h : AccX B b t r c w0 w k a cap ys) (hw : B ≤ w.heap.size) : Row w B w.heap.size t (.slice a k cap) k ys := Row.of h.own hw
theorem AccX.len (h : AccX B b t r c w0 w k a cap ys) : ys.length = k := by have := h.own.1; rw [fl_length, Nat.mul_one] at this; exact this
end
end Go.Fl
