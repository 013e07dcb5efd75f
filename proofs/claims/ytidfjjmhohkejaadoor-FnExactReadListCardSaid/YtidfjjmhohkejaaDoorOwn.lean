/- Rows that a call owns, each in its own stretch of blocks; what a write into one of them leaves as it was. -/
import Derived.Test.YtidfjjmhohkejaaDoorMem
import Derived.Laws.Cover2
namespace Go.Fl
open Go.RowKit

/-- memory outside the blocks lo .. hi stays as it was -/
structure Keep (lo hi : Nat) (w w' : World) : Prop where
  os : w'.os = w.os
  tape : w'.tape = w.tape
  output : w'.output = w.output
  size : w.heap.size ≤ w'.heap.size
  block : ∀ k, k < w.heap.size → (k < lo ∨ hi ≤ k) → w'.heap[k]? = w.heap[k]?
theorem Keep.below {lo hi B : Nat} {w w' : World} (h : Keep lo hi w w') (hB : B ≤ lo) (h2 : B ≤ w.heap.size) : Below B w w' := ⟨h.os, h.tape, h.output, h.size, fun k hk => h.block k (by omega) (by omega)⟩
theorem Keep.refl (lo hi : Nat) (w : World) : Keep lo hi w w := ⟨rfl, rfl, rfl, Nat.le_refl _, fun _ _ _ => rfl⟩
theorem Keep.trans {lo hi : Nat} {a b c : World} (h : Keep lo hi a b) (k : Keep lo hi b c) : Keep lo hi a c :=
  ⟨k.os.trans h.os, k.tape.trans h.tape, k.output.trans h.output, Nat.le_trans h.size k.size, fun i hi hr => (k.block i (Nat.lt_of_lt_of_le hi h.size) hr).trans (h.block i hi hr)⟩
theorem Keep.alloc {lo hi : Nat} {a w : World} (h : Keep lo hi a w) (o : Obj) : Keep lo hi a (w.alloc o) :=
  h.trans ⟨rfl, rfl, rfl, by simp, fun k hk _ => Below.heap_alloc _ _ _ hk⟩
theorem Keep.of {lo hi : Nat} {w w' : World} (h : Below w.heap.size w w') : Keep lo hi w w' := ⟨h.os, h.tape, h.output, h.size, fun k hk _ => h.block k hk⟩

theorem own_set {w : World} {base : Nat} {e : TypeId} {v : Value} {n : Nat} {xs : List Value} (h : w.ownsRow base e 1 v n xs) {p : Addr} (hp : p.block < base) (u : Value) : (w.setCell p u).ownsRow base e 1 v n xs :=
  h.kept (row := some p.block) ⟨rfl, rfl, rfl, by simp [World.setCell], fun k hk hr => Below.heap_setCell _ _ _ _ (by simpa using hr)⟩ (by right; intro e'; have := h.lt p.block e'; omega)

/-- a row of numbers that the call owns; its block lies in lo .. hi -/
structure Row (w : World) (lo hi : Nat) (t : TypeId) (v : Value) (n : Nat) (xs : List Nat) : Prop where
  own : w.ownsRow lo t 1 v n (fl xs)
  low : lo ≤ hi
  top : hi ≤ w.heap.size
  lt : ∀ k, v.ownBlock = some k → k < hi
section
variable {w w' : World} {lo hi lo' hi' : Nat} {t : TypeId} {v : Value} {n : Nat} {xs : List Nat}
theorem Row.of (h : w.ownsRow lo t 1 v n (fl xs)) (hl : lo ≤ w.heap.size) : Row w lo w.heap.size t v n xs := ⟨h, hl, Nat.le_refl _, fun k hk => (h.lt k hk).2⟩
theorem Row.nil (w : World) (t : TypeId) (lo : Nat) (hl : lo ≤ w.heap.size) : Row w lo w.heap.size t (.slice none 0 0) 0 [] := Row.of (World.ownsRow_nil _ _ _ _) hl
theorem Row.below (h : Row w lo hi t v n xs) (hb : Below w.heap.size w w') : Row w' lo hi t v n xs := ⟨own_below h.own hb, h.low, Nat.le_trans h.top hb.size, h.lt⟩
theorem Row.drew (h : Row w lo hi t v n xs) (m : Nat) : Row (w.drewN m) lo hi t v n xs := ⟨h.own, h.low, h.top, h.lt⟩
theorem Row.alloc (h : Row w lo hi t v n xs) (o : Obj) : Row (w.alloc o) lo hi t v n xs := h.below ((Below.refl _ _).alloc (Nat.le_refl _) o)
theorem Row.keep (h : Row w lo hi t v n xs) (k : Keep lo' hi' w w') (hd : hi ≤ lo' ∨ hi' ≤ lo) : Row w' lo hi t v n xs := by
  refine ⟨⟨h.own.1, ?_⟩, h.low, Nat.le_trans h.top k.size, h.lt⟩
  have hl := h.own.lt
  have hh := h.lt
  rcases h.own.2 with hn | ⟨g, cap, cur, rfl, hbg, hgg, rest⟩
  · exact .inl hn
  · have h1 := hh g rfl
    have h2 := hl g rfl
    exact .inr ⟨g, cap, cur, rfl, hbg, by rw [k.block g h2.2 (by omega)]; exact hgg, rest⟩
theorem Row.fs {a : Option Addr} {cap : Nat} (h : Row w lo hi t (.slice a n cap) n xs) : Fs w a n cap xs := Fs.own h.own
theorem Row.up (h : Row w lo hi t v n xs) (h1 : hi ≤ hi') (h2 : hi' ≤ w.heap.size) : Row w lo hi' t v n xs := ⟨h.own, Nat.le_trans h.low h1, h2, fun k hk => Nat.lt_of_lt_of_le (h.lt k hk) h1⟩
theorem Row.down (h : Row w lo hi t v n xs) (h1 : lo' ≤ lo) : Row w lo' hi t v n xs := ⟨own_base h.own h1, Nat.le_trans h1 h.low, h.top, h.lt⟩
end
theorem bdrew {B : Nat} {a w : World} (h : Below B a w) (m : Nat) : Below B a (w.drewN m) := below_drewN h m
/-- a list of numbers of its own is handed back, the canonical words of S; nothing else was written -/
def RL (t : TypeId) (w : World) (S : List Nat) (ok : Bool) (e : Ending) (w' : World) : Prop :=
  ∃ a cap xs, e = .returned (.tuple #[.slice a S.length cap, .bool ok]) ∧ Row w' w.heap.size w'.heap.size t (.slice a S.length cap) S.length xs ∧ xs.map (cn .f32) = S.map (cn .f32) ∧ Below w.heap.size w w'
/-- .. a tensor .. -/
def RT (t : TypeId) (w : World) (r c : Int) (S : List Nat) (ok : Bool) (e : Ending) (w' : World) : Prop :=
  ∃ a cap xs, e = .returned (.tuple #[.agg #[.int .i64 r, .int .i64 c, .slice a S.length cap], .bool ok]) ∧ Row w' w.heap.size w'.heap.size t (.slice a S.length cap) S.length xs ∧ xs.map (cn .f32) = S.map (cn .f32) ∧ Below w.heap.size w w'
/-- a tensor of its own, no bool -/
def RT1 (t : TypeId) (w : World) (r c : Int) (S : List Nat) (e : Ending) (w' : World) : Prop :=
  ∃ a cap xs, e = .returned (.agg #[.int .i64 r, .int .i64 c, .slice a S.length cap]) ∧ Row w' w.heap.size w'.heap.size t (.slice a S.length cap) S.length xs ∧ xs.map (cn .f32) = S.map (cn .f32) ∧ Below w.heap.size w w'
/-- a number and whether it was to be had; old memory is as it was -/
def FN (k : FloatKind) (w : World) (s : Nat) (ok : Bool) (e : Ending) (w' : World) : Prop := ∃ r, e = .returned (.tuple #[.float k r, .bool ok]) ∧ cn k r = cn k s ∧ Below w.heap.size w w'
/-- yes or no -/
def BN (w : World) (b : Bool) (e : Ending) (w' : World) : Prop := e = .returned (.bool b) ∧ Below w.heap.size w w'
/-- the marks that the law writes -/
def mks (k : Int) (n : Nat) : List Nat := (List.range n).map (fun (i : Nat) => (floatOfInt .f32 (k + (i : Int))))
theorem not_nan_int (k : FloatKind) (n : Int) : isNaN k (floatOfInt k n) = false := not_nan_write k (d := .number (n < 0) n.natAbs 0) rfl
theorem mks_length (k : Int) (n : Nat) : (mks k n).length = n := by simp [mks]
theorem mks_get (k : Int) (n i : Nat) (h : i < n) : (mks k n)[i]?.getD 0 = floatOfInt .f32 (k + (i : Int)) := by simp [mks, h]
theorem mks_step (xs : List Nat) (k : Int) (n i : Nat) (hx : n = xs.length) (hi : i < n) :
    (fl (mks k i ++ xs.drop i)).set i (.float .f32 (floatOfInt .f32 (k + (i : Int)))) = fl (mks k (i + 1) ++ xs.drop (i + 1)) := by
  rw [fl_set]
  congr 1
  rw [List.set_append_right _ _ (by rw [mks_length]; omega), mks_length, Nat.sub_self, List.drop_eq_getElem_cons (by omega), List.set_cons_zero]
  simp [mks, List.range_succ]

/-- a tensor in a cell of its own: its rows, its columns, its numbers -/
structure Box (w : World) (b : Nat) (r c : Int) (a : Option Addr) (n cap : Nat) : Prop where
  c0 : w.cell? ⟨b, 0, none⟩ = some (.int .i64 r)
  c1 : w.cell? ⟨b, 1, none⟩ = some (.int .i64 c)
  c2 : w.cell? ⟨b, 2, none⟩ = some (.slice a n cap)
  lt : b < w.heap.size
section
variable {w w' w'' w3 : World} {b : Nat} {r c : Int} {a : Option Addr} {n cap : Nat} {t : TypeId}
theorem Box.below (h : Box w b r c a n cap) (hb : Below w.heap.size w w') : Box w' b r c a n cap :=
  ⟨(hb.cell (p := ⟨b, 0, none⟩) h.lt).trans h.c0, (hb.cell (p := ⟨b, 1, none⟩) h.lt).trans h.c1, (hb.cell (p := ⟨b, 2, none⟩) h.lt).trans h.c2, Nat.lt_of_lt_of_le h.lt hb.size⟩
theorem Box.keep {lo hi : Nat} (h : Box w b r c a n cap) (hk : Keep lo hi w w') (hd : b < lo ∨ hi ≤ b) : Box w' b r c a n cap := by
  have e := hk.block b h.lt hd
  exact ⟨(World.cell?_of_block (a := ⟨b, 0, none⟩) e).trans h.c0, (World.cell?_of_block (a := ⟨b, 1, none⟩) e).trans h.c1, (World.cell?_of_block (a := ⟨b, 2, none⟩) e).trans h.c2, Nat.lt_of_lt_of_le h.lt hk.size⟩
theorem box_new (h : w' = w.alloc (.cells #[.int .i64 r, .int .i64 c, .slice a n cap] t)) : Box w' w.heap.size r c a n cap ∧ Below w.heap.size w w' ∧ w.heap.size < w'.heap.size ∧ w'.heap.size ≤ w.heap.size + 1 := by
  subst h
  have hl : w.heap.size < (w.alloc (.cells #[.int .i64 r, .int .i64 c, .slice a n cap] t)).heap.size := by simp
  refine ⟨⟨?_, ?_, ?_, hl⟩, (Below.refl _ _).alloc (Nat.le_refl _) _, hl, by simp⟩
  all_goals simp [go_sem]
end
theorem calls_at {P : Program} {f : FuncId} {args : Array Value} {w : World} {Q : Ending → World → Prop} (h : ∀ w', w' = w → Calls P f args w' Q) : Calls P f args w Q := h _ rfl
theorem below_of_drew {w w' : World} {m : Nat} (h : w' = w.drewN m) : Below w.heap.size w w' := by subst h; exact bdrew (Below.refl _ _) _
end Go.Fl
