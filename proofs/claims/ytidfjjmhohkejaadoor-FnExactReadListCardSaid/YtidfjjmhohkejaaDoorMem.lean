/- Slices of numbers in memory: one that is read, one that the call owns. -/
import Derived.Test.YtidfjjmhohkejaaDoorFl2
import Derived.WalkKit
import Derived.WalkSmall
import Derived.Lib.Hide
namespace Go.Fl
open Go.RowKit

@[go_sem] theorem run_store_float {P : Program} (w : World) (a : Addr) (m : Mode) (k : FloatKind) (b : Nat) : (store a (.float k b) m).run P w = stored P w a (.float k b) m := run_store P w a _ m rfl

def fl (xs : List Nat) : List Value := xs.map (Value.float .f32)
theorem fl_length (xs : List Nat) : (fl xs).length = xs.length := by simp [fl]
theorem fl_get (xs : List Nat) (i : Nat) (h : i < xs.length) : (fl xs)[i]? = some (.float .f32 (xs[i]?.getD 0)) := by simp [fl, h]
theorem fl_one (xs : List Nat) : ∀ u ∈ fl xs, u.oneCell' = true := by
  intro u hu; obtain ⟨_, _, rfl⟩ := List.mem_map.1 hu; rfl
theorem fl_set (xs : List Nat) (i x : Nat) : (fl xs).set i (.float .f32 x) = fl (xs.set i x) := by simp [fl, List.map_set]
theorem fl_append (xs ys : List Nat) : fl xs ++ fl ys = fl (xs ++ ys) := by simp [fl]

/-- a slice of numbers that is read: its cells hold the words xs -/
structure Fs (w : World) (a : Option Addr) (n cap : Nat) (xs : List Nat) : Prop where
  len : n = xs.length
  cap1 : n ≤ cap
  cap2 : cap ≤ maxLen
  cell : ∀ i, i < n → ∃ b o, a = some ⟨b, o, none⟩ ∧ w.cell? ⟨b, o + i, none⟩ = some (.float .f32 (xs[i]?.getD 0))

theorem Fs.nil (w : World) : Fs w none 0 0 [] := ⟨rfl, Nat.le_refl _, Nat.zero_le _, fun _ hi => absurd hi (Nat.not_lt_zero _)⟩
theorem Fs.below {w w' : World} {a : Option Addr} {n cap : Nat} {xs : List Nat} (h : Fs w a n cap xs) (hb : Below w.heap.size w w') : Fs w' a n cap xs :=
  ⟨h.len, h.cap1, h.cap2, fun i hi => by
    obtain ⟨b, o, e, hc⟩ := h.cell i hi
    exact ⟨b, o, e, (hb.cell (p := ⟨b, o + i, none⟩) (World.block_lt_of_cell? w _ hc)).trans hc⟩⟩
theorem Fs.drew {w : World} {a : Option Addr} {n cap : Nat} {xs : List Nat} (h : Fs w a n cap xs) (m : Nat) : Fs (w.drewN m) a n cap xs := ⟨h.len, h.cap1, h.cap2, h.cell⟩
theorem Fs.grown {w w' : World} {a : Option Addr} {n cap : Nat} {xs : List Nat} {row : Option Nat} (h : Fs w a n cap xs) (hg : w.grownBy w' row) (hr : ∀ p, a = some p → row ≠ some p.block) : Fs w' a n cap xs :=
  ⟨h.len, h.cap1, h.cap2, fun i hi => by
    obtain ⟨b, o, e, hc⟩ := h.cell i hi
    exact ⟨b, o, e, hg.cell hc (fun e' => hr _ e e'.symm)⟩⟩
theorem Fs.own {w : World} {base : Nat} {e : TypeId} {a : Option Addr} {n cap : Nat} {xs : List Nat} (h : w.ownsRow base e 1 (.slice a n cap) n (fl xs)) : Fs w a n cap xs := by
  have hl : xs.length = n := by have := h.1; rw [fl_length, Nat.mul_one] at this; exact this
  rcases h.2 with ⟨e1, rfl⟩ | ⟨g, c, cur, e1, hb, hg, hn, hm, hs, ht⟩
  · injection e1 with e1 e2 e3
    subst e1; subst e3
    have : xs = [] := List.eq_nil_of_length_eq_zero hl
    subst this
    exact Fs.nil w
  · injection e1 with e1 e2 e3
    subst e1; subst e3
    refine ⟨hl.symm, hn, hm, fun i hi => ⟨g, 0, rfl, ?_⟩⟩
    rw [Nat.zero_add, h.cellAt i (by omega), fl_get xs i (by omega)]
/-- a part of what is read -/
theorem Fs.sub {w : World} {b o n cap : Nat} {xs : List Nat} (h : Fs w (some ⟨b, o, none⟩) n cap xs) {i j : Nat} (hij : i ≤ j) (hj : j ≤ n) (c : Nat) (hc : c = cap - i) :
    Fs w (some ⟨b, o + i, none⟩) (j - i) c ((xs.drop i).take (j - i)) := by
  have h1 := h.len
  have h2 := h.cap1
  have h3 := h.cap2
  refine ⟨by simp; omega, by omega, by omega, fun k hk => ?_⟩
  obtain ⟨b', o', e, hc'⟩ := h.cell (i + k) (by omega)
  injection e with e; injection e with e1 e2 e3
  subst e1; subst e2
  refine ⟨b, o + i, rfl, ?_⟩
  rw [Nat.add_assoc, hc', List.getElem?_take, if_pos hk, List.getElem?_drop]
/-- what the call owns lies on while old memory alone is looked at -/
theorem own_below {w w' : World} {base : Nat} {e : TypeId} {v : Value} {n : Nat} {xs : List Value} (h : w.ownsRow base e 1 v n xs) (hb : Below w.heap.size w w') : w'.ownsRow base e 1 v n xs := by
  refine ⟨h.1, ?_⟩
  rcases h.2 with hn | ⟨g, cap, cur, rfl, hbg, hgg, rest⟩
  · exact .inl hn
  · refine .inr ⟨g, cap, cur, rfl, hbg, ?_, rest⟩
    rw [hb.block g (Array.getElem?_eq_some_iff.1 hgg).1]; exact hgg
theorem own_base {w : World} {base base' : Nat} {e : TypeId} {v : Value} {n : Nat} {xs : List Value} (h : w.ownsRow base e 1 v n xs) (hb : base' ≤ base) : w.ownsRow base' e 1 v n xs := by
  refine ⟨h.1, ?_⟩
  rcases h.2 with hn | ⟨g, cap, cur, rfl, hbg, rest⟩
  · exact .inl hn
  · exact .inr ⟨g, cap, cur, rfl, Nat.le_trans hb hbg, rest⟩
theorem bel_grown {w w' : World} (h : w.grownBy w' none) : Below w.heap.size w w' := ⟨h.os, h.tape, h.output, h.size, fun k hk => h.block k hk (by simp)⟩
theorem bel_grow {B : Nat} {w w' : World} {g : Nat} (h : w.grownBy w' (some g)) (hB : B ≤ g) (hB2 : B ≤ w.heap.size) : Below B w w' := ⟨h.os, h.tape, h.output, h.size, fun k hk => h.block k (by omega) (by intro e; injection e with e; omega)⟩
/-- a made row of zeros -/
theorem zeros_fl (n : Nat) : (madeCells #[Value.float .f32 0] n).toList = fl (List.replicate n 0) := by
  simp only [madeCells, fl]
  apply List.ext_getElem
  · simp
  · intro i h1 h2; simp [Nat.mod_one]
/-- one number more copied -/
theorem copy_step (xs : List Nat) (n k : Nat) (hx : n = xs.length) (hk : k < n) :
    (fl (xs.take k ++ List.replicate (n - k) 0)).set k (.float .f32 (xs[k]?.getD 0)) = fl (xs.take (k + 1) ++ List.replicate (n - (k + 1)) 0) := by
  rw [fl_set]
  congr 1
  have e1 : (xs.take k).length = k := by rw [List.length_take]; omega
  have hk' : k < xs.length := by omega
  rw [List.set_append_right _ _ (by omega), e1, Nat.sub_self, show n - k = (n - (k + 1)) + 1 by omega, List.replicate_succ, List.set_cons_zero, List.take_succ_eq_append_getElem hk', List.getElem?_eq_getElem hk', List.append_assoc]
  rfl
theorem copy_end (xs : List Nat) (n : Nat) (hx : n = xs.length) : xs.take n ++ List.replicate (n - n) 0 = xs := by
  rw [Nat.sub_self]; simp [hx]
/-- cells and marks below stay as they were, as the walk takes it -/
theorem bcell {W w1 : World} (hb : Below W.heap.size W w1) : (∀ b o, b < W.heap.size → w1.cell? ⟨b, o, none⟩ = W.cell? ⟨b, o, none⟩) ∧ (∀ b o, b < W.heap.size → w1.frozen? ⟨b, o, none⟩ = W.frozen? ⟨b, o, none⟩) :=
  ⟨fun b o h => hb.cell (p := ⟨b, o, none⟩) h, fun b o h => hb.frozen (p := ⟨b, o, none⟩) h⟩
theorem Fs.alloc {w : World} {a : Option Addr} {n cap : Nat} {xs : List Nat} (h : Fs w a n cap xs) (o : Obj) : Fs (w.alloc o) a n cap xs := h.below ((Below.refl _ _).alloc (Nat.le_refl _) o)
/-- a number is handed back, the canonical word of s; nothing was written -/
def F1 (w : World) (s : Nat) (e : Ending) (w' : World) : Prop := ∃ r m, e = .returned (.float .f32 r) ∧ w' = w.drewN m ∧ cn .f32 r = cn .f32 s
/-- .. and whether it was to be had -/
def FB (w : World) (s : Nat) (ok : Bool) (e : Ending) (w' : World) : Prop := ∃ r m, e = .returned (.tuple #[.float .f32 r, .bool ok]) ∧ w' = w.drewN m ∧ cn .f32 r = cn .f32 s
end Go.Fl
