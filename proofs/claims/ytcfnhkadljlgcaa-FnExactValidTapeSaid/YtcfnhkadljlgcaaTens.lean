/- The laws' own helpers on tensors, and which tensors are valid. -/
import Derived.Test.YtcfnhkadljlgcaaLst
import Derived.Test.YtcfnhkadljlgcaaOwn
import Derived.Laws.ResultCell
namespace Go.Proofs.Ytcfnhkadljlgcaa
open Go.RowKit Go.Fl Go.Reg

/-- a tensor is valid -/
def vt (r c : Int) (n : Nat) : Prop := 1 ≤ r ∧ r ≤ 16 ∧ 1 ≤ c ∧ c ≤ 16 ∧ (n : Int) = r * c

theorem toF32r (a : Option Addr) (n cap : Nat) (xs : List Nat) (w : World) (hn : n ≤ 1048576) (h1 : Fs w a n cap xs) :
    Calls Try.prog 26 #[.slice a n cap] w fun e w' => ∃ g, e = .returned (.slice (some ⟨g, 0, none⟩) n n) ∧ Row w' w.heap.size w'.heap.size 30 (.slice (some ⟨g, 0, none⟩) n n) n xs ∧ Below w.heap.size w w' := by
  refine (toF32 _ _ _ _ _ hn h1).mono ?_
  rintro e w' ⟨g, rfl, own, bel⟩
  exact ⟨g, rfl, Row.of own bel.size, bel⟩
theorem eqF32r (a b : Option Addr) (n c1 c2 : Nat) (xs ys : List Nat) (w : World) (hn : n ≤ 1048576) (h1 : Fs w a n c1 xs) (h2 : Fs w b n c2 ys) (he : xs.map (cn .f32) = ys.map (cn .f32)) :
    Calls Try.prog 31 #[.slice a n c1, .slice b n c2] w fun e w' => e = .returned (.bool true) ∧ Below w.heap.size w w' := by
  refine (eqF32 _ _ _ _ _ _ _ _ hn h1 h2 he).mono ?_
  rintro e w' ⟨m, rfl, rfl⟩
  exact ⟨rfl, bdrew (Below.refl _ _) _⟩
theorem sameFloatr (x y : Nat) (w : World) (h : cn .f64 x = cn .f64 y) : Calls Try.prog 18 #[.float .f64 x, .float .f64 y] w fun e w' => e = .returned (.bool true) ∧ Below w.heap.size w w' := by
  refine (sameFloat _ _ _ h).mono ?_
  rintro e w' ⟨rfl, rfl⟩
  exact ⟨rfl, Below.refl _ _⟩

theorem toTens (r c : Int) (a : Option Addr) (n cap : Nat) (xs : List Nat) (w : World) (hn : n ≤ 1048576) (h1 : Fs w a n cap xs) :
    Calls Try.prog 16 #[.agg #[.int .i64 r, .int .i64 c, .slice a n cap]] w fun e w' => ∃ g, e = .returned (.agg #[.int .i64 r, .int .i64 c, .slice (some ⟨g, 0, none⟩) n n]) ∧ Row w' w.heap.size w'.heap.size 30 (.slice (some ⟨g, 0, none⟩) n n) n xs ∧ Below w.heap.size w w' := by
  go_enter Try.func16, Try.ntmps16
  go_wp2_with fail
  refine (toF32 _ _ _ _ _ hn (((h1.alloc _).alloc _).alloc _)).mono ?_
  rintro e w1 ⟨g, rfl, own, bel⟩
  obtain ⟨hc, hf⟩ := bcell bel
  have hz : w.heap.size + 2 < w1.heap.size := by have := bel.size; simp at this; omega
  have hz1 : w.heap.size + 1 < w1.heap.size := by omega
  have hz0 : w.heap.size < w1.heap.size := by omega
  have OW := Lib.hid own
  have BE := Lib.hid bel
  clear own bel
  go_wp2_with fail
  refine bodyPost_ret (v := .agg #[.int .i64 r, .int .i64 c, .slice (some ⟨g, 0, none⟩) n n]) (by simp [results, Try.results16, go_sem, hc]) rfl ⟨g, rfl, Row.of ?_ ?_, ?_⟩
  · exact own_base (own_set (own_set (own_set (own_set OW.out (by simp) _) (by simp <;> omega) _) (by simp <;> omega) _) (by simp <;> omega) _) (by simp <;> omega)
  · simp; omega
  · refine ((((Below.trans ?_ (BE.out.mono (by simp; omega))).setCell (by simp; omega) _).setCell (by simp) _).setCell (by simp) _).setCell (by simp) _
    exact (((Below.refl _ _).alloc (Nat.le_refl _) _).alloc (by simp) _).alloc (by simp; omega) _

theorem eqTens (r c : Int) (a b : Option Addr) (n c1 c2 : Nat) (xs ys : List Nat) (w : World) (hn : n ≤ 1048576) (h1 : Fs w a n c1 xs) (h2 : Fs w b n c2 ys) (he : xs.map (cn .f32) = ys.map (cn .f32)) :
    Calls Try.prog 19 #[.agg #[.int .i64 r, .int .i64 c, .slice a n c1], .agg #[.int .i64 r, .int .i64 c, .slice b n c2]] w fun e w' => e = .returned (.bool true) ∧ Below w.heap.size w w' := by
  go_enter Try.func19, Try.ntmps19
  go_wp2_with fail
  refine (eqF32 _ _ _ _ _ _ _ _ hn ((h1.alloc _).alloc _) ((h2.alloc _).alloc _) he).mono ?_
  rintro e w1 ⟨k, rfl, rfl⟩
  go_wp2_with fail
  go_ret
  exact ⟨rfl, bdrew (((Below.refl _ _).alloc (Nat.le_refl _) _).alloc (by simp) _) _⟩

theorem szYes (r c : Int) (a : Option Addr) (n cap : Nat) (left : Int) (w : World) (hl : left ≤ 1048576) (h : (n : Int) ≤ left) :
    Calls Try.prog 14 #[.agg #[.int .i64 r, .int .i64 c, .slice a n cap], .int .i64 left] w fun e w' => e = .returned (.int .i64 (left - n)) ∧ Below w.heap.size w w' := by
  go_enter Try.func14, Try.ntmps14
  go_wp2_with go_in
  go_ret
  exact ⟨rfl, (Below.refl _ _).alloc (Nat.le_refl _) _⟩
theorem szNo (r c : Int) (a : Option Addr) (n cap : Nat) (left : Int) (w : World) (hn : n ≤ maxLen) (hl : 0 ≤ left) (h : left < (n : Int)) :
    Calls Try.prog 14 #[.agg #[.int .i64 r, .int .i64 c, .slice a n cap], .int .i64 left] w fun e w' => e = .returned (.int .i64 (-1)) ∧ Below w.heap.size w w' := by
  unfold maxLen at hn
  go_enter Try.func14, Try.ntmps14
  go_wp2_with go_in
  go_ret
  exact ⟨rfl, (Below.refl _ _).alloc (Nat.le_refl _) _⟩

end Go.Proofs.Ytcfnhkadljlgcaa
