/- The laws' own helpers on layers. -/
import Derived.Test.YtclhemjanhhioaaLst
import Derived.Test.YtclhemjanhhioaaTens
import Derived.Test.YtclhemjanhhioaaOwn
import Derived.Laws.ResultCell
namespace Go.Proofs.Ytclhemjanhhioaa
open Go.RowKit Go.Fl Go.Reg
theorem row_set {w : World} {lo hi : Nat} {t : TypeId} {v : Value} {n : Nat} {xs : List Nat} (h : Row w lo hi t v n xs) {p : Addr} (hp : p.block < lo) (u : Value) : Row (w.setCell p u) lo hi t v n xs :=
  ⟨own_set h.own hp u, h.low, by simpa [World.setCell] using h.top, h.lt⟩
set_option maxHeartbeats 1000000 in
theorem toLay (k i u : Int) (a : Option Addr) (n c : Nat) (xs : List Nat) (a2 : Option Addr) (m d : Nat) (ys : List Nat) (w : World) (hn : n ≤ 1048576) (hm : m ≤ 1048576) (h1 : Fs w a n c xs) (h2 : Fs w a2 m d ys) :
    Calls Try.prog 11 #[.agg #[.int .i64 k, .int .i64 i, .int .i64 u, .slice a n c, .slice a2 m d]] w fun e w' => ∃ g g2 q, e = .returned (.agg #[.int .i64 k, .int .i64 i, .int .i64 u, .slice (some ⟨g, 0, none⟩) n n, .slice (some ⟨g2, 0, none⟩) m m]) ∧ Row w' w.heap.size q 67 (.slice (some ⟨g, 0, none⟩) n n) n xs ∧ Row w' q w'.heap.size 67 (.slice (some ⟨g2, 0, none⟩) m m) m ys ∧ Below w.heap.size w w' := by
  have H2 := Lib.hid h2
  clear h2
  go_enter Try.func11, Try.ntmps11
  go_wp2_with fail
  refine (toF32r _ _ _ _ _ hn (((h1.alloc _).alloc _).alloc _)).mono ?_
  rintro e w1 ⟨g, rfl, own, bel⟩
  obtain ⟨hc, hf⟩ := bcell bel
  have hz : w.heap.size + 2 < w1.heap.size := by have := bel.size; simp at this; omega
  have hz1 : w.heap.size + 1 < w1.heap.size := by omega
  have hz0 : w.heap.size < w1.heap.size := by omega
  have OW := Lib.hid own
  have BE := Lib.hid bel
  clear own bel
  go_wp2_with fail
  have B1 : Below w.heap.size w (w1.setCell ⟨w.heap.size + 1 + 1, 3, none⟩ (.slice (some ⟨g, 0, none⟩) n n)) := by
    refine Below.setCell (Below.trans ?_ (BE.out.mono (by simp; omega))) (by simp; omega) _
    exact (((Below.refl _ _).alloc (Nat.le_refl _) _).alloc (by simp) _).alloc (by simp; omega) _
  refine (toF32r _ _ _ _ _ hm (H2.out.below B1)).mono ?_
  have HB1 := Lib.hid B1
  clear B1
  rintro e w2 ⟨g2, rfl, own2, bel2⟩
  obtain ⟨hc2, hf2⟩ := bcell bel2
  have zs : (w1.setCell ⟨w.heap.size + 1 + 1, 3, none⟩ (.slice (some ⟨g, 0, none⟩) n n)).heap.size = w1.heap.size := by simp [World.setCell]
  have hy : w1.heap.size ≤ w2.heap.size := by have := bel2.size; rw [zs] at this; exact this
  have hy2 : w.heap.size + 2 < w2.heap.size := by omega
  have hy1 : w.heap.size + 1 < w2.heap.size := by omega
  have hy0 : w.heap.size < w2.heap.size := by omega
  have r0 : w2.cell? ⟨w.heap.size + 1, 0, none⟩ = some (Value.int .i64 0) := (hc2 _ _ (by rw [zs]; omega)).trans (by simp [go_sem, hc])
  have r1 : w2.cell? ⟨w.heap.size + 1, 1, none⟩ = some (Value.int .i64 0) := (hc2 _ _ (by rw [zs]; omega)).trans (by simp [go_sem, hc])
  have r2 : w2.cell? ⟨w.heap.size + 1, 2, none⟩ = some (Value.int .i64 0) := (hc2 _ _ (by rw [zs]; omega)).trans (by simp [go_sem, hc])
  have r3 : w2.cell? ⟨w.heap.size + 1, 3, none⟩ = some (Value.slice none 0 0) := (hc2 _ _ (by rw [zs]; omega)).trans (by simp [go_sem, hc])
  have r4 : w2.cell? ⟨w.heap.size + 1, 4, none⟩ = some (Value.slice none 0 0) := (hc2 _ _ (by rw [zs]; omega)).trans (by simp [go_sem, hc])
  rw [zs] at own2
  have OW2 := Lib.hid own2
  have BE2 := Lib.hid bel2
  clear own2 bel2
  go_wp2_with fail
  refine bodyPost_ret (v := .agg #[.int .i64 k, .int .i64 i, .int .i64 u, .slice (some ⟨g, 0, none⟩) n n, .slice (some ⟨g2, 0, none⟩) m m]) (by simp [results, Try.results11, go_sem, r0, r1, r2, r3, r4]) rfl ⟨g, g2, w1.heap.size, rfl, ?_, ?_, ?_⟩
  · exact (row_set (row_set (row_set (row_set (row_set (row_set ((row_set OW.out (p := ⟨w.heap.size + 1 + 1, 3, none⟩) (by simp <;> omega) _).below BE2.out) (p := ⟨_, _, _⟩) (by simp <;> omega) _) (p := ⟨_, _, _⟩) (by simp <;> omega) _) (p := ⟨_, _, _⟩) (by simp <;> omega) _) (p := ⟨_, _, _⟩) (by simp <;> omega) _) (p := ⟨_, _, _⟩) (by simp <;> omega) _) (p := ⟨_, _, _⟩) (by simp <;> omega) _).down (by simp <;> omega)
  · exact (row_set (row_set (row_set (row_set (row_set (row_set OW2.out (p := ⟨_, _, _⟩) (by simp <;> omega) _) (p := ⟨_, _, _⟩) (by simp <;> omega) _) (p := ⟨_, _, _⟩) (by simp <;> omega) _) (p := ⟨_, _, _⟩) (by simp <;> omega) _) (p := ⟨_, _, _⟩) (by simp <;> omega) _) (p := ⟨_, _, _⟩) (by simp <;> omega) _).up (by simp) (Nat.le_refl _)
  · exact (((((((((((((HB1.out.trans (BE2.out.mono (by rw [zs]; omega)))).setCell (by simp <;> omega) _)).setCell (by simp <;> omega) _)).setCell (by simp <;> omega) _)).setCell (by simp <;> omega) _)).setCell (by simp <;> omega) _)).setCell (by simp <;> omega) _)
theorem eqLay (k i u : Int) (a b : Option Addr) (n c1 c2 : Nat) (xs zs : List Nat) (a2 b2 : Option Addr) (m d1 d2 : Nat) (ys us : List Nat) (w : World) (hn : n ≤ 1048576) (hm : m ≤ 1048576) (h1 : Fs w a n c1 xs) (h2 : Fs w b n c2 zs) (h3 : Fs w a2 m d1 ys) (h4 : Fs w b2 m d2 us) (he : xs.map (cn .f32) = zs.map (cn .f32)) (he2 : ys.map (cn .f32) = us.map (cn .f32)) :
    Calls Try.prog 13 #[.agg #[.int .i64 k, .int .i64 i, .int .i64 u, .slice a n c1, .slice a2 m d1], .agg #[.int .i64 k, .int .i64 i, .int .i64 u, .slice b n c2, .slice b2 m d2]] w fun e w' => e = .returned (.bool true) ∧ Below w.heap.size w w' := by
  go_enter Try.func13, Try.ntmps13
  go_wp2_with fail
  refine (eqF32 _ _ _ _ _ _ _ _ hn ((h1.alloc _).alloc _) ((h2.alloc _).alloc _) he).mono ?_
  rintro e w1 ⟨q, rfl, rfl⟩
  go_wp2_with fail
  refine (eqF32 _ _ _ _ _ _ _ _ hm (((h3.alloc _).alloc _).drew _) (((h4.alloc _).alloc _).drew _) he2).mono ?_
  rintro e w1 ⟨q2, rfl, rfl⟩
  go_wp2_with fail
  go_ret
  exact ⟨rfl, bdrew (((Below.refl _ _).alloc (Nat.le_refl _) _).alloc (by simp) _) _⟩
theorem szLayYes (k i u : Int) (a : Option Addr) (n c : Nat) (a2 : Option Addr) (m d : Nat) (left : Int) (w : World) (hl : left ≤ 1048576) (h : (n : Int) + (m : Int) ≤ left) :
    Calls Try.prog 9 #[.agg #[.int .i64 k, .int .i64 i, .int .i64 u, .slice a n c, .slice a2 m d], .int .i64 left] w fun e w' => e = .returned (.int .i64 (left - n - m)) ∧ Below w.heap.size w w' := by
  go_enter Try.func9, Try.ntmps9
  go_wp2_with go_in
  go_ret
  exact ⟨rfl, (Below.refl _ _).alloc (Nat.le_refl _) _⟩
theorem szLayNo (k i u : Int) (a : Option Addr) (n c : Nat) (a2 : Option Addr) (m d : Nat) (left : Int) (w : World) (hn : n ≤ maxLen) (hm : m ≤ maxLen) (hl : 0 ≤ left) (h : left < (n : Int) + (m : Int)) (hl2 : left ≤ 1048576) :
    Calls Try.prog 9 #[.agg #[.int .i64 k, .int .i64 i, .int .i64 u, .slice a n c, .slice a2 m d], .int .i64 left] w fun e w' => e = .returned (.int .i64 (-1)) ∧ Below w.heap.size w w' := by
  unfold maxLen at hn hm
  by_cases h1 : left < (n : Int)
  · go_enter Try.func9, Try.ntmps9
    go_wp2_with go_in
    go_ret
    exact ⟨rfl, (Below.refl _ _).alloc (Nat.le_refl _) _⟩
  · go_enter Try.func9, Try.ntmps9
    go_wp2_with go_in
    go_ret
    exact ⟨rfl, (Below.refl _ _).alloc (Nat.le_refl _) _⟩
/-- a layer in a cell of its own -/
structure LB (w : World) (b : Nat) (k i u : Int) (a : Option Addr) (n c : Nat) (a2 : Option Addr) (m d : Nat) : Prop where
  c0 : w.cell? ⟨b, 0, none⟩ = some (.int .i64 k)
  c1 : w.cell? ⟨b, 1, none⟩ = some (.int .i64 i)
  c2 : w.cell? ⟨b, 2, none⟩ = some (.int .i64 u)
  c3 : w.cell? ⟨b, 3, none⟩ = some (.slice a n c)
  c4 : w.cell? ⟨b, 4, none⟩ = some (.slice a2 m d)
  lt : b < w.heap.size
section
variable {w w' : World} {b : Nat} {k i u : Int} {a : Option Addr} {n c : Nat} {a2 : Option Addr} {m d : Nat} {t : TypeId}
theorem LB.below (h : LB w b k i u a n c a2 m d) (hb : Below w.heap.size w w') : LB w' b k i u a n c a2 m d :=
  ⟨(hb.cell (p := ⟨b, 0, none⟩) h.lt).trans h.c0, (hb.cell (p := ⟨b, 1, none⟩) h.lt).trans h.c1, (hb.cell (p := ⟨b, 2, none⟩) h.lt).trans h.c2, (hb.cell (p := ⟨b, 3, none⟩) h.lt).trans h.c3, (hb.cell (p := ⟨b, 4, none⟩) h.lt).trans h.c4, Nat.lt_of_lt_of_le h.lt hb.size⟩
theorem lb_new (h : w' = w.alloc (.cells #[.int .i64 k, .int .i64 i, .int .i64 u, .slice a n c, .slice a2 m d] t)) : LB w' w.heap.size k i u a n c a2 m d ∧ Below w.heap.size w w' ∧ w.heap.size < w'.heap.size ∧ w'.heap.size ≤ w.heap.size + 1 := by
  subst h
  have hl : w.heap.size < (w.alloc (.cells #[.int .i64 k, .int .i64 i, .int .i64 u, .slice a n c, .slice a2 m d] t)).heap.size := by simp
  refine ⟨⟨?_, ?_, ?_, ?_, ?_, hl⟩, (Below.refl _ _).alloc (Nat.le_refl _) _, hl, by simp⟩
  all_goals simp [go_sem]
end
end Go.Proofs.Ytclhemjanhhioaa
