/- Layers: which are valid, by the reference and by the program. -/
import Derived.Test.YtclhemjanhhioaaLst
import Derived.Test.YtclhemjanhhioaaOwn
import Derived.Laws.ResultCell
namespace Go.Proofs.Ytclhemjanhhioaa
open Go.RowKit Go.Fl Go.Reg
def inr (x lo hi : Int) : Bool := decide (lo ≤ x) && decide (x ≤ hi)
theorem inr_iff (x lo hi : Int) : inr x lo hi = true ↔ lo ≤ x ∧ x ≤ hi := by unfold inr; simp
theorem inS (x lo hi : Int) (w : World) : Calls Try.prog 50 #[.int .i64 x, .int .i64 lo, .int .i64 hi] w fun e w' => e = .returned (.bool (inr x lo hi)) ∧ w' = w := by
  by_cases h1 : lo ≤ x
  · have e : inr x lo hi = decide (x ≤ hi) := by unfold inr; simp [h1]
    rw [e]
    go_enter Try.func50, Try.ntmps50
    go_wp2
    go_ret
    exact ⟨rfl, rfl⟩
  · have e : inr x lo hi = false := by unfold inr; simp [h1]
    rw [e]
    go_enter Try.func50, Try.ntmps50
    go_wp2
    go_ret
    exact ⟨rfl, rfl⟩
theorem inI (x lo hi : Int) (w : World) : Calls Try.prog 35 #[.int .i64 x, .int .i64 lo, .int .i64 hi] w fun e w' => e = .returned (.bool (inr x lo hi)) ∧ w' = w := by
  by_cases h1 : lo ≤ x
  · have e : inr x lo hi = decide (x ≤ hi) := by unfold inr; simp [h1]
    rw [e]
    go_enter Try.func35, Try.ntmps35
    go_wp2
    go_ret
    exact ⟨rfl, rfl⟩
  · have e : inr x lo hi = false := by unfold inr; simp [h1]
    rw [e]
    go_enter Try.func35, Try.ntmps35
    go_wp2
    go_ret
    exact ⟨rfl, rfl⟩
theorem isSize (x : Int) (w : World) : Calls Try.prog 36 #[.int .i64 x] w fun e w' => e = .returned (.bool (inr x 1 8)) ∧ w' = w := by
  go_enter Try.func36, Try.ntmps36
  go_wp2_with fail
  refine (inI _ _ _ _).mono ?_
  rintro e w1 ⟨rfl, rfl⟩
  go_wp2
  go_ret
  exact ⟨rfl, rfl⟩
/-- how many weights and biases a layer has -/
def lw (k i o : Int) : Int := if k = 0 then i * o else if k = 2 ∨ k = 5 then i else 0
def lb (k i o : Int) : Int := if k = 0 then o else if k = 5 then i else 0
/-- a layer is valid -/
def ly (k i o : Int) (n m : Nat) : Bool := (inr k 0 5 && (inr i 1 8 && inr o 1 8)) && ((decide (k = 0) || decide (i = o)) && (decide ((n : Int) = lw k i o) && decide ((m : Int) = lb k i o)))
theorem ly_k {k i o : Int} {n m : Nat} (h : inr k 0 5 = false) : ly k i o n m = false := by unfold ly; rw [h]; rfl
theorem ly_i {k i o : Int} {n m : Nat} (h : inr i 1 8 = false) : ly k i o n m = false := by unfold ly; rw [h]; simp
theorem ly_o {k i o : Int} {n m : Nat} (h : inr o 1 8 = false) : ly k i o n m = false := by unfold ly; rw [h]; simp
theorem ly_io {k i o : Int} {n m : Nat} (h : ¬ k = 0) (h2 : ¬ i = o) : ly k i o n m = false := by unfold ly; rw [decide_eq_false h, decide_eq_false h2]; simp
theorem ly_n {k i o : Int} {n m : Nat} (h : ¬ (n : Int) = lw k i o) : ly k i o n m = false := by unfold ly; rw [decide_eq_false h]; simp
theorem ly_m {k i o : Int} {n m : Nat} (h : ¬ (m : Int) = lb k i o) : ly k i o n m = false := by unfold ly; rw [decide_eq_false h]; simp
theorem ly_yes {k i o : Int} {n m : Nat} (h1 : inr k 0 5 = true) (h2 : inr i 1 8 = true) (h3 : inr o 1 8 = true) (h4 : k = 0 ∨ i = o) (h5 : (n : Int) = lw k i o) (h6 : (m : Int) = lb k i o) : ly k i o n m = true := by
  unfold ly; rw [h1, h2, h3, decide_eq_true h5, decide_eq_true h6]; rcases h4 with h4 | h4 <;> simp [h4]
theorem ly_last {k i o : Int} {n m : Nat} (h1 : inr k 0 5 = true) (h2 : inr i 1 8 = true) (h3 : inr o 1 8 = true) (h4 : k = 0 ∨ i = o) (h5 : (n : Int) = lw k i o) : ly k i o n m = ((m : Int) == lb k i o) := by
  unfold ly; rw [h1, h2, h3, decide_eq_true h5]; rcases h4 with h4 | h4 <;> simp [h4] <;> rfl
theorem six {k : Int} (h : inr k 0 5 = true) : k = 0 ∨ k = 1 ∨ k = 2 ∨ k = 3 ∨ k = 4 ∨ k = 5 := by rw [inr_iff] at h; omega
theorem mul88 {i o : Int} (h1 : inr i 1 8 = true) (h2 : inr o 1 8 = true) : 1 ≤ i * o ∧ i * o ≤ 64 := by
  rw [inr_iff] at h1 h2
  have h3 : i * o ≤ 8 * 8 := Int.mul_le_mul (by omega) (by omega) (by omega) (by omega)
  have h4 : 1 * 1 ≤ i * o := Int.mul_le_mul (by omega) (by omega) (by omega) (by omega)
  omega
/-- a layer in five cells -/
structure Lb (w : World) (b o : Nat) (k i u : Int) (a : Option Addr) (n c : Nat) (a2 : Option Addr) (m d : Nat) : Prop where
  c0 : w.cell? ⟨b, o, none⟩ = some (.int .i64 k)
  c1 : w.cell? ⟨b, o + 1, none⟩ = some (.int .i64 i)
  c2 : w.cell? ⟨b, o + 2, none⟩ = some (.int .i64 u)
  c3 : w.cell? ⟨b, o + 3, none⟩ = some (.slice a n c)
  c4 : w.cell? ⟨b, o + 4, none⟩ = some (.slice a2 m d)
  lt : b < w.heap.size
theorem Lb.below {w w' : World} {b o : Nat} {k i u : Int} {a : Option Addr} {n c : Nat} {a2 : Option Addr} {m d : Nat} (h : Lb w b o k i u a n c a2 m d) (hb : Below w.heap.size w w') : Lb w' b o k i u a n c a2 m d :=
  ⟨(hb.cell (p := ⟨b, o, none⟩) h.lt).trans h.c0, (hb.cell (p := ⟨b, o + 1, none⟩) h.lt).trans h.c1, (hb.cell (p := ⟨b, o + 2, none⟩) h.lt).trans h.c2, (hb.cell (p := ⟨b, o + 3, none⟩) h.lt).trans h.c3, (hb.cell (p := ⟨b, o + 4, none⟩) h.lt).trans h.c4, Nat.lt_of_lt_of_le h.lt hb.size⟩
theorem counts0 (b o : Nat) (i u : Int) (a : Option Addr) (n c : Nat) (a2 : Option Addr) (m d : Nat) (w : World) (Q : Lb w b o 0 i u a n c a2 m d) (hi : inr i 1 8 = true) (hu : inr u 1 8 = true) :
    Calls Try.prog 51 #[.pointer (some ⟨b, o, none⟩)] w fun e w' => e = .returned (.tuple #[.int .i64 (lw 0 i u), .int .i64 (lb 0 i u)]) ∧ ∃ m, w' = w.drewN m := by
  obtain ⟨c0, c1, c2, c3, c4, _⟩ := Q
  obtain ⟨m1, m2⟩ := mul88 hi hu
  have hw : IntKind.i64.wrap (i * u) = i * u := IntWalk.i64_in _ (by omega)
  clear hi hu
  go_enter Try.func51, Try.ntmps51
  go_wp2
  refine wp_dr 14 [0, 0, 0, 0, 0, 0, 0, 0, 0, 0, 0, 0, 0, 0, 0] (by kernel_rfl) (by kernel_rfl) ?_
  simp only [List.take_succ_cons, List.take_zero, List.drop_succ_cons, List.drop_zero]
  iterate 14 (with_reducible refine dr_step ?_; intro K hK; go_simp; (try intro _); refine hK _ _ ?_; clear hK K)
  refine wpR_nil (fun nq => ?_)
  go_wp2
  go_ret2
  exact ⟨rfl, _, by rw [World.drewN_drewN]⟩
theorem counts1 (b o : Nat) (i u : Int) (a : Option Addr) (n c : Nat) (a2 : Option Addr) (m d : Nat) (w : World) (Q : Lb w b o 1 i u a n c a2 m d) (_hi : inr i 1 8 = true) (_hu : inr u 1 8 = true) :
    Calls Try.prog 51 #[.pointer (some ⟨b, o, none⟩)] w fun e w' => e = .returned (.tuple #[.int .i64 (lw 1 i u), .int .i64 (lb 1 i u)]) ∧ ∃ m, w' = w.drewN m := by
  obtain ⟨c0, c1, c2, c3, c4, _⟩ := Q
  clear _hi _hu
  go_enter Try.func51, Try.ntmps51
  go_wp2
  go_ret2
  exact ⟨rfl, 0, rfl⟩
theorem counts2 (b o : Nat) (i u : Int) (a : Option Addr) (n c : Nat) (a2 : Option Addr) (m d : Nat) (w : World) (Q : Lb w b o 2 i u a n c a2 m d) (_hi : inr i 1 8 = true) (_hu : inr u 1 8 = true) :
    Calls Try.prog 51 #[.pointer (some ⟨b, o, none⟩)] w fun e w' => e = .returned (.tuple #[.int .i64 (lw 2 i u), .int .i64 (lb 2 i u)]) ∧ ∃ m, w' = w.drewN m := by
  obtain ⟨c0, c1, c2, c3, c4, _⟩ := Q
  clear _hi _hu
  go_enter Try.func51, Try.ntmps51
  go_wp2
  go_ret2
  exact ⟨rfl, 0, rfl⟩
theorem counts3 (b o : Nat) (i u : Int) (a : Option Addr) (n c : Nat) (a2 : Option Addr) (m d : Nat) (w : World) (Q : Lb w b o 3 i u a n c a2 m d) (_hi : inr i 1 8 = true) (_hu : inr u 1 8 = true) :
    Calls Try.prog 51 #[.pointer (some ⟨b, o, none⟩)] w fun e w' => e = .returned (.tuple #[.int .i64 (lw 3 i u), .int .i64 (lb 3 i u)]) ∧ ∃ m, w' = w.drewN m := by
  obtain ⟨c0, c1, c2, c3, c4, _⟩ := Q
  clear _hi _hu
  go_enter Try.func51, Try.ntmps51
  go_wp2
  go_ret2
  exact ⟨rfl, 0, rfl⟩
theorem counts4 (b o : Nat) (i u : Int) (a : Option Addr) (n c : Nat) (a2 : Option Addr) (m d : Nat) (w : World) (Q : Lb w b o 4 i u a n c a2 m d) (_hi : inr i 1 8 = true) (_hu : inr u 1 8 = true) :
    Calls Try.prog 51 #[.pointer (some ⟨b, o, none⟩)] w fun e w' => e = .returned (.tuple #[.int .i64 (lw 4 i u), .int .i64 (lb 4 i u)]) ∧ ∃ m, w' = w.drewN m := by
  obtain ⟨c0, c1, c2, c3, c4, _⟩ := Q
  clear _hi _hu
  go_enter Try.func51, Try.ntmps51
  go_wp2
  go_ret2
  exact ⟨rfl, 0, rfl⟩
theorem counts5 (b o : Nat) (i u : Int) (a : Option Addr) (n c : Nat) (a2 : Option Addr) (m d : Nat) (w : World) (Q : Lb w b o 5 i u a n c a2 m d) (_hi : inr i 1 8 = true) (_hu : inr u 1 8 = true) :
    Calls Try.prog 51 #[.pointer (some ⟨b, o, none⟩)] w fun e w' => e = .returned (.tuple #[.int .i64 (lw 5 i u), .int .i64 (lb 5 i u)]) ∧ ∃ m, w' = w.drewN m := by
  obtain ⟨c0, c1, c2, c3, c4, _⟩ := Q
  clear _hi _hu
  go_enter Try.func51, Try.ntmps51
  go_wp2
  refine wp_dr 9 [0, 0, 0, 0, 0, 0, 0, 0, 0, 0] (by kernel_rfl) (by kernel_rfl) ?_
  simp only [List.take_succ_cons, List.take_zero, List.drop_succ_cons, List.drop_zero]
  iterate 9 (with_reducible refine dr_step ?_; intro K hK; go_simp; (try intro _); refine hK _ _ ?_; clear hK K)
  refine wpR_nil (fun nq => ?_)
  go_wp2
  go_ret2
  exact ⟨rfl, _, by rw [World.drewN_drewN]⟩
theorem counts (k : Int) (b o : Nat) (i u : Int) (a : Option Addr) (n c : Nat) (a2 : Option Addr) (m d : Nat) (w : World) (Q : Lb w b o k i u a n c a2 m d) (hk : inr k 0 5 = true) (hi : inr i 1 8 = true) (hu : inr u 1 8 = true) :
    Calls Try.prog 51 #[.pointer (some ⟨b, o, none⟩)] w fun e w' => e = .returned (.tuple #[.int .i64 (lw k i u), .int .i64 (lb k i u)]) ∧ ∃ m, w' = w.drewN m := by
  rcases six hk with rfl | rfl | rfl | rfl | rfl | rfl
  · exact counts0 b o i u a n c a2 m d w Q hi hu
  · exact counts1 b o i u a n c a2 m d w Q hi hu
  · exact counts2 b o i u a n c a2 m d w Q hi hu
  · exact counts3 b o i u a n c a2 m d w Q hi hu
  · exact counts4 b o i u a n c a2 m d w Q hi hu
  · exact counts5 b o i u a n c a2 m d w Q hi hu
theorem specNoK (k : Int) (b o : Nat) (i u : Int) (a : Option Addr) (n c : Nat) (a2 : Option Addr) (m d : Nat) (w : World) (_hn : n ≤ maxLen) (_hm : m ≤ maxLen) (Q : Lb w b o k i u a n c a2 m d) (h1 : inr k 0 5 = false) :
    Calls Try.prog 34 #[.pointer (some ⟨b, o, none⟩)] w fun e w' => e = .returned (.bool false) ∧ ∃ m, w' = w.drewN m := by
  obtain ⟨c0, c1, c2, c3, c4, _⟩ := Q
  clear _hn _hm
  go_enter Try.func34, Try.ntmps34
  go_wp2_with fail
  refine (inS _ _ _ _).mono ?_
  rintro e w1 ⟨rfl, rfl⟩
  rw [h1]
  go_wp2
  go_ret
  exact ⟨rfl, 0, rfl⟩
theorem specNoI (k : Int) (b o : Nat) (i u : Int) (a : Option Addr) (n c : Nat) (a2 : Option Addr) (m d : Nat) (w : World) (_hn : n ≤ maxLen) (_hm : m ≤ maxLen) (Q : Lb w b o k i u a n c a2 m d) (h1 : inr k 0 5 = true) (h2 : inr i 1 8 = false) :
    Calls Try.prog 34 #[.pointer (some ⟨b, o, none⟩)] w fun e w' => e = .returned (.bool false) ∧ ∃ m, w' = w.drewN m := by
  obtain ⟨c0, c1, c2, c3, c4, _⟩ := Q
  clear _hn _hm
  go_enter Try.func34, Try.ntmps34
  go_wp2_with fail
  refine (inS _ _ _ _).mono ?_
  rintro e w1 ⟨rfl, rfl⟩
  rw [h1]
  go_wp2_with fail
  refine (inS _ _ _ _).mono ?_
  rintro e w1 ⟨rfl, rfl⟩
  rw [h2]
  go_wp2
  go_ret
  exact ⟨rfl, 0, rfl⟩
theorem specNoU (k : Int) (b o : Nat) (i u : Int) (a : Option Addr) (n c : Nat) (a2 : Option Addr) (m d : Nat) (w : World) (_hn : n ≤ maxLen) (_hm : m ≤ maxLen) (Q : Lb w b o k i u a n c a2 m d) (h1 : inr k 0 5 = true) (h2 : inr i 1 8 = true) (h3 : inr u 1 8 = false) :
    Calls Try.prog 34 #[.pointer (some ⟨b, o, none⟩)] w fun e w' => e = .returned (.bool false) ∧ ∃ m, w' = w.drewN m := by
  obtain ⟨c0, c1, c2, c3, c4, _⟩ := Q
  clear _hn _hm
  go_enter Try.func34, Try.ntmps34
  go_wp2_with fail
  refine (inS _ _ _ _).mono ?_
  rintro e w1 ⟨rfl, rfl⟩
  rw [h1]
  go_wp2_with fail
  refine (inS _ _ _ _).mono ?_
  rintro e w1 ⟨rfl, rfl⟩
  rw [h2]
  go_wp2_with fail
  refine (inS _ _ _ _).mono ?_
  rintro e w1 ⟨rfl, rfl⟩
  rw [h3]
  go_wp2
  go_ret
  exact ⟨rfl, 0, rfl⟩
set_option maxHeartbeats 1000000 in
theorem specD0 (k : Int) (b o : Nat) (i u : Int) (a : Option Addr) (n c : Nat) (a2 : Option Addr) (m d : Nat) (w : World) (_hn : n ≤ maxLen) (_hm : m ≤ maxLen) (Q : Lb w b o k i u a n c a2 m d) (h1 : inr k 0 5 = true) (h2 : inr i 1 8 = true) (h3 : inr u 1 8 = true) (hk : k = 0) (hW : ¬ (n : Int) = lw k i u) :
    Calls Try.prog 34 #[.pointer (some ⟨b, o, none⟩)] w fun e w' => e = .returned (.bool (ly k i u n m)) ∧ ∃ m, w' = w.drewN m := by
  rw [show ly k i u n m = false from ly_n hW]
  unfold maxLen at _hn _hm
  have H1 := Lib.hid h1
  have HI := Lib.hid h2
  have HU := Lib.hid h3
  have HQ := Lib.hid Q
  obtain ⟨c0, c1, c2, c3, c4, _⟩ := Q
  have e0 : (k == 0) = true := by simpa using hk
  have e1 : ((n : Int) == lw k i u) = false := by simpa using hW
  clear hk hW
  obtain ⟨LW, hLW⟩ : ∃ LW, LW = lw k i u := ⟨_, rfl⟩
  obtain ⟨LB, hLB⟩ : ∃ LB, LB = lb k i u := ⟨_, rfl⟩
  try rw [← hLW] at e1
  try rw [← hLB]
  have HLW := Lib.hid hLW
  have HLB := Lib.hid hLB
  clear hLW hLB
  go_enter Try.func34, Try.ntmps34
  go_wp2_with fail
  refine (inS _ _ _ _).mono ?_
  rintro e w1 ⟨rfl, rfl⟩
  rw [h1]
  go_wp2_with fail
  refine (inS _ _ _ _).mono ?_
  rintro e w1 ⟨rfl, rfl⟩
  rw [h2]
  go_wp2_with fail
  refine (inS _ _ _ _).mono ?_
  rintro e w1 ⟨rfl, rfl⟩
  rw [h3]
  go_wp2_with fail
  refine (counts k b o i u a n c a2 m d _ HQ.out H1.out HI.out HU.out).mono ?_
  rintro e w1 ⟨rfl, mm, rfl⟩
  rw [← HLW.out, ← HLB.out]
  go_wp2_with fail
  refine wp_dr 34 [0, 0, 0, 0, 0, 0, 0, 0, 0, 0, 0, 0, 0, 0, 0, 0, 0, 0, 0, 0, 0, 0, 0, 0, 0, 0, 0, 0, 0, 0, 0, 0, 0, 0, 0] (by kernel_rfl) (by kernel_rfl) ?_
  simp only [List.take_succ_cons, List.take_zero, List.drop_succ_cons, List.drop_zero]
  iterate 34 (with_reducible refine dr_step ?_; intro K hK; go_simp; (try intro _); refine hK _ _ ?_; clear hK K)
  refine wpR_nil (fun nq => ?_)
  go_wp2
  go_ret
  exact ⟨rfl, _, by rw [World.drewN_drewN]⟩
set_option maxHeartbeats 1000000 in
theorem specD1 (k : Int) (b o : Nat) (i u : Int) (a : Option Addr) (n c : Nat) (a2 : Option Addr) (m d : Nat) (w : World) (_hn : n ≤ maxLen) (_hm : m ≤ maxLen) (Q : Lb w b o k i u a n c a2 m d) (h1 : inr k 0 5 = true) (h2 : inr i 1 8 = true) (h3 : inr u 1 8 = true) (hk : k = 0) (hW : (n : Int) = lw k i u) :
    Calls Try.prog 34 #[.pointer (some ⟨b, o, none⟩)] w fun e w' => e = .returned (.bool (ly k i u n m)) ∧ ∃ m, w' = w.drewN m := by
  rw [show ly k i u n m = ((m : Int) == lb k i u) from ly_last h1 h2 h3 (.inl hk) hW]
  unfold maxLen at _hn _hm
  have H1 := Lib.hid h1
  have HI := Lib.hid h2
  have HU := Lib.hid h3
  have HQ := Lib.hid Q
  obtain ⟨c0, c1, c2, c3, c4, _⟩ := Q
  have e0 : (k == 0) = true := by simpa using hk
  have e1 : ((n : Int) == lw k i u) = true := by simpa using hW
  clear hk hW
  obtain ⟨LW, hLW⟩ : ∃ LW, LW = lw k i u := ⟨_, rfl⟩
  obtain ⟨LB, hLB⟩ : ∃ LB, LB = lb k i u := ⟨_, rfl⟩
  try rw [← hLW] at e1
  try rw [← hLB]
  have HLW := Lib.hid hLW
  have HLB := Lib.hid hLB
  clear hLW hLB
  go_enter Try.func34, Try.ntmps34
  go_wp2_with fail
  refine (inS _ _ _ _).mono ?_
  rintro e w1 ⟨rfl, rfl⟩
  rw [h1]
  go_wp2_with fail
  refine (inS _ _ _ _).mono ?_
  rintro e w1 ⟨rfl, rfl⟩
  rw [h2]
  go_wp2_with fail
  refine (inS _ _ _ _).mono ?_
  rintro e w1 ⟨rfl, rfl⟩
  rw [h3]
  go_wp2_with fail
  refine (counts k b o i u a n c a2 m d _ HQ.out H1.out HI.out HU.out).mono ?_
  rintro e w1 ⟨rfl, mm, rfl⟩
  rw [← HLW.out, ← HLB.out]
  go_wp2_with fail
  refine wp_dr 34 [0, 0, 0, 0, 0, 0, 0, 0, 0, 0, 0, 0, 0, 0, 0, 0, 0, 0, 0, 0, 0, 0, 0, 0, 0, 0, 0, 0, 0, 0, 0, 0, 0, 0, 0] (by kernel_rfl) (by kernel_rfl) ?_
  simp only [List.take_succ_cons, List.take_zero, List.drop_succ_cons, List.drop_zero]
  iterate 34 (with_reducible refine dr_step ?_; intro K hK; go_simp; (try intro _); refine hK _ _ ?_; clear hK K)
  refine wpR_nil (fun nq => ?_)
  go_wp2
  go_ret
  exact ⟨rfl, _, by rw [World.drewN_drewN]⟩
set_option maxHeartbeats 1000000 in
theorem specN0 (k : Int) (b o : Nat) (i u : Int) (a : Option Addr) (n c : Nat) (a2 : Option Addr) (m d : Nat) (w : World) (_hn : n ≤ maxLen) (_hm : m ≤ maxLen) (Q : Lb w b o k i u a n c a2 m d) (h1 : inr k 0 5 = true) (h2 : inr i 1 8 = true) (h3 : inr u 1 8 = true) (hk : ¬ k = 0) (hW : ¬ i = u) :
    Calls Try.prog 34 #[.pointer (some ⟨b, o, none⟩)] w fun e w' => e = .returned (.bool (ly k i u n m)) ∧ ∃ m, w' = w.drewN m := by
  rw [show ly k i u n m = false from ly_io hk hW]
  unfold maxLen at _hn _hm
  have H1 := Lib.hid h1
  have HI := Lib.hid h2
  have HU := Lib.hid h3
  have HQ := Lib.hid Q
  obtain ⟨c0, c1, c2, c3, c4, _⟩ := Q
  have e0 : (k == 0) = false := by simpa using hk
  have e1 : (i == u) = false := by simpa using hW
  clear hk hW
  obtain ⟨LW, hLW⟩ : ∃ LW, LW = lw k i u := ⟨_, rfl⟩
  obtain ⟨LB, hLB⟩ : ∃ LB, LB = lb k i u := ⟨_, rfl⟩
  try rw [← hLW] at e1
  try rw [← hLB]
  have HLW := Lib.hid hLW
  have HLB := Lib.hid hLB
  clear hLW hLB
  go_enter Try.func34, Try.ntmps34
  go_wp2_with fail
  refine (inS _ _ _ _).mono ?_
  rintro e w1 ⟨rfl, rfl⟩
  rw [h1]
  go_wp2_with fail
  refine (inS _ _ _ _).mono ?_
  rintro e w1 ⟨rfl, rfl⟩
  rw [h2]
  go_wp2_with fail
  refine (inS _ _ _ _).mono ?_
  rintro e w1 ⟨rfl, rfl⟩
  rw [h3]
  go_wp2_with fail
  refine (counts k b o i u a n c a2 m d _ HQ.out H1.out HI.out HU.out).mono ?_
  rintro e w1 ⟨rfl, mm, rfl⟩
  rw [← HLW.out, ← HLB.out]
  go_wp2_with fail
  refine wp_dr 34 [0, 0, 0, 0, 0, 0, 0, 0, 0, 0, 0, 0, 0, 0, 0, 0, 0, 0, 0, 0, 0, 0, 0, 0, 0, 0, 0, 0, 0, 0, 0, 0, 0, 0, 0] (by kernel_rfl) (by kernel_rfl) ?_
  simp only [List.take_succ_cons, List.take_zero, List.drop_succ_cons, List.drop_zero]
  iterate 34 (with_reducible refine dr_step ?_; intro K hK; go_simp; (try intro _); refine hK _ _ ?_; clear hK K)
  refine wpR_nil (fun nq => ?_)
  go_wp2
  go_ret
  exact ⟨rfl, _, by rw [World.drewN_drewN]⟩
set_option maxHeartbeats 1000000 in
theorem specN1 (k : Int) (b o : Nat) (i u : Int) (a : Option Addr) (n c : Nat) (a2 : Option Addr) (m d : Nat) (w : World) (_hn : n ≤ maxLen) (_hm : m ≤ maxLen) (Q : Lb w b o k i u a n c a2 m d) (h1 : inr k 0 5 = true) (h2 : inr i 1 8 = true) (h3 : inr u 1 8 = true) (hk : ¬ k = 0) (hio : i = u) (hW : ¬ (n : Int) = lw k i u) :
    Calls Try.prog 34 #[.pointer (some ⟨b, o, none⟩)] w fun e w' => e = .returned (.bool (ly k i u n m)) ∧ ∃ m, w' = w.drewN m := by
  rw [show ly k i u n m = false from ly_n hW]
  unfold maxLen at _hn _hm
  have H1 := Lib.hid h1
  have HI := Lib.hid h2
  have HU := Lib.hid h3
  have HQ := Lib.hid Q
  obtain ⟨c0, c1, c2, c3, c4, _⟩ := Q
  have e0 : (k == 0) = false := by simpa using hk
  have e2 : (i == u) = true := by simpa using hio
  have e1 : ((n : Int) == lw k i u) = false := by simpa using hW
  clear hk hW hio
  obtain ⟨LW, hLW⟩ : ∃ LW, LW = lw k i u := ⟨_, rfl⟩
  obtain ⟨LB, hLB⟩ : ∃ LB, LB = lb k i u := ⟨_, rfl⟩
  try rw [← hLW] at e1
  try rw [← hLB]
  have HLW := Lib.hid hLW
  have HLB := Lib.hid hLB
  clear hLW hLB
  go_enter Try.func34, Try.ntmps34
  go_wp2_with fail
  refine (inS _ _ _ _).mono ?_
  rintro e w1 ⟨rfl, rfl⟩
  rw [h1]
  go_wp2_with fail
  refine (inS _ _ _ _).mono ?_
  rintro e w1 ⟨rfl, rfl⟩
  rw [h2]
  go_wp2_with fail
  refine (inS _ _ _ _).mono ?_
  rintro e w1 ⟨rfl, rfl⟩
  rw [h3]
  go_wp2_with fail
  refine (counts k b o i u a n c a2 m d _ HQ.out H1.out HI.out HU.out).mono ?_
  rintro e w1 ⟨rfl, mm, rfl⟩
  rw [← HLW.out, ← HLB.out]
  go_wp2_with fail
  refine wp_dr 34 [0, 0, 0, 0, 0, 0, 0, 0, 0, 0, 0, 0, 0, 0, 0, 0, 0, 0, 0, 0, 0, 0, 0, 0, 0, 0, 0, 0, 0, 0, 0, 0, 0, 0, 0] (by kernel_rfl) (by kernel_rfl) ?_
  simp only [List.take_succ_cons, List.take_zero, List.drop_succ_cons, List.drop_zero]
  iterate 34 (with_reducible refine dr_step ?_; intro K hK; go_simp; (try intro _); refine hK _ _ ?_; clear hK K)
  refine wpR_nil (fun nq => ?_)
  go_wp2
  go_ret
  exact ⟨rfl, _, by rw [World.drewN_drewN]⟩
set_option maxHeartbeats 1000000 in
theorem specN2 (k : Int) (b o : Nat) (i u : Int) (a : Option Addr) (n c : Nat) (a2 : Option Addr) (m d : Nat) (w : World) (_hn : n ≤ maxLen) (_hm : m ≤ maxLen) (Q : Lb w b o k i u a n c a2 m d) (h1 : inr k 0 5 = true) (h2 : inr i 1 8 = true) (h3 : inr u 1 8 = true) (hk : ¬ k = 0) (hio : i = u) (hW : (n : Int) = lw k i u) :
    Calls Try.prog 34 #[.pointer (some ⟨b, o, none⟩)] w fun e w' => e = .returned (.bool (ly k i u n m)) ∧ ∃ m, w' = w.drewN m := by
  rw [show ly k i u n m = ((m : Int) == lb k i u) from ly_last h1 h2 h3 (.inr hio) hW]
  unfold maxLen at _hn _hm
  have H1 := Lib.hid h1
  have HI := Lib.hid h2
  have HU := Lib.hid h3
  have HQ := Lib.hid Q
  obtain ⟨c0, c1, c2, c3, c4, _⟩ := Q
  have e0 : (k == 0) = false := by simpa using hk
  have e2 : (i == u) = true := by simpa using hio
  have e1 : ((n : Int) == lw k i u) = true := by simpa using hW
  clear hk hW hio
  obtain ⟨LW, hLW⟩ : ∃ LW, LW = lw k i u := ⟨_, rfl⟩
  obtain ⟨LB, hLB⟩ : ∃ LB, LB = lb k i u := ⟨_, rfl⟩
  try rw [← hLW] at e1
  try rw [← hLB]
  have HLW := Lib.hid hLW
  have HLB := Lib.hid hLB
  clear hLW hLB
  go_enter Try.func34, Try.ntmps34
  go_wp2_with fail
  refine (inS _ _ _ _).mono ?_
  rintro e w1 ⟨rfl, rfl⟩
  rw [h1]
  go_wp2_with fail
  refine (inS _ _ _ _).mono ?_
  rintro e w1 ⟨rfl, rfl⟩
  rw [h2]
  go_wp2_with fail
  refine (inS _ _ _ _).mono ?_
  rintro e w1 ⟨rfl, rfl⟩
  rw [h3]
  go_wp2_with fail
  refine (counts k b o i u a n c a2 m d _ HQ.out H1.out HI.out HU.out).mono ?_
  rintro e w1 ⟨rfl, mm, rfl⟩
  rw [← HLW.out, ← HLB.out]
  go_wp2_with fail
  refine wp_dr 34 [0, 0, 0, 0, 0, 0, 0, 0, 0, 0, 0, 0, 0, 0, 0, 0, 0, 0, 0, 0, 0, 0, 0, 0, 0, 0, 0, 0, 0, 0, 0, 0, 0, 0, 0] (by kernel_rfl) (by kernel_rfl) ?_
  simp only [List.take_succ_cons, List.take_zero, List.drop_succ_cons, List.drop_zero]
  iterate 34 (with_reducible refine dr_step ?_; intro K hK; go_simp; (try intro _); refine hK _ _ ?_; clear hK K)
  refine wpR_nil (fun nq => ?_)
  go_wp2
  go_ret
  exact ⟨rfl, _, by rw [World.drewN_drewN]⟩
theorem implNoK (k : Int) (i u : Int) (a : Option Addr) (n c : Nat) (a2 : Option Addr) (m d : Nat) (w : World) (_hn : n ≤ maxLen) (_hm : m ≤ maxLen) (h1 : inr k 0 5 = false) :
    Calls Try.prog 12 #[.agg #[.int .i64 k, .int .i64 i, .int .i64 u, .slice a n c, .slice a2 m d]] w fun e w' => e = .returned (.bool false) ∧ Below w.heap.size w w' := by
  clear _hn _hm
  go_enter Try.func12, Try.ntmps12
  go_wp2_with fail
  refine (inI _ _ _ _).mono ?_
  rintro e w1 ⟨rfl, rfl⟩
  rw [h1]
  go_wp2
  go_ret
  exact ⟨rfl, (Below.refl _ _).alloc (Nat.le_refl _) _⟩
theorem implNoI (k : Int) (i u : Int) (a : Option Addr) (n c : Nat) (a2 : Option Addr) (m d : Nat) (w : World) (_hn : n ≤ maxLen) (_hm : m ≤ maxLen) (h1 : inr k 0 5 = true) (h2 : inr i 1 8 = false) :
    Calls Try.prog 12 #[.agg #[.int .i64 k, .int .i64 i, .int .i64 u, .slice a n c, .slice a2 m d]] w fun e w' => e = .returned (.bool false) ∧ Below w.heap.size w w' := by
  clear _hn _hm
  go_enter Try.func12, Try.ntmps12
  go_wp2_with fail
  refine (inI _ _ _ _).mono ?_
  rintro e w1 ⟨rfl, rfl⟩
  rw [h1]
  go_wp2_with fail
  refine (isSize _ _).mono ?_
  rintro e w1 ⟨rfl, rfl⟩
  rw [h2]
  go_wp2
  go_ret
  exact ⟨rfl, (Below.refl _ _).alloc (Nat.le_refl _) _⟩
theorem implNoU (k : Int) (i u : Int) (a : Option Addr) (n c : Nat) (a2 : Option Addr) (m d : Nat) (w : World) (_hn : n ≤ maxLen) (_hm : m ≤ maxLen) (h1 : inr k 0 5 = true) (h2 : inr i 1 8 = true) (h3 : inr u 1 8 = false) :
    Calls Try.prog 12 #[.agg #[.int .i64 k, .int .i64 i, .int .i64 u, .slice a n c, .slice a2 m d]] w fun e w' => e = .returned (.bool false) ∧ Below w.heap.size w w' := by
  clear _hn _hm
  go_enter Try.func12, Try.ntmps12
  go_wp2_with fail
  refine (inI _ _ _ _).mono ?_
  rintro e w1 ⟨rfl, rfl⟩
  rw [h1]
  go_wp2_with fail
  refine (isSize _ _).mono ?_
  rintro e w1 ⟨rfl, rfl⟩
  rw [h2]
  go_wp2_with fail
  refine (isSize _ _).mono ?_
  rintro e w1 ⟨rfl, rfl⟩
  rw [h3]
  go_wp2
  go_ret
  exact ⟨rfl, (Below.refl _ _).alloc (Nat.le_refl _) _⟩
set_option maxHeartbeats 1000000 in
theorem implY0 (i u : Int) (a : Option Addr) (n c : Nat) (a2 : Option Addr) (m d : Nat) (w : World) (_hn : n ≤ maxLen) (_hm : m ≤ maxLen) (h2 : inr i 1 8 = true) (h3 : inr u 1 8 = true) :
    Calls Try.prog 12 #[.agg #[.int .i64 0, .int .i64 i, .int .i64 u, .slice a n c, .slice a2 m d]] w fun e w' => e = .returned (.bool (ly 0 i u n m)) ∧ Below w.heap.size w w' := by
  unfold maxLen at _hn _hm
  have h1 : inr 0 0 5 = true := by decide
  have eW : lw 0 i u = i * u := by unfold lw; simp
  have eB : lb 0 i u = u := by unfold lb; simp
  obtain ⟨m1, m2⟩ := mul88 h2 h3
  have mw : u * i = i * u := Int.mul_comm _ _
  have hw : IntKind.i64.wrap (u * i) = i * u := by rw [mw]; exact IntWalk.i64_in _ (by omega)
  have HI := Lib.hid h2
  have HU := Lib.hid h3
  by_cases hnW : (n : Int) = i * u
  · skip
    rw [show ly 0 i u n m = ((m : Int) == lb 0 i u) from ly_last h1 h2 h3 (.inl rfl) (by rw [eW]; exact hnW)]
    rw [eB]
    clear eW eB
    go_enter Try.func12, Try.ntmps12
    go_wp2_with fail
    refine (inI _ _ _ _).mono ?_
    rintro e w1 ⟨rfl, rfl⟩
    rw [h1]
    go_wp2_with fail
    refine (isSize _ _).mono ?_
    rintro e w1 ⟨rfl, rfl⟩
    rw [h2]
    go_wp2_with fail
    refine (isSize _ _).mono ?_
    rintro e w1 ⟨rfl, rfl⟩
    rw [h3]
    go_wp2_with fail
    refine wp_dr 8 [0, 0, 0, 0, 0, 0, 0, 0, 0] (by kernel_rfl) (by kernel_rfl) ?_
    simp only [List.take_succ_cons, List.take_zero, List.drop_succ_cons, List.drop_zero]
    iterate 8 (with_reducible refine dr_step ?_; intro K hK; go_simp; (try intro _); refine hK _ _ ?_; clear hK K)
    refine wpR_nil (fun nq => ?_)
    go_wp2
    go_ret
    exact ⟨rfl, bdrew ((Below.refl _ _).alloc (Nat.le_refl _) _) _⟩
  · skip
    rw [show ly 0 i u n m = false from ly_n (by rw [eW]; exact hnW)]
    clear eW eB
    go_enter Try.func12, Try.ntmps12
    go_wp2_with fail
    refine (inI _ _ _ _).mono ?_
    rintro e w1 ⟨rfl, rfl⟩
    rw [h1]
    go_wp2_with fail
    refine (isSize _ _).mono ?_
    rintro e w1 ⟨rfl, rfl⟩
    rw [h2]
    go_wp2_with fail
    refine (isSize _ _).mono ?_
    rintro e w1 ⟨rfl, rfl⟩
    rw [h3]
    go_wp2_with fail
    refine wp_dr 8 [0, 0, 0, 0, 0, 0, 0, 0, 0] (by kernel_rfl) (by kernel_rfl) ?_
    simp only [List.take_succ_cons, List.take_zero, List.drop_succ_cons, List.drop_zero]
    iterate 8 (with_reducible refine dr_step ?_; intro K hK; go_simp; (try intro _); refine hK _ _ ?_; clear hK K)
    refine wpR_nil (fun nq => ?_)
    go_wp2
    go_ret
    exact ⟨rfl, bdrew ((Below.refl _ _).alloc (Nat.le_refl _) _) _⟩
set_option maxHeartbeats 1000000 in
theorem implY1 (i u : Int) (a : Option Addr) (n c : Nat) (a2 : Option Addr) (m d : Nat) (w : World) (_hn : n ≤ maxLen) (_hm : m ≤ maxLen) (h2 : inr i 1 8 = true) (h3 : inr u 1 8 = true) :
    Calls Try.prog 12 #[.agg #[.int .i64 1, .int .i64 i, .int .i64 u, .slice a n c, .slice a2 m d]] w fun e w' => e = .returned (.bool (ly 1 i u n m)) ∧ Below w.heap.size w w' := by
  unfold maxLen at _hn _hm
  have h1 : inr 1 0 5 = true := by decide
  have eW : lw 1 i u = 0 := by unfold lw; simp
  have eB : lb 1 i u = 0 := by unfold lb; simp
  have HI := Lib.hid h2
  have HU := Lib.hid h3
  by_cases hio : i = u
  · skip
    by_cases hnW : (n : Int) = 0
    · skip
      rw [show ly 1 i u n m = ((m : Int) == lb 1 i u) from ly_last h1 h2 h3 (.inr hio) (by rw [eW]; exact hnW)]
      subst hio
      rw [eB]
      clear eW eB
      go_enter Try.func12, Try.ntmps12
      go_wp2_with fail
      refine (inI _ _ _ _).mono ?_
      rintro e w1 ⟨rfl, rfl⟩
      rw [h1]
      go_wp2_with fail
      refine (isSize _ _).mono ?_
      rintro e w1 ⟨rfl, rfl⟩
      rw [h2]
      go_wp2_with fail
      refine (isSize _ _).mono ?_
      rintro e w1 ⟨rfl, rfl⟩
      rw [h3]
      go_wp2
      go_ret
      exact ⟨rfl, (Below.refl _ _).alloc (Nat.le_refl _) _⟩
    · skip
      rw [show ly 1 i u n m = false from ly_n (by rw [eW]; exact hnW)]
      subst hio
      clear eW eB
      go_enter Try.func12, Try.ntmps12
      go_wp2_with fail
      refine (inI _ _ _ _).mono ?_
      rintro e w1 ⟨rfl, rfl⟩
      rw [h1]
      go_wp2_with fail
      refine (isSize _ _).mono ?_
      rintro e w1 ⟨rfl, rfl⟩
      rw [h2]
      go_wp2_with fail
      refine (isSize _ _).mono ?_
      rintro e w1 ⟨rfl, rfl⟩
      rw [h3]
      go_wp2
      go_ret
      exact ⟨rfl, (Below.refl _ _).alloc (Nat.le_refl _) _⟩
  · skip
    rw [show ly 1 i u n m = false from ly_io (by decide) hio]
    clear eW eB
    go_enter Try.func12, Try.ntmps12
    go_wp2_with fail
    refine (inI _ _ _ _).mono ?_
    rintro e w1 ⟨rfl, rfl⟩
    rw [h1]
    go_wp2_with fail
    refine (isSize _ _).mono ?_
    rintro e w1 ⟨rfl, rfl⟩
    rw [h2]
    go_wp2_with fail
    refine (isSize _ _).mono ?_
    rintro e w1 ⟨rfl, rfl⟩
    rw [h3]
    go_wp2
    go_ret
    exact ⟨rfl, (Below.refl _ _).alloc (Nat.le_refl _) _⟩
set_option maxHeartbeats 1000000 in
theorem implY2 (i u : Int) (a : Option Addr) (n c : Nat) (a2 : Option Addr) (m d : Nat) (w : World) (_hn : n ≤ maxLen) (_hm : m ≤ maxLen) (h2 : inr i 1 8 = true) (h3 : inr u 1 8 = true) :
    Calls Try.prog 12 #[.agg #[.int .i64 2, .int .i64 i, .int .i64 u, .slice a n c, .slice a2 m d]] w fun e w' => e = .returned (.bool (ly 2 i u n m)) ∧ Below w.heap.size w w' := by
  unfold maxLen at _hn _hm
  have h1 : inr 2 0 5 = true := by decide
  have eW : lw 2 i u = i := by unfold lw; simp
  have eB : lb 2 i u = 0 := by unfold lb; simp
  have HI := Lib.hid h2
  have HU := Lib.hid h3
  by_cases hio : i = u
  · skip
    by_cases hnW : (n : Int) = i
    · skip
      rw [show ly 2 i u n m = ((m : Int) == lb 2 i u) from ly_last h1 h2 h3 (.inr hio) (by rw [eW]; exact hnW)]
      subst hio
      rw [eB]
      clear eW eB
      go_enter Try.func12, Try.ntmps12
      go_wp2_with fail
      refine (inI _ _ _ _).mono ?_
      rintro e w1 ⟨rfl, rfl⟩
      rw [h1]
      go_wp2_with fail
      refine (isSize _ _).mono ?_
      rintro e w1 ⟨rfl, rfl⟩
      rw [h2]
      go_wp2_with fail
      refine (isSize _ _).mono ?_
      rintro e w1 ⟨rfl, rfl⟩
      rw [h3]
      go_wp2
      go_ret
      exact ⟨rfl, (Below.refl _ _).alloc (Nat.le_refl _) _⟩
    · skip
      rw [show ly 2 i u n m = false from ly_n (by rw [eW]; exact hnW)]
      subst hio
      clear eW eB
      go_enter Try.func12, Try.ntmps12
      go_wp2_with fail
      refine (inI _ _ _ _).mono ?_
      rintro e w1 ⟨rfl, rfl⟩
      rw [h1]
      go_wp2_with fail
      refine (isSize _ _).mono ?_
      rintro e w1 ⟨rfl, rfl⟩
      rw [h2]
      go_wp2_with fail
      refine (isSize _ _).mono ?_
      rintro e w1 ⟨rfl, rfl⟩
      rw [h3]
      go_wp2
      go_ret
      exact ⟨rfl, (Below.refl _ _).alloc (Nat.le_refl _) _⟩
  · skip
    rw [show ly 2 i u n m = false from ly_io (by decide) hio]
    clear eW eB
    go_enter Try.func12, Try.ntmps12
    go_wp2_with fail
    refine (inI _ _ _ _).mono ?_
    rintro e w1 ⟨rfl, rfl⟩
    rw [h1]
    go_wp2_with fail
    refine (isSize _ _).mono ?_
    rintro e w1 ⟨rfl, rfl⟩
    rw [h2]
    go_wp2_with fail
    refine (isSize _ _).mono ?_
    rintro e w1 ⟨rfl, rfl⟩
    rw [h3]
    go_wp2
    go_ret
    exact ⟨rfl, (Below.refl _ _).alloc (Nat.le_refl _) _⟩
set_option maxHeartbeats 1000000 in
theorem implY3 (i u : Int) (a : Option Addr) (n c : Nat) (a2 : Option Addr) (m d : Nat) (w : World) (_hn : n ≤ maxLen) (_hm : m ≤ maxLen) (h2 : inr i 1 8 = true) (h3 : inr u 1 8 = true) :
    Calls Try.prog 12 #[.agg #[.int .i64 3, .int .i64 i, .int .i64 u, .slice a n c, .slice a2 m d]] w fun e w' => e = .returned (.bool (ly 3 i u n m)) ∧ Below w.heap.size w w' := by
  unfold maxLen at _hn _hm
  have h1 : inr 3 0 5 = true := by decide
  have eW : lw 3 i u = 0 := by unfold lw; simp
  have eB : lb 3 i u = 0 := by unfold lb; simp
  have HI := Lib.hid h2
  have HU := Lib.hid h3
  by_cases hio : i = u
  · skip
    by_cases hnW : (n : Int) = 0
    · skip
      rw [show ly 3 i u n m = ((m : Int) == lb 3 i u) from ly_last h1 h2 h3 (.inr hio) (by rw [eW]; exact hnW)]
      subst hio
      rw [eB]
      clear eW eB
      go_enter Try.func12, Try.ntmps12
      go_wp2_with fail
      refine (inI _ _ _ _).mono ?_
      rintro e w1 ⟨rfl, rfl⟩
      rw [h1]
      go_wp2_with fail
      refine (isSize _ _).mono ?_
      rintro e w1 ⟨rfl, rfl⟩
      rw [h2]
      go_wp2_with fail
      refine (isSize _ _).mono ?_
      rintro e w1 ⟨rfl, rfl⟩
      rw [h3]
      go_wp2
      go_ret
      exact ⟨rfl, (Below.refl _ _).alloc (Nat.le_refl _) _⟩
    · skip
      rw [show ly 3 i u n m = false from ly_n (by rw [eW]; exact hnW)]
      subst hio
      clear eW eB
      go_enter Try.func12, Try.ntmps12
      go_wp2_with fail
      refine (inI _ _ _ _).mono ?_
      rintro e w1 ⟨rfl, rfl⟩
      rw [h1]
      go_wp2_with fail
      refine (isSize _ _).mono ?_
      rintro e w1 ⟨rfl, rfl⟩
      rw [h2]
      go_wp2_with fail
      refine (isSize _ _).mono ?_
      rintro e w1 ⟨rfl, rfl⟩
      rw [h3]
      go_wp2
      go_ret
      exact ⟨rfl, (Below.refl _ _).alloc (Nat.le_refl _) _⟩
  · skip
    rw [show ly 3 i u n m = false from ly_io (by decide) hio]
    clear eW eB
    go_enter Try.func12, Try.ntmps12
    go_wp2_with fail
    refine (inI _ _ _ _).mono ?_
    rintro e w1 ⟨rfl, rfl⟩
    rw [h1]
    go_wp2_with fail
    refine (isSize _ _).mono ?_
    rintro e w1 ⟨rfl, rfl⟩
    rw [h2]
    go_wp2_with fail
    refine (isSize _ _).mono ?_
    rintro e w1 ⟨rfl, rfl⟩
    rw [h3]
    go_wp2
    go_ret
    exact ⟨rfl, (Below.refl _ _).alloc (Nat.le_refl _) _⟩
set_option maxHeartbeats 1000000 in
theorem implY4 (i u : Int) (a : Option Addr) (n c : Nat) (a2 : Option Addr) (m d : Nat) (w : World) (_hn : n ≤ maxLen) (_hm : m ≤ maxLen) (h2 : inr i 1 8 = true) (h3 : inr u 1 8 = true) :
    Calls Try.prog 12 #[.agg #[.int .i64 4, .int .i64 i, .int .i64 u, .slice a n c, .slice a2 m d]] w fun e w' => e = .returned (.bool (ly 4 i u n m)) ∧ Below w.heap.size w w' := by
  unfold maxLen at _hn _hm
  have h1 : inr 4 0 5 = true := by decide
  have eW : lw 4 i u = 0 := by unfold lw; simp
  have eB : lb 4 i u = 0 := by unfold lb; simp
  have HI := Lib.hid h2
  have HU := Lib.hid h3
  by_cases hio : i = u
  · skip
    by_cases hnW : (n : Int) = 0
    · skip
      rw [show ly 4 i u n m = ((m : Int) == lb 4 i u) from ly_last h1 h2 h3 (.inr hio) (by rw [eW]; exact hnW)]
      subst hio
      rw [eB]
      clear eW eB
      go_enter Try.func12, Try.ntmps12
      go_wp2_with fail
      refine (inI _ _ _ _).mono ?_
      rintro e w1 ⟨rfl, rfl⟩
      rw [h1]
      go_wp2_with fail
      refine (isSize _ _).mono ?_
      rintro e w1 ⟨rfl, rfl⟩
      rw [h2]
      go_wp2_with fail
      refine (isSize _ _).mono ?_
      rintro e w1 ⟨rfl, rfl⟩
      rw [h3]
      go_wp2
      go_ret
      exact ⟨rfl, (Below.refl _ _).alloc (Nat.le_refl _) _⟩
    · skip
      rw [show ly 4 i u n m = false from ly_n (by rw [eW]; exact hnW)]
      subst hio
      clear eW eB
      go_enter Try.func12, Try.ntmps12
      go_wp2_with fail
      refine (inI _ _ _ _).mono ?_
      rintro e w1 ⟨rfl, rfl⟩
      rw [h1]
      go_wp2_with fail
      refine (isSize _ _).mono ?_
      rintro e w1 ⟨rfl, rfl⟩
      rw [h2]
      go_wp2_with fail
      refine (isSize _ _).mono ?_
      rintro e w1 ⟨rfl, rfl⟩
      rw [h3]
      go_wp2
      go_ret
      exact ⟨rfl, (Below.refl _ _).alloc (Nat.le_refl _) _⟩
  · skip
    rw [show ly 4 i u n m = false from ly_io (by decide) hio]
    clear eW eB
    go_enter Try.func12, Try.ntmps12
    go_wp2_with fail
    refine (inI _ _ _ _).mono ?_
    rintro e w1 ⟨rfl, rfl⟩
    rw [h1]
    go_wp2_with fail
    refine (isSize _ _).mono ?_
    rintro e w1 ⟨rfl, rfl⟩
    rw [h2]
    go_wp2_with fail
    refine (isSize _ _).mono ?_
    rintro e w1 ⟨rfl, rfl⟩
    rw [h3]
    go_wp2
    go_ret
    exact ⟨rfl, (Below.refl _ _).alloc (Nat.le_refl _) _⟩
set_option maxHeartbeats 1000000 in
theorem implY5 (i u : Int) (a : Option Addr) (n c : Nat) (a2 : Option Addr) (m d : Nat) (w : World) (_hn : n ≤ maxLen) (_hm : m ≤ maxLen) (h2 : inr i 1 8 = true) (h3 : inr u 1 8 = true) :
    Calls Try.prog 12 #[.agg #[.int .i64 5, .int .i64 i, .int .i64 u, .slice a n c, .slice a2 m d]] w fun e w' => e = .returned (.bool (ly 5 i u n m)) ∧ Below w.heap.size w w' := by
  unfold maxLen at _hn _hm
  have h1 : inr 5 0 5 = true := by decide
  have eW : lw 5 i u = i := by unfold lw; simp
  have eB : lb 5 i u = i := by unfold lb; simp
  have HI := Lib.hid h2
  have HU := Lib.hid h3
  by_cases hio : i = u
  · skip
    by_cases hnW : (n : Int) = i
    · skip
      rw [show ly 5 i u n m = ((m : Int) == lb 5 i u) from ly_last h1 h2 h3 (.inr hio) (by rw [eW]; exact hnW)]
      subst hio
      rw [eB]
      clear eW eB
      go_enter Try.func12, Try.ntmps12
      go_wp2_with fail
      refine (inI _ _ _ _).mono ?_
      rintro e w1 ⟨rfl, rfl⟩
      rw [h1]
      go_wp2_with fail
      refine (isSize _ _).mono ?_
      rintro e w1 ⟨rfl, rfl⟩
      rw [h2]
      go_wp2_with fail
      refine (isSize _ _).mono ?_
      rintro e w1 ⟨rfl, rfl⟩
      rw [h3]
      go_wp2_with fail
      refine wp_dr 5 [0, 0, 0, 0, 0, 0] (by kernel_rfl) (by kernel_rfl) ?_
      simp only [List.take_succ_cons, List.take_zero, List.drop_succ_cons, List.drop_zero]
      iterate 5 (with_reducible refine dr_step ?_; intro K hK; go_simp; (try intro _); refine hK _ _ ?_; clear hK K)
      refine wpR_nil (fun nq => ?_)
      go_wp2
      go_ret
      exact ⟨rfl, bdrew ((Below.refl _ _).alloc (Nat.le_refl _) _) _⟩
    · skip
      rw [show ly 5 i u n m = false from ly_n (by rw [eW]; exact hnW)]
      subst hio
      clear eW eB
      go_enter Try.func12, Try.ntmps12
      go_wp2_with fail
      refine (inI _ _ _ _).mono ?_
      rintro e w1 ⟨rfl, rfl⟩
      rw [h1]
      go_wp2_with fail
      refine (isSize _ _).mono ?_
      rintro e w1 ⟨rfl, rfl⟩
      rw [h2]
      go_wp2_with fail
      refine (isSize _ _).mono ?_
      rintro e w1 ⟨rfl, rfl⟩
      rw [h3]
      go_wp2_with fail
      refine wp_dr 5 [0, 0, 0, 0, 0, 0] (by kernel_rfl) (by kernel_rfl) ?_
      simp only [List.take_succ_cons, List.take_zero, List.drop_succ_cons, List.drop_zero]
      iterate 5 (with_reducible refine dr_step ?_; intro K hK; go_simp; (try intro _); refine hK _ _ ?_; clear hK K)
      refine wpR_nil (fun nq => ?_)
      go_wp2
      go_ret
      exact ⟨rfl, bdrew ((Below.refl _ _).alloc (Nat.le_refl _) _) _⟩
  · skip
    rw [show ly 5 i u n m = false from ly_io (by decide) hio]
    clear eW eB
    go_enter Try.func12, Try.ntmps12
    go_wp2_with fail
    refine (inI _ _ _ _).mono ?_
    rintro e w1 ⟨rfl, rfl⟩
    rw [h1]
    go_wp2_with fail
    refine (isSize _ _).mono ?_
    rintro e w1 ⟨rfl, rfl⟩
    rw [h2]
    go_wp2_with fail
    refine (isSize _ _).mono ?_
    rintro e w1 ⟨rfl, rfl⟩
    rw [h3]
    go_wp2
    go_ret
    exact ⟨rfl, (Below.refl _ _).alloc (Nat.le_refl _) _⟩
theorem layS (k : Int) (b o : Nat) (i u : Int) (a : Option Addr) (n c : Nat) (a2 : Option Addr) (m d : Nat) (w : World) (hn : n ≤ maxLen) (hm : m ≤ maxLen) (Q : Lb w b o k i u a n c a2 m d) :
    Calls Try.prog 34 #[.pointer (some ⟨b, o, none⟩)] w fun e w' => e = .returned (.bool (ly k i u n m)) ∧ ∃ m, w' = w.drewN m := by
  cases h1 : inr k 0 5
  · rw [ly_k h1]; exact specNoK k b o i u a n c a2 m d w hn hm Q h1
  · cases h2 : inr i 1 8
    · rw [ly_i h2]; exact specNoI k b o i u a n c a2 m d w hn hm Q h1 h2
    · cases h3 : inr u 1 8
      · rw [ly_o h3]; exact specNoU k b o i u a n c a2 m d w hn hm Q h1 h2 h3
      · by_cases hk : k = 0
        · by_cases hW : (n : Int) = lw k i u
          · exact specD1 k b o i u a n c a2 m d w hn hm Q h1 h2 h3 hk hW
          · exact specD0 k b o i u a n c a2 m d w hn hm Q h1 h2 h3 hk hW
        · by_cases hio : i = u
          · by_cases hW : (n : Int) = lw k i u
            · exact specN2 k b o i u a n c a2 m d w hn hm Q h1 h2 h3 hk hio hW
            · exact specN1 k b o i u a n c a2 m d w hn hm Q h1 h2 h3 hk hio hW
          · exact specN0 k b o i u a n c a2 m d w hn hm Q h1 h2 h3 hk hio
theorem layI (k : Int) (i u : Int) (a : Option Addr) (n c : Nat) (a2 : Option Addr) (m d : Nat) (w : World) (hn : n ≤ maxLen) (hm : m ≤ maxLen) :
    Calls Try.prog 12 #[.agg #[.int .i64 k, .int .i64 i, .int .i64 u, .slice a n c, .slice a2 m d]] w fun e w' => e = .returned (.bool (ly k i u n m)) ∧ Below w.heap.size w w' := by
  cases h1 : inr k 0 5
  · rw [ly_k h1]; exact implNoK k i u a n c a2 m d w hn hm h1
  · cases h2 : inr i 1 8
    · rw [ly_i h2]; exact implNoI k i u a n c a2 m d w hn hm h1 h2
    · cases h3 : inr u 1 8
      · rw [ly_o h3]; exact implNoU k i u a n c a2 m d w hn hm h1 h2 h3
      · rcases six h1 with rfl | rfl | rfl | rfl | rfl | rfl
        · exact implY0 i u a n c a2 m d w hn hm h2 h3
        · exact implY1 i u a n c a2 m d w hn hm h2 h3
        · exact implY2 i u a n c a2 m d w hn hm h2 h3
        · exact implY3 i u a n c a2 m d w hn hm h2 h3
        · exact implY4 i u a n c a2 m d w hn hm h2 h3
        · exact implY5 i u a n c a2 m d w hn hm h2 h3
end Go.Proofs.Ytclhemjanhhioaa
