/- Two tensors that are valid and of one shape: the spec's answer and the program's. -/
import Derived.Test.YtfmfddfcjbbklaaValid
namespace Go.Proofs.Ytfmfddfcjbbklaa
open Go.RowKit Go.Fl Go.Reg
def lk (r c : Int) (n : Nat) (r2 c2 : Int) (n2 : Nat) : Bool := decide (vt r c n) && (decide (vt r2 c2 n2) && (decide (r = r2) && decide (c = c2)))
theorem lk_yes {r c : Int} {n : Nat} {r2 c2 : Int} {n2 : Nat} (h : lk r c n r2 c2 n2 = true) : vt r c n ∧ r2 = r ∧ c2 = c ∧ n2 = n := by
  unfold lk at h
  simp only [Bool.and_eq_true, decide_eq_true_eq] at h
  obtain ⟨h1, h2, h3, h4⟩ := h
  subst h3; subst h4
  refine ⟨h1, rfl, rfl, ?_⟩
  have a := h1.2.2.2.2
  have b := h2.2.2.2.2
  omega
theorem isTb (r c : Int) (a : Option Addr) (n cap : Nat) (b : Nat) (w : World) (k : Nat) (hn : n ≤ maxLen) (Q : Box w b r c a n cap) :
    Calls Try.prog 50 #[.pointer (some ⟨b, 0, none⟩)] (w.drewN k) fun e w' => e = .returned (.bool (decide (vt r c n))) ∧ ∃ m, w' = w.drewN (k + m) := by
  refine (isT r c a n cap b 0 (w.drewN k) hn Q.c0 Q.c1 Q.c2).mono ?_
  rintro e w1 ⟨rfl, m, rfl⟩
  exact ⟨rfl, m, World.drewN_drewN ..⟩
set_option maxHeartbeats 2000000 in
theorem likeS (r c : Int) (a : Option Addr) (n cap : Nat) (b : Nat) (r2 c2 : Int) (a2 : Option Addr) (n2 cap2 : Nat) (b2 : Nat) (w : World) (_hn : n ≤ maxLen) (_hn2 : n2 ≤ maxLen) (Q : Box w b r c a n cap) (Q2 : Box w b2 r2 c2 a2 n2 cap2) :
    Calls Try.prog 54 #[.pointer (some ⟨b, 0, none⟩), .pointer (some ⟨b2, 0, none⟩)] w fun e w' => e = .returned (.bool (lk r c n r2 c2 n2)) ∧ ∃ m, w' = w.drewN m := by
  unfold lk
  have QH := Lib.hid Q
  have QH2 := Lib.hid Q2
  obtain ⟨q0, q1, q2, q3⟩ := Q
  obtain ⟨p0, p1, p2, p3⟩ := Q2
  clear q2 p2 q3 p3
  cases h1 : decide (vt r c n)
  · have H1 := Lib.hid h1
    clear h1
    go_enter Try.func54, Try.ntmps54
    go_wp2_with fail
    refine wp_dr 28 [0, 2, 0, 0, 2, 0, 0, 0, 0, 0, 0, 0, 0, 0, 0, 0, 0, 0, 0, 0, 0, 0, 0, 0, 0, 0, 0, 0, 0] (by kernel_rfl) (by kernel_rfl) ?_
    simp only [List.take_succ_cons, List.take_zero, List.drop_succ_cons, List.drop_zero]
    iterate 1 (with_reducible refine dr_step ?_; intro K hK; go_simp; (try intro _); refine hK _ _ ?_; clear hK K)
    with_reducible refine dr_step ?_
    intro K hK
    go_simp
    intro _
    refine (isTb r c a n cap b _ _ _hn QH.out).mono ?_
    rintro e w1 ⟨rfl, m, rfl⟩
    rw [H1.out]
    refine ⟨_, rfl, Dr.of0 _ _, hK _ _ ?_⟩
    clear hK K
    iterate 26 (with_reducible refine dr_step ?_; intro K hK; go_simp; (try intro _); refine hK _ _ ?_; clear hK K)
    refine wpR_nil (fun nq => ?_)
    go_wp2
    go_ret
    exact ⟨rfl, _, by rw [World.drewN_drewN]⟩
  · have H1 := Lib.hid h1
    clear h1
    cases h2 : decide (vt r2 c2 n2)
    · have H2 := Lib.hid h2
      clear h2
      go_enter Try.func54, Try.ntmps54
      go_wp2_with fail
      refine wp_dr 28 [0, 2, 0, 0, 2, 0, 0, 0, 0, 0, 0, 0, 0, 0, 0, 0, 0, 0, 0, 0, 0, 0, 0, 0, 0, 0, 0, 0, 0] (by kernel_rfl) (by kernel_rfl) ?_
      simp only [List.take_succ_cons, List.take_zero, List.drop_succ_cons, List.drop_zero]
      iterate 1 (with_reducible refine dr_step ?_; intro K hK; go_simp; (try intro _); refine hK _ _ ?_; clear hK K)
      with_reducible refine dr_step ?_
      intro K hK
      go_simp
      intro _
      refine (isTb r c a n cap b _ _ _hn QH.out).mono ?_
      rintro e w1 ⟨rfl, m, rfl⟩
      rw [H1.out]
      refine ⟨_, rfl, Dr.of0 _ _, hK _ _ ?_⟩
      clear hK K
      iterate 2 (with_reducible refine dr_step ?_; intro K hK; go_simp; (try intro _); refine hK _ _ ?_; clear hK K)
      with_reducible refine dr_step ?_
      intro K hK
      go_simp
      intro _
      refine (isTb r2 c2 a2 n2 cap2 b2 _ _ _hn2 QH2.out).mono ?_
      rintro e w1 ⟨rfl, m, rfl⟩
      rw [H2.out]
      refine ⟨_, rfl, Dr.of0 _ _, hK _ _ ?_⟩
      clear hK K
      iterate 23 (with_reducible refine dr_step ?_; intro K hK; go_simp; (try intro _); refine hK _ _ ?_; clear hK K)
      refine wpR_nil (fun nq => ?_)
      go_wp2
      go_ret
      exact ⟨rfl, _, by rw [World.drewN_drewN]⟩
    · have H2 := Lib.hid h2
      clear h2
      by_cases h3 : r = r2
      · subst h3
        go_enter Try.func54, Try.ntmps54
        go_wp2_with fail
        refine wp_dr 28 [0, 2, 0, 0, 2, 0, 0, 0, 0, 0, 0, 0, 0, 0, 0, 0, 0, 0, 0, 0, 0, 0, 0, 0, 0, 0, 0, 0, 0] (by kernel_rfl) (by kernel_rfl) ?_
        simp only [List.take_succ_cons, List.take_zero, List.drop_succ_cons, List.drop_zero]
        iterate 1 (with_reducible refine dr_step ?_; intro K hK; go_simp; (try intro _); refine hK _ _ ?_; clear hK K)
        with_reducible refine dr_step ?_
        intro K hK
        go_simp
        intro _
        refine (isTb r c a n cap b _ _ _hn QH.out).mono ?_
        rintro e w1 ⟨rfl, m, rfl⟩
        rw [H1.out]
        refine ⟨_, rfl, Dr.of0 _ _, hK _ _ ?_⟩
        clear hK K
        iterate 2 (with_reducible refine dr_step ?_; intro K hK; go_simp; (try intro _); refine hK _ _ ?_; clear hK K)
        with_reducible refine dr_step ?_
        intro K hK
        go_simp
        intro _
        refine (isTb r c2 a2 n2 cap2 b2 _ _ _hn2 QH2.out).mono ?_
        rintro e w1 ⟨rfl, m, rfl⟩
        rw [H2.out]
        refine ⟨_, rfl, Dr.of0 _ _, hK _ _ ?_⟩
        clear hK K
        iterate 23 (with_reducible refine dr_step ?_; intro K hK; go_simp; (try intro _); refine hK _ _ ?_; clear hK K)
        refine wpR_nil (fun nq => ?_)
        go_wp2
        go_ret
        exact ⟨by show Ending.returned (Value.bool _) = _; simp; rfl, _, by rw [World.drewN_drewN]⟩
      · go_enter Try.func54, Try.ntmps54
        go_wp2_with fail
        refine wp_dr 28 [0, 2, 0, 0, 2, 0, 0, 0, 0, 0, 0, 0, 0, 0, 0, 0, 0, 0, 0, 0, 0, 0, 0, 0, 0, 0, 0, 0, 0] (by kernel_rfl) (by kernel_rfl) ?_
        simp only [List.take_succ_cons, List.take_zero, List.drop_succ_cons, List.drop_zero]
        iterate 1 (with_reducible refine dr_step ?_; intro K hK; go_simp; (try intro _); refine hK _ _ ?_; clear hK K)
        with_reducible refine dr_step ?_
        intro K hK
        go_simp
        intro _
        refine (isTb r c a n cap b _ _ _hn QH.out).mono ?_
        rintro e w1 ⟨rfl, m, rfl⟩
        rw [H1.out]
        refine ⟨_, rfl, Dr.of0 _ _, hK _ _ ?_⟩
        clear hK K
        iterate 2 (with_reducible refine dr_step ?_; intro K hK; go_simp; (try intro _); refine hK _ _ ?_; clear hK K)
        with_reducible refine dr_step ?_
        intro K hK
        go_simp
        intro _
        refine (isTb r2 c2 a2 n2 cap2 b2 _ _ _hn2 QH2.out).mono ?_
        rintro e w1 ⟨rfl, m, rfl⟩
        rw [H2.out]
        refine ⟨_, rfl, Dr.of0 _ _, hK _ _ ?_⟩
        clear hK K
        iterate 23 (with_reducible refine dr_step ?_; intro K hK; go_simp; (try intro _); refine hK _ _ ?_; clear hK K)
        refine wpR_nil (fun nq => ?_)
        go_wp2
        go_ret
        exact ⟨by show Ending.returned (Value.bool _) = _; simp [h3], _, by rw [World.drewN_drewN]⟩
theorem likeI (r c : Int) (a : Option Addr) (n cap : Nat) (r2 c2 : Int) (a2 : Option Addr) (n2 cap2 : Nat) (w : World) (_hn : n ≤ maxLen) (_hn2 : n2 ≤ maxLen) :
    Calls Try.prog 56 #[.agg #[.int .i64 r, .int .i64 c, .slice a n cap], .agg #[.int .i64 r2, .int .i64 c2, .slice a2 n2 cap2]] w fun e w' => e = .returned (.bool (lk r c n r2 c2 n2)) ∧ Below w.heap.size w w' := by
  unfold lk
  cases h1 : decide (vt r c n)
  · have H1 := Lib.hid h1
    clear h1
    go_enter Try.func56, Try.ntmps56
    go_wp2_with fail
    refine calls_at ?_
    intro w1 hA
    have T : Below w.heap.size w w1 := by rw [hA]; exact ((Below.refl _ _).alloc (Nat.le_refl _) _).alloc (by simp) _
    clear hA
    refine (validT r c a n cap _ _hn).mono ?_
    rintro e w2 ⟨rfl, b2⟩
    rw [H1.out]
    have T2 := T.trans (b2.mono T.size)
    clear b2 T
    go_wp2
    go_ret
    exact ⟨rfl, T2⟩
  · have H1 := Lib.hid h1
    clear h1
    go_enter Try.func56, Try.ntmps56
    go_wp2_with fail
    refine calls_at ?_
    intro w1 hA
    have T : Below w.heap.size w w1 := by rw [hA]; exact ((Below.refl _ _).alloc (Nat.le_refl _) _).alloc (by simp) _
    have Q : Box w1 w.heap.size r c a n cap := by rw [hA]; exact ⟨by simp [go_sem], by simp [go_sem], by simp [go_sem], by simp; omega⟩
    have P : Box w1 (w.heap.size + 1) r2 c2 a2 n2 cap2 := by rw [hA]; exact ⟨by simp [go_sem], by simp [go_sem], by simp [go_sem], by simp⟩
    clear hA
    refine (validT r c a n cap _ _hn).mono ?_
    rintro e w2 ⟨rfl, b2⟩
    rw [H1.out]
    have T2 := T.trans (b2.mono T.size)
    have Q := Q.below b2
    have P := P.below b2
    clear b2 T
    obtain ⟨q0, q1, q2, q3⟩ := Q
    obtain ⟨p0, p1, p2, p3⟩ := P
    go_wp2_with fail
    have Q : Box w2 w.heap.size r c a n cap := ⟨q0, q1, q2, q3⟩
    have P : Box w2 (w.heap.size + 1) r2 c2 a2 n2 cap2 := ⟨p0, p1, p2, p3⟩
    clear q0 q1 q2 q3 p0 p1 p2 p3
    refine (validT r2 c2 a2 n2 cap2 _ _hn2).mono ?_
    rintro e w3 ⟨rfl, b3⟩
    have Q := Q.below b3
    have P := P.below b3
    have T3 := T2.trans (b3.mono T2.size)
    clear b3 T2
    cases h2 : decide (vt r2 c2 n2)
    · have H2 := Lib.hid h2
      clear h2
      obtain ⟨q0, q1, q2, q3⟩ := Q
      obtain ⟨p0, p1, p2, p3⟩ := P
      go_wp2
      go_ret
      exact ⟨by rw [H2.out]; rfl, T3⟩
    · obtain ⟨q0, q1, q2, q3⟩ := Q
      obtain ⟨p0, p1, p2, p3⟩ := P
      have H2 := Lib.hid h2
      clear h2
      by_cases h3 : r = r2
      · subst h3
        go_wp2_with go_in
        go_ret
        exact ⟨by rw [H2.out]; simp; rfl, (T3.alloc (by have := T3.size; omega) _).alloc (by have := T3.size; simp; omega) _⟩
      · go_wp2_with go_in
        go_ret
        exact ⟨by rw [H2.out]; simp [h3], (T3.alloc (by have := T3.size; omega) _).alloc (by have := T3.size; simp; omega) _⟩
end Go.Proofs.Ytfmfddfcjbbklaa
