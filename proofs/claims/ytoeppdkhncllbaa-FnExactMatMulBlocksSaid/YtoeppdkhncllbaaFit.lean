/- Two tensors that are valid and can be multiplied: the spec's answer and the program's. -/
import Derived.Test.YtoeppdkhncllbaaLike
import Derived.Test.YtoeppdkhncllbaaFin
import Derived.Test.YtoeppdkhncllbaaRowT
namespace Go.Proofs.Ytoeppdkhncllbaa
open Go.RowKit Go.Fl Go.Reg
def ft (r c : Int) (n : Nat) (r2 c2 : Int) (n2 : Nat) : Bool := decide (vt r c n) && (decide (vt r2 c2 n2) && decide (c = r2))
theorem ft_yes {r c : Int} {n : Nat} {r2 c2 : Int} {n2 : Nat} (h : ft r c n r2 c2 n2 = true) : ∃ R D C : Nat, r = (R : Int) ∧ c = (D : Int) ∧ r2 = (D : Int) ∧ c2 = (C : Int) ∧ (0 < R ∧ R ≤ 16) ∧ (0 < D ∧ D ≤ 16) ∧ (0 < C ∧ C ≤ 16) ∧ n = R * D ∧ n2 = D * C := by
  unfold ft at h
  simp only [Bool.and_eq_true, decide_eq_true_eq] at h
  obtain ⟨h1, h2, h3⟩ := h
  obtain ⟨R, D, rfl, rfl, hR, hD, hn⟩ := nat_of h1
  obtain ⟨D2, C, rfl, rfl, _, hC, hn2⟩ := nat_of h2
  have : D2 = D := by omega
  subst this
  exact ⟨R, D2, C, rfl, rfl, rfl, rfl, hR, hD, hC, hn, hn2⟩
set_option maxHeartbeats 2000000 in
theorem fitS (r c : Int) (a : Option Addr) (n cap : Nat) (b : Nat) (r2 c2 : Int) (a2 : Option Addr) (n2 cap2 : Nat) (b2 : Nat) (w : World) (_hn : n ≤ maxLen) (_hn2 : n2 ≤ maxLen) (Q : Box w b r c a n cap) (Q2 : Box w b2 r2 c2 a2 n2 cap2) :
    Calls Try.prog 56 #[.pointer (some ⟨b, 0, none⟩), .pointer (some ⟨b2, 0, none⟩)] w fun e w' => e = .returned (.bool (ft r c n r2 c2 n2)) ∧ ∃ m, w' = w.drewN m := by
  unfold ft
  have QH := Lib.hid Q
  have QH2 := Lib.hid Q2
  obtain ⟨q0, q1, q2, q3⟩ := Q
  obtain ⟨p0, p1, p2, p3⟩ := Q2
  clear q2 p2 q3 p3 q0 p1
  cases h1 : decide (vt r c n)
  · have H1 := Lib.hid h1
    clear h1
    go_enter Try.func56, Try.ntmps56
    go_wp2_with fail
    refine wp_dr 17 [0, 2, 0, 0, 2, 0, 0, 0, 0, 0, 0, 0, 0, 0, 0, 0, 0, 0] (by kernel_rfl) (by kernel_rfl) ?_
    simp only [List.take_succ_cons, List.take_zero, List.drop_succ_cons, List.drop_zero]
    iterate 1 (with_reducible refine dr_step ?_; intro K hK; go_simp; (try intro _); refine hK _ _ ?_; clear hK K)
    with_reducible refine dr_step ?_
    intro K hK
    go_simp
    intro _
    refine (isTb r c a n cap b _ _ _hn QH.out).mono ?_
    rintro e w1 ⟨rfl, m, rfl⟩
    rw [H1.out]
    refine ⟨_, rfl, Dr.of0 _ _, hK _ _ ?_⟩
    clear hK K
    iterate 15 (with_reducible refine dr_step ?_; intro K hK; go_simp; (try intro _); refine hK _ _ ?_; clear hK K)
    refine wpR_nil (fun nq => ?_)
    go_wp2
    go_ret
    exact ⟨rfl, _, by rw [World.drewN_drewN]⟩
  · have H1 := Lib.hid h1
    clear h1
    cases h2 : decide (vt r2 c2 n2)
    · have H2 := Lib.hid h2
      clear h2
      go_enter Try.func56, Try.ntmps56
      go_wp2_with fail
      refine wp_dr 17 [0, 2, 0, 0, 2, 0, 0, 0, 0, 0, 0, 0, 0, 0, 0, 0, 0, 0] (by kernel_rfl) (by kernel_rfl) ?_
      simp only [List.take_succ_cons, List.take_zero, List.drop_succ_cons, List.drop_zero]
      iterate 1 (with_reducible refine dr_step ?_; intro K hK; go_simp; (try intro _); refine hK _ _ ?_; clear hK K)
      with_reducible refine dr_step ?_
      intro K hK
      go_simp
      intro _
      refine (isTb r c a n cap b _ _ _hn QH.out).mono ?_
      rintro e w1 ⟨rfl, m, rfl⟩
      rw [H1.out]
      refine ⟨_, rfl, Dr.of0 _ _, hK _ _ ?_⟩
      clear hK K
      iterate 2 (with_reducible refine dr_step ?_; intro K hK; go_simp; (try intro _); refine hK _ _ ?_; clear hK K)
      with_reducible refine dr_step ?_
      intro K hK
      go_simp
      intro _
      refine (isTb r2 c2 a2 n2 cap2 b2 _ _ _hn2 QH2.out).mono ?_
      rintro e w1 ⟨rfl, m, rfl⟩
      rw [H2.out]
      refine ⟨_, rfl, Dr.of0 _ _, hK _ _ ?_⟩
      clear hK K
      iterate 12 (with_reducible refine dr_step ?_; intro K hK; go_simp; (try intro _); refine hK _ _ ?_; clear hK K)
      refine wpR_nil (fun nq => ?_)
      go_wp2
      go_ret
      exact ⟨rfl, _, by rw [World.drewN_drewN]⟩
    · have H2 := Lib.hid h2
      clear h2
      go_enter Try.func56, Try.ntmps56
      go_wp2_with fail
      refine wp_dr 17 [0, 2, 0, 0, 2, 0, 0, 0, 0, 0, 0, 0, 0, 0, 0, 0, 0, 0] (by kernel_rfl) (by kernel_rfl) ?_
      simp only [List.take_succ_cons, List.take_zero, List.drop_succ_cons, List.drop_zero]
      iterate 1 (with_reducible refine dr_step ?_; intro K hK; go_simp; (try intro _); refine hK _ _ ?_; clear hK K)
      with_reducible refine dr_step ?_
      intro K hK
      go_simp
      intro _
      refine (isTb r c a n cap b _ _ _hn QH.out).mono ?_
      rintro e w1 ⟨rfl, m, rfl⟩
      rw [H1.out]
      refine ⟨_, rfl, Dr.of0 _ _, hK _ _ ?_⟩
      clear hK K
      iterate 2 (with_reducible refine dr_step ?_; intro K hK; go_simp; (try intro _); refine hK _ _ ?_; clear hK K)
      with_reducible refine dr_step ?_
      intro K hK
      go_simp
      intro _
      refine (isTb r2 c2 a2 n2 cap2 b2 _ _ _hn2 QH2.out).mono ?_
      rintro e w1 ⟨rfl, m, rfl⟩
      rw [H2.out]
      refine ⟨_, rfl, Dr.of0 _ _, hK _ _ ?_⟩
      clear hK K
      iterate 12 (with_reducible refine dr_step ?_; intro K hK; go_simp; (try intro _); refine hK _ _ ?_; clear hK K)
      refine wpR_nil (fun nq => ?_)
      go_wp2
      go_ret
      exact ⟨by show Ending.returned (Value.bool _) = _; simp; rfl, _, by rw [World.drewN_drewN]⟩
theorem fitI (r c : Int) (a : Option Addr) (n cap : Nat) (r2 c2 : Int) (x2 : Option Addr) (n2 cap2 : Nat) (w : World) (HM : n ≤ maxLen) (HM2 : n2 ≤ maxLen) :
    Calls Try.prog 58 #[.agg #[.int .i64 r, .int .i64 c, .slice a n cap], .agg #[.int .i64 r2, .int .i64 c2, .slice x2 n2 cap2]] w (BN w (ft r c n r2 c2 n2)) := by
  unfold ft
  cases hd1 : decide (vt r c n)
  · have HV := Lib.hid hd1
    clear hd1
    go_enter Try.func58, Try.ntmps58
    go_wp2_with fail
    refine calls_at ?_
    intro w1 hA
    have A : Below w.heap.size w w1 := by rw [hA]; exact ((Below.refl _ _).alloc (Nat.le_refl _) _).alloc (by simp <;> omega) _
    have zw1 : w1.heap.size = w.heap.size + 1 + 1 := by rw [hA]; simp
    have Q_ : Box w1 (w.heap.size) r c a n cap := by rw [hA]; exact ⟨by simp [go_sem], by simp [go_sem], by simp [go_sem], by simp <;> omega⟩
    have P_ : Box w1 (w.heap.size + 1) r2 c2 x2 n2 cap2 := by rw [hA]; exact ⟨by simp [go_sem], by simp [go_sem], by simp [go_sem], by simp <;> omega⟩
    clear hA
    have zw1a := Nat.le_of_eq zw1
    have zw1b := Nat.le_of_eq zw1.symm
    clear zw1
    have T := A
    clear A
    have Q := Lib.hid Q_
    clear Q_
    have P := Lib.hid P_
    clear P_
    refine (validT r c a n cap _ HM).mono ?_
    rintro e w2 ⟨rfl, A⟩
    have T := T.trans (A.mono T.size)
    have Q := Lib.hid (Q.out.below A)
    have P := Lib.hid (P.out.below A)
    have zw2 := A.size
    clear A
    rw [HV.out]
    go_wp2
    go_ret
    exact ⟨rfl, T⟩
  · cases hd2 : decide (vt r2 c2 n2)
    · have HV := Lib.hid hd1
      have HV2 := Lib.hid hd2
      clear hd1 hd2
      go_enter Try.func58, Try.ntmps58
      go_wp2_with fail
      refine calls_at ?_
      intro w1 hA
      have A : Below w.heap.size w w1 := by rw [hA]; exact ((Below.refl _ _).alloc (Nat.le_refl _) _).alloc (by simp <;> omega) _
      have zw1 : w1.heap.size = w.heap.size + 1 + 1 := by rw [hA]; simp
      have Q_ : Box w1 (w.heap.size) r c a n cap := by rw [hA]; exact ⟨by simp [go_sem], by simp [go_sem], by simp [go_sem], by simp <;> omega⟩
      have P_ : Box w1 (w.heap.size + 1) r2 c2 x2 n2 cap2 := by rw [hA]; exact ⟨by simp [go_sem], by simp [go_sem], by simp [go_sem], by simp <;> omega⟩
      clear hA
      have zw1a := Nat.le_of_eq zw1
      have zw1b := Nat.le_of_eq zw1.symm
      clear zw1
      have T := A
      clear A
      have Q := Lib.hid Q_
      clear Q_
      have P := Lib.hid P_
      clear P_
      refine (validT r c a n cap _ HM).mono ?_
      rintro e w2 ⟨rfl, A⟩
      have T := T.trans (A.mono T.size)
      have Q := Lib.hid (Q.out.below A)
      have P := Lib.hid (P.out.below A)
      have zw2 := A.size
      clear A
      rw [HV.out]
      obtain ⟨Q0, Q1, Q2, Q3⟩ := Q.out
      obtain ⟨P0, P1, P2, P3⟩ := P.out
      go_wp2_with fail
      clear Q0 Q1 Q2 Q3 P0 P1 P2 P3
      refine (validT r2 c2 x2 n2 cap2 _ HM2).mono ?_
      rintro e w3 ⟨rfl, A⟩
      have T := T.trans (A.mono T.size)
      have Q := Lib.hid (Q.out.below A)
      have P := Lib.hid (P.out.below A)
      have zw3 := A.size
      clear A
      rw [HV2.out]
      go_wp2
      go_ret
      exact ⟨rfl, T⟩
    · have HV := Lib.hid hd1
      have HV2 := Lib.hid hd2
      clear hd1 hd2
      go_enter Try.func58, Try.ntmps58
      go_wp2_with fail
      refine calls_at ?_
      intro w1 hA
      have A : Below w.heap.size w w1 := by rw [hA]; exact ((Below.refl _ _).alloc (Nat.le_refl _) _).alloc (by simp <;> omega) _
      have zw1 : w1.heap.size = w.heap.size + 1 + 1 := by rw [hA]; simp
      have Q_ : Box w1 (w.heap.size) r c a n cap := by rw [hA]; exact ⟨by simp [go_sem], by simp [go_sem], by simp [go_sem], by simp <;> omega⟩
      have P_ : Box w1 (w.heap.size + 1) r2 c2 x2 n2 cap2 := by rw [hA]; exact ⟨by simp [go_sem], by simp [go_sem], by simp [go_sem], by simp <;> omega⟩
      clear hA
      have zw1a := Nat.le_of_eq zw1
      have zw1b := Nat.le_of_eq zw1.symm
      clear zw1
      have T := A
      clear A
      have Q := Lib.hid Q_
      clear Q_
      have P := Lib.hid P_
      clear P_
      refine (validT r c a n cap _ HM).mono ?_
      rintro e w2 ⟨rfl, A⟩
      have T := T.trans (A.mono T.size)
      have Q := Lib.hid (Q.out.below A)
      have P := Lib.hid (P.out.below A)
      have zw2 := A.size
      clear A
      rw [HV.out]
      obtain ⟨Q0, Q1, Q2, Q3⟩ := Q.out
      obtain ⟨P0, P1, P2, P3⟩ := P.out
      go_wp2_with fail
      clear Q0 Q1 Q2 Q3 P0 P1 P2 P3
      refine (validT r2 c2 x2 n2 cap2 _ HM2).mono ?_
      rintro e w3 ⟨rfl, A⟩
      have T := T.trans (A.mono T.size)
      have Q := Lib.hid (Q.out.below A)
      have P := Lib.hid (P.out.below A)
      have zw3 := A.size
      clear A
      rw [HV2.out]
      obtain ⟨Q0, Q1, Q2, Q3⟩ := Q.out
      obtain ⟨P0, P1, P2, P3⟩ := P.out
      go_wp2
      go_ret
      exact ⟨by show Ending.returned (Value.bool _) = _; simp; rfl, T⟩
end Go.Proofs.Ytoeppdkhncllbaa
