/- The law FnExactConvolveImage holds for every input. No conditions. -/
import Derived.Test.YtfgmpodmbbnijaaValid
import Derived.Test.YtfgmpodmbbnijaaFin
import Derived.Test.YtfgmpodmbbnijaaRowT
import Derived.Test.YtfgmpodmbbnijaaConv
import Derived.Deep.CutRange
import Derived.Test.YtfgmpodmbbnijaaOpen
import Derived.ProofKit
import Derived.OpenShut
import Derived.ChangeOld
import Derived.WalkSmall
namespace Go.Proofs.Ytfgmpodmbbnijaa.convolveImage
open Go.ChangeShapes Go.WideShapes Go.ChangeAt Go.RowKit Go.Fl Go.Reg
def G (xs ks : List Nat) (C P Q : Nat) (r c : Nat) : Nat := dotG (fun t => ks[t]?.getD 0) (win xs C Q r c) (P * Q)
def ok (r c : Int) (n : Nat) (p q : Int) (m : Nat) : Bool := decide (vt r c n) && (decide (vt p q m) && (decide (p ≤ r) && decide (q ≤ c)))
theorem ok_yes {r c : Int} {n : Nat} {p q : Int} {m : Nat} (h : ok r c n p q m = true) : ∃ R C P Q : Nat, r = (R : Int) ∧ c = (C : Int) ∧ p = (P : Int) ∧ q = (Q : Int) ∧ (0 < R ∧ R ≤ 16) ∧ (0 < C ∧ C ≤ 16) ∧ (0 < P ∧ P ≤ R) ∧ (0 < Q ∧ Q ≤ C) ∧ n = R * C ∧ m = P * Q := by
  unfold ok at h
  simp only [Bool.and_eq_true, decide_eq_true_eq] at h
  obtain ⟨h1, h2, h3, h4⟩ := h
  obtain ⟨R, C, rfl, rfl, hR, hC, hn⟩ := nat_of h1
  obtain ⟨P, Q, rfl, rfl, hP, hQ, hm⟩ := nat_of h2
  exact ⟨R, C, P, Q, rfl, rfl, rfl, rfl, hR, hC, by omega, by omega, hn, hm⟩
def S (r c : Int) (n : Nat) (xs : List Nat) (p q : Int) (m : Nat) (ks : List Nat) : List Nat :=
  if ok r c n p q m = true then upto (tab (G xs ks c.toNat p.toNat q.toNat) (c.toNat - q.toNat + 1)) ((r.toNat - p.toNat + 1) * (c.toNat - q.toNat + 1)) else []
theorem S_no {r c : Int} {n : Nat} (xs : List Nat) {p q : Int} {m : Nat} (ks : List Nat) (h : ok r c n p q m = false) : S r c n xs p q m ks = [] := by unfold S; rw [h]; rfl
theorem S_yes {R C P Q RO CO : Nat} {n m : Nat} (xs ks : List Nat) (h : ok (R : Int) (C : Int) n (P : Int) (Q : Int) m = true) (hr : R - P + 1 = RO) (hc : C - Q + 1 = CO) : S (R : Int) (C : Int) n xs (P : Int) (Q : Int) m ks = upto (tab (G xs ks C P Q) CO) (RO * CO) := by unfold S; rw [if_pos h]; subst hr; subst hc; rfl
theorem S_len (r c : Int) (n : Nat) (xs : List Nat) (p q : Int) (m : Nat) (ks : List Nat) : (S r c n xs p q m ks).length ≤ 1048576 := by
  unfold S; split
  · rename_i h
    obtain ⟨R, C, P, Q, rfl, rfl, rfl, rfl, hR, hC, hP, hQ, _, _⟩ := ok_yes h
    have : (R - P + 1) * (C - Q + 1) ≤ 16 * 16 := Nat.mul_le_mul (by omega) (by omega)
    rw [upto_length]
    show (R - P + 1) * (C - Q + 1) ≤ _
    omega
  · simp
set_option maxRecDepth 100000 in
set_option maxHeartbeats 4000000 in
theorem specN (r c : Int) (a : Option Addr) (n cap : Nat) (xs : List Nat) (p q : Int) (x2 : Option Addr) (m cap2 : Nat) (ks : List Nat) (w : World) (h1 : Fs w a n cap xs) (h2 : Fs w x2 m cap2 ks) (ho : ok r c n p q m = false) :
    Calls Try.prog 15 #[.agg #[.int .i64 r, .int .i64 c, .slice a n cap], .agg #[.int .i64 p, .int .i64 q, .slice x2 m cap2]] w (RT 45 w 0 0 [] false) := by
  have HM := Lib.hid (Nat.le_trans h1.cap1 h1.cap2)
  have HM2 := Lib.hid (Nat.le_trans h2.cap1 h2.cap2)
  clear h1 h2
  unfold ok at ho
  cases hv : decide (vt r c n)
  · have HV := Lib.hid hv
    clear hv ho
    go_enter Try.func15, Try.ntmps15
    go_wp2_with fail
    refine calls_at ?_
    intro w1 hA
    have A : Below w.heap.size w w1 := by rw [hA]; exact (((Below.refl _ _).alloc (Nat.le_refl _) _).alloc (by simp <;> omega) _).alloc (by simp <;> omega) _
    have zw1 : w1.heap.size = w.heap.size + 1 + 1 + 1 := by rw [hA]; simp
    have Q_ : Box w1 (w.heap.size) r c a n cap := by rw [hA]; exact ⟨by simp [go_sem], by simp [go_sem], by simp [go_sem], by simp <;> omega⟩
    have P_ : Box w1 (w.heap.size + 1) p q x2 m cap2 := by rw [hA]; exact ⟨by simp [go_sem], by simp [go_sem], by simp [go_sem], by simp <;> omega⟩
    have ZR_ : Zbox w1 (w.heap.size + 1 + 1) := by rw [hA]; exact ⟨⟨by simp [go_sem], by simp [go_sem], by simp [go_sem], by simp <;> omega⟩, by simp [go_sem], by simp [go_sem], by simp [go_sem]⟩
    clear hA
    have zw1a := Nat.le_of_eq zw1
    have zw1b := Nat.le_of_eq zw1.symm
    clear zw1
    have T := A
    clear A
    have Q := Lib.hid Q_
    clear Q_
    have P := Lib.hid P_
    clear P_
    have ZR := Lib.hid ZR_
    clear ZR_
    refine (isT _ _ _ _ _ _ _ _ HM.out Q.out.c0 Q.out.c1 Q.out.c2).mono ?_
    rintro e w2 ⟨rfl, mm, hw⟩
    have A := below_of_drew hw
    clear hw
    have T := T.trans (A.mono T.size)
    have Q := Lib.hid (Q.out.below A)
    have P := Lib.hid (P.out.below A)
    have ZR := Lib.hid (ZR.out.below A)
    have zw2 := A.size
    clear A
    rw [HV.out]
    obtain ⟨⟨ZR0, ZR1, ZR2, ZR3⟩, ZR4, ZR5, ZR6⟩ := ZR.out
    go_wp2
    refine bodyPost_ret (v := .tuple #[.agg #[.int .i64 0, .int .i64 0, .slice none 0 0], .bool false]) (by simp [results, Try.results15, go_sem, ZR0, ZR1, ZR2]) rfl ?_
    exact RT_no T (by omega)
  · cases hu : decide (vt p q m)
    · have HV := Lib.hid hv
      have HU := Lib.hid hu
      clear hv hu ho
      go_enter Try.func15, Try.ntmps15
      go_wp2_with fail
      refine calls_at ?_
      intro w1 hA
      have A : Below w.heap.size w w1 := by rw [hA]; exact (((Below.refl _ _).alloc (Nat.le_refl _) _).alloc (by simp <;> omega) _).alloc (by simp <;> omega) _
      have zw1 : w1.heap.size = w.heap.size + 1 + 1 + 1 := by rw [hA]; simp
      have Q_ : Box w1 (w.heap.size) r c a n cap := by rw [hA]; exact ⟨by simp [go_sem], by simp [go_sem], by simp [go_sem], by simp <;> omega⟩
      have P_ : Box w1 (w.heap.size + 1) p q x2 m cap2 := by rw [hA]; exact ⟨by simp [go_sem], by simp [go_sem], by simp [go_sem], by simp <;> omega⟩
      have ZR_ : Zbox w1 (w.heap.size + 1 + 1) := by rw [hA]; exact ⟨⟨by simp [go_sem], by simp [go_sem], by simp [go_sem], by simp <;> omega⟩, by simp [go_sem], by simp [go_sem], by simp [go_sem]⟩
      clear hA
      have zw1a := Nat.le_of_eq zw1
      have zw1b := Nat.le_of_eq zw1.symm
      clear zw1
      have T := A
      clear A
      have Q := Lib.hid Q_
      clear Q_
      have P := Lib.hid P_
      clear P_
      have ZR := Lib.hid ZR_
      clear ZR_
      refine (isT _ _ _ _ _ _ _ _ HM.out Q.out.c0 Q.out.c1 Q.out.c2).mono ?_
      rintro e w2 ⟨rfl, mm, hw⟩
      have A := below_of_drew hw
      clear hw
      have T := T.trans (A.mono T.size)
      have Q := Lib.hid (Q.out.below A)
      have P := Lib.hid (P.out.below A)
      have ZR := Lib.hid (ZR.out.below A)
      have zw2 := A.size
      clear A
      rw [HV.out]
      obtain ⟨Q0, Q1, Q2, Q3⟩ := Q.out
      obtain ⟨P0, P1, P2, P3⟩ := P.out
      go_wp2_with fail
      clear Q0 Q1 Q2 Q3 P0 P1 P2 P3
      refine (isT _ _ _ _ _ _ _ _ HM2.out P.out.c0 P.out.c1 P.out.c2).mono ?_
      rintro e w3 ⟨rfl, mm, hw⟩
      have A := below_of_drew hw
      clear hw
      have T := T.trans (A.mono T.size)
      have Q := Lib.hid (Q.out.below A)
      have P := Lib.hid (P.out.below A)
      have ZR := Lib.hid (ZR.out.below A)
      have zw3 := A.size
      clear A
      rw [HU.out]
      obtain ⟨⟨ZR0, ZR1, ZR2, ZR3⟩, ZR4, ZR5, ZR6⟩ := ZR.out
      go_wp2
      refine bodyPost_ret (v := .tuple #[.agg #[.int .i64 0, .int .i64 0, .slice none 0 0], .bool false]) (by simp [results, Try.results15, go_sem, ZR0, ZR1, ZR2]) rfl ?_
      exact RT_no T (by omega)
    · rw [hv, hu, Bool.true_and, Bool.true_and] at ho
      have HV := Lib.hid hv
      have HU := Lib.hid hu
      clear hv hu
      by_cases hpr : p ≤ r
      · have hqc : ¬ q ≤ c := by intro h; rw [decide_eq_true hpr, decide_eq_true h] at ho; cases ho
        clear ho
        go_enter Try.func15, Try.ntmps15
        go_wp2_with fail
        refine calls_at ?_
        intro w1 hA
        have A : Below w.heap.size w w1 := by rw [hA]; exact (((Below.refl _ _).alloc (Nat.le_refl _) _).alloc (by simp <;> omega) _).alloc (by simp <;> omega) _
        have zw1 : w1.heap.size = w.heap.size + 1 + 1 + 1 := by rw [hA]; simp
        have Q_ : Box w1 (w.heap.size) r c a n cap := by rw [hA]; exact ⟨by simp [go_sem], by simp [go_sem], by simp [go_sem], by simp <;> omega⟩
        have P_ : Box w1 (w.heap.size + 1) p q x2 m cap2 := by rw [hA]; exact ⟨by simp [go_sem], by simp [go_sem], by simp [go_sem], by simp <;> omega⟩
        have ZR_ : Zbox w1 (w.heap.size + 1 + 1) := by rw [hA]; exact ⟨⟨by simp [go_sem], by simp [go_sem], by simp [go_sem], by simp <;> omega⟩, by simp [go_sem], by simp [go_sem], by simp [go_sem]⟩
        clear hA
        have zw1a := Nat.le_of_eq zw1
        have zw1b := Nat.le_of_eq zw1.symm
        clear zw1
        have T := A
        clear A
        have Q := Lib.hid Q_
        clear Q_
        have P := Lib.hid P_
        clear P_
        have ZR := Lib.hid ZR_
        clear ZR_
        refine (isT _ _ _ _ _ _ _ _ HM.out Q.out.c0 Q.out.c1 Q.out.c2).mono ?_
        rintro e w2 ⟨rfl, mm, hw⟩
        have A := below_of_drew hw
        clear hw
        have T := T.trans (A.mono T.size)
        have Q := Lib.hid (Q.out.below A)
        have P := Lib.hid (P.out.below A)
        have ZR := Lib.hid (ZR.out.below A)
        have zw2 := A.size
        clear A
        rw [HV.out]
        obtain ⟨Q0, Q1, Q2, Q3⟩ := Q.out
        obtain ⟨P0, P1, P2, P3⟩ := P.out
        go_wp2_with fail
        clear Q0 Q1 Q2 Q3 P0 P1 P2 P3
        refine (isT _ _ _ _ _ _ _ _ HM2.out P.out.c0 P.out.c1 P.out.c2).mono ?_
        rintro e w3 ⟨rfl, mm, hw⟩
        have A := below_of_drew hw
        clear hw
        have T := T.trans (A.mono T.size)
        have Q := Lib.hid (Q.out.below A)
        have P := Lib.hid (P.out.below A)
        have ZR := Lib.hid (ZR.out.below A)
        have zw3 := A.size
        clear A
        rw [HU.out]
        obtain ⟨Q0, Q1, Q2, Q3⟩ := Q.out
        obtain ⟨P0, P1, P2, P3⟩ := P.out
        obtain ⟨⟨ZR0, ZR1, ZR2, ZR3⟩, ZR4, ZR5, ZR6⟩ := ZR.out
        go_wp2
        refine bodyPost_ret (v := .tuple #[.agg #[.int .i64 0, .int .i64 0, .slice none 0 0], .bool false]) (by simp [results, Try.results15, go_sem, ZR0, ZR1, ZR2]) rfl ?_
        exact RT_no T (by omega)
      · clear ho
        go_enter Try.func15, Try.ntmps15
        go_wp2_with fail
        refine calls_at ?_
        intro w1 hA
        have A : Below w.heap.size w w1 := by rw [hA]; exact (((Below.refl _ _).alloc (Nat.le_refl _) _).alloc (by simp <;> omega) _).alloc (by simp <;> omega) _
        have zw1 : w1.heap.size = w.heap.size + 1 + 1 + 1 := by rw [hA]; simp
        have Q_ : Box w1 (w.heap.size) r c a n cap := by rw [hA]; exact ⟨by simp [go_sem], by simp [go_sem], by simp [go_sem], by simp <;> omega⟩
        have P_ : Box w1 (w.heap.size + 1) p q x2 m cap2 := by rw [hA]; exact ⟨by simp [go_sem], by simp [go_sem], by simp [go_sem], by simp <;> omega⟩
        have ZR_ : Zbox w1 (w.heap.size + 1 + 1) := by rw [hA]; exact ⟨⟨by simp [go_sem], by simp [go_sem], by simp [go_sem], by simp <;> omega⟩, by simp [go_sem], by simp [go_sem], by simp [go_sem]⟩
        clear hA
        have zw1a := Nat.le_of_eq zw1
        have zw1b := Nat.le_of_eq zw1.symm
        clear zw1
        have T := A
        clear A
        have Q := Lib.hid Q_
        clear Q_
        have P := Lib.hid P_
        clear P_
        have ZR := Lib.hid ZR_
        clear ZR_
        refine (isT _ _ _ _ _ _ _ _ HM.out Q.out.c0 Q.out.c1 Q.out.c2).mono ?_
        rintro e w2 ⟨rfl, mm, hw⟩
        have A := below_of_drew hw
        clear hw
        have T := T.trans (A.mono T.size)
        have Q := Lib.hid (Q.out.below A)
        have P := Lib.hid (P.out.below A)
        have ZR := Lib.hid (ZR.out.below A)
        have zw2 := A.size
        clear A
        rw [HV.out]
        obtain ⟨Q0, Q1, Q2, Q3⟩ := Q.out
        obtain ⟨P0, P1, P2, P3⟩ := P.out
        go_wp2_with fail
        clear Q0 Q1 Q2 Q3 P0 P1 P2 P3
        refine (isT _ _ _ _ _ _ _ _ HM2.out P.out.c0 P.out.c1 P.out.c2).mono ?_
        rintro e w3 ⟨rfl, mm, hw⟩
        have A := below_of_drew hw
        clear hw
        have T := T.trans (A.mono T.size)
        have Q := Lib.hid (Q.out.below A)
        have P := Lib.hid (P.out.below A)
        have ZR := Lib.hid (ZR.out.below A)
        have zw3 := A.size
        clear A
        rw [HU.out]
        obtain ⟨Q0, Q1, Q2, Q3⟩ := Q.out
        obtain ⟨P0, P1, P2, P3⟩ := P.out
        obtain ⟨⟨ZR0, ZR1, ZR2, ZR3⟩, ZR4, ZR5, ZR6⟩ := ZR.out
        go_wp2
        refine bodyPost_ret (v := .tuple #[.agg #[.int .i64 0, .int .i64 0, .slice none 0 0], .bool false]) (by simp [results, Try.results15, go_sem, ZR0, ZR1, ZR2]) rfl ?_
        exact RT_no T (by omega)
set_option maxRecDepth 100000 in
set_option maxHeartbeats 4000000 in
theorem implN (r c : Int) (a : Option Addr) (n cap : Nat) (xs : List Nat) (p q : Int) (x2 : Option Addr) (m cap2 : Nat) (ks : List Nat) (w : World) (h1 : Fs w a n cap xs) (h2 : Fs w x2 m cap2 ks) (ho : ok r c n p q m = false) :
    Calls Try.prog 17 #[.agg #[.int .i64 r, .int .i64 c, .slice a n cap], .agg #[.int .i64 p, .int .i64 q, .slice x2 m cap2]] w (RT 45 w 0 0 [] false) := by
  have HM := Lib.hid (Nat.le_trans h1.cap1 h1.cap2)
  have HM2 := Lib.hid (Nat.le_trans h2.cap1 h2.cap2)
  clear h1 h2
  unfold ok at ho
  cases hv : decide (vt r c n)
  · have HV := Lib.hid hv
    clear hv ho
    go_enter Try.func17, Try.ntmps17
    go_wp2_with fail
    refine calls_at ?_
    intro w1 hA
    have A : Below w.heap.size w w1 := by rw [hA]; exact (((Below.refl _ _).alloc (Nat.le_refl _) _).alloc (by simp <;> omega) _).alloc (by simp <;> omega) _
    have zw1 : w1.heap.size = w.heap.size + 1 + 1 + 1 := by rw [hA]; simp
    have Q_ : Box w1 (w.heap.size) r c a n cap := by rw [hA]; exact ⟨by simp [go_sem], by simp [go_sem], by simp [go_sem], by simp <;> omega⟩
    have P_ : Box w1 (w.heap.size + 1) p q x2 m cap2 := by rw [hA]; exact ⟨by simp [go_sem], by simp [go_sem], by simp [go_sem], by simp <;> omega⟩
    have ZR_ : Zbox w1 (w.heap.size + 1 + 1) := by rw [hA]; exact ⟨⟨by simp [go_sem], by simp [go_sem], by simp [go_sem], by simp <;> omega⟩, by simp [go_sem], by simp [go_sem], by simp [go_sem]⟩
    clear hA
    have zw1a := Nat.le_of_eq zw1
    have zw1b := Nat.le_of_eq zw1.symm
    clear zw1
    have T := A
    clear A
    have Q := Lib.hid Q_
    clear Q_
    have P := Lib.hid P_
    clear P_
    have ZR := Lib.hid ZR_
    clear ZR_
    refine (validT _ _ _ _ _ _ HM.out).mono ?_
    rintro e w2 ⟨rfl, A⟩
    have T := T.trans (A.mono T.size)
    have Q := Lib.hid (Q.out.below A)
    have P := Lib.hid (P.out.below A)
    have ZR := Lib.hid (ZR.out.below A)
    have zw2 := A.size
    clear A
    rw [HV.out]
    obtain ⟨⟨ZR0, ZR1, ZR2, ZR3⟩, ZR4, ZR5, ZR6⟩ := ZR.out
    go_wp2
    refine bodyPost_ret (v := .tuple #[.agg #[.int .i64 0, .int .i64 0, .slice none 0 0], .bool false]) (by simp [results, Try.results17, go_sem, ZR0, ZR1, ZR2]) rfl ?_
    exact RT_no T (by omega)
  · cases hu : decide (vt p q m)
    · have HV := Lib.hid hv
      have HU := Lib.hid hu
      clear hv hu ho
      go_enter Try.func17, Try.ntmps17
      go_wp2_with fail
      refine calls_at ?_
      intro w1 hA
      have A : Below w.heap.size w w1 := by rw [hA]; exact (((Below.refl _ _).alloc (Nat.le_refl _) _).alloc (by simp <;> omega) _).alloc (by simp <;> omega) _
      have zw1 : w1.heap.size = w.heap.size + 1 + 1 + 1 := by rw [hA]; simp
      have Q_ : Box w1 (w.heap.size) r c a n cap := by rw [hA]; exact ⟨by simp [go_sem], by simp [go_sem], by simp [go_sem], by simp <;> omega⟩
      have P_ : Box w1 (w.heap.size + 1) p q x2 m cap2 := by rw [hA]; exact ⟨by simp [go_sem], by simp [go_sem], by simp [go_sem], by simp <;> omega⟩
      have ZR_ : Zbox w1 (w.heap.size + 1 + 1) := by rw [hA]; exact ⟨⟨by simp [go_sem], by simp [go_sem], by simp [go_sem], by simp <;> omega⟩, by simp [go_sem], by simp [go_sem], by simp [go_sem]⟩
      clear hA
      have zw1a := Nat.le_of_eq zw1
      have zw1b := Nat.le_of_eq zw1.symm
      clear zw1
      have T := A
      clear A
      have Q := Lib.hid Q_
      clear Q_
      have P := Lib.hid P_
      clear P_
      have ZR := Lib.hid ZR_
      clear ZR_
      refine (validT _ _ _ _ _ _ HM.out).mono ?_
      rintro e w2 ⟨rfl, A⟩
      have T := T.trans (A.mono T.size)
      have Q := Lib.hid (Q.out.below A)
      have P := Lib.hid (P.out.below A)
      have ZR := Lib.hid (ZR.out.below A)
      have zw2 := A.size
      clear A
      rw [HV.out]
      obtain ⟨Q0, Q1, Q2, Q3⟩ := Q.out
      obtain ⟨P0, P1, P2, P3⟩ := P.out
      go_wp2_with fail
      clear Q0 Q1 Q2 Q3 P0 P1 P2 P3
      refine (validT _ _ _ _ _ _ HM2.out).mono ?_
      rintro e w3 ⟨rfl, A⟩
      have T := T.trans (A.mono T.size)
      have Q := Lib.hid (Q.out.below A)
      have P := Lib.hid (P.out.below A)
      have ZR := Lib.hid (ZR.out.below A)
      have zw3 := A.size
      clear A
      rw [HU.out]
      obtain ⟨⟨ZR0, ZR1, ZR2, ZR3⟩, ZR4, ZR5, ZR6⟩ := ZR.out
      go_wp2
      refine bodyPost_ret (v := .tuple #[.agg #[.int .i64 0, .int .i64 0, .slice none 0 0], .bool false]) (by simp [results, Try.results17, go_sem, ZR0, ZR1, ZR2]) rfl ?_
      exact RT_no T (by omega)
    · rw [hv, hu, Bool.true_and, Bool.true_and] at ho
      have HV := Lib.hid hv
      have HU := Lib.hid hu
      clear hv hu
      by_cases hpr : p ≤ r
      · have hqc : ¬ q ≤ c := by intro h; rw [decide_eq_true hpr, decide_eq_true h] at ho; cases ho
        clear ho
        go_enter Try.func17, Try.ntmps17
        go_wp2_with fail
        refine calls_at ?_
        intro w1 hA
        have A : Below w.heap.size w w1 := by rw [hA]; exact (((Below.refl _ _).alloc (Nat.le_refl _) _).alloc (by simp <;> omega) _).alloc (by simp <;> omega) _
        have zw1 : w1.heap.size = w.heap.size + 1 + 1 + 1 := by rw [hA]; simp
        have Q_ : Box w1 (w.heap.size) r c a n cap := by rw [hA]; exact ⟨by simp [go_sem], by simp [go_sem], by simp [go_sem], by simp <;> omega⟩
        have P_ : Box w1 (w.heap.size + 1) p q x2 m cap2 := by rw [hA]; exact ⟨by simp [go_sem], by simp [go_sem], by simp [go_sem], by simp <;> omega⟩
        have ZR_ : Zbox w1 (w.heap.size + 1 + 1) := by rw [hA]; exact ⟨⟨by simp [go_sem], by simp [go_sem], by simp [go_sem], by simp <;> omega⟩, by simp [go_sem], by simp [go_sem], by simp [go_sem]⟩
        clear hA
        have zw1a := Nat.le_of_eq zw1
        have zw1b := Nat.le_of_eq zw1.symm
        clear zw1
        have T := A
        clear A
        have Q := Lib.hid Q_
        clear Q_
        have P := Lib.hid P_
        clear P_
        have ZR := Lib.hid ZR_
        clear ZR_
        refine (validT _ _ _ _ _ _ HM.out).mono ?_
        rintro e w2 ⟨rfl, A⟩
        have T := T.trans (A.mono T.size)
        have Q := Lib.hid (Q.out.below A)
        have P := Lib.hid (P.out.below A)
        have ZR := Lib.hid (ZR.out.below A)
        have zw2 := A.size
        clear A
        rw [HV.out]
        obtain ⟨Q0, Q1, Q2, Q3⟩ := Q.out
        obtain ⟨P0, P1, P2, P3⟩ := P.out
        go_wp2_with fail
        clear Q0 Q1 Q2 Q3 P0 P1 P2 P3
        refine (validT _ _ _ _ _ _ HM2.out).mono ?_
        rintro e w3 ⟨rfl, A⟩
        have T := T.trans (A.mono T.size)
        have Q := Lib.hid (Q.out.below A)
        have P := Lib.hid (P.out.below A)
        have ZR := Lib.hid (ZR.out.below A)
        have zw3 := A.size
        clear A
        rw [HU.out]
        obtain ⟨Q0, Q1, Q2, Q3⟩ := Q.out
        obtain ⟨P0, P1, P2, P3⟩ := P.out
        obtain ⟨⟨ZR0, ZR1, ZR2, ZR3⟩, ZR4, ZR5, ZR6⟩ := ZR.out
        go_wp2
        refine bodyPost_ret (v := .tuple #[.agg #[.int .i64 0, .int .i64 0, .slice none 0 0], .bool false]) (by simp [results, Try.results17, go_sem, ZR0, ZR1, ZR2]) rfl ?_
        exact RT_no T (by omega)
      · clear ho
        go_enter Try.func17, Try.ntmps17
        go_wp2_with fail
        refine calls_at ?_
        intro w1 hA
        have A : Below w.heap.size w w1 := by rw [hA]; exact (((Below.refl _ _).alloc (Nat.le_refl _) _).alloc (by simp <;> omega) _).alloc (by simp <;> omega) _
        have zw1 : w1.heap.size = w.heap.size + 1 + 1 + 1 := by rw [hA]; simp
        have Q_ : Box w1 (w.heap.size) r c a n cap := by rw [hA]; exact ⟨by simp [go_sem], by simp [go_sem], by simp [go_sem], by simp <;> omega⟩
        have P_ : Box w1 (w.heap.size + 1) p q x2 m cap2 := by rw [hA]; exact ⟨by simp [go_sem], by simp [go_sem], by simp [go_sem], by simp <;> omega⟩
        have ZR_ : Zbox w1 (w.heap.size + 1 + 1) := by rw [hA]; exact ⟨⟨by simp [go_sem], by simp [go_sem], by simp [go_sem], by simp <;> omega⟩, by simp [go_sem], by simp [go_sem], by simp [go_sem]⟩
        clear hA
        have zw1a := Nat.le_of_eq zw1
        have zw1b := Nat.le_of_eq zw1.symm
        clear zw1
        have T := A
        clear A
        have Q := Lib.hid Q_
        clear Q_
        have P := Lib.hid P_
        clear P_
        have ZR := Lib.hid ZR_
        clear ZR_
        refine (validT _ _ _ _ _ _ HM.out).mono ?_
        rintro e w2 ⟨rfl, A⟩
        have T := T.trans (A.mono T.size)
        have Q := Lib.hid (Q.out.below A)
        have P := Lib.hid (P.out.below A)
        have ZR := Lib.hid (ZR.out.below A)
        have zw2 := A.size
        clear A
        rw [HV.out]
        obtain ⟨Q0, Q1, Q2, Q3⟩ := Q.out
        obtain ⟨P0, P1, P2, P3⟩ := P.out
        go_wp2_with fail
        clear Q0 Q1 Q2 Q3 P0 P1 P2 P3
        refine (validT _ _ _ _ _ _ HM2.out).mono ?_
        rintro e w3 ⟨rfl, A⟩
        have T := T.trans (A.mono T.size)
        have Q := Lib.hid (Q.out.below A)
        have P := Lib.hid (P.out.below A)
        have ZR := Lib.hid (ZR.out.below A)
        have zw3 := A.size
        clear A
        rw [HU.out]
        obtain ⟨Q0, Q1, Q2, Q3⟩ := Q.out
        obtain ⟨P0, P1, P2, P3⟩ := P.out
        obtain ⟨⟨ZR0, ZR1, ZR2, ZR3⟩, ZR4, ZR5, ZR6⟩ := ZR.out
        go_wp2
        refine bodyPost_ret (v := .tuple #[.agg #[.int .i64 0, .int .i64 0, .slice none 0 0], .bool false]) (by simp [results, Try.results17, go_sem, ZR0, ZR1, ZR2]) rfl ?_
        exact RT_no T (by omega)
set_option maxRecDepth 100000 in
set_option maxHeartbeats 4000000 in
theorem specY (R C P Q RO CO : Nat) (a : Option Addr) (n cap : Nat) (xs : List Nat) (x2 : Option Addr) (m cap2 : Nat) (ks : List Nat) (w : World) (hR : 0 < R ∧ R ≤ 16) (hC : 0 < C ∧ C ≤ 16) (hP : 0 < P ∧ P ≤ R) (hQ : 0 < Q ∧ Q ≤ C) (hn : n = R * C) (hm : m = P * Q) (hv : decide (vt (R : Int) (C : Int) n) = true) (hu : decide (vt (P : Int) (Q : Int) m) = true) (hro : R - P + 1 = RO) (hco : C - Q + 1 = CO) (h1 : Fs w a n cap xs) (h2 : Fs w x2 m cap2 ks) :
    Calls Try.prog 15 #[.agg #[.int .i64 (R : Int), .int .i64 (C : Int), .slice a n cap], .agg #[.int .i64 (P : Int), .int .i64 (Q : Int), .slice x2 m cap2]] w (RT 45 w (RO : Int) (CO : Int) (upto (tab (G xs ks C P Q) CO) (RO * CO)) true) := by
  have HM := Lib.hid (Nat.le_trans h1.cap1 h1.cap2)
  have HM2 := Lib.hid (Nat.le_trans h2.cap1 h2.cap2)
  have HX := Lib.hid h1.cell
  have HK := Lib.hid h2.cell
  have hcap := h1.cap1
  have hcap2 := h1.cap2
  have hcap3 := h2.cap1
  have hcap4 := h2.cap2
  unfold maxLen at hcap2 hcap4
  clear h1 h2
  have hRC : R * C ≤ 16 * 16 := Nat.mul_le_mul hR.2 hC.2
  have hPQ : P * Q ≤ 16 * 16 := Nat.mul_le_mul (by omega) (by omega)
  have hRO : RO * CO ≤ 16 * 16 := Nat.mul_le_mul (by omega) (by omega)
  have hn1 := Nat.le_of_eq hn
  have hn2 := Nat.le_of_eq hn.symm
  have hm1 := Nat.le_of_eq hm
  have hm2 := Nat.le_of_eq hm.symm
  have hr1 : RO + P ≤ R + 1 := by omega
  have hr2 : R + 1 ≤ RO + P := by omega
  have hc1 : CO + Q ≤ C + 1 := by omega
  have hc2 : C + 1 ≤ CO + Q := by omega
  have er : (R : Int) - (P : Int) + 1 = (RO : Int) := by omega
  have ec : (C : Int) - (Q : Int) + 1 = (CO : Int) := by omega
  have HV := Lib.hid hv
  have HU := Lib.hid hu
  clear hn hm hv hu hro hco
  have d1 : decide (R < P) = false := by simp; omega
  have d2 : decide (C < Q) = false := by simp; omega
  go_enter Try.func15, Try.ntmps15
  go_wp2_with fail
  refine calls_at ?_
  intro w1 hA
  have A : Below w.heap.size w w1 := by rw [hA]; exact (((Below.refl _ _).alloc (Nat.le_refl _) _).alloc (by simp <;> omega) _).alloc (by simp <;> omega) _
  have zw1 : w1.heap.size = w.heap.size + 1 + 1 + 1 := by rw [hA]; simp
  have QB_ : Box w1 (w.heap.size) ↑R ↑C a n cap := by rw [hA]; exact ⟨by simp [go_sem], by simp [go_sem], by simp [go_sem], by simp <;> omega⟩
  have PB_ : Box w1 (w.heap.size + 1) ↑P ↑Q x2 m cap2 := by rw [hA]; exact ⟨by simp [go_sem], by simp [go_sem], by simp [go_sem], by simp <;> omega⟩
  have ZR_ : Zbox w1 (w.heap.size + 1 + 1) := by rw [hA]; exact ⟨⟨by simp [go_sem], by simp [go_sem], by simp [go_sem], by simp <;> omega⟩, by simp [go_sem], by simp [go_sem], by simp [go_sem]⟩
  clear hA
  have zw1a := Nat.le_of_eq zw1
  have zw1b := Nat.le_of_eq zw1.symm
  clear zw1
  have T := A
  clear A
  have QB := Lib.hid QB_
  clear QB_
  have PB := Lib.hid PB_
  clear PB_
  have ZR := Lib.hid ZR_
  clear ZR_
  refine (isT _ _ _ _ _ _ _ _ HM.out QB.out.c0 QB.out.c1 QB.out.c2).mono ?_
  rintro e w2 ⟨rfl, mm, hw⟩
  have A := below_of_drew hw
  clear hw
  have T := T.trans (A.mono T.size)
  have QB := Lib.hid (QB.out.below A)
  have PB := Lib.hid (PB.out.below A)
  have ZR := Lib.hid (ZR.out.below A)
  have zw2 := A.size
  clear A
  rw [HV.out]
  obtain ⟨QB0, QB1, QB2, QB3⟩ := QB.out
  obtain ⟨PB0, PB1, PB2, PB3⟩ := PB.out
  go_wp2_with fail
  clear QB0 QB1 QB2 QB3 PB0 PB1 PB2 PB3
  refine (isT _ _ _ _ _ _ _ _ HM2.out PB.out.c0 PB.out.c1 PB.out.c2).mono ?_
  rintro e w3 ⟨rfl, mm, hw⟩
  have A := below_of_drew hw
  clear hw
  have T := T.trans (A.mono T.size)
  have QB := Lib.hid (QB.out.below A)
  have PB := Lib.hid (PB.out.below A)
  have ZR := Lib.hid (ZR.out.below A)
  have zw3 := A.size
  clear A
  rw [HU.out]
  obtain ⟨QB0, QB1, QB2, QB3⟩ := QB.out
  obtain ⟨PB0, PB1, PB2, PB3⟩ := PB.out
  go_wp2
  clear QB0 QB1 QB2 QB3 PB0 PB1 PB2 PB3
  clear er ec d1 d2
  refine reg_at ?_
  intro w4 hA
  obtain ⟨ACC, A⟩ := accStartP hA
  clear hA
  have HACC := Lib.hid ACC
  have A4 := Lib.hid A
  clear ACC
  have QB3 := QB
  have PB3 := PB
  have ZR3 := ZR
  have T3 := T
  have T := T.trans (A.mono T.size)
  have QB := Lib.hid (QB.out.below A)
  have PB := Lib.hid (PB.out.below A)
  have ZR := Lib.hid (ZR.out.below A)
  have zw4 := A.size
  clear A
  obtain ⟨i0, hi, hz0, hz1, hz2⟩ := info_parts infoF32
  have HI := Lib.hid hi
  have HZ0 := Lib.hid hz0
  have HZ1 := Lib.hid hz1
  have HZ2 := Lib.hid hz2
  clear hi hz0 hz1 hz2
  obtain ⟨b, hb⟩ : ∃ b, b = w3.heap.size + 1 := ⟨_, rfl⟩
  have hb1 := Nat.le_of_eq hb
  have hb2 := Nat.le_of_eq hb.symm
  rw [← hb] at HACC ⊢
  clear hb
  go_loopw [7] (fun i w' => ∃ (r k : Nat) (a' : Option Addr) (cap' : Nat) (ys : List Nat), r ≤ RO ∧ i = .int .i64 r ∧ Hid (k = r * CO) ∧ Acc w3.heap.size b 45 (RO : Int) (CO : Int) w3 w' k a' cap' ys ∧ ys.map (cn .f32) = (upto (tab (G xs ks C P Q) CO) k).map (cn .f32)) (fun i _ => RO - (intOf i).toNat)
  case atStart => exact ⟨0, 0, _, _, _, Nat.zero_le _, rfl, (Nat.zero_mul _).symm, HACC.out, rfl⟩
  case round =>
    obtain ⟨r, k, a', cap', ys, hr, rfl, hk, acc, hys⟩ := hrel
    obtain ⟨b0', b1', b2', b3'⟩ := acc.box
    have HA := Lib.hid acc
    have HY := Lib.hid hys
    clear acc hys
    by_cases hlt : r < RO
    · go_wp2
      clear b0' b1' b2' b3'
      obtain ⟨wo, rfl⟩ : ∃ wo : World, wo = wr := ⟨_, rfl⟩
      go_loopw [8] (fun i2 w' => ∃ (c k' : Nat) (a' : Option Addr) (cap' : Nat) (ys : List Nat), c ≤ CO ∧ i2 = .int .i64 c ∧ Hid (k' = r * CO + c) ∧ Acc w3.heap.size b 45 (RO : Int) (CO : Int) w3 w' k' a' cap' ys ∧ ys.map (cn .f32) = (upto (tab (G xs ks C P Q) CO) k').map (cn .f32)) (fun i2 _ => CO - (intOf i2).toNat)
      case atStart => exact ⟨0, k, _, _, _, Nat.zero_le _, rfl, hk, HA.out, HY.out⟩
      case round =>
        clear HA HY hk
        obtain ⟨c, k, a', cap', ys, hc, rfl, hk, acc, hys⟩ := hrel
        obtain ⟨b0', b1', b2', b3'⟩ := acc.box
        have HA := Lib.hid acc
        have HY := Lib.hid hys
        have HB := Lib.hid (show Below w3.heap.size w3 wr from acc.below)
        clear acc hys
        by_cases hcC : c < CO
        · have hme := row_end (C := CO) hlt
          have hml : k ≤ 256 := by have := hk.out; omega
          have hFk : Hid (tab (G xs ks C P Q) CO k = G xs ks C P Q r c) := by have := hk.out; subst this; exact tab_at _ hcC
          go_wp2
          clear b0' b1' b2' b3'
          obtain ⟨wj, rfl⟩ : ∃ wj : World, wj = wr := ⟨_, rfl⟩
          have BJ : Below w.heap.size w wj := T3.trans (HB.out.mono (by omega))
          have HBJ := Lib.hid BJ
          have QJ := Lib.hid (QB3.out.upto HB.out (by omega))
          have PJ := Lib.hid (PB3.out.upto HB.out (by omega))
          clear BJ
          go_loopw [9, 10] (fun su i3 w' => ∃ (i t u mm : Nat), i ≤ P ∧ Hid (t = i * Q) ∧ i3 = .int .i64 i ∧ su = .float .f32 u ∧ Hid (cn .f32 u = cn .f32 (dotG (fun t => ks[t]?.getD 0) (win xs C Q r c) t)) ∧ w' = wj.drewN mm) (fun _ i3 _ => P - (intOf i3).toNat)
          case atStart => exact ⟨0, 0, 0, 0, Nat.zero_le _, (Nat.zero_mul _).symm, rfl, rfl, rfl, rfl⟩
          case round =>
            obtain ⟨i, t, u, mm, hi, ht, rfl, rfl, hu, rfl⟩ := hrel
            by_cases hiP : i < P
            · obtain ⟨p0, p1, p2, p3⟩ := PJ.out
              go_wp2
              clear p0 p1 p2 p3
              obtain ⟨wi, hwi⟩ : ∃ wi, wi = wj.drewN mm := ⟨_, rfl⟩
              have HW := Lib.hid hwi
              have QI := Lib.hid (show Box wi _ _ _ _ _ _ by rw [hwi]; exact QJ.out.below (bdrew (Below.refl _ _) mm))
              have PI := Lib.hid (show Box wi _ _ _ _ _ _ by rw [hwi]; exact PJ.out.below (bdrew (Below.refl _ _) mm))
              have BI := Lib.hid (show Below w.heap.size w wi by rw [hwi]; exact bdrew HBJ.out mm)
              rw [← hwi]
              clear hwi
              go_loopw [9, 11] (fun su i4 w' => ∃ (j s u m2 : Nat), j ≤ Q ∧ Hid (s = t + j) ∧ i4 = .int .i64 j ∧ su = .float .f32 u ∧ Hid (cn .f32 u = cn .f32 (dotG (fun t => ks[t]?.getD 0) (win xs C Q r c) s)) ∧ w' = wi.drewN m2) (fun _ i4 _ => Q - (intOf i4).toNat)
              case atStart => exact ⟨0, t, u, 0, Nat.zero_le _, rfl, rfl, rfl, hu, rfl⟩
              case round =>
                clear hu
                obtain ⟨j, s, u, m2, hj, hs, rfl, rfl, hu, rfl⟩ := hrel
                obtain ⟨q0, q1, q2, q3⟩ := QI.out
                obtain ⟨p0, p1, p2, p3⟩ := PI.out
                by_cases hjQ : j < Q
                · have hin := in_row (C := Q) hiP hjQ
                  have hin2 := in_row (R := R) (C := C) (i := r + i) (j := c + j) (by omega) (by omega)
                  have hrow : (r + i) * C ≤ 256 := by omega
                  obtain ⟨ba, oa, rfl, hca⟩ := HX.out ((r + i) * C + (c + j)) (by omega)
                  have ca : wi.cell? ⟨ba, oa + ((r + i) * C + (c + j)), none⟩ = some (.float .f32 (xs[(r + i) * C + (c + j)]?.getD 0)) := (BI.out.cell (p := ⟨ba, oa + ((r + i) * C + (c + j)), none⟩) (World.block_lt_of_cell? w _ hca)).trans hca
                  obtain ⟨bd, od, rfl, hcd⟩ := HK.out (i * Q + j) (by omega)
                  have cd : wi.cell? ⟨bd, od + (i * Q + j), none⟩ = some (.float .f32 (ks[i * Q + j]?.getD 0)) := (BI.out.cell (p := ⟨bd, od + (i * Q + j), none⟩) (World.block_lt_of_cell? w _ hcd)).trans hcd
                  have hf : Hid (ks[i * Q + j]?.getD 0 = ks[s]?.getD 0) := by rw [hs.out, ht.out]; rfl
                  have hg : Hid (xs[(r + i) * C + (c + j)]?.getD 0 = win xs C Q r c s) := by rw [hs.out, ht.out]; exact (win_at xs hjQ).symm
                  clear hca hcd
                  have e1 : ((i : Int) * (Q : Int)) = ((i * Q : Nat) : Int) := by simp
                  have e2 : (((r : Int) + (i : Int)) * (C : Int)) = (((r + i) * C : Nat) : Int) := by simp
                  have y1 : (0 : Int) ≤ (i : Int) * (Q : Int) := by rw [e1]; omega
                  have y2 : (i : Int) * (Q : Int) ≤ 256 := by rw [e1]; omega
                  have y3 : (0 : Int) ≤ ((r : Int) + (i : Int)) * (C : Int) := by rw [e2]; omega
                  have y4 : ((r : Int) + (i : Int)) * (C : Int) ≤ 256 := by rw [e2]; omega
                  have t1 : IntKind.i64.wrap ((i : Int) * (Q : Int)) = (i : Int) * (Q : Int) := IntWalk.i64_in _ (by omega)
                  have t2 : IntKind.i64.wrap ((i : Int) * (Q : Int) + (j : Int)) = (i : Int) * (Q : Int) + (j : Int) := IntWalk.i64_in _ (by omega)
                  have t3 : ((i : Int) * (Q : Int) + (j : Int)).toNat = i * Q + j := by rw [e1]; rfl
                  have t4 : (0 : Int) ≤ (i : Int) * (Q : Int) + (j : Int) := by omega
                  have t5 : (i : Int) * (Q : Int) + (j : Int) < (m : Int) := by rw [e1]; omega
                  have s0 : IntKind.i64.wrap ((r : Int) + (i : Int)) = (r : Int) + (i : Int) := IntWalk.i64_in _ (by omega)
                  have s1 : IntKind.i64.wrap (((r : Int) + (i : Int)) * (C : Int)) = ((r : Int) + (i : Int)) * (C : Int) := IntWalk.i64_in _ (by omega)
                  have s2 : IntKind.i64.wrap (((r : Int) + (i : Int)) * (C : Int) + (c : Int)) = ((r : Int) + (i : Int)) * (C : Int) + (c : Int) := IntWalk.i64_in _ (by omega)
                  have s3 : IntKind.i64.wrap (((r : Int) + (i : Int)) * (C : Int) + (c : Int) + (j : Int)) = ((r : Int) + (i : Int)) * (C : Int) + (c : Int) + (j : Int) := IntWalk.i64_in _ (by omega)
                  have s4 : (((r : Int) + (i : Int)) * (C : Int) + (c : Int) + (j : Int)).toNat = (r + i) * C + (c + j) := by rw [e2]; omega
                  have s5 : (0 : Int) ≤ ((r : Int) + (i : Int)) * (C : Int) + (c : Int) + (j : Int) := by omega
                  have s6 : ((r : Int) + (i : Int)) * (C : Int) + (c : Int) + (j : Int) < (n : Int) := by rw [e2]; omega
                  clear e1 e2
                  go_wp2_with fail
                  refine wp_dr 27 [0, 0, 0, 0, 0, 0, 0, 0, 0, 0, 0, 0, 0, 0, 0, 0, 0, 0, 0, 0, 0, 0, 0, 0, 0, 1, 1, 0] (by kernel_rfl) (by kernel_rfl) ?_
                  simp only [List.take_succ_cons, List.take_zero, List.drop_succ_cons, List.drop_zero]
                  iterate 27 (with_reducible refine dr_step ?_; intro K hK; go_simp; (try intro _); refine hK _ _ ?_; clear hK K)
                  refine wpR_nil (fun nq => ?_)
                  clear t1 t2 t3 t4 t5 s0 s1 s2 s3 s4 s5 s6 y1 y2 y3 y4 q0 q1 q2 q3 p0 p1 p2 p3
                  go_wp2
                  go_roundw
                  case rel => exact ⟨j + 1, s + 1, _, _, by omega, (by have := hs.out; show s + 1 = _; omega), by go_num, rfl, dotG_step hu.out hf.out hg.out _ _, rfl⟩
                  case measure => simp [intOf]; omega
                · clear q0 q1 q2 q3
                  go_wp2
                  clear p0 p1 p2 p3
                  go_roundw
                  case rel => exact ⟨i + 1, s, u, _, by omega, (by have := hs.out; have h2 := ht.out; have e : j = Q := (by omega); subst e; show s = _; rw [Nat.succ_mul]; omega), by go_num, rfl, hu, by rw [HW.out, World.drewN_drewN]⟩
                  case measure => simp [intOf]; omega
            · have e : i = P := by omega
              have hue := hu.out
              rw [ht.out, e] at hue
              have HUE := Lib.hid hue
              clear hue hu e
              have acc := HA.out.drew mm
              have hys := HY.out
              obtain ⟨wr, hwr⟩ : ∃ wr, wr = wj.drewN mm := ⟨_, rfl⟩
              have PW := Lib.hid (show Box wr _ _ _ _ _ _ by rw [hwr]; exact PJ.out.below (bdrew (Below.refl _ _) mm))
              have HW := Lib.hid hwr
              rw [← hwr] at acc ⊢
              clear hwr HA HY
              obtain ⟨p0, p1, p2, p3⟩ := PW.out
              obtain ⟨b0', b1', b2', b3'⟩ := acc.box
              have AC := Lib.hid acc
              have HY := Lib.hid hys
              clear acc hys
              have zb := AC.out.box.lt
              have zB := AC.out.below.size
              go_wp2_with (at_builtin; refine wpList_append_own _ rfl (.tmp 99) (.tmp 101) 22 rfl (w3.heap.size) 45 i0 (.float .f32 0) 1 4 Try.underlying22 HI.out HZ0.out HZ1.out HZ2.out rfl (by decide) (.slice a' k cap') (k) (fl ys) rfl (AC.out.alloc (by omega) _).own ⟨wr.heap.size, 0, none⟩ 1 1 [.float .f32 u] rfl rfl ?c1 ?c2 ?c3 ?c4 ?c5 ?_)
              case c1 =>
                intro j v hj
                match j, hj with
                | 0, hj => simp at hj; subst hj; exact cell_new _ _ _
              case c2 => intro v hv; simp at hv; subst hv; rfl
              case c3 => unfold maxLen; omega
              case c4 => omega
              case c5 => simp <;> omega
              intro v' w2 hown hgr _
              clear b0' b1' b2' b3'
              obtain ⟨a2, cap2, rfl, bx, fr, cl, acc2⟩ := Acc.app (by first | omega | (simp; omega)) AC.out hown ⟨hgr.os, hgr.tape, hgr.output, hgr.size, hgr.block⟩
              have AC2 := Lib.hid acc2
              clear acc2 hown hgr cl
              obtain ⟨b0', b1', b2', b3'⟩ := bx
              go_wp2
              clear p0 p1 p2 p3
              go_roundw
              case rel => exact ⟨c + 1, k + 1, a2, cap2, ys ++ [u], by omega, by go_num, (by have := hk.out; show k + 1 = _; omega), AC2.out, upto_step HY.out (by rw [hFk.out]; exact HUE.out)⟩
              case measure => simp [intOf]; omega
        · go_wp2
          clear b0' b1' b2' b3'
          go_roundw
          case rel => exact ⟨r + 1, k, a', cap', ys, by omega, by go_num, (by have := hk.out; have e : c = CO := (by omega); subst e; show k = _; rw [Nat.succ_mul]; exact this), HA.out, HY.out⟩
          case measure => simp [intOf]; omega
    · have e : r = RO := by omega
      have hme : k = RO * CO := by rw [← e]; exact hk
      clear hk e b0' b1' b2' b3'
      subst hme
      have BW : Below w.heap.size w wr := T3.trans (HA.out.below.mono (by omega))
      have ZR := Lib.hid (ZR3.out.upto HA.out.below (by omega))
      obtain ⟨b0', b1', b2', b3'⟩ := HA.out.box
      have zz := HA.out.below.size
      obtain ⟨⟨ZR0, ZR1, ZR2, ZR3⟩, ZR4, ZR5, ZR6⟩ := ZR.out
      go_wp2
      refine bodyPost_ret (v := .tuple #[.agg #[.int .i64 (RO : Int), .int .i64 (CO : Int), .slice a' (RO * CO) cap'], .bool true]) (by simp [results, Try.results15, go_sem, ZR0, ZR1, ZR2]) rfl ?_
      exact RT_end BW (by omega) (HA.out.row (by omega)) (by omega) HY.out (upto_length _ _)
set_option maxRecDepth 100000 in
set_option maxHeartbeats 4000000 in
theorem implY (R C P Q RO CO : Nat) (a : Option Addr) (n cap : Nat) (xs : List Nat) (x2 : Option Addr) (m cap2 : Nat) (ks : List Nat) (w : World) (hR : 0 < R ∧ R ≤ 16) (hC : 0 < C ∧ C ≤ 16) (hP : 0 < P ∧ P ≤ R) (hQ : 0 < Q ∧ Q ≤ C) (hn : n = R * C) (hm : m = P * Q) (hv : decide (vt (R : Int) (C : Int) n) = true) (hu : decide (vt (P : Int) (Q : Int) m) = true) (hro : R - P + 1 = RO) (hco : C - Q + 1 = CO) (h1 : Fs w a n cap xs) (h2 : Fs w x2 m cap2 ks) :
    Calls Try.prog 17 #[.agg #[.int .i64 (R : Int), .int .i64 (C : Int), .slice a n cap], .agg #[.int .i64 (P : Int), .int .i64 (Q : Int), .slice x2 m cap2]] w (RT 45 w (RO : Int) (CO : Int) (upto (tab (G xs ks C P Q) CO) (RO * CO)) true) := by
  have HM := Lib.hid (Nat.le_trans h1.cap1 h1.cap2)
  have HM2 := Lib.hid (Nat.le_trans h2.cap1 h2.cap2)
  have HX := Lib.hid h1.cell
  have HK := Lib.hid h2.cell
  have hcap := h1.cap1
  have hcap2 := h1.cap2
  have hcap3 := h2.cap1
  have hcap4 := h2.cap2
  have HC2 := Lib.hid hcap2
  have HC4 := Lib.hid hcap4
  unfold maxLen at hcap2 hcap4
  have hPQ0 : 0 < P * Q := Nat.mul_pos hP.1 hQ.1
  have hRC0 : 0 < R * C := Nat.mul_pos hR.1 hC.1
  obtain ⟨ba, oa, e1, _⟩ := h1.cell 0 (by omega)
  subst e1
  obtain ⟨bd, od, e1, _⟩ := h2.cell 0 (by omega)
  subst e1
  clear h1 h2
  have hRC : R * C ≤ 16 * 16 := Nat.mul_le_mul hR.2 hC.2
  have hPQ : P * Q ≤ 16 * 16 := Nat.mul_le_mul (by omega) (by omega)
  have hRO : RO * CO ≤ 16 * 16 := Nat.mul_le_mul (by omega) (by omega)
  have hn1 := Nat.le_of_eq hn
  have hn2 := Nat.le_of_eq hn.symm
  have hm1 := Nat.le_of_eq hm
  have hm2 := Nat.le_of_eq hm.symm
  have hr1 : RO + P ≤ R + 1 := by omega
  have hr2 : R + 1 ≤ RO + P := by omega
  have hc1 : CO + Q ≤ C + 1 := by omega
  have hc2 : C + 1 ≤ CO + Q := by omega
  have er : (R : Int) - (P : Int) + 1 = (RO : Int) := by omega
  have ec : (C : Int) - (Q : Int) + 1 = (CO : Int) := by omega
  have HV := Lib.hid hv
  have HU := Lib.hid hu
  have HN := Lib.hid hn
  have HMM := Lib.hid hm
  clear hn hm hv hu hro hco
  have d1 : decide (R < P) = false := by simp; omega
  have d2 : decide (C < Q) = false := by simp; omega
  go_enter Try.func17, Try.ntmps17
  go_wp2_with fail
  refine calls_at ?_
  intro w1 hA
  have A : Below w.heap.size w w1 := by rw [hA]; exact (((Below.refl _ _).alloc (Nat.le_refl _) _).alloc (by simp <;> omega) _).alloc (by simp <;> omega) _
  have zw1 : w1.heap.size = w.heap.size + 1 + 1 + 1 := by rw [hA]; simp
  have QB_ : Box w1 (w.heap.size) ↑R ↑C (some ⟨ba, oa, none⟩) n cap := by rw [hA]; exact ⟨by simp [go_sem], by simp [go_sem], by simp [go_sem], by simp <;> omega⟩
  have PB_ : Box w1 (w.heap.size + 1) ↑P ↑Q (some ⟨bd, od, none⟩) m cap2 := by rw [hA]; exact ⟨by simp [go_sem], by simp [go_sem], by simp [go_sem], by simp <;> omega⟩
  have ZR_ : Zbox w1 (w.heap.size + 1 + 1) := by rw [hA]; exact ⟨⟨by simp [go_sem], by simp [go_sem], by simp [go_sem], by simp <;> omega⟩, by simp [go_sem], by simp [go_sem], by simp [go_sem]⟩
  clear hA
  have zw1a := Nat.le_of_eq zw1
  have zw1b := Nat.le_of_eq zw1.symm
  clear zw1
  have T := A
  clear A
  have QB := Lib.hid QB_
  clear QB_
  have PB := Lib.hid PB_
  clear PB_
  have ZR := Lib.hid ZR_
  clear ZR_
  refine (validT _ _ _ _ _ _ HM.out).mono ?_
  rintro e w2 ⟨rfl, A⟩
  have T := T.trans (A.mono T.size)
  have QB := Lib.hid (QB.out.below A)
  have PB := Lib.hid (PB.out.below A)
  have ZR := Lib.hid (ZR.out.below A)
  have zw2 := A.size
  clear A
  rw [HV.out]
  obtain ⟨QB0, QB1, QB2, QB3⟩ := QB.out
  obtain ⟨PB0, PB1, PB2, PB3⟩ := PB.out
  go_wp2_with fail
  clear QB0 QB1 QB2 QB3 PB0 PB1 PB2 PB3
  refine (validT _ _ _ _ _ _ HM2.out).mono ?_
  rintro e w3 ⟨rfl, A⟩
  have T := T.trans (A.mono T.size)
  have QB := Lib.hid (QB.out.below A)
  have PB := Lib.hid (PB.out.below A)
  have ZR := Lib.hid (ZR.out.below A)
  have zw3 := A.size
  clear A
  rw [HU.out]
  obtain ⟨QB0, QB1, QB2, QB3⟩ := QB.out
  obtain ⟨PB0, PB1, PB2, PB3⟩ := PB.out
  go_wp2
  clear QB0 QB1 QB2 QB3 PB0 PB1 PB2 PB3
  clear er ec d1 d2
  refine reg_at ?_
  intro w4 hA
  have A : Below w3.heap.size w3 w4 := by rw [hA]; exact (Below.refl _ _).alloc (Nat.le_refl _) _
  have zw4 : w4.heap.size = w3.heap.size + 1 := by rw [hA]; simp
  have ACC := accHere 45 (show Box w4 (w3.heap.size) ↑RO ↑CO none 0 0 by rw [hA]; exact ⟨by simp [go_sem], by simp [go_sem], by simp [go_sem], by simp <;> omega⟩) (by rw [hA]; simp [go_sem])
  have HACC := Lib.hid ACC
  clear ACC
  clear hA
  have zw4a := Nat.le_of_eq zw4
  have zw4b := Nat.le_of_eq zw4.symm
  clear zw4
  have A4 := Lib.hid A
  have T := T.trans (A.mono T.size)
  have QB := Lib.hid (QB.out.below A)
  have PB := Lib.hid (PB.out.below A)
  have ZR := Lib.hid (ZR.out.below A)
  have zw4 := A.size
  clear A
  obtain ⟨i0, hi, hz0, hz1, hz2⟩ := info_parts infoF32
  have HI := Lib.hid hi
  have HZ0 := Lib.hid hz0
  have HZ1 := Lib.hid hz1
  have HZ2 := Lib.hid hz2
  clear hi hz0 hz1 hz2
  obtain ⟨b, hb⟩ : ∃ b, b = w3.heap.size := ⟨_, rfl⟩
  have hb1 := Nat.le_of_eq hb
  have hb2 := Nat.le_of_eq hb.symm
  rw [← hb] at HACC ⊢
  clear hb
  go_loopw [51] (fun i w' => ∃ (r k : Nat) (a' : Option Addr) (cap' : Nat) (ys : List Nat), r ≤ RO ∧ i = .int .i64 r ∧ Hid (k = r * CO) ∧ Acc b b 45 (RO : Int) (CO : Int) w4 w' k a' cap' ys ∧ ys.map (cn .f32) = (upto (tab (G xs ks C P Q) CO) k).map (cn .f32)) (fun i _ => RO - (intOf i).toNat)
  case atStart => exact ⟨0, 0, _, _, _, Nat.zero_le _, rfl, (Nat.zero_mul _).symm, HACC.out, rfl⟩
  case round =>
    obtain ⟨r, k, a', cap', ys, hr, rfl, hk, acc, hys⟩ := hrel
    obtain ⟨b0', b1', b2', b3'⟩ := acc.box
    have HA := Lib.hid acc
    have HY := Lib.hid hys
    clear acc hys
    by_cases hlt : r < RO
    · go_wp2
      clear b0' b1' b2' b3'
      obtain ⟨wo, rfl⟩ : ∃ wo : World, wo = wr := ⟨_, rfl⟩
      go_loopw [56] (fun i2 w' => ∃ (c k' : Nat) (a' : Option Addr) (cap' : Nat) (ys : List Nat), c ≤ CO ∧ i2 = .int .i64 c ∧ Hid (k' = r * CO + c) ∧ Acc b b 45 (RO : Int) (CO : Int) w4 w' k' a' cap' ys ∧ ys.map (cn .f32) = (upto (tab (G xs ks C P Q) CO) k').map (cn .f32)) (fun i2 _ => CO - (intOf i2).toNat)
      case atStart => exact ⟨0, k, _, _, _, Nat.zero_le _, rfl, hk, HA.out, HY.out⟩
      case round =>
        clear HA HY hk
        obtain ⟨c, k, a', cap', ys, hc, rfl, hk, acc, hys⟩ := hrel
        have HA := Lib.hid acc
        have HY := Lib.hid hys
        have HB := Lib.hid (show Below b w4 wr from acc.below)
        have zsz : b ≤ wr.heap.size := by have := acc.below.size; omega
        clear acc hys
        by_cases hcC : c < CO
        · have hme := row_end (C := CO) hlt
          have hml : k ≤ 256 := by have := hk.out; omega
          have hFk : Hid (tab (G xs ks C P Q) CO k = G xs ks C P Q r c) := by have := hk.out; subst this; exact tab_at _ hcC
          have BJ : Below w.heap.size w wr := T.trans (HB.out.mono (by omega))
          have HBJ := Lib.hid BJ
          have QJ := Lib.hid (QB.out.upto HB.out (by omega))
          have PJ := Lib.hid (PB.out.upto HB.out (by omega))
          clear BJ
          obtain ⟨p0, p1, p2, p3⟩ := PJ.out
          go_wp2
          clear p0 p1 p2 p3
          obtain ⟨wj, rfl⟩ : ∃ wj : World, wj = wr := ⟨_, rfl⟩
          go_loopw [9, 61] (fun su i3 w' => ∃ (i t u : Nat), i ≤ P ∧ Hid (t = i * Q) ∧ i3 = .int .i64 i ∧ su = .float .f32 u ∧ Hid (cn .f32 u = cn .f32 (dotG (fun t => ks[t]?.getD 0) (win xs C Q r c) t)) ∧ Below wj.heap.size wj w') (fun _ i3 _ => P - (intOf i3).toNat)
          case atStart => exact ⟨0, 0, 0, Nat.zero_le _, (Nat.zero_mul _).symm, rfl, rfl, rfl, Below.refl _ _⟩
          case round =>
            obtain ⟨i, t, u, hi, ht, rfl, rfl, hu, BW⟩ := hrel
            by_cases hiP : i < P
            · obtain ⟨p0, p1, p2, p3⟩ := PJ.out.below BW
              have HBW := Lib.hid BW
              clear BW
              go_wp2_with fail
              clear p0 p1 p2 p3
              refine (rowI P Q i bd od m cap2 _ HMM.out hiP (by omega) (by omega) hQ.1 hcap3 HC4.out).mono ?_
              rintro e wi ⟨rfl, A⟩
              have BI := Lib.hid (HBW.out.trans (A.mono HBW.out.size))
              clear A
              go_wp2
              go_loopw [9, 68] (fun su i4 w' => ∃ (j s u : Nat), j ≤ Q ∧ Hid (s = t + j) ∧ i4 = .int .i64 j ∧ su = .float .f32 u ∧ Hid (cn .f32 u = cn .f32 (dotG (fun t => ks[t]?.getD 0) (win xs C Q r c) s)) ∧ Below wj.heap.size wj w') (fun _ i4 _ => Q - (intOf i4).toNat)
              case atStart => exact ⟨0, t, u, Nat.zero_le _, rfl, rfl, rfl, hu, BI.out⟩
              case round =>
                clear hu
                obtain ⟨j, s, u, hj, hs, rfl, rfl, hu, BW⟩ := hrel
                have HBW := Lib.hid BW
                clear BW
                by_cases hjQ : j < Q
                · have hin := in_row (C := Q) hiP hjQ
                  have hin2 := in_row (R := R) (C := C) (i := r + i) (j := c + j) (by omega) (by omega)
                  have BA : Below w.heap.size w wr := HBJ.out.trans (HBW.out.mono HBJ.out.size)
                  obtain ⟨ba', oa', ea, hca⟩ := HX.out ((r + i) * C + (c + j)) (by omega)
                  injection ea with ea; injection ea with ea1 ea2 ea3
                  subst ea1; subst ea2
                  obtain ⟨bd', od', ea, hcd⟩ := HK.out (i * Q + j) (by omega)
                  injection ea with ea; injection ea with ea1 ea2 ea3
                  subst ea1; subst ea2
                  have cd : wr.cell? ⟨bd, od + i * Q + j, none⟩ = some (.float .f32 (ks[i * Q + j]?.getD 0)) := by rw [Nat.add_assoc]; exact (BA.cell (p := ⟨bd, od + (i * Q + j), none⟩) (World.block_lt_of_cell? w _ hcd)).trans hcd
                  have cA : Hid (wr.cell? ⟨ba, oa + (r + i) * C + (c + j), none⟩ = some (.float .f32 (xs[(r + i) * C + (c + j)]?.getD 0))) := by unfold Hid; rw [Nat.add_assoc]; exact (BA.cell (p := ⟨ba, oa + ((r + i) * C + (c + j)), none⟩) (World.block_lt_of_cell? w _ hca)).trans hca
                  have hf : Hid (ks[i * Q + j]?.getD 0 = ks[s]?.getD 0) := by rw [hs.out, ht.out]; rfl
                  have hg : Hid (xs[(r + i) * C + (c + j)]?.getD 0 = win xs C Q r c s) := by rw [hs.out, ht.out]; exact (win_at xs hjQ).symm
                  clear hca hcd BA
                  obtain ⟨q0, q1, q2, q3⟩ := QJ.out.below HBW.out
                  go_wp2_with fail
                  clear q0 q1 q2 q3 cd
                  refine (rowI R C (r + i) ba oa n cap _ HN.out (by omega) hR.2 hC.2 hC.1 hcap HC2.out).mono ?_
                  rintro e wk ⟨rfl, A⟩
                  have ca : wk.cell? ⟨ba, oa + (r + i) * C + (c + j), none⟩ = some (.float .f32 (xs[(r + i) * C + (c + j)]?.getD 0)) := (A.cell (p := ⟨ba, oa + (r + i) * C + (c + j), none⟩) (World.block_lt_of_cell? wr _ cA.out)).trans cA.out
                  have BK := Lib.hid (HBW.out.trans (A.mono HBW.out.size))
                  clear A
                  have t4 : ((c : Int) + (j : Int)).toNat = c + j := by omega
                  go_wp2
                  clear t4 ca
                  go_roundw
                  case rel => exact ⟨j + 1, s + 1, _, by omega, (by have := hs.out; show s + 1 = _; omega), by go_num, rfl, dotG_step hu.out hf.out hg.out _ _, bdrew BK.out _⟩
                  case measure => simp [intOf]; omega
                · go_wp2
                  go_roundw
                  case rel => exact ⟨i + 1, s, u, by omega, (by have := hs.out; have h2 := ht.out; have e : j = Q := (by omega); subst e; show s = _; rw [Nat.succ_mul]; omega), by go_num, rfl, hu, HBW.out⟩
                  case measure => simp [intOf]; omega
            · have e : i = P := by omega
              have hue := hu.out
              rw [ht.out, e] at hue
              have HUE := Lib.hid hue
              clear hue hu e
              have acc := HA.out.next BW zsz
              have hys := HY.out
              clear HA HY BW
              obtain ⟨b0', b1', b2', b3'⟩ := acc.box
              have AC := Lib.hid acc
              have HY := Lib.hid hys
              clear acc hys
              have zb := AC.out.box.lt
              have zB := AC.out.below.size
              go_wp2_with (at_builtin; refine wpList_append_own _ rfl (.tmp 90) (.tmp 92) 22 rfl (b) 45 i0 (.float .f32 0) 1 4 Try.underlying22 HI.out HZ0.out HZ1.out HZ2.out rfl (by decide) (.slice a' k cap') (k) (fl ys) rfl (AC.out.alloc (by omega) _).own ⟨wr.heap.size, 0, none⟩ 1 1 [.float .f32 u] rfl rfl ?c1 ?c2 ?c3 ?c4 ?c5 ?_)
              case c1 =>
                intro j v hj
                match j, hj with
                | 0, hj => simp at hj; subst hj; exact cell_new _ _ _
              case c2 => intro v hv; simp at hv; subst hv; rfl
              case c3 => unfold maxLen; omega
              case c4 => omega
              case c5 => simp <;> omega
              intro v' w2 hown hgr _
              clear b0' b1' b2' b3'
              obtain ⟨a2, cap2, rfl, bx, fr, cl, acc2⟩ := Acc.app (by first | omega | (simp; omega)) AC.out hown ⟨hgr.os, hgr.tape, hgr.output, hgr.size, hgr.block⟩
              have AC2 := Lib.hid acc2
              clear acc2 hown hgr cl
              obtain ⟨b0', b1', b2', b3'⟩ := bx
              go_wp2
              go_roundw
              case rel => exact ⟨c + 1, k + 1, a2, cap2, ys ++ [u], by omega, by go_num, (by have := hk.out; show k + 1 = _; omega), AC2.out, upto_step HY.out (by rw [hFk.out]; exact HUE.out)⟩
              case measure => simp [intOf]; omega
        · go_wp2
          go_roundw
          case rel => exact ⟨r + 1, k, a', cap', ys, by omega, by go_num, (by have := hk.out; have e : c = CO := (by omega); subst e; show k = _; rw [Nat.succ_mul]; exact this), HA.out, HY.out⟩
          case measure => simp [intOf]; omega
    · have e : r = RO := by omega
      have hme : k = RO * CO := by rw [← e]; exact hk
      clear hk e b0' b1' b2' b3'
      subst hme
      have BW : Below w.heap.size w wr := T.trans (HA.out.below.mono (by omega))
      have ZR := Lib.hid (ZR.out.upto HA.out.below (by omega))
      obtain ⟨b0', b1', b2', b3'⟩ := HA.out.box
      have zz := HA.out.below.size
      obtain ⟨⟨ZR0, ZR1, ZR2, ZR3⟩, ZR4, ZR5, ZR6⟩ := ZR.out
      go_wp2
      refine bodyPost_ret (v := .tuple #[.agg #[.int .i64 (RO : Int), .int .i64 (CO : Int), .slice a' (RO * CO) cap'], .bool true]) (by simp [results, Try.results17, go_sem, ZR0, ZR1, ZR2]) rfl ?_
      exact RT_end BW (by omega) (HA.out.row (by omega)) (by omega) HY.out (upto_length _ _)
theorem specS (r c : Int) (a : Option Addr) (n cap : Nat) (xs : List Nat) (p q : Int) (x2 : Option Addr) (m cap2 : Nat) (ks : List Nat) (w : World) (h1 : Fs w a n cap xs) (h2 : Fs w x2 m cap2 ks) :
    Calls Try.prog 15 #[.agg #[.int .i64 r, .int .i64 c, .slice a n cap], .agg #[.int .i64 p, .int .i64 q, .slice x2 m cap2]] w (RT 45 w (if ok r c n p q m = true then r - p + 1 else 0) (if ok r c n p q m = true then c - q + 1 else 0) (S r c n xs p q m ks) (ok r c n p q m)) := by
  cases ho : ok r c n p q m
  · rw [S_no xs ks ho, if_neg (by simp), if_neg (by simp)]
    exact specN r c a n cap xs p q x2 m cap2 ks w h1 h2 ho
  · obtain ⟨R, C, P, Q, rfl, rfl, rfl, rfl, hR, hC, hP, hQ, hn, hm⟩ := ok_yes ho
    have hv : decide (vt (R : Int) (C : Int) n) = true := by unfold ok at ho; simp only [Bool.and_eq_true] at ho; exact ho.1
    have hu : decide (vt (P : Int) (Q : Int) m) = true := by unfold ok at ho; simp only [Bool.and_eq_true] at ho; exact ho.2.1
    rw [S_yes xs ks ho rfl rfl, if_pos rfl, if_pos rfl, show (R : Int) - (P : Int) + 1 = ((R - P + 1 : Nat) : Int) by omega, show (C : Int) - (Q : Int) + 1 = ((C - Q + 1 : Nat) : Int) by omega]
    exact specY R C P Q _ _ a n cap xs x2 m cap2 ks w hR hC hP hQ hn hm hv hu rfl rfl h1 h2
theorem implS (r c : Int) (a : Option Addr) (n cap : Nat) (xs : List Nat) (p q : Int) (x2 : Option Addr) (m cap2 : Nat) (ks : List Nat) (w : World) (h1 : Fs w a n cap xs) (h2 : Fs w x2 m cap2 ks) :
    Calls Try.prog 17 #[.agg #[.int .i64 r, .int .i64 c, .slice a n cap], .agg #[.int .i64 p, .int .i64 q, .slice x2 m cap2]] w (RT 45 w (if ok r c n p q m = true then r - p + 1 else 0) (if ok r c n p q m = true then c - q + 1 else 0) (S r c n xs p q m ks) (ok r c n p q m)) := by
  cases ho : ok r c n p q m
  · rw [S_no xs ks ho, if_neg (by simp), if_neg (by simp)]
    exact implN r c a n cap xs p q x2 m cap2 ks w h1 h2 ho
  · obtain ⟨R, C, P, Q, rfl, rfl, rfl, rfl, hR, hC, hP, hQ, hn, hm⟩ := ok_yes ho
    have hv : decide (vt (R : Int) (C : Int) n) = true := by unfold ok at ho; simp only [Bool.and_eq_true] at ho; exact ho.1
    have hu : decide (vt (P : Int) (Q : Int) m) = true := by unfold ok at ho; simp only [Bool.and_eq_true] at ho; exact ho.2.1
    rw [S_yes xs ks ho rfl rfl, if_pos rfl, if_pos rfl, show (R : Int) - (P : Int) + 1 = ((R - P + 1 : Nat) : Int) by omega, show (C : Int) - (Q : Int) + 1 = ((C - Q + 1 : Nat) : Int) by omega]
    exact implY R C P Q _ _ a n cap xs x2 m cap2 ks w hR hC hP hQ hn hm hv hu rfl rfl h1 h2
theorem both (r c : Int) (n : Nat) (xs : List Nat) (p q : Int) (m : Nat) (ks : List Nat) (_hn : n ≤ 1048576) (_hl : n = xs.length) (_wr : (Lit.int .i64 r).wf = true) (_wc : (Lit.int .i64 c).wf = true) (_hn2 : m ≤ 1048576) (_hl2 : m = ks.length) (_wr2 : (Lit.int .i64 p).wf = true) (_wc2 : (Lit.int .i64 q).wf = true) :
    ∃ ok R0 C0 S, S.length ≤ 1048576 ∧ (∀ w a cap x2 cap2, Fs w a n cap xs → Fs w x2 m cap2 ks → Calls Try.prog 15 #[.agg #[.int .i64 r, .int .i64 c, .slice a n cap], .agg #[.int .i64 p, .int .i64 q, .slice x2 m cap2]] w (RT 45 w R0 C0 S ok)) ∧ (∀ w a cap x2 cap2, Fs w a n cap xs → Fs w x2 m cap2 ks → Calls Try.prog 17 #[.agg #[.int .i64 r, .int .i64 c, .slice a n cap], .agg #[.int .i64 p, .int .i64 q, .slice x2 m cap2]] w (RT 45 w R0 C0 S ok)) :=
  ⟨_, _, _, _, S_len r c n xs p q m ks, fun w a cap x2 cap2 h1 h2 => specS r c a n cap xs p q x2 m cap2 ks w h1 h2, fun w a cap x2 cap2 h1 h2 => implS r c a n cap xs p q x2 m cap2 ks w h1 h2⟩
set_option maxHeartbeats 4000000 in
theorem walk (w : World) (ro0 co0 : Int) (a0 : Option Addr) (n0 c0 : Nat) (xs0 : List Nat) (h0 : Fs w a0 n0 c0 xs0) (_wr0 : (Lit.int .i64 ro0).wf = true) (_wc0 : (Lit.int .i64 co0).wf = true) (_b0 : ∀ x ∈ xs0, x < 4294967296) (ro1 co1 : Int) (a1 : Option Addr) (n1 c1 : Nat) (xs1 : List Nat) (h1 : Fs w a1 n1 c1 xs1) (_wr1 : (Lit.int .i64 ro1).wf = true) (_wc1 : (Lit.int .i64 co1).wf = true) (_b1 : ∀ x ∈ xs1, x < 4294967296) :
    Calls Try.prog 4 #[.agg #[.int .i64 ro0, .int .i64 co0, .slice a0 n0 c0], .agg #[.int .i64 ro1, .int .i64 co1, .slice a1 n1 c1]] w fun e w' => e = .returned (.bool true) ∧ Below w.heap.size w w' := by
  have m0 := h0.cap2
  have q0 := h0.cap1
  have m1 := h1.cap2
  have q1 := h1.cap1
  unfold maxLen at m0 m1
  by_cases g0 : 1048576 < n0
  · go_enter Try.func4, Try.ntmps4
    have T := Below.refl w.heap.size w
    go_wp2_with fail
    refine calls_at ?_
    intro w2 hA
    obtain ⟨w1, hB⟩ : ∃ v, v = w.alloc (.cells #[.int .i64 ro0, .int .i64 co0, .slice a0 n0 c0] 30) := ⟨_, rfl⟩
    rw [← hB] at hA
    obtain ⟨Q, A, z1, z2⟩ := box_new hB
    clear hB
    have X0 := Lib.hid Q
    clear Q
    have T := T.trans (A.mono T.size)
    have zw1 := A.size
    clear A
    have yw1 := z1
    have xw1 := z2
    clear z1 z2
    obtain ⟨Q, A, z1, z2⟩ := box_new hA
    clear hA
    have eb : w1.heap.size = w.heap.size + 1 := by omega
    rw [eb] at Q
    clear eb
    have X1 := Lib.hid Q
    clear Q
    have T := T.trans (A.mono T.size)
    have X0 := Lib.hid (X0.out.below A)
    have zw2 := A.size
    clear A
    have yw2 := z1
    have xw2 := z2
    clear z1 z2
    refine (szNo _ _ _ _ _ _ _ (Nat.le_trans h0.cap1 h0.cap2) (by omega) (by omega)).mono ?_
    rintro e wz ⟨rfl, A⟩
    have T := T.trans (A.mono T.size)
    go_wp2
    go_ret
    exact ⟨rfl, T⟩
  by_cases g1 : 1048576 < n0 + n1
  · go_enter Try.func4, Try.ntmps4
    have T := Below.refl w.heap.size w
    go_wp2_with fail
    refine calls_at ?_
    intro w2 hA
    obtain ⟨w1, hB⟩ : ∃ v, v = w.alloc (.cells #[.int .i64 ro0, .int .i64 co0, .slice a0 n0 c0] 30) := ⟨_, rfl⟩
    rw [← hB] at hA
    obtain ⟨Q, A, z1, z2⟩ := box_new hB
    clear hB
    have X0 := Lib.hid Q
    clear Q
    have T := T.trans (A.mono T.size)
    have zw1 := A.size
    clear A
    have yw1 := z1
    have xw1 := z2
    clear z1 z2
    obtain ⟨Q, A, z1, z2⟩ := box_new hA
    clear hA
    have eb : w1.heap.size = w.heap.size + 1 := by omega
    rw [eb] at Q
    clear eb
    have X1 := Lib.hid Q
    clear Q
    have T := T.trans (A.mono T.size)
    have X0 := Lib.hid (X0.out.below A)
    have zw2 := A.size
    clear A
    have yw2 := z1
    have xw2 := z2
    clear z1 z2
    refine (szYes _ _ _ _ _ _ _ (by omega) (by omega)).mono ?_
    rintro e w3 ⟨rfl, A⟩
    have T := T.trans (A.mono T.size)
    have X0 := Lib.hid (X0.out.below A)
    have X1 := Lib.hid (X1.out.below A)
    have zw3 := A.size
    clear A
    obtain ⟨X10, X11, X12, X13⟩ := X1.out
    go_wp2_with fail
    clear X10 X11 X12 X13
    refine (szNo _ _ _ _ _ _ _ (Nat.le_trans h1.cap1 h1.cap2) (by omega) (by omega)).mono ?_
    rintro e wz ⟨rfl, A⟩
    have T := T.trans (A.mono T.size)
    go_wp2
    go_ret
    exact ⟨rfl, T⟩
  have hn0 : n0 ≤ 1048576 := by omega
  have hn1 : n1 ≤ 1048576 := by omega
  obtain ⟨ok, R0, C0, S, hS, hs, hi⟩ := both ro0 co0 n0 xs0 ro1 co1 n1 xs1 hn0 h0.len _wr0 _wc0 hn1 h1.len _wr1 _wc1
  go_enter Try.func4, Try.ntmps4
  have T := Below.refl w.heap.size w
  go_wp2_with fail
  refine calls_at ?_
  intro w2 hA
  obtain ⟨w1, hB⟩ : ∃ v, v = w.alloc (.cells #[.int .i64 ro0, .int .i64 co0, .slice a0 n0 c0] 30) := ⟨_, rfl⟩
  rw [← hB] at hA
  obtain ⟨Q, A, z1, z2⟩ := box_new hB
  clear hB
  have X0 := Lib.hid Q
  clear Q
  have T := T.trans (A.mono T.size)
  have zw1 := A.size
  clear A
  have yw1 := z1
  have xw1 := z2
  clear z1 z2
  obtain ⟨Q, A, z1, z2⟩ := box_new hA
  clear hA
  have eb : w1.heap.size = w.heap.size + 1 := by omega
  rw [eb] at Q
  clear eb
  have X1 := Lib.hid Q
  clear Q
  have T := T.trans (A.mono T.size)
  have X0 := Lib.hid (X0.out.below A)
  have zw2 := A.size
  clear A
  have yw2 := z1
  have xw2 := z2
  clear z1 z2
  refine (szYes _ _ _ _ _ _ _ (by omega) (by omega)).mono ?_
  rintro e w3 ⟨rfl, A⟩
  have T := T.trans (A.mono T.size)
  have X0 := Lib.hid (X0.out.below A)
  have X1 := Lib.hid (X1.out.below A)
  have zw3 := A.size
  clear A
  obtain ⟨X10, X11, X12, X13⟩ := X1.out
  go_wp2_with fail
  clear X10 X11 X12 X13
  refine (szYes _ _ _ _ _ _ _ (by omega) (by omega)).mono ?_
  rintro e w4 ⟨rfl, A⟩
  have T := T.trans (A.mono T.size)
  have X0 := Lib.hid (X0.out.below A)
  have X1 := Lib.hid (X1.out.below A)
  have zw4 := A.size
  clear A
  go_wp2_with fail
  go_cut [6, 7] from 27 to 34 (fun sb sk wx => ∃ bb bq pq yq, sb = .pointer (some ⟨bb, 0, none⟩) ∧ sk = .bool ok ∧ Box wx bb R0 C0 bq S.length pq ∧ Row wx w4.heap.size wx.heap.size 45 (.slice bq S.length pq) S.length yq ∧ yq.map (cn .f32) = S.map (cn .f32) ∧ Below w4.heap.size w4 wx)
  case first =>
    refine wp_plan 10 [0, 2, 0, 2, 2, 0, 0, 0, 2, 2, 0] (.go 0 (.go 2 (.either 8 1 (.only 1 (.only 3 (.only 4 (.go 5 (.go 6 (.go 7 (.only 9 .fin))))))) (.either 8 3 (.only 3 (.only 4 (.go 5 (.go 6 (.go 7 (.only 9 .fin)))))) (.either 8 4 (.only 4 (.go 5 (.go 6 (.go 7 (.only 9 .fin))))) (.go 5 (.go 6 (.go 7 (.only 8 (.only 9 .fin)))))))))) (Bl w4) (by kernel_rfl) (by kernel_rfl) (Bl.refl _) Bl.drew ?_
    simp only [List.drop_succ_cons, List.drop_zero]
    refine plan_go (pl0 (v := ?_) (by rfl) rfl rfl (fun w' hw' => ?_) (fun K hK => ?_))
    rotate_left
    · obtain ⟨q0, q1, q2, q3⟩ := X0.out.below hw'
      go_simp
      rfl
    go_simp
    refine hK _ _ ?_
    clear hK K
    refine plan_go (pl0 (v := ?_) (by rfl) rfl rfl (fun w' hw' => ?_) (fun K hK => ?_))
    rotate_left
    · obtain ⟨q0, q1, q2, q3⟩ := X1.out.below hw'
      go_simp
      rfl
    go_simp
    refine hK _ _ ?_
    clear hK K
    have C1_0 : Below w4.heap.size w4 w4 := Below.refl _ _
    refine plan_either ?_ ?_
    · skip
      refine pl2 (by rfl) rfl rfl (fun K hK => ?_)
      go_simp
      intro nA
      refine ⟨(bdrew C1_0 _).alloc (by have := C1_0.size; simp <;> omega) _, hK _ _ ?_⟩
      clear hK K
      refine plan_at (fun v1_1 hA => ?_)
      obtain ⟨Q, A0, z0⟩ := zbox_new hA
      clear hA
      have A : Below w4.heap.size w4 v1_1 := (bdrew (Below.refl _ _) _).trans A0
      clear A0
      have Q : Zbox v1_1 w4.heap.size := Q
      have z0 : w4.heap.size < v1_1.heap.size := z0
      have B1_1 := Q
      clear Q
      have C1_1 := C1_0.trans (A.mono C1_0.size)
      have T1_1 := T.trans (A.mono T.size)
      have zz1_1 := A.size
      clear A
      refine plan_only (pl2 (by rfl) rfl rfl (fun K hK => ?_))
      go_simp
      intro nA
      refine (toTens _ _ _ _ _ _ _ hn0 ((h0.below T1_1).drew _)).mono ?_
      rintro e v1_2 ⟨g1_2, rfl, R, A0⟩
      have A : Below v1_1.heap.size v1_1 v1_2 := (bdrew (Below.refl _ _) _).trans A0
      clear A0
      refine ⟨_, rfl, C1_1.trans (A.mono C1_1.size), hK _ _ ?_⟩
      clear hK K
      have C1_2 := C1_1.trans (A.mono C1_1.size)
      have T1_2 := T1_1.trans (A.mono T1_1.size)
      have B1_1 := B1_1.below A
      have zz1_2 := A.size
      clear A
      have K1_2 : Row v1_2 v1_1.heap.size v1_2.heap.size 45 _ _ _ := R
      clear R
      refine plan_only (pl2 (by rfl) rfl rfl (fun K hK => ?_))
      go_simp
      intro nA
      refine (toTens _ _ _ _ _ _ _ hn1 ((h1.below T1_2).drew _)).mono ?_
      rintro e v1_3 ⟨g1_3, rfl, R, A0⟩
      have A : Below v1_2.heap.size v1_2 v1_3 := (bdrew (Below.refl _ _) _).trans A0
      clear A0
      refine ⟨_, rfl, C1_2.trans (A.mono C1_2.size), hK _ _ ?_⟩
      clear hK K
      have C1_3 := C1_2.trans (A.mono C1_2.size)
      have T1_3 := T1_2.trans (A.mono T1_2.size)
      have K1_2 := K1_2.below A
      have B1_1 := B1_1.below A
      have zz1_3 := A.size
      clear A
      have K1_3 : Row v1_3 v1_2.heap.size v1_3.heap.size 45 _ _ _ := R
      clear R
      refine plan_only (pl2 (by rfl) rfl rfl (fun K hK => ?_))
      go_simp
      intro nA
      refine (hs _ _ _ _ _ (K1_2.fs.drew _) (K1_3.fs.drew _)).mono ?_
      rintro e v1_4 ⟨b1_4, p1_4, ys1_4, rfl, R, E0, A0⟩
      have E1_4 := Lib.hid E0
      clear E0
      have A : Below v1_3.heap.size v1_3 v1_4 := (bdrew (Below.refl _ _) _).trans A0
      clear A0
      refine ⟨_, rfl, C1_3.trans (A.mono C1_3.size), hK _ _ ?_⟩
      clear hK K
      have C1_4 := C1_3.trans (A.mono C1_3.size)
      have T1_4 := T1_3.trans (A.mono T1_3.size)
      have K1_2 := K1_2.below A
      have K1_3 := K1_3.below A
      have B1_1 := B1_1.below A
      have zz1_4 := A.size
      clear A
      have K1_4 : Row v1_4 v1_3.heap.size v1_4.heap.size 45 _ _ _ := R
      clear R
      refine plan_go (pl0 (v := ?_) (by rfl) rfl rfl (fun w' hw' => ?_) (fun K hK => ?_))
      rotate_left
      · go_simp
        rfl
      go_simp
      refine hK _ _ ?_
      clear hK K
      refine plan_go (pl0 (v := ?_) (by rfl) rfl rfl (fun w' hw' => ?_) (fun K hK => ?_))
      rotate_left
      · go_simp
        rfl
      go_simp
      refine hK _ _ ?_
      clear hK K
      refine plan_go (pl0 (v := ?_) (by rfl) rfl rfl (fun w' hw' => ?_) (fun K hK => ?_))
      rotate_left
      · go_simp
        rfl
      go_simp
      refine hK _ _ ?_
      clear hK K
      refine plan_only (pl2 (by rfl) rfl rfl (fun K hK => ?_))
      obtain ⟨⟨q0, q1, q2, q3⟩, q4, q5, q6⟩ := B1_1
      go_simp
      intro nS
      have B1_1 : Zbox v1_4 w4.heap.size := ⟨⟨q0, q1, q2, q3⟩, q4, q5, q6⟩
      clear q0 q1 q2 q3 q4 q5 q6
      refine ⟨(((bdrew C1_4 _).setCell (by simp <;> omega) _).setCell (by simp <;> omega) _).setCell (by simp <;> omega) _, hK _ _ ?_⟩
      clear hK K
      refine plan_fin (fun nF => ?_)
      go_wp2_with fail
      go_meet
      obtain ⟨X, Y, Z⟩ := par_end (r := R0) (c := C0) C1_4 (by omega) B1_1 K1_4 (by omega) (by omega) nS nF
      exact ⟨_, _, _, _, rfl, rfl, X, Y, E1_4.out, Z⟩
    · skip
      refine pl2 (by rfl) rfl rfl (fun K hK => ?_)
      go_simp
      intro nA
      refine (toTens _ _ _ _ _ _ _ hn0 ((h0.below T).drew _)).mono ?_
      rintro e v1_21 ⟨g1_21, rfl, R, A0⟩
      have A : Below w4.heap.size w4 v1_21 := (bdrew (Below.refl _ _) _).trans A0
      clear A0
      refine ⟨_, rfl, C1_0.trans (A.mono C1_0.size), hK _ _ ?_⟩
      clear hK K
      have C1_21 := C1_0.trans (A.mono C1_0.size)
      have T1_21 := T.trans (A.mono T.size)
      have zz1_21 := A.size
      clear A
      have K1_21 : Row v1_21 w4.heap.size v1_21.heap.size 45 _ _ _ := R
      clear R
      refine plan_either ?_ ?_
      · skip
        refine pl2 (by rfl) rfl rfl (fun K hK => ?_)
        go_simp
        intro nA
        refine ⟨(bdrew C1_21 _).alloc (by have := C1_21.size; simp <;> omega) _, hK _ _ ?_⟩
        clear hK K
        refine plan_at (fun v1_22 hA => ?_)
        obtain ⟨Q, A0, z0⟩ := zbox_new hA
        clear hA
        have A : Below v1_21.heap.size v1_21 v1_22 := (bdrew (Below.refl _ _) _).trans A0
        clear A0
        have Q : Zbox v1_22 v1_21.heap.size := Q
        have z0 : v1_21.heap.size < v1_22.heap.size := z0
        have B1_22 := Q
        clear Q
        have C1_22 := C1_21.trans (A.mono C1_21.size)
        have T1_22 := T1_21.trans (A.mono T1_21.size)
        have K1_21 := K1_21.below A
        have zz1_22 := A.size
        clear A
        refine plan_only (pl2 (by rfl) rfl rfl (fun K hK => ?_))
        go_simp
        intro nA
        refine (toTens _ _ _ _ _ _ _ hn1 ((h1.below T1_22).drew _)).mono ?_
        rintro e v1_23 ⟨g1_23, rfl, R, A0⟩
        have A : Below v1_22.heap.size v1_22 v1_23 := (bdrew (Below.refl _ _) _).trans A0
        clear A0
        refine ⟨_, rfl, C1_22.trans (A.mono C1_22.size), hK _ _ ?_⟩
        clear hK K
        have C1_23 := C1_22.trans (A.mono C1_22.size)
        have T1_23 := T1_22.trans (A.mono T1_22.size)
        have K1_21 := K1_21.below A
        have B1_22 := B1_22.below A
        have zz1_23 := A.size
        clear A
        have K1_23 : Row v1_23 v1_22.heap.size v1_23.heap.size 45 _ _ _ := R
        clear R
        refine plan_only (pl2 (by rfl) rfl rfl (fun K hK => ?_))
        go_simp
        intro nA
        refine (hs _ _ _ _ _ (K1_21.fs.drew _) (K1_23.fs.drew _)).mono ?_
        rintro e v1_24 ⟨b1_24, p1_24, ys1_24, rfl, R, E0, A0⟩
        have E1_24 := Lib.hid E0
        clear E0
        have A : Below v1_23.heap.size v1_23 v1_24 := (bdrew (Below.refl _ _) _).trans A0
        clear A0
        refine ⟨_, rfl, C1_23.trans (A.mono C1_23.size), hK _ _ ?_⟩
        clear hK K
        have C1_24 := C1_23.trans (A.mono C1_23.size)
        have T1_24 := T1_23.trans (A.mono T1_23.size)
        have K1_21 := K1_21.below A
        have K1_23 := K1_23.below A
        have B1_22 := B1_22.below A
        have zz1_24 := A.size
        clear A
        have K1_24 : Row v1_24 v1_23.heap.size v1_24.heap.size 45 _ _ _ := R
        clear R
        refine plan_go (pl0 (v := ?_) (by rfl) rfl rfl (fun w' hw' => ?_) (fun K hK => ?_))
        rotate_left
        · go_simp
          rfl
        go_simp
        refine hK _ _ ?_
        clear hK K
        refine plan_go (pl0 (v := ?_) (by rfl) rfl rfl (fun w' hw' => ?_) (fun K hK => ?_))
        rotate_left
        · go_simp
          rfl
        go_simp
        refine hK _ _ ?_
        clear hK K
        refine plan_go (pl0 (v := ?_) (by rfl) rfl rfl (fun w' hw' => ?_) (fun K hK => ?_))
        rotate_left
        · go_simp
          rfl
        go_simp
        refine hK _ _ ?_
        clear hK K
        refine plan_only (pl2 (by rfl) rfl rfl (fun K hK => ?_))
        obtain ⟨⟨q0, q1, q2, q3⟩, q4, q5, q6⟩ := B1_22
        go_simp
        intro nS
        have B1_22 : Zbox v1_24 v1_21.heap.size := ⟨⟨q0, q1, q2, q3⟩, q4, q5, q6⟩
        clear q0 q1 q2 q3 q4 q5 q6
        refine ⟨(((bdrew C1_24 _).setCell (by simp <;> omega) _).setCell (by simp <;> omega) _).setCell (by simp <;> omega) _, hK _ _ ?_⟩
        clear hK K
        refine plan_fin (fun nF => ?_)
        go_wp2_with fail
        go_meet
        obtain ⟨X, Y, Z⟩ := par_end (r := R0) (c := C0) C1_24 (by omega) B1_22 K1_24 (by omega) (by omega) nS nF
        exact ⟨_, _, _, _, rfl, rfl, X, Y, E1_24.out, Z⟩
      · skip
        refine pl2 (by rfl) rfl rfl (fun K hK => ?_)
        go_simp
        intro nA
        refine (toTens _ _ _ _ _ _ _ hn1 ((h1.below T1_21).drew _)).mono ?_
        rintro e v1_42 ⟨g1_42, rfl, R, A0⟩
        have A : Below v1_21.heap.size v1_21 v1_42 := (bdrew (Below.refl _ _) _).trans A0
        clear A0
        refine ⟨_, rfl, C1_21.trans (A.mono C1_21.size), hK _ _ ?_⟩
        clear hK K
        have C1_42 := C1_21.trans (A.mono C1_21.size)
        have T1_42 := T1_21.trans (A.mono T1_21.size)
        have K1_21 := K1_21.below A
        have zz1_42 := A.size
        clear A
        have K1_42 : Row v1_42 v1_21.heap.size v1_42.heap.size 45 _ _ _ := R
        clear R
        refine plan_either ?_ ?_
        · skip
          refine pl2 (by rfl) rfl rfl (fun K hK => ?_)
          go_simp
          intro nA
          refine ⟨(bdrew C1_42 _).alloc (by have := C1_42.size; simp <;> omega) _, hK _ _ ?_⟩
          clear hK K
          refine plan_at (fun v1_43 hA => ?_)
          obtain ⟨Q, A0, z0⟩ := zbox_new hA
          clear hA
          have A : Below v1_42.heap.size v1_42 v1_43 := (bdrew (Below.refl _ _) _).trans A0
          clear A0
          have Q : Zbox v1_43 v1_42.heap.size := Q
          have z0 : v1_42.heap.size < v1_43.heap.size := z0
          have B1_43 := Q
          clear Q
          have C1_43 := C1_42.trans (A.mono C1_42.size)
          have T1_43 := T1_42.trans (A.mono T1_42.size)
          have K1_21 := K1_21.below A
          have K1_42 := K1_42.below A
          have zz1_43 := A.size
          clear A
          refine plan_only (pl2 (by rfl) rfl rfl (fun K hK => ?_))
          go_simp
          intro nA
          refine (hs _ _ _ _ _ (K1_21.fs.drew _) (K1_42.fs.drew _)).mono ?_
          rintro e v1_44 ⟨b1_44, p1_44, ys1_44, rfl, R, E0, A0⟩
          have E1_44 := Lib.hid E0
          clear E0
          have A : Below v1_43.heap.size v1_43 v1_44 := (bdrew (Below.refl _ _) _).trans A0
          clear A0
          refine ⟨_, rfl, C1_43.trans (A.mono C1_43.size), hK _ _ ?_⟩
          clear hK K
          have C1_44 := C1_43.trans (A.mono C1_43.size)
          have T1_44 := T1_43.trans (A.mono T1_43.size)
          have K1_21 := K1_21.below A
          have K1_42 := K1_42.below A
          have B1_43 := B1_43.below A
          have zz1_44 := A.size
          clear A
          have K1_44 : Row v1_44 v1_43.heap.size v1_44.heap.size 45 _ _ _ := R
          clear R
          refine plan_go (pl0 (v := ?_) (by rfl) rfl rfl (fun w' hw' => ?_) (fun K hK => ?_))
          rotate_left
          · go_simp
            rfl
          go_simp
          refine hK _ _ ?_
          clear hK K
          refine plan_go (pl0 (v := ?_) (by rfl) rfl rfl (fun w' hw' => ?_) (fun K hK => ?_))
          rotate_left
          · go_simp
            rfl
          go_simp
          refine hK _ _ ?_
          clear hK K
          refine plan_go (pl0 (v := ?_) (by rfl) rfl rfl (fun w' hw' => ?_) (fun K hK => ?_))
          rotate_left
          · go_simp
            rfl
          go_simp
          refine hK _ _ ?_
          clear hK K
          refine plan_only (pl2 (by rfl) rfl rfl (fun K hK => ?_))
          obtain ⟨⟨q0, q1, q2, q3⟩, q4, q5, q6⟩ := B1_43
          go_simp
          intro nS
          have B1_43 : Zbox v1_44 v1_42.heap.size := ⟨⟨q0, q1, q2, q3⟩, q4, q5, q6⟩
          clear q0 q1 q2 q3 q4 q5 q6
          refine ⟨(((bdrew C1_44 _).setCell (by simp <;> omega) _).setCell (by simp <;> omega) _).setCell (by simp <;> omega) _, hK _ _ ?_⟩
          clear hK K
          refine plan_fin (fun nF => ?_)
          go_wp2_with fail
          go_meet
          obtain ⟨X, Y, Z⟩ := par_end (r := R0) (c := C0) C1_44 (by omega) B1_43 K1_44 (by omega) (by omega) nS nF
          exact ⟨_, _, _, _, rfl, rfl, X, Y, E1_44.out, Z⟩
        · skip
          refine pl2 (by rfl) rfl rfl (fun K hK => ?_)
          go_simp
          intro nA
          refine (hs _ _ _ _ _ (K1_21.fs.drew _) (K1_42.fs.drew _)).mono ?_
          rintro e v1_63 ⟨b1_63, p1_63, ys1_63, rfl, R, E0, A0⟩
          have E1_63 := Lib.hid E0
          clear E0
          have A : Below v1_42.heap.size v1_42 v1_63 := (bdrew (Below.refl _ _) _).trans A0
          clear A0
          refine ⟨_, rfl, C1_42.trans (A.mono C1_42.size), hK _ _ ?_⟩
          clear hK K
          have C1_63 := C1_42.trans (A.mono C1_42.size)
          have T1_63 := T1_42.trans (A.mono T1_42.size)
          have K1_21 := K1_21.below A
          have K1_42 := K1_42.below A
          have zz1_63 := A.size
          clear A
          have K1_63 : Row v1_63 v1_42.heap.size v1_63.heap.size 45 _ _ _ := R
          clear R
          refine plan_go (pl0 (v := ?_) (by rfl) rfl rfl (fun w' hw' => ?_) (fun K hK => ?_))
          rotate_left
          · go_simp
            rfl
          go_simp
          refine hK _ _ ?_
          clear hK K
          refine plan_go (pl0 (v := ?_) (by rfl) rfl rfl (fun w' hw' => ?_) (fun K hK => ?_))
          rotate_left
          · go_simp
            rfl
          go_simp
          refine hK _ _ ?_
          clear hK K
          refine plan_go (pl0 (v := ?_) (by rfl) rfl rfl (fun w' hw' => ?_) (fun K hK => ?_))
          rotate_left
          · go_simp
            rfl
          go_simp
          refine hK _ _ ?_
          clear hK K
          refine plan_only (pl2 (by rfl) rfl rfl (fun K hK => ?_))
          go_simp
          intro nA
          refine ⟨(bdrew C1_63 _).alloc (by have := C1_63.size; simp <;> omega) _, hK _ _ ?_⟩
          clear hK K
          refine plan_at (fun v1_64 hA => ?_)
          obtain ⟨Q, A0, z0⟩ := zbox_new hA
          clear hA
          have A : Below v1_63.heap.size v1_63 v1_64 := (bdrew (Below.refl _ _) _).trans A0
          clear A0
          have Q : Zbox v1_64 v1_63.heap.size := Q
          have z0 : v1_63.heap.size < v1_64.heap.size := z0
          have B1_64 := Q
          clear Q
          have C1_64 := C1_63.trans (A.mono C1_63.size)
          have T1_64 := T1_63.trans (A.mono T1_63.size)
          have K1_21 := K1_21.below A
          have K1_42 := K1_42.below A
          have K1_63 := K1_63.below A
          have zz1_64 := A.size
          clear A
          refine plan_only (pl2 (by rfl) rfl rfl (fun K hK => ?_))
          obtain ⟨⟨q0, q1, q2, q3⟩, q4, q5, q6⟩ := B1_64
          go_simp
          intro nS
          have B1_64 : Zbox v1_64 v1_63.heap.size := ⟨⟨q0, q1, q2, q3⟩, q4, q5, q6⟩
          clear q0 q1 q2 q3 q4 q5 q6
          refine ⟨(((bdrew C1_64 _).setCell (by simp <;> omega) _).setCell (by simp <;> omega) _).setCell (by simp <;> omega) _, hK _ _ ?_⟩
          clear hK K
          refine plan_fin (fun nF => ?_)
          go_wp2_with fail
          go_meet
          obtain ⟨X, Y, Z⟩ := par_end (r := R0) (c := C0) C1_64 (by omega) B1_64 K1_63 (by omega) (by omega) nS nF
          exact ⟨_, _, _, _, rfl, rfl, X, Y, E1_63.out, Z⟩
  case rest =>
  obtain ⟨bb1, b1, p1, ys1, rfl, rfl, Q, R, E0, A⟩ := hcut
  generalize wc = w5 at *
  have E1h := Lib.hid E0
  clear E0
  have lt1 := Q.lt
  have Y1 := Lib.hid Q
  clear Q
  have T := T.trans (A.mono T.size)
  have X0 := Lib.hid (X0.out.below A)
  have X1 := Lib.hid (X1.out.below A)
  have zw5 := A.size
  clear A
  have K1 := R
  clear R
  obtain ⟨X00, X01, X02, X03⟩ := X0.out
  go_wp2_with fail
  clear X00 X01 X02 X03
  refine (toTens _ _ _ _ _ _ _ hn0 (h0.below T)).mono ?_
  rintro e w6 ⟨g2, rfl, R, A⟩
  have T := T.trans (A.mono T.size)
  have K1 := K1.below A
  have X0 := Lib.hid (X0.out.below A)
  have X1 := Lib.hid (X1.out.below A)
  have Y1 := Lib.hid (Y1.out.below A)
  have zw6 := A.size
  clear A
  have K2 := R
  clear R
  obtain ⟨X10, X11, X12, X13⟩ := X1.out
  go_wp2_with fail
  clear X10 X11 X12 X13
  refine calls_at ?_
  intro w7 hA
  obtain ⟨Q, A, z1, z2⟩ := box_new (r := ro0) (c := co0) (a := (some ⟨g2, 0, none⟩)) (n := n0) (cap := n0) hA
  clear hA
  have Z0 := Lib.hid Q
  clear Q
  have T := T.trans (A.mono T.size)
  have K1 := K1.below A
  have K2 := K2.below A
  have X0 := Lib.hid (X0.out.below A)
  have X1 := Lib.hid (X1.out.below A)
  have Y1 := Lib.hid (Y1.out.below A)
  have zw7 := A.size
  clear A
  have yw7 := z1
  have xw7 := z2
  clear z1 z2
  refine (toTens _ _ _ _ _ _ _ hn1 (h1.below T)).mono ?_
  rintro e w8 ⟨g3, rfl, R, A⟩
  have T := T.trans (A.mono T.size)
  have K1 := K1.below A
  have K2 := K2.below A
  have X0 := Lib.hid (X0.out.below A)
  have X1 := Lib.hid (X1.out.below A)
  have Y1 := Lib.hid (Y1.out.below A)
  have Z0 := Lib.hid (Z0.out.below A)
  have zw8 := A.size
  clear A
  have K3 := R
  clear R
  obtain ⟨Z00, Z01, Z02, Z03⟩ := Z0.out
  go_wp2_with fail
  clear Z00 Z01 Z02 Z03
  refine calls_at ?_
  intro w9 hA
  obtain ⟨Q, A, z1, z2⟩ := box_new (r := ro1) (c := co1) (a := (some ⟨g3, 0, none⟩)) (n := n1) (cap := n1) hA
  clear hA
  have Z1 := Lib.hid Q
  clear Q
  have T := T.trans (A.mono T.size)
  have K1 := K1.below A
  have K2 := K2.below A
  have K3 := K3.below A
  have X0 := Lib.hid (X0.out.below A)
  have X1 := Lib.hid (X1.out.below A)
  have Y1 := Lib.hid (Y1.out.below A)
  have Z0 := Lib.hid (Z0.out.below A)
  have zw9 := A.size
  clear A
  have yw9 := z1
  have xw9 := z2
  clear z1 z2
  refine (hi w9 _ _ _ _ K2.fs K3.fs).mono ?_
  rintro e w10 ⟨b4, p4, ys4, rfl, R, E4, A⟩
  have T := T.trans (A.mono T.size)
  have K1 := K1.below A
  have K2 := K2.below A
  have K3 := K3.below A
  have X0 := Lib.hid (X0.out.below A)
  have X1 := Lib.hid (X1.out.below A)
  have Y1 := Lib.hid (Y1.out.below A)
  have Z0 := Lib.hid (Z0.out.below A)
  have Z1 := Lib.hid (Z1.out.below A)
  have zw10 := A.size
  clear A
  have K4 := R
  clear R
  have E4h := Lib.hid E4
  clear E4
  obtain ⟨Y10, Y11, Y12, Y13⟩ := Y1.out
  go_wp2_with fail
  clear Y10 Y11 Y12 Y13
  refine calls_at ?_
  intro w11 hA
  obtain ⟨Q, A, z1, z2⟩ := box_new (r := R0) (c := C0) (a := b4) (n := S.length) (cap := p4) hA
  clear hA
  have Y4 := Lib.hid Q
  clear Q
  have T := T.trans (A.mono T.size)
  have K1 := K1.below A
  have K2 := K2.below A
  have K3 := K3.below A
  have K4 := K4.below A
  have X0 := Lib.hid (X0.out.below A)
  have X1 := Lib.hid (X1.out.below A)
  have Y1 := Lib.hid (Y1.out.below A)
  have Z0 := Lib.hid (Z0.out.below A)
  have Z1 := Lib.hid (Z1.out.below A)
  have zw11 := A.size
  clear A
  have yw11 := z1
  have xw11 := z2
  clear z1 z2
  refine (eqTens _ _ _ _ _ _ _ _ _ _ hS K4.fs K1.fs (E4h.out.trans E1h.out.symm)).mono ?_
  rintro e w12 ⟨rfl, A⟩
  have T := T.trans (A.mono T.size)
  have K1 := K1.below A
  have K2 := K2.below A
  have K3 := K3.below A
  have K4 := K4.below A
  have X0 := Lib.hid (X0.out.below A)
  have X1 := Lib.hid (X1.out.below A)
  have Y1 := Lib.hid (Y1.out.below A)
  have Z0 := Lib.hid (Z0.out.below A)
  have Z1 := Lib.hid (Z1.out.below A)
  have Y4 := Lib.hid (Y4.out.below A)
  have zw12 := A.size
  clear A
  go_wp2_with fail
  refine wp_bl 4 [0, 0, 2, 2, 0] (by kernel_rfl) (by kernel_rfl) ?_
  simp only [List.take_succ_cons, List.take_zero, List.drop_succ_cons, List.drop_zero]
  with_reducible refine bl_step ?_
  intro K hK
  go_simp
  refine ⟨.agg #[.int .i64 ro0, .int .i64 co0, .slice (some ⟨g2, 0, none⟩) n0 n0], fun w' hw' => ?_, hK _ _ ?_⟩
  · obtain ⟨q0, q1, q2, q3⟩ := Z0.out.below hw'
    go_simp
  clear hK K
  with_reducible refine bl_step ?_
  intro K hK
  go_simp
  refine ⟨.agg #[.int .i64 ro0, .int .i64 co0, .slice a0 n0 c0], fun w' hw' => ?_, hK _ _ ?_⟩
  · obtain ⟨q0, q1, q2, q3⟩ := X0.out.below hw'
    go_simp
  clear hK K
  with_reducible refine bl_step ?_
  intro K hK
  go_simp
  intro _
  refine (toTens _ _ _ _ _ _ _ hn0 ((h0.below T).drew _)).mono ?_
  rintro e w13 ⟨g5, rfl, R, A0⟩
  have A := (bdrew (Below.refl _ _) _).trans A0
  clear A0
  refine ⟨_, rfl, A, hK _ _ ?_⟩
  clear hK K
  have BL : Below w12.heap.size w12 w13 := A
  have T := T.trans (A.mono T.size)
  have K1 := K1.below A
  have K2 := K2.below A
  have K3 := K3.below A
  have K4 := K4.below A
  have X0 := Lib.hid (X0.out.below A)
  have X1 := Lib.hid (X1.out.below A)
  have Y1 := Lib.hid (Y1.out.below A)
  have Z0 := Lib.hid (Z0.out.below A)
  have Z1 := Lib.hid (Z1.out.below A)
  have Y4 := Lib.hid (Y4.out.below A)
  have zw13 := A.size
  clear A
  have K5 := R
  clear R
  with_reducible refine bl_step ?_
  intro K hK
  go_simp
  intro _
  refine (eqTens _ _ _ _ _ _ _ _ _ _ hn0 (K2.fs.drew _) (K5.fs.drew _) rfl).mono ?_
  rintro e w14 ⟨rfl, A0⟩
  have A := (bdrew (Below.refl _ _) _).trans A0
  clear A0
  refine ⟨_, rfl, BL.trans (A.mono BL.size), hK _ _ ?_⟩
  clear hK K BL
  have T := T.trans (A.mono T.size)
  have K1 := K1.below A
  have K2 := K2.below A
  have K3 := K3.below A
  have K4 := K4.below A
  have K5 := K5.below A
  have X0 := Lib.hid (X0.out.below A)
  have X1 := Lib.hid (X1.out.below A)
  have Y1 := Lib.hid (Y1.out.below A)
  have Z0 := Lib.hid (Z0.out.below A)
  have Z1 := Lib.hid (Z1.out.below A)
  have Y4 := Lib.hid (Y4.out.below A)
  have zw14 := A.size
  clear A
  with_reducible refine wpR_nil (fun nq => ?_)
  generalize hA : w14.drewN nq = w15
  have A := below_of_drew hA.symm
  clear hA
  have T := T.trans (A.mono T.size)
  have K1 := K1.below A
  have K2 := K2.below A
  have K3 := K3.below A
  have K4 := K4.below A
  have K5 := K5.below A
  have X0 := Lib.hid (X0.out.below A)
  have X1 := Lib.hid (X1.out.below A)
  have Y1 := Lib.hid (Y1.out.below A)
  have Z0 := Lib.hid (Z0.out.below A)
  have Z1 := Lib.hid (Z1.out.below A)
  have Y4 := Lib.hid (Y4.out.below A)
  have zw15 := A.size
  clear A
  go_wp2_with fail
  refine wp_bl 4 [0, 0, 2, 2, 0] (by kernel_rfl) (by kernel_rfl) ?_
  simp only [List.take_succ_cons, List.take_zero, List.drop_succ_cons, List.drop_zero]
  with_reducible refine bl_step ?_
  intro K hK
  go_simp
  refine ⟨.agg #[.int .i64 ro1, .int .i64 co1, .slice (some ⟨g3, 0, none⟩) n1 n1], fun w' hw' => ?_, hK _ _ ?_⟩
  · obtain ⟨q0, q1, q2, q3⟩ := Z1.out.below hw'
    go_simp
  clear hK K
  with_reducible refine bl_step ?_
  intro K hK
  go_simp
  refine ⟨.agg #[.int .i64 ro1, .int .i64 co1, .slice a1 n1 c1], fun w' hw' => ?_, hK _ _ ?_⟩
  · obtain ⟨q0, q1, q2, q3⟩ := X1.out.below hw'
    go_simp
  clear hK K
  with_reducible refine bl_step ?_
  intro K hK
  go_simp
  intro _
  refine (toTens _ _ _ _ _ _ _ hn1 ((h1.below T).drew _)).mono ?_
  rintro e w16 ⟨g6, rfl, R, A0⟩
  have A := (bdrew (Below.refl _ _) _).trans A0
  clear A0
  refine ⟨_, rfl, A, hK _ _ ?_⟩
  clear hK K
  have BL : Below w15.heap.size w15 w16 := A
  have T := T.trans (A.mono T.size)
  have K1 := K1.below A
  have K2 := K2.below A
  have K3 := K3.below A
  have K4 := K4.below A
  have K5 := K5.below A
  have X0 := Lib.hid (X0.out.below A)
  have X1 := Lib.hid (X1.out.below A)
  have Y1 := Lib.hid (Y1.out.below A)
  have Z0 := Lib.hid (Z0.out.below A)
  have Z1 := Lib.hid (Z1.out.below A)
  have Y4 := Lib.hid (Y4.out.below A)
  have zw16 := A.size
  clear A
  have K6 := R
  clear R
  with_reducible refine bl_step ?_
  intro K hK
  go_simp
  intro _
  refine (eqTens _ _ _ _ _ _ _ _ _ _ hn1 (K3.fs.drew _) (K6.fs.drew _) rfl).mono ?_
  rintro e w17 ⟨rfl, A0⟩
  have A := (bdrew (Below.refl _ _) _).trans A0
  clear A0
  refine ⟨_, rfl, BL.trans (A.mono BL.size), hK _ _ ?_⟩
  clear hK K BL
  have T := T.trans (A.mono T.size)
  have K1 := K1.below A
  have K2 := K2.below A
  have K3 := K3.below A
  have K4 := K4.below A
  have K5 := K5.below A
  have K6 := K6.below A
  have X0 := Lib.hid (X0.out.below A)
  have X1 := Lib.hid (X1.out.below A)
  have Y1 := Lib.hid (Y1.out.below A)
  have Z0 := Lib.hid (Z0.out.below A)
  have Z1 := Lib.hid (Z1.out.below A)
  have Y4 := Lib.hid (Y4.out.below A)
  have zw17 := A.size
  clear A
  with_reducible refine wpR_nil (fun nq => ?_)
  generalize hA : w17.drewN nq = w18
  have A := below_of_drew hA.symm
  clear hA
  have T := T.trans (A.mono T.size)
  have K1 := K1.below A
  have K2 := K2.below A
  have K3 := K3.below A
  have K4 := K4.below A
  have K5 := K5.below A
  have K6 := K6.below A
  have X0 := Lib.hid (X0.out.below A)
  have X1 := Lib.hid (X1.out.below A)
  have Y1 := Lib.hid (Y1.out.below A)
  have Z0 := Lib.hid (Z0.out.below A)
  have Z1 := Lib.hid (Z1.out.below A)
  have Y4 := Lib.hid (Y4.out.below A)
  have zw18 := A.size
  clear A
  clear K5 K6
  obtain ⟨Z00, Z01, Z02, Z03⟩ := Z0.out
  go_wp2_with fail
  clear Z00 Z01 Z02 Z03
  refine (markTens _ _ _ _ _ _ _ _ (1) _ hn0 (by omega) K2).mono ?_
  rintro e w19 ⟨rfl, R, A⟩
  have z := A.size
  have t := T.size
  have T := T.trans (A.below (by omega) (by omega))
  have K1 := K1.keep A (by omega)
  have K3 := K3.keep A (by omega)
  have K4 := K4.keep A (by omega)
  have X0 := Lib.hid (X0.out.keep A (by omega))
  have X1 := Lib.hid (X1.out.keep A (by omega))
  have Y1 := Lib.hid (Y1.out.keep A (by omega))
  have Z0 := Lib.hid (Z0.out.keep A (by omega))
  have Z1 := Lib.hid (Z1.out.keep A (by omega))
  have Y4 := Lib.hid (Y4.out.keep A (by omega))
  have K2 := R
  have zw19 := z
  clear A R z t
  obtain ⟨Z10, Z11, Z12, Z13⟩ := Z1.out
  go_wp2_with fail
  clear Z10 Z11 Z12 Z13
  refine (markTens _ _ _ _ _ _ _ _ (1 + (n0 : Int)) _ hn1 (by omega) K3).mono ?_
  rintro e w20 ⟨rfl, R, A⟩
  have z := A.size
  have t := T.size
  have T := T.trans (A.below (by omega) (by omega))
  have K1 := K1.keep A (by omega)
  have K2 := K2.keep A (by omega)
  have K4 := K4.keep A (by omega)
  have X0 := Lib.hid (X0.out.keep A (by omega))
  have X1 := Lib.hid (X1.out.keep A (by omega))
  have Y1 := Lib.hid (Y1.out.keep A (by omega))
  have Z0 := Lib.hid (Z0.out.keep A (by omega))
  have Z1 := Lib.hid (Z1.out.keep A (by omega))
  have Y4 := Lib.hid (Y4.out.keep A (by omega))
  have K3 := R
  have zw20 := z
  clear A R z t
  obtain ⟨Y40, Y41, Y42, Y43⟩ := Y4.out
  obtain ⟨Y10, Y11, Y12, Y13⟩ := Y1.out
  go_wp2_with fail
  clear Y40 Y41 Y42 Y43 Y10 Y11 Y12 Y13
  refine (eqTens _ _ _ _ _ _ _ _ _ _ hS K4.fs K1.fs (E4h.out.trans E1h.out.symm)).mono ?_
  rintro e w21 ⟨rfl, A⟩
  have T := T.trans (A.mono T.size)
  have K1 := K1.below A
  have K2 := K2.below A
  have K3 := K3.below A
  have K4 := K4.below A
  have X0 := Lib.hid (X0.out.below A)
  have X1 := Lib.hid (X1.out.below A)
  have Y1 := Lib.hid (Y1.out.below A)
  have Z0 := Lib.hid (Z0.out.below A)
  have Z1 := Lib.hid (Z1.out.below A)
  have Y4 := Lib.hid (Y4.out.below A)
  have zw21 := A.size
  clear A
  obtain ⟨Y40, Y41, Y42, Y43⟩ := Y4.out
  go_wp2_with fail
  clear Y40 Y41 Y42 Y43
  refine (markTens _ _ _ _ _ _ _ _ 1 _ hS (by omega) K4).mono ?_
  rintro e w22 ⟨rfl, R, A⟩
  have z := A.size
  have t := T.size
  have T := T.trans (A.below (by omega) (by omega))
  have K1 := K1.keep A (by omega)
  have K2 := K2.keep A (by omega)
  have K3 := K3.keep A (by omega)
  have X0 := Lib.hid (X0.out.keep A (by omega))
  have X1 := Lib.hid (X1.out.keep A (by omega))
  have Y1 := Lib.hid (Y1.out.keep A (by omega))
  have Z0 := Lib.hid (Z0.out.keep A (by omega))
  have Z1 := Lib.hid (Z1.out.keep A (by omega))
  have Y4 := Lib.hid (Y4.out.keep A (by omega))
  have K4 := R
  have zw22 := z
  clear A R z t
  obtain ⟨Y40, Y41, Y42, Y43⟩ := Y4.out
  go_wp2_with fail
  clear Y40 Y41 Y42 Y43
  refine (heldTens _ _ _ _ _ 1 _ hS (by omega) K4.fs).mono ?_
  rintro e w23 ⟨rfl, A⟩
  have T := T.trans (A.mono T.size)
  have K1 := K1.below A
  have K2 := K2.below A
  have K3 := K3.below A
  have K4 := K4.below A
  have X0 := Lib.hid (X0.out.below A)
  have X1 := Lib.hid (X1.out.below A)
  have Y1 := Lib.hid (Y1.out.below A)
  have Z0 := Lib.hid (Z0.out.below A)
  have Z1 := Lib.hid (Z1.out.below A)
  have Y4 := Lib.hid (Y4.out.below A)
  have zw23 := A.size
  clear A
  go_wp2_with fail
  go_cut [15, 16] from 94 to 101 (fun sb sk wx => ∃ bb bq pq yq, sb = .pointer (some ⟨bb, 0, none⟩) ∧ sk = .bool ok ∧ Box wx bb R0 C0 bq S.length pq ∧ Row wx w23.heap.size wx.heap.size 45 (.slice bq S.length pq) S.length yq ∧ yq.map (cn .f32) = S.map (cn .f32) ∧ Below w23.heap.size w23 wx)
  case first =>
    refine wp_plan 10 [0, 2, 0, 2, 2, 0, 0, 0, 2, 2, 0] (.go 0 (.go 2 (.either 8 1 (.only 1 (.only 3 (.only 4 (.go 5 (.go 6 (.go 7 (.only 9 .fin))))))) (.either 8 3 (.only 3 (.only 4 (.go 5 (.go 6 (.go 7 (.only 9 .fin)))))) (.either 8 4 (.only 4 (.go 5 (.go 6 (.go 7 (.only 9 .fin))))) (.go 5 (.go 6 (.go 7 (.only 8 (.only 9 .fin)))))))))) (Bl w23) (by kernel_rfl) (by kernel_rfl) (Bl.refl _) Bl.drew ?_
    simp only [List.drop_succ_cons, List.drop_zero]
    refine plan_go (pl0 (v := ?_) (by rfl) rfl rfl (fun w' hw' => ?_) (fun K hK => ?_))
    rotate_left
    · obtain ⟨q0, q1, q2, q3⟩ := X0.out.below hw'
      go_simp
      rfl
    go_simp
    refine hK _ _ ?_
    clear hK K
    refine plan_go (pl0 (v := ?_) (by rfl) rfl rfl (fun w' hw' => ?_) (fun K hK => ?_))
    rotate_left
    · obtain ⟨q0, q1, q2, q3⟩ := X1.out.below hw'
      go_simp
      rfl
    go_simp
    refine hK _ _ ?_
    clear hK K
    have C7_0 : Below w23.heap.size w23 w23 := Below.refl _ _
    refine plan_either ?_ ?_
    · skip
      refine pl2 (by rfl) rfl rfl (fun K hK => ?_)
      go_simp
      intro nA
      refine ⟨(bdrew C7_0 _).alloc (by have := C7_0.size; simp <;> omega) _, hK _ _ ?_⟩
      clear hK K
      refine plan_at (fun v7_1 hA => ?_)
      obtain ⟨Q, A0, z0⟩ := zbox_new hA
      clear hA
      have A : Below w23.heap.size w23 v7_1 := (bdrew (Below.refl _ _) _).trans A0
      clear A0
      have Q : Zbox v7_1 w23.heap.size := Q
      have z0 : w23.heap.size < v7_1.heap.size := z0
      have B7_1 := Q
      clear Q
      have C7_1 := C7_0.trans (A.mono C7_0.size)
      have T7_1 := T.trans (A.mono T.size)
      have zz7_1 := A.size
      clear A
      refine plan_only (pl2 (by rfl) rfl rfl (fun K hK => ?_))
      go_simp
      intro nA
      refine (toTens _ _ _ _ _ _ _ hn0 ((h0.below T7_1).drew _)).mono ?_
      rintro e v7_2 ⟨g7_2, rfl, R, A0⟩
      have A : Below v7_1.heap.size v7_1 v7_2 := (bdrew (Below.refl _ _) _).trans A0
      clear A0
      refine ⟨_, rfl, C7_1.trans (A.mono C7_1.size), hK _ _ ?_⟩
      clear hK K
      have C7_2 := C7_1.trans (A.mono C7_1.size)
      have T7_2 := T7_1.trans (A.mono T7_1.size)
      have B7_1 := B7_1.below A
      have zz7_2 := A.size
      clear A
      have K7_2 : Row v7_2 v7_1.heap.size v7_2.heap.size 45 _ _ _ := R
      clear R
      refine plan_only (pl2 (by rfl) rfl rfl (fun K hK => ?_))
      go_simp
      intro nA
      refine (toTens _ _ _ _ _ _ _ hn1 ((h1.below T7_2).drew _)).mono ?_
      rintro e v7_3 ⟨g7_3, rfl, R, A0⟩
      have A : Below v7_2.heap.size v7_2 v7_3 := (bdrew (Below.refl _ _) _).trans A0
      clear A0
      refine ⟨_, rfl, C7_2.trans (A.mono C7_2.size), hK _ _ ?_⟩
      clear hK K
      have C7_3 := C7_2.trans (A.mono C7_2.size)
      have T7_3 := T7_2.trans (A.mono T7_2.size)
      have K7_2 := K7_2.below A
      have B7_1 := B7_1.below A
      have zz7_3 := A.size
      clear A
      have K7_3 : Row v7_3 v7_2.heap.size v7_3.heap.size 45 _ _ _ := R
      clear R
      refine plan_only (pl2 (by rfl) rfl rfl (fun K hK => ?_))
      go_simp
      intro nA
      refine (hi _ _ _ _ _ (K7_2.fs.drew _) (K7_3.fs.drew _)).mono ?_
      rintro e v7_4 ⟨b7_4, p7_4, ys7_4, rfl, R, E0, A0⟩
      have E7_4 := Lib.hid E0
      clear E0
      have A : Below v7_3.heap.size v7_3 v7_4 := (bdrew (Below.refl _ _) _).trans A0
      clear A0
      refine ⟨_, rfl, C7_3.trans (A.mono C7_3.size), hK _ _ ?_⟩
      clear hK K
      have C7_4 := C7_3.trans (A.mono C7_3.size)
      have T7_4 := T7_3.trans (A.mono T7_3.size)
      have K7_2 := K7_2.below A
      have K7_3 := K7_3.below A
      have B7_1 := B7_1.below A
      have zz7_4 := A.size
      clear A
      have K7_4 : Row v7_4 v7_3.heap.size v7_4.heap.size 45 _ _ _ := R
      clear R
      refine plan_go (pl0 (v := ?_) (by rfl) rfl rfl (fun w' hw' => ?_) (fun K hK => ?_))
      rotate_left
      · go_simp
        rfl
      go_simp
      refine hK _ _ ?_
      clear hK K
      refine plan_go (pl0 (v := ?_) (by rfl) rfl rfl (fun w' hw' => ?_) (fun K hK => ?_))
      rotate_left
      · go_simp
        rfl
      go_simp
      refine hK _ _ ?_
      clear hK K
      refine plan_go (pl0 (v := ?_) (by rfl) rfl rfl (fun w' hw' => ?_) (fun K hK => ?_))
      rotate_left
      · go_simp
        rfl
      go_simp
      refine hK _ _ ?_
      clear hK K
      refine plan_only (pl2 (by rfl) rfl rfl (fun K hK => ?_))
      obtain ⟨⟨q0, q1, q2, q3⟩, q4, q5, q6⟩ := B7_1
      go_simp
      intro nS
      have B7_1 : Zbox v7_4 w23.heap.size := ⟨⟨q0, q1, q2, q3⟩, q4, q5, q6⟩
      clear q0 q1 q2 q3 q4 q5 q6
      refine ⟨(((bdrew C7_4 _).setCell (by simp <;> omega) _).setCell (by simp <;> omega) _).setCell (by simp <;> omega) _, hK _ _ ?_⟩
      clear hK K
      refine plan_fin (fun nF => ?_)
      go_wp2_with fail
      go_meet
      obtain ⟨X, Y, Z⟩ := par_end (r := R0) (c := C0) C7_4 (by omega) B7_1 K7_4 (by omega) (by omega) nS nF
      exact ⟨_, _, _, _, rfl, rfl, X, Y, E7_4.out, Z⟩
    · skip
      refine pl2 (by rfl) rfl rfl (fun K hK => ?_)
      go_simp
      intro nA
      refine (toTens _ _ _ _ _ _ _ hn0 ((h0.below T).drew _)).mono ?_
      rintro e v7_21 ⟨g7_21, rfl, R, A0⟩
      have A : Below w23.heap.size w23 v7_21 := (bdrew (Below.refl _ _) _).trans A0
      clear A0
      refine ⟨_, rfl, C7_0.trans (A.mono C7_0.size), hK _ _ ?_⟩
      clear hK K
      have C7_21 := C7_0.trans (A.mono C7_0.size)
      have T7_21 := T.trans (A.mono T.size)
      have zz7_21 := A.size
      clear A
      have K7_21 : Row v7_21 w23.heap.size v7_21.heap.size 45 _ _ _ := R
      clear R
      refine plan_either ?_ ?_
      · skip
        refine pl2 (by rfl) rfl rfl (fun K hK => ?_)
        go_simp
        intro nA
        refine ⟨(bdrew C7_21 _).alloc (by have := C7_21.size; simp <;> omega) _, hK _ _ ?_⟩
        clear hK K
        refine plan_at (fun v7_22 hA => ?_)
        obtain ⟨Q, A0, z0⟩ := zbox_new hA
        clear hA
        have A : Below v7_21.heap.size v7_21 v7_22 := (bdrew (Below.refl _ _) _).trans A0
        clear A0
        have Q : Zbox v7_22 v7_21.heap.size := Q
        have z0 : v7_21.heap.size < v7_22.heap.size := z0
        have B7_22 := Q
        clear Q
        have C7_22 := C7_21.trans (A.mono C7_21.size)
        have T7_22 := T7_21.trans (A.mono T7_21.size)
        have K7_21 := K7_21.below A
        have zz7_22 := A.size
        clear A
        refine plan_only (pl2 (by rfl) rfl rfl (fun K hK => ?_))
        go_simp
        intro nA
        refine (toTens _ _ _ _ _ _ _ hn1 ((h1.below T7_22).drew _)).mono ?_
        rintro e v7_23 ⟨g7_23, rfl, R, A0⟩
        have A : Below v7_22.heap.size v7_22 v7_23 := (bdrew (Below.refl _ _) _).trans A0
        clear A0
        refine ⟨_, rfl, C7_22.trans (A.mono C7_22.size), hK _ _ ?_⟩
        clear hK K
        have C7_23 := C7_22.trans (A.mono C7_22.size)
        have T7_23 := T7_22.trans (A.mono T7_22.size)
        have K7_21 := K7_21.below A
        have B7_22 := B7_22.below A
        have zz7_23 := A.size
        clear A
        have K7_23 : Row v7_23 v7_22.heap.size v7_23.heap.size 45 _ _ _ := R
        clear R
        refine plan_only (pl2 (by rfl) rfl rfl (fun K hK => ?_))
        go_simp
        intro nA
        refine (hi _ _ _ _ _ (K7_21.fs.drew _) (K7_23.fs.drew _)).mono ?_
        rintro e v7_24 ⟨b7_24, p7_24, ys7_24, rfl, R, E0, A0⟩
        have E7_24 := Lib.hid E0
        clear E0
        have A : Below v7_23.heap.size v7_23 v7_24 := (bdrew (Below.refl _ _) _).trans A0
        clear A0
        refine ⟨_, rfl, C7_23.trans (A.mono C7_23.size), hK _ _ ?_⟩
        clear hK K
        have C7_24 := C7_23.trans (A.mono C7_23.size)
        have T7_24 := T7_23.trans (A.mono T7_23.size)
        have K7_21 := K7_21.below A
        have K7_23 := K7_23.below A
        have B7_22 := B7_22.below A
        have zz7_24 := A.size
        clear A
        have K7_24 : Row v7_24 v7_23.heap.size v7_24.heap.size 45 _ _ _ := R
        clear R
        refine plan_go (pl0 (v := ?_) (by rfl) rfl rfl (fun w' hw' => ?_) (fun K hK => ?_))
        rotate_left
        · go_simp
          rfl
        go_simp
        refine hK _ _ ?_
        clear hK K
        refine plan_go (pl0 (v := ?_) (by rfl) rfl rfl (fun w' hw' => ?_) (fun K hK => ?_))
        rotate_left
        · go_simp
          rfl
        go_simp
        refine hK _ _ ?_
        clear hK K
        refine plan_go (pl0 (v := ?_) (by rfl) rfl rfl (fun w' hw' => ?_) (fun K hK => ?_))
        rotate_left
        · go_simp
          rfl
        go_simp
        refine hK _ _ ?_
        clear hK K
        refine plan_only (pl2 (by rfl) rfl rfl (fun K hK => ?_))
        obtain ⟨⟨q0, q1, q2, q3⟩, q4, q5, q6⟩ := B7_22
        go_simp
        intro nS
        have B7_22 : Zbox v7_24 v7_21.heap.size := ⟨⟨q0, q1, q2, q3⟩, q4, q5, q6⟩
        clear q0 q1 q2 q3 q4 q5 q6
        refine ⟨(((bdrew C7_24 _).setCell (by simp <;> omega) _).setCell (by simp <;> omega) _).setCell (by simp <;> omega) _, hK _ _ ?_⟩
        clear hK K
        refine plan_fin (fun nF => ?_)
        go_wp2_with fail
        go_meet
        obtain ⟨X, Y, Z⟩ := par_end (r := R0) (c := C0) C7_24 (by omega) B7_22 K7_24 (by omega) (by omega) nS nF
        exact ⟨_, _, _, _, rfl, rfl, X, Y, E7_24.out, Z⟩
      · skip
        refine pl2 (by rfl) rfl rfl (fun K hK => ?_)
        go_simp
        intro nA
        refine (toTens _ _ _ _ _ _ _ hn1 ((h1.below T7_21).drew _)).mono ?_
        rintro e v7_42 ⟨g7_42, rfl, R, A0⟩
        have A : Below v7_21.heap.size v7_21 v7_42 := (bdrew (Below.refl _ _) _).trans A0
        clear A0
        refine ⟨_, rfl, C7_21.trans (A.mono C7_21.size), hK _ _ ?_⟩
        clear hK K
        have C7_42 := C7_21.trans (A.mono C7_21.size)
        have T7_42 := T7_21.trans (A.mono T7_21.size)
        have K7_21 := K7_21.below A
        have zz7_42 := A.size
        clear A
        have K7_42 : Row v7_42 v7_21.heap.size v7_42.heap.size 45 _ _ _ := R
        clear R
        refine plan_either ?_ ?_
        · skip
          refine pl2 (by rfl) rfl rfl (fun K hK => ?_)
          go_simp
          intro nA
          refine ⟨(bdrew C7_42 _).alloc (by have := C7_42.size; simp <;> omega) _, hK _ _ ?_⟩
          clear hK K
          refine plan_at (fun v7_43 hA => ?_)
          obtain ⟨Q, A0, z0⟩ := zbox_new hA
          clear hA
          have A : Below v7_42.heap.size v7_42 v7_43 := (bdrew (Below.refl _ _) _).trans A0
          clear A0
          have Q : Zbox v7_43 v7_42.heap.size := Q
          have z0 : v7_42.heap.size < v7_43.heap.size := z0
          have B7_43 := Q
          clear Q
          have C7_43 := C7_42.trans (A.mono C7_42.size)
          have T7_43 := T7_42.trans (A.mono T7_42.size)
          have K7_21 := K7_21.below A
          have K7_42 := K7_42.below A
          have zz7_43 := A.size
          clear A
          refine plan_only (pl2 (by rfl) rfl rfl (fun K hK => ?_))
          go_simp
          intro nA
          refine (hi _ _ _ _ _ (K7_21.fs.drew _) (K7_42.fs.drew _)).mono ?_
          rintro e v7_44 ⟨b7_44, p7_44, ys7_44, rfl, R, E0, A0⟩
          have E7_44 := Lib.hid E0
          clear E0
          have A : Below v7_43.heap.size v7_43 v7_44 := (bdrew (Below.refl _ _) _).trans A0
          clear A0
          refine ⟨_, rfl, C7_43.trans (A.mono C7_43.size), hK _ _ ?_⟩
          clear hK K
          have C7_44 := C7_43.trans (A.mono C7_43.size)
          have T7_44 := T7_43.trans (A.mono T7_43.size)
          have K7_21 := K7_21.below A
          have K7_42 := K7_42.below A
          have B7_43 := B7_43.below A
          have zz7_44 := A.size
          clear A
          have K7_44 : Row v7_44 v7_43.heap.size v7_44.heap.size 45 _ _ _ := R
          clear R
          refine plan_go (pl0 (v := ?_) (by rfl) rfl rfl (fun w' hw' => ?_) (fun K hK => ?_))
          rotate_left
          · go_simp
            rfl
          go_simp
          refine hK _ _ ?_
          clear hK K
          refine plan_go (pl0 (v := ?_) (by rfl) rfl rfl (fun w' hw' => ?_) (fun K hK => ?_))
          rotate_left
          · go_simp
            rfl
          go_simp
          refine hK _ _ ?_
          clear hK K
          refine plan_go (pl0 (v := ?_) (by rfl) rfl rfl (fun w' hw' => ?_) (fun K hK => ?_))
          rotate_left
          · go_simp
            rfl
          go_simp
          refine hK _ _ ?_
          clear hK K
          refine plan_only (pl2 (by rfl) rfl rfl (fun K hK => ?_))
          obtain ⟨⟨q0, q1, q2, q3⟩, q4, q5, q6⟩ := B7_43
          go_simp
          intro nS
          have B7_43 : Zbox v7_44 v7_42.heap.size := ⟨⟨q0, q1, q2, q3⟩, q4, q5, q6⟩
          clear q0 q1 q2 q3 q4 q5 q6
          refine ⟨(((bdrew C7_44 _).setCell (by simp <;> omega) _).setCell (by simp <;> omega) _).setCell (by simp <;> omega) _, hK _ _ ?_⟩
          clear hK K
          refine plan_fin (fun nF => ?_)
          go_wp2_with fail
          go_meet
          obtain ⟨X, Y, Z⟩ := par_end (r := R0) (c := C0) C7_44 (by omega) B7_43 K7_44 (by omega) (by omega) nS nF
          exact ⟨_, _, _, _, rfl, rfl, X, Y, E7_44.out, Z⟩
        · skip
          refine pl2 (by rfl) rfl rfl (fun K hK => ?_)
          go_simp
          intro nA
          refine (hi _ _ _ _ _ (K7_21.fs.drew _) (K7_42.fs.drew _)).mono ?_
          rintro e v7_63 ⟨b7_63, p7_63, ys7_63, rfl, R, E0, A0⟩
          have E7_63 := Lib.hid E0
          clear E0
          have A : Below v7_42.heap.size v7_42 v7_63 := (bdrew (Below.refl _ _) _).trans A0
          clear A0
          refine ⟨_, rfl, C7_42.trans (A.mono C7_42.size), hK _ _ ?_⟩
          clear hK K
          have C7_63 := C7_42.trans (A.mono C7_42.size)
          have T7_63 := T7_42.trans (A.mono T7_42.size)
          have K7_21 := K7_21.below A
          have K7_42 := K7_42.below A
          have zz7_63 := A.size
          clear A
          have K7_63 : Row v7_63 v7_42.heap.size v7_63.heap.size 45 _ _ _ := R
          clear R
          refine plan_go (pl0 (v := ?_) (by rfl) rfl rfl (fun w' hw' => ?_) (fun K hK => ?_))
          rotate_left
          · go_simp
            rfl
          go_simp
          refine hK _ _ ?_
          clear hK K
          refine plan_go (pl0 (v := ?_) (by rfl) rfl rfl (fun w' hw' => ?_) (fun K hK => ?_))
          rotate_left
          · go_simp
            rfl
          go_simp
          refine hK _ _ ?_
          clear hK K
          refine plan_go (pl0 (v := ?_) (by rfl) rfl rfl (fun w' hw' => ?_) (fun K hK => ?_))
          rotate_left
          · go_simp
            rfl
          go_simp
          refine hK _ _ ?_
          clear hK K
          refine plan_only (pl2 (by rfl) rfl rfl (fun K hK => ?_))
          go_simp
          intro nA
          refine ⟨(bdrew C7_63 _).alloc (by have := C7_63.size; simp <;> omega) _, hK _ _ ?_⟩
          clear hK K
          refine plan_at (fun v7_64 hA => ?_)
          obtain ⟨Q, A0, z0⟩ := zbox_new hA
          clear hA
          have A : Below v7_63.heap.size v7_63 v7_64 := (bdrew (Below.refl _ _) _).trans A0
          clear A0
          have Q : Zbox v7_64 v7_63.heap.size := Q
          have z0 : v7_63.heap.size < v7_64.heap.size := z0
          have B7_64 := Q
          clear Q
          have C7_64 := C7_63.trans (A.mono C7_63.size)
          have T7_64 := T7_63.trans (A.mono T7_63.size)
          have K7_21 := K7_21.below A
          have K7_42 := K7_42.below A
          have K7_63 := K7_63.below A
          have zz7_64 := A.size
          clear A
          refine plan_only (pl2 (by rfl) rfl rfl (fun K hK => ?_))
          obtain ⟨⟨q0, q1, q2, q3⟩, q4, q5, q6⟩ := B7_64
          go_simp
          intro nS
          have B7_64 : Zbox v7_64 v7_63.heap.size := ⟨⟨q0, q1, q2, q3⟩, q4, q5, q6⟩
          clear q0 q1 q2 q3 q4 q5 q6
          refine ⟨(((bdrew C7_64 _).setCell (by simp <;> omega) _).setCell (by simp <;> omega) _).setCell (by simp <;> omega) _, hK _ _ ?_⟩
          clear hK K
          refine plan_fin (fun nF => ?_)
          go_wp2_with fail
          go_meet
          obtain ⟨X, Y, Z⟩ := par_end (r := R0) (c := C0) C7_64 (by omega) B7_64 K7_63 (by omega) (by omega) nS nF
          exact ⟨_, _, _, _, rfl, rfl, X, Y, E7_63.out, Z⟩
  case rest =>
  obtain ⟨bb7, b7, p7, ys7, rfl, rfl, Q, R, E0, A⟩ := hcut
  generalize wc = w24 at *
  have E7h := Lib.hid E0
  clear E0
  have lt7 := Q.lt
  have Y7 := Lib.hid Q
  clear Q
  have T := T.trans (A.mono T.size)
  have K1 := K1.below A
  have K2 := K2.below A
  have K3 := K3.below A
  have K4 := K4.below A
  have X0 := Lib.hid (X0.out.below A)
  have X1 := Lib.hid (X1.out.below A)
  have Y1 := Lib.hid (Y1.out.below A)
  have Z0 := Lib.hid (Z0.out.below A)
  have Z1 := Lib.hid (Z1.out.below A)
  have Y4 := Lib.hid (Y4.out.below A)
  have zw24 := A.size
  clear A
  have K7 := R
  clear R
  obtain ⟨Y70, Y71, Y72, Y73⟩ := Y7.out
  obtain ⟨Y10, Y11, Y12, Y13⟩ := Y1.out
  go_wp2_with fail
  clear Y70 Y71 Y72 Y73 Y10 Y11 Y12 Y13
  refine (eqTens _ _ _ _ _ _ _ _ _ _ hS K7.fs K1.fs (E7h.out.trans E1h.out.symm)).mono ?_
  rintro e w25 ⟨rfl, A⟩
  have T := T.trans (A.mono T.size)
  have K1 := K1.below A
  have K2 := K2.below A
  have K3 := K3.below A
  have K4 := K4.below A
  have K7 := K7.below A
  have X0 := Lib.hid (X0.out.below A)
  have X1 := Lib.hid (X1.out.below A)
  have Y1 := Lib.hid (Y1.out.below A)
  have Z0 := Lib.hid (Z0.out.below A)
  have Z1 := Lib.hid (Z1.out.below A)
  have Y4 := Lib.hid (Y4.out.below A)
  have Y7 := Lib.hid (Y7.out.below A)
  have zw25 := A.size
  clear A
  obtain ⟨Y40, Y41, Y42, Y43⟩ := Y4.out
  go_wp2_with fail
  clear Y40 Y41 Y42 Y43
  refine (heldTens _ _ _ _ _ 1 _ hS (by omega) K4.fs).mono ?_
  rintro e w26 ⟨rfl, A⟩
  have T := T.trans (A.mono T.size)
  have K1 := K1.below A
  have K2 := K2.below A
  have K3 := K3.below A
  have K4 := K4.below A
  have K7 := K7.below A
  have X0 := Lib.hid (X0.out.below A)
  have X1 := Lib.hid (X1.out.below A)
  have Y1 := Lib.hid (Y1.out.below A)
  have Z0 := Lib.hid (Z0.out.below A)
  have Z1 := Lib.hid (Z1.out.below A)
  have Y4 := Lib.hid (Y4.out.below A)
  have Y7 := Lib.hid (Y7.out.below A)
  have zw26 := A.size
  clear A
  go_wp2
  go_ret
  exact ⟨rfl, T⟩
theorem own : ownKnob Try.prog.godebug = none := by kernel_rfl
theorem laidOut : laidOutB Try.prog = true := by kernel_rfl
set_option maxRecDepth 100000 in
theorem lifted (os : Os) (started : os.Started) (H : Type) (enc : TypeId × Value → H) :
    ReturnsInHanded {} Try.checked os 4 .any (Rows.fnExactConvolveImageSpec.pre6 enc Try.prog Try.f4 Rows.fnExactConvolveImageRow.domain false) (Rows.fnExactConvolveImageSpec.post enc Try.prog Try.f4 false true false false) := by
  refine returnsInHanded_of_change (C := Try.checked) own started (by kernel_rfl) Try.func4
    (ChangeSpec.witness6 (enc := enc) (C := Try.checked) false ⟨#[], #[.agg #[.int .i64 0, .int .i64 0, .slice none 0 0], .agg #[.int .i64 0, .int .i64 0, .slice none 0 0]], []⟩ 8 (by kernel_rfl) (by kernel_rfl) (by kernel_rfl) (by kernel_rfl)) ?_
  intro W base args ds gs before hval0 hW hcnd _
  have hval : ∀ (j : Nat) t v, Try.f4.params[j]? = some t → args[j]? = some v → Value.okWide Try.prog W .any base t v := hval0
  have hW' := hW
  obtain ⟨p, q, hA0, hV, rfl, hfz, hnd⟩ := hW
  have hA : DataW.TrodAll enc Try.prog W 0 (fun _ => true) true Try.f4.params.toList args.toList ds p := hA0
  rw [Try.params4] at hA hval
  obtain ⟨v0, vs0, d0, ds0, p0, q0, hargs, rfl, rfl, h0, r0⟩ := trodAll_cons hA
  obtain ⟨v1, vs1, d1, ds1, p1, q1, rfl, rfl, rfl, h1, r1⟩ := trodAll_cons r0
  obtain ⟨rfl, rfl, rfl⟩ := trodAll_nil r1
  obtain rfl : args = #[v0, v1] := by cases args; simp_all
  obtain ⟨rfl, rfl⟩ := trodVars_none hV
  have k0 := h0
  have lt0 : ∀ x ∈ p0, x.block < W.heap.size := by obtain ⟨m, hm⟩ := k0; exact DataW.trod_lt m _ _ _ hm
  have k1 := h1
  have lt1 : ∀ x ∈ p1, x.block < W.heap.size := by obtain ⟨m, hm⟩ := k1; exact DataW.trod_lt m _ _ _ hm
  obtain ⟨ro0, co0, a0, n0, c0, z0, rfl, f0, wr0, wc0, b0⟩ := open_tensor Try.underlying30 (by kernel_rfl) (by kernel_rfl) Try.underlying2 Try.underlying2 Try.underlying22 Try.underlying45 (by kernel_rfl) (hval 0 30 v0 rfl rfl) h0
  obtain ⟨ro1, co1, a1, n1, c1, z1, rfl, f1, wr1, wc1, b1⟩ := open_tensor Try.underlying30 (by kernel_rfl) (by kernel_rfl) Try.underlying2 Try.underlying2 Try.underlying22 Try.underlying45 (by kernel_rfl) (hval 1 30 v1 rfl rfl) h1
  clear hA0 hval0
  refine (walk W ro0 co0 a0 n0 c0 z0 f0 wr0 wc0 b0 ro1 co1 a1 n1 c1 z1 f1 wr1 wc1 b1).mono fun e W' ⟨he, bel⟩ => ?_
  subst he
  exact ⟨_, rfl, _, _, _, [], _, [], hW', trodAll_mk1 (shut_bool Try.underlying4 _), (trodAll_cons_mk (Below.trod laidOut (by kernel_rfl) (of_decide_eq_true (by kernel_rfl)) k0 bel lt0) (trodAll_cons_mk (Below.trod laidOut (by kernel_rfl) (of_decide_eq_true (by kernel_rfl)) k1 bel lt1) trodAll_mk0)), rfl, bel.frame _, fun h => by cases h⟩

theorem over : Rows.fnExactConvolveImageRow.holds Try.pinned (OpenSpec.ofChange Rows.fnExactConvolveImageSpec) :=
  OpenClaim.holds_of_wide 4 Try.f4 rfl rfl rfl rfl rfl rfl rfl ⟨rfl, rfl, rfl, rfl, rfl⟩ rfl rfl rfl rfl rfl (by kernel_rfl) Try.func4 (by kernel_rfl)
    (of_decide_eq_true (by kernel_rfl)) (by unfold Func.isWrapper; first | (rw [if_pos (by decide +kernel)]; kernel_rfl) | (rw [if_neg (by decide +kernel)]; exact ⟨rfl, rfl⟩))
    (fun os started H enc _ => lifted os started H enc)

theorem proved : Rows.FnExactConvolveImageSaid := over
end Go.Proofs.Ytfgmpodmbbnijaa.convolveImage
