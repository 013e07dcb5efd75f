/- The law FnExactAttendRows holds for every input. No conditions. -/
import Derived.Test.YtfgmpodmbbnijaaAttS
import Derived.Test.YtfgmpodmbbnijaaAttI
import Derived.Test.YtfgmpodmbbnijaaFin
import Derived.Deep.CutRange
import Derived.Test.YtfgmpodmbbnijaaOpen
import Derived.ProofKit
import Derived.OpenShut
import Derived.ChangeOld
import Derived.WalkSmall
namespace Go.Proofs.Ytfgmpodmbbnijaa.attendRows
open Go.ChangeShapes Go.WideShapes Go.ChangeAt Go.RowKit Go.Fl Go.Reg
open Go.Proofs.Ytfgmpodmbbnijaa.att
def S (r c : Int) (n : Nat) (xs : List Nat) (r2 c2 : Int) (n2 : Nat) (ys : List Nat) (r3 c3 : Int) (n3 : Nat) (zs : List Nat) (b : Bool) : List Nat :=
  if ok r c n r2 c2 n2 r3 c3 n3 = true then upto (tab (AV xs ys zs c.toNat c3.toNat r.toNat b) c3.toNat) (r.toNat * c3.toNat) else []
theorem S_no {r c : Int} {n : Nat} (xs : List Nat) {r2 c2 : Int} {n2 : Nat} (ys : List Nat) {r3 c3 : Int} {n3 : Nat} (zs : List Nat) (b : Bool) (h : ok r c n r2 c2 n2 r3 c3 n3 = false) : S r c n xs r2 c2 n2 ys r3 c3 n3 zs b = [] := by unfold S; rw [h]; rfl
theorem S_yes {R D C : Nat} {n n2 n3 : Nat} (xs ys zs : List Nat) (b : Bool) (h : ok (R : Int) (D : Int) n (R : Int) (D : Int) n2 (R : Int) (C : Int) n3 = true) : S (R : Int) (D : Int) n xs (R : Int) (D : Int) n2 ys (R : Int) (C : Int) n3 zs b = upto (tab (AV xs ys zs D C R b) C) (R * C) := by unfold S; rw [if_pos h]; rfl
theorem S_len (r c : Int) (n : Nat) (xs : List Nat) (r2 c2 : Int) (n2 : Nat) (ys : List Nat) (r3 c3 : Int) (n3 : Nat) (zs : List Nat) (b : Bool) : (S r c n xs r2 c2 n2 ys r3 c3 n3 zs b).length ≤ 1048576 := by
  unfold S; split
  · rename_i h
    obtain ⟨R, D, C, rfl, rfl, rfl, rfl, rfl, rfl, hR, hD, hC, _, _, _⟩ := ok_yes h
    have : R * C ≤ 8 * 16 := Nat.mul_le_mul (by omega) (by omega)
    rw [upto_length]
    show R * C ≤ _
    omega
  · simp
set_option maxRecDepth 100000 in
set_option maxHeartbeats 4000000 in
theorem specN (r c : Int) (a : Option Addr) (n cap : Nat) (xs : List Nat) (r2 c2 : Int) (a2 : Option Addr) (n2 cap2 : Nat) (ys : List Nat) (r3 c3 : Int) (a3 : Option Addr) (n3 cap3 : Nat) (zs : List Nat) (b : Bool) (w : World) (h1 : Fs w a n cap xs) (h2 : Fs w a2 n2 cap2 ys) (h3 : Fs w a3 n3 cap3 zs) (ho : ok r c n r2 c2 n2 r3 c3 n3 = false) :
    Calls Try.prog 25 #[.agg #[.int .i64 r, .int .i64 c, .slice a n cap], .agg #[.int .i64 r2, .int .i64 c2, .slice a2 n2 cap2], .agg #[.int .i64 r3, .int .i64 c3, .slice a3 n3 cap3], .bool b] w (RT 45 w 0 0 [] false) := by
  have HM1 := Lib.hid (Nat.le_trans h1.cap1 h1.cap2)
  have HM2 := Lib.hid (Nat.le_trans h2.cap1 h2.cap2)
  have HM3 := Lib.hid (Nat.le_trans h3.cap1 h3.cap2)
  clear h1 h2 h3
  unfold ok at ho
  cases hv1 : decide (vt r c n)
  · skip
    have HV1 := Lib.hid hv1
    clear ho hv1
    go_enter Try.func25, Try.ntmps25
    go_wp2_with fail
    refine calls_at ?_
    intro w1 hA
    have A : Below w.heap.size w w1 := by rw [hA]; exact ((((Below.refl _ _).alloc (Nat.le_refl _) _).alloc (by simp <;> omega) _).alloc (by simp <;> omega) _).alloc (by simp <;> omega) _
    have zw1 : w1.heap.size = w.heap.size + 1 + 1 + 1 + 1 := by rw [hA]; simp
    have QA_ : Box w1 (w.heap.size) r c a n cap := by rw [hA]; exact ⟨by simp [go_sem], by simp [go_sem], by simp [go_sem], by simp <;> omega⟩
    have QB_ : Box w1 (w.heap.size + 1) r2 c2 a2 n2 cap2 := by rw [hA]; exact ⟨by simp [go_sem], by simp [go_sem], by simp [go_sem], by simp <;> omega⟩
    have QC_ : Box w1 (w.heap.size + 1 + 1) r3 c3 a3 n3 cap3 := by rw [hA]; exact ⟨by simp [go_sem], by simp [go_sem], by simp [go_sem], by simp <;> omega⟩
    have ZR_ : Zbox w1 (w.heap.size + 1 + 1 + 1) := by rw [hA]; exact ⟨⟨by simp [go_sem], by simp [go_sem], by simp [go_sem], by simp <;> omega⟩, by simp [go_sem], by simp [go_sem], by simp [go_sem]⟩
    clear hA
    have zw1a := Nat.le_of_eq zw1
    have zw1b := Nat.le_of_eq zw1.symm
    clear zw1
    have T := A
    clear A
    have QA := Lib.hid QA_
    clear QA_
    have QB := Lib.hid QB_
    clear QB_
    have QC := Lib.hid QC_
    clear QC_
    have ZR := Lib.hid ZR_
    clear ZR_
    refine (isT _ _ _ _ _ _ _ _ HM1.out QA.out.c0 QA.out.c1 QA.out.c2).mono ?_
    rintro e w2 ⟨rfl, mm, hw⟩
    have A := below_of_drew hw
    clear hw
    have T := T.trans (A.mono T.size)
    have QA := Lib.hid (QA.out.below A)
    have QB := Lib.hid (QB.out.below A)
    have QC := Lib.hid (QC.out.below A)
    have ZR := Lib.hid (ZR.out.below A)
    have zw2 := A.size
    clear A
    rw [HV1.out]
    obtain ⟨⟨ZR0, ZR1, ZR2, ZR3⟩, ZR4, ZR5, ZR6⟩ := ZR.out
    go_wp2
    refine bodyPost_ret (v := .tuple #[.agg #[.int .i64 0, .int .i64 0, .slice none 0 0], .bool false]) (by simp [results, Try.results25, go_sem, ZR0, ZR1, ZR2]) rfl ?_
    exact RT_no T (by omega)
  · skip
    cases hv2 : decide (vt r2 c2 n2)
    · skip
      have HV1 := Lib.hid hv1
      have HV2 := Lib.hid hv2
      clear ho hv1 hv2
      go_enter Try.func25, Try.ntmps25
      go_wp2_with fail
      refine calls_at ?_
      intro w1 hA
      have A : Below w.heap.size w w1 := by rw [hA]; exact ((((Below.refl _ _).alloc (Nat.le_refl _) _).alloc (by simp <;> omega) _).alloc (by simp <;> omega) _).alloc (by simp <;> omega) _
      have zw1 : w1.heap.size = w.heap.size + 1 + 1 + 1 + 1 := by rw [hA]; simp
      have QA_ : Box w1 (w.heap.size) r c a n cap := by rw [hA]; exact ⟨by simp [go_sem], by simp [go_sem], by simp [go_sem], by simp <;> omega⟩
      have QB_ : Box w1 (w.heap.size + 1) r2 c2 a2 n2 cap2 := by rw [hA]; exact ⟨by simp [go_sem], by simp [go_sem], by simp [go_sem], by simp <;> omega⟩
      have QC_ : Box w1 (w.heap.size + 1 + 1) r3 c3 a3 n3 cap3 := by rw [hA]; exact ⟨by simp [go_sem], by simp [go_sem], by simp [go_sem], by simp <;> omega⟩
      have ZR_ : Zbox w1 (w.heap.size + 1 + 1 + 1) := by rw [hA]; exact ⟨⟨by simp [go_sem], by simp [go_sem], by simp [go_sem], by simp <;> omega⟩, by simp [go_sem], by simp [go_sem], by simp [go_sem]⟩
      clear hA
      have zw1a := Nat.le_of_eq zw1
      have zw1b := Nat.le_of_eq zw1.symm
      clear zw1
      have T := A
      clear A
      have QA := Lib.hid QA_
      clear QA_
      have QB := Lib.hid QB_
      clear QB_
      have QC := Lib.hid QC_
      clear QC_
      have ZR := Lib.hid ZR_
      clear ZR_
      refine (isT _ _ _ _ _ _ _ _ HM1.out QA.out.c0 QA.out.c1 QA.out.c2).mono ?_
      rintro e w2 ⟨rfl, mm, hw⟩
      have A := below_of_drew hw
      clear hw
      have T := T.trans (A.mono T.size)
      have QA := Lib.hid (QA.out.below A)
      have QB := Lib.hid (QB.out.below A)
      have QC := Lib.hid (QC.out.below A)
      have ZR := Lib.hid (ZR.out.below A)
      have zw2 := A.size
      clear A
      rw [HV1.out]
      obtain ⟨QB0, QB1, QB2, QB3⟩ := QB.out
      go_wp2_with fail
      clear QB0 QB1 QB2 QB3
      refine (isT _ _ _ _ _ _ _ _ HM2.out QB.out.c0 QB.out.c1 QB.out.c2).mono ?_
      rintro e w3 ⟨rfl, mm, hw⟩
      have A := below_of_drew hw
      clear hw
      have T := T.trans (A.mono T.size)
      have QA := Lib.hid (QA.out.below A)
      have QB := Lib.hid (QB.out.below A)
      have QC := Lib.hid (QC.out.below A)
      have ZR := Lib.hid (ZR.out.below A)
      have zw3 := A.size
      clear A
      rw [HV2.out]
      obtain ⟨⟨ZR0, ZR1, ZR2, ZR3⟩, ZR4, ZR5, ZR6⟩ := ZR.out
      go_wp2
      refine bodyPost_ret (v := .tuple #[.agg #[.int .i64 0, .int .i64 0, .slice none 0 0], .bool false]) (by simp [results, Try.results25, go_sem, ZR0, ZR1, ZR2]) rfl ?_
      exact RT_no T (by omega)
    · skip
      cases hv3 : decide (vt r3 c3 n3)
      · skip
        have HV1 := Lib.hid hv1
        have HV2 := Lib.hid hv2
        have HV3 := Lib.hid hv3
        clear ho hv1 hv2 hv3
        go_enter Try.func25, Try.ntmps25
        go_wp2_with fail
        refine calls_at ?_
        intro w1 hA
        have A : Below w.heap.size w w1 := by rw [hA]; exact ((((Below.refl _ _).alloc (Nat.le_refl _) _).alloc (by simp <;> omega) _).alloc (by simp <;> omega) _).alloc (by simp <;> omega) _
        have zw1 : w1.heap.size = w.heap.size + 1 + 1 + 1 + 1 := by rw [hA]; simp
        have QA_ : Box w1 (w.heap.size) r c a n cap := by rw [hA]; exact ⟨by simp [go_sem], by simp [go_sem], by simp [go_sem], by simp <;> omega⟩
        have QB_ : Box w1 (w.heap.size + 1) r2 c2 a2 n2 cap2 := by rw [hA]; exact ⟨by simp [go_sem], by simp [go_sem], by simp [go_sem], by simp <;> omega⟩
        have QC_ : Box w1 (w.heap.size + 1 + 1) r3 c3 a3 n3 cap3 := by rw [hA]; exact ⟨by simp [go_sem], by simp [go_sem], by simp [go_sem], by simp <;> omega⟩
        have ZR_ : Zbox w1 (w.heap.size + 1 + 1 + 1) := by rw [hA]; exact ⟨⟨by simp [go_sem], by simp [go_sem], by simp [go_sem], by simp <;> omega⟩, by simp [go_sem], by simp [go_sem], by simp [go_sem]⟩
        clear hA
        have zw1a := Nat.le_of_eq zw1
        have zw1b := Nat.le_of_eq zw1.symm
        clear zw1
        have T := A
        clear A
        have QA := Lib.hid QA_
        clear QA_
        have QB := Lib.hid QB_
        clear QB_
        have QC := Lib.hid QC_
        clear QC_
        have ZR := Lib.hid ZR_
        clear ZR_
        refine (isT _ _ _ _ _ _ _ _ HM1.out QA.out.c0 QA.out.c1 QA.out.c2).mono ?_
        rintro e w2 ⟨rfl, mm, hw⟩
        have A := below_of_drew hw
        clear hw
        have T := T.trans (A.mono T.size)
        have QA := Lib.hid (QA.out.below A)
        have QB := Lib.hid (QB.out.below A)
        have QC := Lib.hid (QC.out.below A)
        have ZR := Lib.hid (ZR.out.below A)
        have zw2 := A.size
        clear A
        rw [HV1.out]
        obtain ⟨QB0, QB1, QB2, QB3⟩ := QB.out
        go_wp2_with fail
        clear QB0 QB1 QB2 QB3
        refine (isT _ _ _ _ _ _ _ _ HM2.out QB.out.c0 QB.out.c1 QB.out.c2).mono ?_
        rintro e w3 ⟨rfl, mm, hw⟩
        have A := below_of_drew hw
        clear hw
        have T := T.trans (A.mono T.size)
        have QA := Lib.hid (QA.out.below A)
        have QB := Lib.hid (QB.out.below A)
        have QC := Lib.hid (QC.out.below A)
        have ZR := Lib.hid (ZR.out.below A)
        have zw3 := A.size
        clear A
        rw [HV2.out]
        obtain ⟨QC0, QC1, QC2, QC3⟩ := QC.out
        go_wp2_with fail
        clear QC0 QC1 QC2 QC3
        refine (isT _ _ _ _ _ _ _ _ HM3.out QC.out.c0 QC.out.c1 QC.out.c2).mono ?_
        rintro e w4 ⟨rfl, mm, hw⟩
        have A := below_of_drew hw
        clear hw
        have T := T.trans (A.mono T.size)
        have QA := Lib.hid (QA.out.below A)
        have QB := Lib.hid (QB.out.below A)
        have QC := Lib.hid (QC.out.below A)
        have ZR := Lib.hid (ZR.out.below A)
        have zw4 := A.size
        clear A
        rw [HV3.out]
        obtain ⟨⟨ZR0, ZR1, ZR2, ZR3⟩, ZR4, ZR5, ZR6⟩ := ZR.out
        go_wp2
        refine bodyPost_ret (v := .tuple #[.agg #[.int .i64 0, .int .i64 0, .slice none 0 0], .bool false]) (by simp [results, Try.results25, go_sem, ZR0, ZR1, ZR2]) rfl ?_
        exact RT_no T (by omega)
      · skip
        rw [hv1, hv2, hv3, Bool.true_and, Bool.true_and, Bool.true_and] at ho
        have hr1 : 1 ≤ r := by
          obtain ⟨R, C, rfl, rfl, hR, hC, hn⟩ := nat_of (of_decide_eq_true hv1)
          omega
        have HV1 := Lib.hid hv1
        have HV2 := Lib.hid hv2
        have HV3 := Lib.hid hv3
        clear hv1 hv2 hv3
        by_cases h8 : r ≤ 8
        · rw [decide_eq_true h8, Bool.true_and] at ho
          by_cases e1 : r = r2
          · subst e1
            rw [decide_eq_true rfl, Bool.true_and] at ho
            by_cases e2 : r = r3
            · subst e2
              have e3 : ¬ c = c2 := by intro e; subst e; simp at ho
              have e4 : ¬ c2 = c := fun e => e3 e.symm
              clear ho
              go_enter Try.func25, Try.ntmps25
              go_wp2_with fail
              refine calls_at ?_
              intro w1 hA
              have A : Below w.heap.size w w1 := by rw [hA]; exact ((((Below.refl _ _).alloc (Nat.le_refl _) _).alloc (by simp <;> omega) _).alloc (by simp <;> omega) _).alloc (by simp <;> omega) _
              have zw1 : w1.heap.size = w.heap.size + 1 + 1 + 1 + 1 := by rw [hA]; simp
              have QA_ : Box w1 (w.heap.size) r c a n cap := by rw [hA]; exact ⟨by simp [go_sem], by simp [go_sem], by simp [go_sem], by simp <;> omega⟩
              have QB_ : Box w1 (w.heap.size + 1) r c2 a2 n2 cap2 := by rw [hA]; exact ⟨by simp [go_sem], by simp [go_sem], by simp [go_sem], by simp <;> omega⟩
              have QC_ : Box w1 (w.heap.size + 1 + 1) r c3 a3 n3 cap3 := by rw [hA]; exact ⟨by simp [go_sem], by simp [go_sem], by simp [go_sem], by simp <;> omega⟩
              have ZR_ : Zbox w1 (w.heap.size + 1 + 1 + 1) := by rw [hA]; exact ⟨⟨by simp [go_sem], by simp [go_sem], by simp [go_sem], by simp <;> omega⟩, by simp [go_sem], by simp [go_sem], by simp [go_sem]⟩
              clear hA
              have zw1a := Nat.le_of_eq zw1
              have zw1b := Nat.le_of_eq zw1.symm
              clear zw1
              have T := A
              clear A
              have QA := Lib.hid QA_
              clear QA_
              have QB := Lib.hid QB_
              clear QB_
              have QC := Lib.hid QC_
              clear QC_
              have ZR := Lib.hid ZR_
              clear ZR_
              refine (isT _ _ _ _ _ _ _ _ HM1.out QA.out.c0 QA.out.c1 QA.out.c2).mono ?_
              rintro e w2 ⟨rfl, mm, hw⟩
              have A := below_of_drew hw
              clear hw
              have T := T.trans (A.mono T.size)
              have QA := Lib.hid (QA.out.below A)
              have QB := Lib.hid (QB.out.below A)
              have QC := Lib.hid (QC.out.below A)
              have ZR := Lib.hid (ZR.out.below A)
              have zw2 := A.size
              clear A
              rw [HV1.out]
              obtain ⟨QB0, QB1, QB2, QB3⟩ := QB.out
              go_wp2_with fail
              clear QB0 QB1 QB2 QB3
              refine (isT _ _ _ _ _ _ _ _ HM2.out QB.out.c0 QB.out.c1 QB.out.c2).mono ?_
              rintro e w3 ⟨rfl, mm, hw⟩
              have A := below_of_drew hw
              clear hw
              have T := T.trans (A.mono T.size)
              have QA := Lib.hid (QA.out.below A)
              have QB := Lib.hid (QB.out.below A)
              have QC := Lib.hid (QC.out.below A)
              have ZR := Lib.hid (ZR.out.below A)
              have zw3 := A.size
              clear A
              rw [HV2.out]
              obtain ⟨QC0, QC1, QC2, QC3⟩ := QC.out
              go_wp2_with fail
              clear QC0 QC1 QC2 QC3
              refine (isT _ _ _ _ _ _ _ _ HM3.out QC.out.c0 QC.out.c1 QC.out.c2).mono ?_
              rintro e w4 ⟨rfl, mm, hw⟩
              have A := below_of_drew hw
              clear hw
              have T := T.trans (A.mono T.size)
              have QA := Lib.hid (QA.out.below A)
              have QB := Lib.hid (QB.out.below A)
              have QC := Lib.hid (QC.out.below A)
              have ZR := Lib.hid (ZR.out.below A)
              have zw4 := A.size
              clear A
              rw [HV3.out]
              obtain ⟨QA0, QA1, QA2, QA3⟩ := QA.out
              obtain ⟨QB0, QB1, QB2, QB3⟩ := QB.out
              obtain ⟨QC0, QC1, QC2, QC3⟩ := QC.out
              obtain ⟨⟨ZR0, ZR1, ZR2, ZR3⟩, ZR4, ZR5, ZR6⟩ := ZR.out
              go_wp2
              refine bodyPost_ret (v := .tuple #[.agg #[.int .i64 0, .int .i64 0, .slice none 0 0], .bool false]) (by simp [results, Try.results25, go_sem, ZR0, ZR1, ZR2]) rfl ?_
              exact RT_no T (by omega)
            · have e4 : ¬ r3 = r := fun e => e2 e.symm
              clear ho
              go_enter Try.func25, Try.ntmps25
              go_wp2_with fail
              refine calls_at ?_
              intro w1 hA
              have A : Below w.heap.size w w1 := by rw [hA]; exact ((((Below.refl _ _).alloc (Nat.le_refl _) _).alloc (by simp <;> omega) _).alloc (by simp <;> omega) _).alloc (by simp <;> omega) _
              have zw1 : w1.heap.size = w.heap.size + 1 + 1 + 1 + 1 := by rw [hA]; simp
              have QA_ : Box w1 (w.heap.size) r c a n cap := by rw [hA]; exact ⟨by simp [go_sem], by simp [go_sem], by simp [go_sem], by simp <;> omega⟩
              have QB_ : Box w1 (w.heap.size + 1) r c2 a2 n2 cap2 := by rw [hA]; exact ⟨by simp [go_sem], by simp [go_sem], by simp [go_sem], by simp <;> omega⟩
              have QC_ : Box w1 (w.heap.size + 1 + 1) r3 c3 a3 n3 cap3 := by rw [hA]; exact ⟨by simp [go_sem], by simp [go_sem], by simp [go_sem], by simp <;> omega⟩
              have ZR_ : Zbox w1 (w.heap.size + 1 + 1 + 1) := by rw [hA]; exact ⟨⟨by simp [go_sem], by simp [go_sem], by simp [go_sem], by simp <;> omega⟩, by simp [go_sem], by simp [go_sem], by simp [go_sem]⟩
              clear hA
              have zw1a := Nat.le_of_eq zw1
              have zw1b := Nat.le_of_eq zw1.symm
              clear zw1
              have T := A
              clear A
              have QA := Lib.hid QA_
              clear QA_
              have QB := Lib.hid QB_
              clear QB_
              have QC := Lib.hid QC_
              clear QC_
              have ZR := Lib.hid ZR_
              clear ZR_
              refine (isT _ _ _ _ _ _ _ _ HM1.out QA.out.c0 QA.out.c1 QA.out.c2).mono ?_
              rintro e w2 ⟨rfl, mm, hw⟩
              have A := below_of_drew hw
              clear hw
              have T := T.trans (A.mono T.size)
              have QA := Lib.hid (QA.out.below A)
              have QB := Lib.hid (QB.out.below A)
              have QC := Lib.hid (QC.out.below A)
              have ZR := Lib.hid (ZR.out.below A)
              have zw2 := A.size
              clear A
              rw [HV1.out]
              obtain ⟨QB0, QB1, QB2, QB3⟩ := QB.out
              go_wp2_with fail
              clear QB0 QB1 QB2 QB3
              refine (isT _ _ _ _ _ _ _ _ HM2.out QB.out.c0 QB.out.c1 QB.out.c2).mono ?_
              rintro e w3 ⟨rfl, mm, hw⟩
              have A := below_of_drew hw
              clear hw
              have T := T.trans (A.mono T.size)
              have QA := Lib.hid (QA.out.below A)
              have QB := Lib.hid (QB.out.below A)
              have QC := Lib.hid (QC.out.below A)
              have ZR := Lib.hid (ZR.out.below A)
              have zw3 := A.size
              clear A
              rw [HV2.out]
              obtain ⟨QC0, QC1, QC2, QC3⟩ := QC.out
              go_wp2_with fail
              clear QC0 QC1 QC2 QC3
              refine (isT _ _ _ _ _ _ _ _ HM3.out QC.out.c0 QC.out.c1 QC.out.c2).mono ?_
              rintro e w4 ⟨rfl, mm, hw⟩
              have A := below_of_drew hw
              clear hw
              have T := T.trans (A.mono T.size)
              have QA := Lib.hid (QA.out.below A)
              have QB := Lib.hid (QB.out.below A)
              have QC := Lib.hid (QC.out.below A)
              have ZR := Lib.hid (ZR.out.below A)
              have zw4 := A.size
              clear A
              rw [HV3.out]
              obtain ⟨QA0, QA1, QA2, QA3⟩ := QA.out
              obtain ⟨QB0, QB1, QB2, QB3⟩ := QB.out
              obtain ⟨QC0, QC1, QC2, QC3⟩ := QC.out
              obtain ⟨⟨ZR0, ZR1, ZR2, ZR3⟩, ZR4, ZR5, ZR6⟩ := ZR.out
              go_wp2
              refine bodyPost_ret (v := .tuple #[.agg #[.int .i64 0, .int .i64 0, .slice none 0 0], .bool false]) (by simp [results, Try.results25, go_sem, ZR0, ZR1, ZR2]) rfl ?_
              exact RT_no T (by omega)
          · have e4 : ¬ r2 = r := fun e => e1 e.symm
            clear ho
            go_enter Try.func25, Try.ntmps25
            go_wp2_with fail
            refine calls_at ?_
            intro w1 hA
            have A : Below w.heap.size w w1 := by rw [hA]; exact ((((Below.refl _ _).alloc (Nat.le_refl _) _).alloc (by simp <;> omega) _).alloc (by simp <;> omega) _).alloc (by simp <;> omega) _
            have zw1 : w1.heap.size = w.heap.size + 1 + 1 + 1 + 1 := by rw [hA]; simp
            have QA_ : Box w1 (w.heap.size) r c a n cap := by rw [hA]; exact ⟨by simp [go_sem], by simp [go_sem], by simp [go_sem], by simp <;> omega⟩
            have QB_ : Box w1 (w.heap.size + 1) r2 c2 a2 n2 cap2 := by rw [hA]; exact ⟨by simp [go_sem], by simp [go_sem], by simp [go_sem], by simp <;> omega⟩
            have QC_ : Box w1 (w.heap.size + 1 + 1) r3 c3 a3 n3 cap3 := by rw [hA]; exact ⟨by simp [go_sem], by simp [go_sem], by simp [go_sem], by simp <;> omega⟩
            have ZR_ : Zbox w1 (w.heap.size + 1 + 1 + 1) := by rw [hA]; exact ⟨⟨by simp [go_sem], by simp [go_sem], by simp [go_sem], by simp <;> omega⟩, by simp [go_sem], by simp [go_sem], by simp [go_sem]⟩
            clear hA
            have zw1a := Nat.le_of_eq zw1
            have zw1b := Nat.le_of_eq zw1.symm
            clear zw1
            have T := A
            clear A
            have QA := Lib.hid QA_
            clear QA_
            have QB := Lib.hid QB_
            clear QB_
            have QC := Lib.hid QC_
            clear QC_
            have ZR := Lib.hid ZR_
            clear ZR_
            refine (isT _ _ _ _ _ _ _ _ HM1.out QA.out.c0 QA.out.c1 QA.out.c2).mono ?_
            rintro e w2 ⟨rfl, mm, hw⟩
            have A := below_of_drew hw
            clear hw
            have T := T.trans (A.mono T.size)
            have QA := Lib.hid (QA.out.below A)
            have QB := Lib.hid (QB.out.below A)
            have QC := Lib.hid (QC.out.below A)
            have ZR := Lib.hid (ZR.out.below A)
            have zw2 := A.size
            clear A
            rw [HV1.out]
            obtain ⟨QB0, QB1, QB2, QB3⟩ := QB.out
            go_wp2_with fail
            clear QB0 QB1 QB2 QB3
            refine (isT _ _ _ _ _ _ _ _ HM2.out QB.out.c0 QB.out.c1 QB.out.c2).mono ?_
            rintro e w3 ⟨rfl, mm, hw⟩
            have A := below_of_drew hw
            clear hw
            have T := T.trans (A.mono T.size)
            have QA := Lib.hid (QA.out.below A)
            have QB := Lib.hid (QB.out.below A)
            have QC := Lib.hid (QC.out.below A)
            have ZR := Lib.hid (ZR.out.below A)
            have zw3 := A.size
            clear A
            rw [HV2.out]
            obtain ⟨QC0, QC1, QC2, QC3⟩ := QC.out
            go_wp2_with fail
            clear QC0 QC1 QC2 QC3
            refine (isT _ _ _ _ _ _ _ _ HM3.out QC.out.c0 QC.out.c1 QC.out.c2).mono ?_
            rintro e w4 ⟨rfl, mm, hw⟩
            have A := below_of_drew hw
            clear hw
            have T := T.trans (A.mono T.size)
            have QA := Lib.hid (QA.out.below A)
            have QB := Lib.hid (QB.out.below A)
            have QC := Lib.hid (QC.out.below A)
            have ZR := Lib.hid (ZR.out.below A)
            have zw4 := A.size
            clear A
            rw [HV3.out]
            obtain ⟨QA0, QA1, QA2, QA3⟩ := QA.out
            obtain ⟨QB0, QB1, QB2, QB3⟩ := QB.out
            obtain ⟨QC0, QC1, QC2, QC3⟩ := QC.out
            obtain ⟨⟨ZR0, ZR1, ZR2, ZR3⟩, ZR4, ZR5, ZR6⟩ := ZR.out
            go_wp2
            refine bodyPost_ret (v := .tuple #[.agg #[.int .i64 0, .int .i64 0, .slice none 0 0], .bool false]) (by simp [results, Try.results25, go_sem, ZR0, ZR1, ZR2]) rfl ?_
            exact RT_no T (by omega)
        · clear ho
          have h9 : 8 < r := by omega
          go_enter Try.func25, Try.ntmps25
          go_wp2_with fail
          refine calls_at ?_
          intro w1 hA
          have A : Below w.heap.size w w1 := by rw [hA]; exact ((((Below.refl _ _).alloc (Nat.le_refl _) _).alloc (by simp <;> omega) _).alloc (by simp <;> omega) _).alloc (by simp <;> omega) _
          have zw1 : w1.heap.size = w.heap.size + 1 + 1 + 1 + 1 := by rw [hA]; simp
          have QA_ : Box w1 (w.heap.size) r c a n cap := by rw [hA]; exact ⟨by simp [go_sem], by simp [go_sem], by simp [go_sem], by simp <;> omega⟩
          have QB_ : Box w1 (w.heap.size + 1) r2 c2 a2 n2 cap2 := by rw [hA]; exact ⟨by simp [go_sem], by simp [go_sem], by simp [go_sem], by simp <;> omega⟩
          have QC_ : Box w1 (w.heap.size + 1 + 1) r3 c3 a3 n3 cap3 := by rw [hA]; exact ⟨by simp [go_sem], by simp [go_sem], by simp [go_sem], by simp <;> omega⟩
          have ZR_ : Zbox w1 (w.heap.size + 1 + 1 + 1) := by rw [hA]; exact ⟨⟨by simp [go_sem], by simp [go_sem], by simp [go_sem], by simp <;> omega⟩, by simp [go_sem], by simp [go_sem], by simp [go_sem]⟩
          clear hA
          have zw1a := Nat.le_of_eq zw1
          have zw1b := Nat.le_of_eq zw1.symm
          clear zw1
          have T := A
          clear A
          have QA := Lib.hid QA_
          clear QA_
          have QB := Lib.hid QB_
          clear QB_
          have QC := Lib.hid QC_
          clear QC_
          have ZR := Lib.hid ZR_
          clear ZR_
          refine (isT _ _ _ _ _ _ _ _ HM1.out QA.out.c0 QA.out.c1 QA.out.c2).mono ?_
          rintro e w2 ⟨rfl, mm, hw⟩
          have A := below_of_drew hw
          clear hw
          have T := T.trans (A.mono T.size)
          have QA := Lib.hid (QA.out.below A)
          have QB := Lib.hid (QB.out.below A)
          have QC := Lib.hid (QC.out.below A)
          have ZR := Lib.hid (ZR.out.below A)
          have zw2 := A.size
          clear A
          rw [HV1.out]
          obtain ⟨QB0, QB1, QB2, QB3⟩ := QB.out
          go_wp2_with fail
          clear QB0 QB1 QB2 QB3
          refine (isT _ _ _ _ _ _ _ _ HM2.out QB.out.c0 QB.out.c1 QB.out.c2).mono ?_
          rintro e w3 ⟨rfl, mm, hw⟩
          have A := below_of_drew hw
          clear hw
          have T := T.trans (A.mono T.size)
          have QA := Lib.hid (QA.out.below A)
          have QB := Lib.hid (QB.out.below A)
          have QC := Lib.hid (QC.out.below A)
          have ZR := Lib.hid (ZR.out.below A)
          have zw3 := A.size
          clear A
          rw [HV2.out]
          obtain ⟨QC0, QC1, QC2, QC3⟩ := QC.out
          go_wp2_with fail
          clear QC0 QC1 QC2 QC3
          refine (isT _ _ _ _ _ _ _ _ HM3.out QC.out.c0 QC.out.c1 QC.out.c2).mono ?_
          rintro e w4 ⟨rfl, mm, hw⟩
          have A := below_of_drew hw
          clear hw
          have T := T.trans (A.mono T.size)
          have QA := Lib.hid (QA.out.below A)
          have QB := Lib.hid (QB.out.below A)
          have QC := Lib.hid (QC.out.below A)
          have ZR := Lib.hid (ZR.out.below A)
          have zw4 := A.size
          clear A
          rw [HV3.out]
          obtain ⟨QA0, QA1, QA2, QA3⟩ := QA.out
          obtain ⟨⟨ZR0, ZR1, ZR2, ZR3⟩, ZR4, ZR5, ZR6⟩ := ZR.out
          go_wp2
          refine bodyPost_ret (v := .tuple #[.agg #[.int .i64 0, .int .i64 0, .slice none 0 0], .bool false]) (by simp [results, Try.results25, go_sem, ZR0, ZR1, ZR2]) rfl ?_
          exact RT_no T (by omega)
set_option maxRecDepth 100000 in
set_option maxHeartbeats 4000000 in
theorem implN (r c : Int) (a : Option Addr) (n cap : Nat) (xs : List Nat) (r2 c2 : Int) (a2 : Option Addr) (n2 cap2 : Nat) (ys : List Nat) (r3 c3 : Int) (a3 : Option Addr) (n3 cap3 : Nat) (zs : List Nat) (b : Bool) (w : World) (h1 : Fs w a n cap xs) (h2 : Fs w a2 n2 cap2 ys) (h3 : Fs w a3 n3 cap3 zs) (ho : ok r c n r2 c2 n2 r3 c3 n3 = false) :
    Calls Try.prog 26 #[.agg #[.int .i64 r, .int .i64 c, .slice a n cap], .agg #[.int .i64 r2, .int .i64 c2, .slice a2 n2 cap2], .agg #[.int .i64 r3, .int .i64 c3, .slice a3 n3 cap3], .bool b] w (RT 45 w 0 0 [] false) := by
  have HM1 := Lib.hid (Nat.le_trans h1.cap1 h1.cap2)
  have HM2 := Lib.hid (Nat.le_trans h2.cap1 h2.cap2)
  have HM3 := Lib.hid (Nat.le_trans h3.cap1 h3.cap2)
  clear h1 h2 h3
  unfold ok at ho
  cases hv1 : decide (vt r c n)
  · skip
    have HV1 := Lib.hid hv1
    clear ho hv1
    go_enter Try.func26, Try.ntmps26
    go_wp2_with fail
    refine calls_at ?_
    intro w1 hA
    have A : Below w.heap.size w w1 := by rw [hA]; exact ((((Below.refl _ _).alloc (Nat.le_refl _) _).alloc (by simp <;> omega) _).alloc (by simp <;> omega) _).alloc (by simp <;> omega) _
    have zw1 : w1.heap.size = w.heap.size + 1 + 1 + 1 + 1 := by rw [hA]; simp
    have QA_ : Box w1 (w.heap.size) r c a n cap := by rw [hA]; exact ⟨by simp [go_sem], by simp [go_sem], by simp [go_sem], by simp <;> omega⟩
    have QB_ : Box w1 (w.heap.size + 1) r2 c2 a2 n2 cap2 := by rw [hA]; exact ⟨by simp [go_sem], by simp [go_sem], by simp [go_sem], by simp <;> omega⟩
    have QC_ : Box w1 (w.heap.size + 1 + 1) r3 c3 a3 n3 cap3 := by rw [hA]; exact ⟨by simp [go_sem], by simp [go_sem], by simp [go_sem], by simp <;> omega⟩
    have ZR_ : Zbox w1 (w.heap.size + 1 + 1 + 1) := by rw [hA]; exact ⟨⟨by simp [go_sem], by simp [go_sem], by simp [go_sem], by simp <;> omega⟩, by simp [go_sem], by simp [go_sem], by simp [go_sem]⟩
    clear hA
    have zw1a := Nat.le_of_eq zw1
    have zw1b := Nat.le_of_eq zw1.symm
    clear zw1
    have T := A
    clear A
    have QA := Lib.hid QA_
    clear QA_
    have QB := Lib.hid QB_
    clear QB_
    have QC := Lib.hid QC_
    clear QC_
    have ZR := Lib.hid ZR_
    clear ZR_
    refine (validT _ _ _ _ _ _ HM1.out).mono ?_
    rintro e w2 ⟨rfl, A⟩
    have T := T.trans (A.mono T.size)
    have QA := Lib.hid (QA.out.below A)
    have QB := Lib.hid (QB.out.below A)
    have QC := Lib.hid (QC.out.below A)
    have ZR := Lib.hid (ZR.out.below A)
    have zw2 := A.size
    clear A
    rw [HV1.out]
    obtain ⟨⟨ZR0, ZR1, ZR2, ZR3⟩, ZR4, ZR5, ZR6⟩ := ZR.out
    go_wp2
    refine bodyPost_ret (v := .tuple #[.agg #[.int .i64 0, .int .i64 0, .slice none 0 0], .bool false]) (by simp [results, Try.results26, go_sem, ZR0, ZR1, ZR2]) rfl ?_
    exact RT_no T (by omega)
  · skip
    cases hv2 : decide (vt r2 c2 n2)
    · skip
      have HV1 := Lib.hid hv1
      have HV2 := Lib.hid hv2
      clear ho hv1 hv2
      go_enter Try.func26, Try.ntmps26
      go_wp2_with fail
      refine calls_at ?_
      intro w1 hA
      have A : Below w.heap.size w w1 := by rw [hA]; exact ((((Below.refl _ _).alloc (Nat.le_refl _) _).alloc (by simp <;> omega) _).alloc (by simp <;> omega) _).alloc (by simp <;> omega) _
      have zw1 : w1.heap.size = w.heap.size + 1 + 1 + 1 + 1 := by rw [hA]; simp
      have QA_ : Box w1 (w.heap.size) r c a n cap := by rw [hA]; exact ⟨by simp [go_sem], by simp [go_sem], by simp [go_sem], by simp <;> omega⟩
      have QB_ : Box w1 (w.heap.size + 1) r2 c2 a2 n2 cap2 := by rw [hA]; exact ⟨by simp [go_sem], by simp [go_sem], by simp [go_sem], by simp <;> omega⟩
      have QC_ : Box w1 (w.heap.size + 1 + 1) r3 c3 a3 n3 cap3 := by rw [hA]; exact ⟨by simp [go_sem], by simp [go_sem], by simp [go_sem], by simp <;> omega⟩
      have ZR_ : Zbox w1 (w.heap.size + 1 + 1 + 1) := by rw [hA]; exact ⟨⟨by simp [go_sem], by simp [go_sem], by simp [go_sem], by simp <;> omega⟩, by simp [go_sem], by simp [go_sem], by simp [go_sem]⟩
      clear hA
      have zw1a := Nat.le_of_eq zw1
      have zw1b := Nat.le_of_eq zw1.symm
      clear zw1
      have T := A
      clear A
      have QA := Lib.hid QA_
      clear QA_
      have QB := Lib.hid QB_
      clear QB_
      have QC := Lib.hid QC_
      clear QC_
      have ZR := Lib.hid ZR_
      clear ZR_
      refine (validT _ _ _ _ _ _ HM1.out).mono ?_
      rintro e w2 ⟨rfl, A⟩
      have T := T.trans (A.mono T.size)
      have QA := Lib.hid (QA.out.below A)
      have QB := Lib.hid (QB.out.below A)
      have QC := Lib.hid (QC.out.below A)
      have ZR := Lib.hid (ZR.out.below A)
      have zw2 := A.size
      clear A
      rw [HV1.out]
      obtain ⟨QB0, QB1, QB2, QB3⟩ := QB.out
      go_wp2_with fail
      clear QB0 QB1 QB2 QB3
      refine (validT _ _ _ _ _ _ HM2.out).mono ?_
      rintro e w3 ⟨rfl, A⟩
      have T := T.trans (A.mono T.size)
      have QA := Lib.hid (QA.out.below A)
      have QB := Lib.hid (QB.out.below A)
      have QC := Lib.hid (QC.out.below A)
      have ZR := Lib.hid (ZR.out.below A)
      have zw3 := A.size
      clear A
      rw [HV2.out]
      obtain ⟨⟨ZR0, ZR1, ZR2, ZR3⟩, ZR4, ZR5, ZR6⟩ := ZR.out
      go_wp2
      refine bodyPost_ret (v := .tuple #[.agg #[.int .i64 0, .int .i64 0, .slice none 0 0], .bool false]) (by simp [results, Try.results26, go_sem, ZR0, ZR1, ZR2]) rfl ?_
      exact RT_no T (by omega)
    · skip
      cases hv3 : decide (vt r3 c3 n3)
      · skip
        have HV1 := Lib.hid hv1
        have HV2 := Lib.hid hv2
        have HV3 := Lib.hid hv3
        clear ho hv1 hv2 hv3
        go_enter Try.func26, Try.ntmps26
        go_wp2_with fail
        refine calls_at ?_
        intro w1 hA
        have A : Below w.heap.size w w1 := by rw [hA]; exact ((((Below.refl _ _).alloc (Nat.le_refl _) _).alloc (by simp <;> omega) _).alloc (by simp <;> omega) _).alloc (by simp <;> omega) _
        have zw1 : w1.heap.size = w.heap.size + 1 + 1 + 1 + 1 := by rw [hA]; simp
        have QA_ : Box w1 (w.heap.size) r c a n cap := by rw [hA]; exact ⟨by simp [go_sem], by simp [go_sem], by simp [go_sem], by simp <;> omega⟩
        have QB_ : Box w1 (w.heap.size + 1) r2 c2 a2 n2 cap2 := by rw [hA]; exact ⟨by simp [go_sem], by simp [go_sem], by simp [go_sem], by simp <;> omega⟩
        have QC_ : Box w1 (w.heap.size + 1 + 1) r3 c3 a3 n3 cap3 := by rw [hA]; exact ⟨by simp [go_sem], by simp [go_sem], by simp [go_sem], by simp <;> omega⟩
        have ZR_ : Zbox w1 (w.heap.size + 1 + 1 + 1) := by rw [hA]; exact ⟨⟨by simp [go_sem], by simp [go_sem], by simp [go_sem], by simp <;> omega⟩, by simp [go_sem], by simp [go_sem], by simp [go_sem]⟩
        clear hA
        have zw1a := Nat.le_of_eq zw1
        have zw1b := Nat.le_of_eq zw1.symm
        clear zw1
        have T := A
        clear A
        have QA := Lib.hid QA_
        clear QA_
        have QB := Lib.hid QB_
        clear QB_
        have QC := Lib.hid QC_
        clear QC_
        have ZR := Lib.hid ZR_
        clear ZR_
        refine (validT _ _ _ _ _ _ HM1.out).mono ?_
        rintro e w2 ⟨rfl, A⟩
        have T := T.trans (A.mono T.size)
        have QA := Lib.hid (QA.out.below A)
        have QB := Lib.hid (QB.out.below A)
        have QC := Lib.hid (QC.out.below A)
        have ZR := Lib.hid (ZR.out.below A)
        have zw2 := A.size
        clear A
        rw [HV1.out]
        obtain ⟨QB0, QB1, QB2, QB3⟩ := QB.out
        go_wp2_with fail
        clear QB0 QB1 QB2 QB3
        refine (validT _ _ _ _ _ _ HM2.out).mono ?_
        rintro e w3 ⟨rfl, A⟩
        have T := T.trans (A.mono T.size)
        have QA := Lib.hid (QA.out.below A)
        have QB := Lib.hid (QB.out.below A)
        have QC := Lib.hid (QC.out.below A)
        have ZR := Lib.hid (ZR.out.below A)
        have zw3 := A.size
        clear A
        rw [HV2.out]
        obtain ⟨QC0, QC1, QC2, QC3⟩ := QC.out
        go_wp2_with fail
        clear QC0 QC1 QC2 QC3
        refine (validT _ _ _ _ _ _ HM3.out).mono ?_
        rintro e w4 ⟨rfl, A⟩
        have T := T.trans (A.mono T.size)
        have QA := Lib.hid (QA.out.below A)
        have QB := Lib.hid (QB.out.below A)
        have QC := Lib.hid (QC.out.below A)
        have ZR := Lib.hid (ZR.out.below A)
        have zw4 := A.size
        clear A
        rw [HV3.out]
        obtain ⟨⟨ZR0, ZR1, ZR2, ZR3⟩, ZR4, ZR5, ZR6⟩ := ZR.out
        go_wp2
        refine bodyPost_ret (v := .tuple #[.agg #[.int .i64 0, .int .i64 0, .slice none 0 0], .bool false]) (by simp [results, Try.results26, go_sem, ZR0, ZR1, ZR2]) rfl ?_
        exact RT_no T (by omega)
      · skip
        rw [hv1, hv2, hv3, Bool.true_and, Bool.true_and, Bool.true_and] at ho
        have hr1 : 1 ≤ r := by
          obtain ⟨R, C, rfl, rfl, hR, hC, hn⟩ := nat_of (of_decide_eq_true hv1)
          omega
        have HV1 := Lib.hid hv1
        have HV2 := Lib.hid hv2
        have HV3 := Lib.hid hv3
        clear hv1 hv2 hv3
        by_cases h8 : r ≤ 8
        · rw [decide_eq_true h8, Bool.true_and] at ho
          have HS : Hid (inr r 1 8 = true) := by unfold Hid inr; simp; omega
          cases hsh : (decide (r = r2) && decide (c = c2))
          · have HSH := Lib.hid hsh
            clear ho hsh h8
            go_enter Try.func26, Try.ntmps26
            go_wp2_with fail
            refine calls_at ?_
            intro w1 hA
            have A : Below w.heap.size w w1 := by rw [hA]; exact ((((Below.refl _ _).alloc (Nat.le_refl _) _).alloc (by simp <;> omega) _).alloc (by simp <;> omega) _).alloc (by simp <;> omega) _
            have zw1 : w1.heap.size = w.heap.size + 1 + 1 + 1 + 1 := by rw [hA]; simp
            have QA_ : Box w1 (w.heap.size) r c a n cap := by rw [hA]; exact ⟨by simp [go_sem], by simp [go_sem], by simp [go_sem], by simp <;> omega⟩
            have QB_ : Box w1 (w.heap.size + 1) r2 c2 a2 n2 cap2 := by rw [hA]; exact ⟨by simp [go_sem], by simp [go_sem], by simp [go_sem], by simp <;> omega⟩
            have QC_ : Box w1 (w.heap.size + 1 + 1) r3 c3 a3 n3 cap3 := by rw [hA]; exact ⟨by simp [go_sem], by simp [go_sem], by simp [go_sem], by simp <;> omega⟩
            have ZR_ : Zbox w1 (w.heap.size + 1 + 1 + 1) := by rw [hA]; exact ⟨⟨by simp [go_sem], by simp [go_sem], by simp [go_sem], by simp <;> omega⟩, by simp [go_sem], by simp [go_sem], by simp [go_sem]⟩
            clear hA
            have zw1a := Nat.le_of_eq zw1
            have zw1b := Nat.le_of_eq zw1.symm
            clear zw1
            have T := A
            clear A
            have QA := Lib.hid QA_
            clear QA_
            have QB := Lib.hid QB_
            clear QB_
            have QC := Lib.hid QC_
            clear QC_
            have ZR := Lib.hid ZR_
            clear ZR_
            refine (validT _ _ _ _ _ _ HM1.out).mono ?_
            rintro e w2 ⟨rfl, A⟩
            have T := T.trans (A.mono T.size)
            have QA := Lib.hid (QA.out.below A)
            have QB := Lib.hid (QB.out.below A)
            have QC := Lib.hid (QC.out.below A)
            have ZR := Lib.hid (ZR.out.below A)
            have zw2 := A.size
            clear A
            rw [HV1.out]
            obtain ⟨QB0, QB1, QB2, QB3⟩ := QB.out
            go_wp2_with fail
            clear QB0 QB1 QB2 QB3
            refine (validT _ _ _ _ _ _ HM2.out).mono ?_
            rintro e w3 ⟨rfl, A⟩
            have T := T.trans (A.mono T.size)
            have QA := Lib.hid (QA.out.below A)
            have QB := Lib.hid (QB.out.below A)
            have QC := Lib.hid (QC.out.below A)
            have ZR := Lib.hid (ZR.out.below A)
            have zw3 := A.size
            clear A
            rw [HV2.out]
            obtain ⟨QC0, QC1, QC2, QC3⟩ := QC.out
            go_wp2_with fail
            clear QC0 QC1 QC2 QC3
            refine (validT _ _ _ _ _ _ HM3.out).mono ?_
            rintro e w4 ⟨rfl, A⟩
            have T := T.trans (A.mono T.size)
            have QA := Lib.hid (QA.out.below A)
            have QB := Lib.hid (QB.out.below A)
            have QC := Lib.hid (QC.out.below A)
            have ZR := Lib.hid (ZR.out.below A)
            have zw4 := A.size
            clear A
            rw [HV3.out]
            obtain ⟨QA0, QA1, QA2, QA3⟩ := QA.out
            go_wp2_with fail
            clear QA0 QA1 QA2 QA3
            refine (isSize _ _).mono ?_
            rintro e w4x ⟨rfl, hsame⟩
            replace hsame := hsame.symm
            subst hsame
            rw [HS.out]
            obtain ⟨QA0, QA1, QA2, QA3⟩ := QA.out
            obtain ⟨QB0, QB1, QB2, QB3⟩ := QB.out
            go_wp2_with fail
            clear QA0 QA1 QA2 QA3 QB0 QB1 QB2 QB3
            refine (shapeI _ _ _ _ _ _ _ _ _ _ _).mono ?_
            rintro e w5 ⟨rfl, A⟩
            have T := T.trans (A.mono T.size)
            have QA := Lib.hid (QA.out.below A)
            have QB := Lib.hid (QB.out.below A)
            have QC := Lib.hid (QC.out.below A)
            have ZR := Lib.hid (ZR.out.below A)
            have zw5 := A.size
            clear A
            rw [HSH.out]
            obtain ⟨⟨ZR0, ZR1, ZR2, ZR3⟩, ZR4, ZR5, ZR6⟩ := ZR.out
            go_wp2
            refine bodyPost_ret (v := .tuple #[.agg #[.int .i64 0, .int .i64 0, .slice none 0 0], .bool false]) (by simp [results, Try.results26, go_sem, ZR0, ZR1, ZR2]) rfl ?_
            exact RT_no T (by omega)
          · have e1 : ¬ r = r3 := by
              intro e
              rw [Bool.and_eq_true] at hsh
              rw [hsh.1, hsh.2, decide_eq_true e] at ho
              cases ho
            have e2 : ¬ r3 = r := fun e => e1 e.symm
            have HSH := Lib.hid hsh
            clear ho hsh h8
            go_enter Try.func26, Try.ntmps26
            go_wp2_with fail
            refine calls_at ?_
            intro w1 hA
            have A : Below w.heap.size w w1 := by rw [hA]; exact ((((Below.refl _ _).alloc (Nat.le_refl _) _).alloc (by simp <;> omega) _).alloc (by simp <;> omega) _).alloc (by simp <;> omega) _
            have zw1 : w1.heap.size = w.heap.size + 1 + 1 + 1 + 1 := by rw [hA]; simp
            have QA_ : Box w1 (w.heap.size) r c a n cap := by rw [hA]; exact ⟨by simp [go_sem], by simp [go_sem], by simp [go_sem], by simp <;> omega⟩
            have QB_ : Box w1 (w.heap.size + 1) r2 c2 a2 n2 cap2 := by rw [hA]; exact ⟨by simp [go_sem], by simp [go_sem], by simp [go_sem], by simp <;> omega⟩
            have QC_ : Box w1 (w.heap.size + 1 + 1) r3 c3 a3 n3 cap3 := by rw [hA]; exact ⟨by simp [go_sem], by simp [go_sem], by simp [go_sem], by simp <;> omega⟩
            have ZR_ : Zbox w1 (w.heap.size + 1 + 1 + 1) := by rw [hA]; exact ⟨⟨by simp [go_sem], by simp [go_sem], by simp [go_sem], by simp <;> omega⟩, by simp [go_sem], by simp [go_sem], by simp [go_sem]⟩
            clear hA
            have zw1a := Nat.le_of_eq zw1
            have zw1b := Nat.le_of_eq zw1.symm
            clear zw1
            have T := A
            clear A
            have QA := Lib.hid QA_
            clear QA_
            have QB := Lib.hid QB_
            clear QB_
            have QC := Lib.hid QC_
            clear QC_
            have ZR := Lib.hid ZR_
            clear ZR_
            refine (validT _ _ _ _ _ _ HM1.out).mono ?_
            rintro e w2 ⟨rfl, A⟩
            have T := T.trans (A.mono T.size)
            have QA := Lib.hid (QA.out.below A)
            have QB := Lib.hid (QB.out.below A)
            have QC := Lib.hid (QC.out.below A)
            have ZR := Lib.hid (ZR.out.below A)
            have zw2 := A.size
            clear A
            rw [HV1.out]
            obtain ⟨QB0, QB1, QB2, QB3⟩ := QB.out
            go_wp2_with fail
            clear QB0 QB1 QB2 QB3
            refine (validT _ _ _ _ _ _ HM2.out).mono ?_
            rintro e w3 ⟨rfl, A⟩
            have T := T.trans (A.mono T.size)
            have QA := Lib.hid (QA.out.below A)
            have QB := Lib.hid (QB.out.below A)
            have QC := Lib.hid (QC.out.below A)
            have ZR := Lib.hid (ZR.out.below A)
            have zw3 := A.size
            clear A
            rw [HV2.out]
            obtain ⟨QC0, QC1, QC2, QC3⟩ := QC.out
            go_wp2_with fail
            clear QC0 QC1 QC2 QC3
            refine (validT _ _ _ _ _ _ HM3.out).mono ?_
            rintro e w4 ⟨rfl, A⟩
            have T := T.trans (A.mono T.size)
            have QA := Lib.hid (QA.out.below A)
            have QB := Lib.hid (QB.out.below A)
            have QC := Lib.hid (QC.out.below A)
            have ZR := Lib.hid (ZR.out.below A)
            have zw4 := A.size
            clear A
            rw [HV3.out]
            obtain ⟨QA0, QA1, QA2, QA3⟩ := QA.out
            go_wp2_with fail
            clear QA0 QA1 QA2 QA3
            refine (isSize _ _).mono ?_
            rintro e w4x ⟨rfl, hsame⟩
            replace hsame := hsame.symm
            subst hsame
            rw [HS.out]
            obtain ⟨QA0, QA1, QA2, QA3⟩ := QA.out
            obtain ⟨QB0, QB1, QB2, QB3⟩ := QB.out
            go_wp2_with fail
            clear QA0 QA1 QA2 QA3 QB0 QB1 QB2 QB3
            refine (shapeI _ _ _ _ _ _ _ _ _ _ _).mono ?_
            rintro e w5 ⟨rfl, A⟩
            have T := T.trans (A.mono T.size)
            have QA := Lib.hid (QA.out.below A)
            have QB := Lib.hid (QB.out.below A)
            have QC := Lib.hid (QC.out.below A)
            have ZR := Lib.hid (ZR.out.below A)
            have zw5 := A.size
            clear A
            rw [HSH.out]
            obtain ⟨QA0, QA1, QA2, QA3⟩ := QA.out
            obtain ⟨QC0, QC1, QC2, QC3⟩ := QC.out
            obtain ⟨⟨ZR0, ZR1, ZR2, ZR3⟩, ZR4, ZR5, ZR6⟩ := ZR.out
            go_wp2
            refine bodyPost_ret (v := .tuple #[.agg #[.int .i64 0, .int .i64 0, .slice none 0 0], .bool false]) (by simp [results, Try.results26, go_sem, ZR0, ZR1, ZR2]) rfl ?_
            exact RT_no T (by omega)
        · clear ho
          have HS : Hid (inr r 1 8 = false) := by unfold Hid inr; simp; omega
          clear h8
          go_enter Try.func26, Try.ntmps26
          go_wp2_with fail
          refine calls_at ?_
          intro w1 hA
          have A : Below w.heap.size w w1 := by rw [hA]; exact ((((Below.refl _ _).alloc (Nat.le_refl _) _).alloc (by simp <;> omega) _).alloc (by simp <;> omega) _).alloc (by simp <;> omega) _
          have zw1 : w1.heap.size = w.heap.size + 1 + 1 + 1 + 1 := by rw [hA]; simp
          have QA_ : Box w1 (w.heap.size) r c a n cap := by rw [hA]; exact ⟨by simp [go_sem], by simp [go_sem], by simp [go_sem], by simp <;> omega⟩
          have QB_ : Box w1 (w.heap.size + 1) r2 c2 a2 n2 cap2 := by rw [hA]; exact ⟨by simp [go_sem], by simp [go_sem], by simp [go_sem], by simp <;> omega⟩
          have QC_ : Box w1 (w.heap.size + 1 + 1) r3 c3 a3 n3 cap3 := by rw [hA]; exact ⟨by simp [go_sem], by simp [go_sem], by simp [go_sem], by simp <;> omega⟩
          have ZR_ : Zbox w1 (w.heap.size + 1 + 1 + 1) := by rw [hA]; exact ⟨⟨by simp [go_sem], by simp [go_sem], by simp [go_sem], by simp <;> omega⟩, by simp [go_sem], by simp [go_sem], by simp [go_sem]⟩
          clear hA
          have zw1a := Nat.le_of_eq zw1
          have zw1b := Nat.le_of_eq zw1.symm
          clear zw1
          have T := A
          clear A
          have QA := Lib.hid QA_
          clear QA_
          have QB := Lib.hid QB_
          clear QB_
          have QC := Lib.hid QC_
          clear QC_
          have ZR := Lib.hid ZR_
          clear ZR_
          refine (validT _ _ _ _ _ _ HM1.out).mono ?_
          rintro e w2 ⟨rfl, A⟩
          have T := T.trans (A.mono T.size)
          have QA := Lib.hid (QA.out.below A)
          have QB := Lib.hid (QB.out.below A)
          have QC := Lib.hid (QC.out.below A)
          have ZR := Lib.hid (ZR.out.below A)
          have zw2 := A.size
          clear A
          rw [HV1.out]
          obtain ⟨QB0, QB1, QB2, QB3⟩ := QB.out
          go_wp2_with fail
          clear QB0 QB1 QB2 QB3
          refine (validT _ _ _ _ _ _ HM2.out).mono ?_
          rintro e w3 ⟨rfl, A⟩
          have T := T.trans (A.mono T.size)
          have QA := Lib.hid (QA.out.below A)
          have QB := Lib.hid (QB.out.below A)
          have QC := Lib.hid (QC.out.below A)
          have ZR := Lib.hid (ZR.out.below A)
          have zw3 := A.size
          clear A
          rw [HV2.out]
          obtain ⟨QC0, QC1, QC2, QC3⟩ := QC.out
          go_wp2_with fail
          clear QC0 QC1 QC2 QC3
          refine (validT _ _ _ _ _ _ HM3.out).mono ?_
          rintro e w4 ⟨rfl, A⟩
          have T := T.trans (A.mono T.size)
          have QA := Lib.hid (QA.out.below A)
          have QB := Lib.hid (QB.out.below A)
          have QC := Lib.hid (QC.out.below A)
          have ZR := Lib.hid (ZR.out.below A)
          have zw4 := A.size
          clear A
          rw [HV3.out]
          obtain ⟨QA0, QA1, QA2, QA3⟩ := QA.out
          go_wp2_with fail
          clear QA0 QA1 QA2 QA3
          refine (isSize _ _).mono ?_
          rintro e w4x ⟨rfl, hsame⟩
          replace hsame := hsame.symm
          subst hsame
          rw [HS.out]
          obtain ⟨⟨ZR0, ZR1, ZR2, ZR3⟩, ZR4, ZR5, ZR6⟩ := ZR.out
          go_wp2
          refine bodyPost_ret (v := .tuple #[.agg #[.int .i64 0, .int .i64 0, .slice none 0 0], .bool false]) (by simp [results, Try.results26, go_sem, ZR0, ZR1, ZR2]) rfl ?_
          exact RT_no T (by omega)
theorem specS (r c : Int) (a : Option Addr) (n cap : Nat) (xs : List Nat) (r2 c2 : Int) (a2 : Option Addr) (n2 cap2 : Nat) (ys : List Nat) (r3 c3 : Int) (a3 : Option Addr) (n3 cap3 : Nat) (zs : List Nat) (b : Bool) (w : World) (h1 : Fs w a n cap xs) (h2 : Fs w a2 n2 cap2 ys) (h3 : Fs w a3 n3 cap3 zs) :
    Calls Try.prog 25 #[.agg #[.int .i64 r, .int .i64 c, .slice a n cap], .agg #[.int .i64 r2, .int .i64 c2, .slice a2 n2 cap2], .agg #[.int .i64 r3, .int .i64 c3, .slice a3 n3 cap3], .bool b] w (RT 45 w (if ok r c n r2 c2 n2 r3 c3 n3 = true then r else 0) (if ok r c n r2 c2 n2 r3 c3 n3 = true then c3 else 0) (S r c n xs r2 c2 n2 ys r3 c3 n3 zs b) (ok r c n r2 c2 n2 r3 c3 n3)) := by
  cases ho : ok r c n r2 c2 n2 r3 c3 n3
  · rw [S_no xs ys zs b ho, if_neg (by simp), if_neg (by simp)]
    exact specN r c a n cap xs r2 c2 a2 n2 cap2 ys r3 c3 a3 n3 cap3 zs b w h1 h2 h3 ho
  · obtain ⟨R, D, C, rfl, rfl, rfl, rfl, rfl, rfl, hR, hD, hC, hn, hn2, hn3⟩ := ok_yes ho
    have hv : decide (vt (R : Int) (D : Int) n) = true ∧ decide (vt (R : Int) (D : Int) n2) = true ∧ decide (vt (R : Int) (C : Int) n3) = true := by
      have h := ho
      unfold ok at h
      simp only [Bool.and_eq_true] at h
      exact ⟨h.1, h.2.1, h.2.2.1⟩
    rw [S_yes xs ys zs b ho, if_pos rfl, if_pos rfl]
    have hp : 0 < R * D := Nat.mul_pos hR.1 hD.1
    have hp3 : 0 < R * C := Nat.mul_pos hR.1 hC.1
    obtain ⟨ba, oa, rfl, _⟩ := h1.cell 0 (by omega)
    obtain ⟨bb, ob, rfl, _⟩ := h2.cell 0 (by omega)
    obtain ⟨bz, oz, rfl, _⟩ := h3.cell 0 (by omega)
    cases b
    · exact attS_false R D C ba oa n cap xs bb ob n2 cap2 ys bz oz n3 cap3 zs w hR hD hC hn hn2 hn3 hv.1 hv.2.1 hv.2.2 h1 h2 h3
    · exact attS_true R D C ba oa n cap xs bb ob n2 cap2 ys bz oz n3 cap3 zs w hR hD hC hn hn2 hn3 hv.1 hv.2.1 hv.2.2 h1 h2 h3
theorem implS (r c : Int) (a : Option Addr) (n cap : Nat) (xs : List Nat) (r2 c2 : Int) (a2 : Option Addr) (n2 cap2 : Nat) (ys : List Nat) (r3 c3 : Int) (a3 : Option Addr) (n3 cap3 : Nat) (zs : List Nat) (b : Bool) (w : World) (h1 : Fs w a n cap xs) (h2 : Fs w a2 n2 cap2 ys) (h3 : Fs w a3 n3 cap3 zs) :
    Calls Try.prog 26 #[.agg #[.int .i64 r, .int .i64 c, .slice a n cap], .agg #[.int .i64 r2, .int .i64 c2, .slice a2 n2 cap2], .agg #[.int .i64 r3, .int .i64 c3, .slice a3 n3 cap3], .bool b] w (RT 45 w (if ok r c n r2 c2 n2 r3 c3 n3 = true then r else 0) (if ok r c n r2 c2 n2 r3 c3 n3 = true then c3 else 0) (S r c n xs r2 c2 n2 ys r3 c3 n3 zs b) (ok r c n r2 c2 n2 r3 c3 n3)) := by
  cases ho : ok r c n r2 c2 n2 r3 c3 n3
  · rw [S_no xs ys zs b ho, if_neg (by simp), if_neg (by simp)]
    exact implN r c a n cap xs r2 c2 a2 n2 cap2 ys r3 c3 a3 n3 cap3 zs b w h1 h2 h3 ho
  · obtain ⟨R, D, C, rfl, rfl, rfl, rfl, rfl, rfl, hR, hD, hC, hn, hn2, hn3⟩ := ok_yes ho
    have hv : decide (vt (R : Int) (D : Int) n) = true ∧ decide (vt (R : Int) (D : Int) n2) = true ∧ decide (vt (R : Int) (C : Int) n3) = true := by
      have h := ho
      unfold ok at h
      simp only [Bool.and_eq_true] at h
      exact ⟨h.1, h.2.1, h.2.2.1⟩
    rw [S_yes xs ys zs b ho, if_pos rfl, if_pos rfl]
    have hp : 0 < R * D := Nat.mul_pos hR.1 hD.1
    have hp3 : 0 < R * C := Nat.mul_pos hR.1 hC.1
    obtain ⟨ba, oa, rfl, _⟩ := h1.cell 0 (by omega)
    obtain ⟨bb, ob, rfl, _⟩ := h2.cell 0 (by omega)
    obtain ⟨bz, oz, rfl, _⟩ := h3.cell 0 (by omega)
    cases b
    · exact attI_false R D C ba oa n cap xs bb ob n2 cap2 ys bz oz n3 cap3 zs w hR hD hC hn hn2 hn3 hv.1 hv.2.1 hv.2.2 h1 h2 h3
    · exact attI_true R D C ba oa n cap xs bb ob n2 cap2 ys bz oz n3 cap3 zs w hR hD hC hn hn2 hn3 hv.1 hv.2.1 hv.2.2 h1 h2 h3
theorem both (r c : Int) (n : Nat) (xs : List Nat) (r2 c2 : Int) (n2 : Nat) (ys : List Nat) (r3 c3 : Int) (n3 : Nat) (zs : List Nat) (b : Bool) (_hn : n ≤ 1048576) (_hl : n = xs.length) (_wr : (Lit.int .i64 r).wf = true) (_wc : (Lit.int .i64 c).wf = true) (_hn2 : n2 ≤ 1048576) (_hl2 : n2 = ys.length) (_wr2 : (Lit.int .i64 r2).wf = true) (_wc2 : (Lit.int .i64 c2).wf = true) (_hn3 : n3 ≤ 1048576) (_hl3 : n3 = zs.length) (_wr3 : (Lit.int .i64 r3).wf = true) (_wc3 : (Lit.int .i64 c3).wf = true) :
    ∃ ok R0 C0 S, S.length ≤ 1048576 ∧ (∀ w a cap x2 cap2 x3 cap3, Fs w a n cap xs → Fs w x2 n2 cap2 ys → Fs w x3 n3 cap3 zs → Calls Try.prog 25 #[.agg #[.int .i64 r, .int .i64 c, .slice a n cap], .agg #[.int .i64 r2, .int .i64 c2, .slice x2 n2 cap2], .agg #[.int .i64 r3, .int .i64 c3, .slice x3 n3 cap3], .bool b] w (RT 45 w R0 C0 S ok)) ∧ (∀ w a cap x2 cap2 x3 cap3, Fs w a n cap xs → Fs w x2 n2 cap2 ys → Fs w x3 n3 cap3 zs → Calls Try.prog 26 #[.agg #[.int .i64 r, .int .i64 c, .slice a n cap], .agg #[.int .i64 r2, .int .i64 c2, .slice x2 n2 cap2], .agg #[.int .i64 r3, .int .i64 c3, .slice x3 n3 cap3], .bool b] w (RT 45 w R0 C0 S ok)) :=
  ⟨_, _, _, _, S_len r c n xs r2 c2 n2 ys r3 c3 n3 zs b, fun w a cap x2 cap2 x3 cap3 h1 h2 h3 => specS r c a n cap xs r2 c2 x2 n2 cap2 ys r3 c3 x3 n3 cap3 zs b w h1 h2 h3, fun w a cap x2 cap2 x3 cap3 h1 h2 h3 => implS r c a n cap xs r2 c2 x2 n2 cap2 ys r3 c3 x3 n3 cap3 zs b w h1 h2 h3⟩
set_option maxRecDepth 100000 in
set_option maxHeartbeats 4000000 in
theorem walk (w : World) (ro0 co0 : Int) (a0 : Option Addr) (n0 c0 : Nat) (xs0 : List Nat) (h0 : Fs w a0 n0 c0 xs0) (_wr0 : (Lit.int .i64 ro0).wf = true) (_wc0 : (Lit.int .i64 co0).wf = true) (_b0 : ∀ x ∈ xs0, x < 4294967296) (ro1 co1 : Int) (a1 : Option Addr) (n1 c1 : Nat) (xs1 : List Nat) (h1 : Fs w a1 n1 c1 xs1) (_wr1 : (Lit.int .i64 ro1).wf = true) (_wc1 : (Lit.int .i64 co1).wf = true) (_b1 : ∀ x ∈ xs1, x < 4294967296) (ro2 co2 : Int) (a2 : Option Addr) (n2 c2 : Nat) (xs2 : List Nat) (h2 : Fs w a2 n2 c2 xs2) (_wr2 : (Lit.int .i64 ro2).wf = true) (_wc2 : (Lit.int .i64 co2).wf = true) (_b2 : ∀ x ∈ xs2, x < 4294967296) (a3 : Bool) :
    Calls Try.prog 7 #[.agg #[.int .i64 ro0, .int .i64 co0, .slice a0 n0 c0], .agg #[.int .i64 ro1, .int .i64 co1, .slice a1 n1 c1], .agg #[.int .i64 ro2, .int .i64 co2, .slice a2 n2 c2], .bool a3] w fun e w' => e = .returned (.bool true) ∧ Below w.heap.size w w' := by
  have m0 := h0.cap2
  have q0 := h0.cap1
  have m1 := h1.cap2
  have q1 := h1.cap1
  have m2 := h2.cap2
  have q2 := h2.cap1
  unfold maxLen at m0 m1 m2
  by_cases g0 : 1048576 < n0
  · go_enter Try.func7, Try.ntmps7
    have T := Below.refl w.heap.size w
    go_wp2_with fail
    refine calls_at ?_
    intro w3 hA
    obtain ⟨w1, hB⟩ : ∃ v, v = w.alloc (.cells #[.int .i64 ro0, .int .i64 co0, .slice a0 n0 c0] 30) := ⟨_, rfl⟩
    rw [← hB] at hA
    obtain ⟨Q, A, z1, z2⟩ := box_new hB
    clear hB
    have X0 := Lib.hid Q
    clear Q
    have T := T.trans (A.mono T.size)
    have zw1 := A.size
    clear A
    have yw1 := z1
    have xw1 := z2
    clear z1 z2
    obtain ⟨w2, hB⟩ : ∃ v, v = w1.alloc (.cells #[.int .i64 ro1, .int .i64 co1, .slice a1 n1 c1] 30) := ⟨_, rfl⟩
    rw [← hB] at hA
    obtain ⟨Q, A, z1, z2⟩ := box_new hB
    clear hB
    have eb : w1.heap.size = w.heap.size + 1 := by omega
    rw [eb] at Q
    clear eb
    have X1 := Lib.hid Q
    clear Q
    have T := T.trans (A.mono T.size)
    have X0 := Lib.hid (X0.out.below A)
    have zw2 := A.size
    clear A
    have yw2 := z1
    have xw2 := z2
    clear z1 z2
    obtain ⟨Q, A, z1, z2⟩ := box_new hA
    clear hA
    have eb : w2.heap.size = w.heap.size + 1 + 1 := by omega
    rw [eb] at Q
    clear eb
    have X2 := Lib.hid Q
    clear Q
    have T := T.trans (A.mono T.size)
    have X0 := Lib.hid (X0.out.below A)
    have X1 := Lib.hid (X1.out.below A)
    have zw3 := A.size
    clear A
    have yw3 := z1
    have xw3 := z2
    clear z1 z2
    refine (szNo _ _ _ _ _ _ _ (Nat.le_trans h0.cap1 h0.cap2) (by omega) (by omega)).mono ?_
    rintro e wz ⟨rfl, A⟩
    have T := T.trans (A.mono T.size)
    go_wp2
    go_ret
    exact ⟨rfl, T⟩
  by_cases g1 : 1048576 < n0 + n1
  · go_enter Try.func7, Try.ntmps7
    have T := Below.refl w.heap.size w
    go_wp2_with fail
    refine calls_at ?_
    intro w3 hA
    obtain ⟨w1, hB⟩ : ∃ v, v = w.alloc (.cells #[.int .i64 ro0, .int .i64 co0, .slice a0 n0 c0] 30) := ⟨_, rfl⟩
    rw [← hB] at hA
    obtain ⟨Q, A, z1, z2⟩ := box_new hB
    clear hB
    have X0 := Lib.hid Q
    clear Q
    have T := T.trans (A.mono T.size)
    have zw1 := A.size
    clear A
    have yw1 := z1
    have xw1 := z2
    clear z1 z2
    obtain ⟨w2, hB⟩ : ∃ v, v = w1.alloc (.cells #[.int .i64 ro1, .int .i64 co1, .slice a1 n1 c1] 30) := ⟨_, rfl⟩
    rw [← hB] at hA
    obtain ⟨Q, A, z1, z2⟩ := box_new hB
    clear hB
    have eb : w1.heap.size = w.heap.size + 1 := by omega
    rw [eb] at Q
    clear eb
    have X1 := Lib.hid Q
    clear Q
    have T := T.trans (A.mono T.size)
    have X0 := Lib.hid (X0.out.below A)
    have zw2 := A.size
    clear A
    have yw2 := z1
    have xw2 := z2
    clear z1 z2
    obtain ⟨Q, A, z1, z2⟩ := box_new hA
    clear hA
    have eb : w2.heap.size = w.heap.size + 1 + 1 := by omega
    rw [eb] at Q
    clear eb
    have X2 := Lib.hid Q
    clear Q
    have T := T.trans (A.mono T.size)
    have X0 := Lib.hid (X0.out.below A)
    have X1 := Lib.hid (X1.out.below A)
    have zw3 := A.size
    clear A
    have yw3 := z1
    have xw3 := z2
    clear z1 z2
    refine (szYes _ _ _ _ _ _ _ (by omega) (by omega)).mono ?_
    rintro e w4 ⟨rfl, A⟩
    have T := T.trans (A.mono T.size)
    have X0 := Lib.hid (X0.out.below A)
    have X1 := Lib.hid (X1.out.below A)
    have X2 := Lib.hid (X2.out.below A)
    have zw4 := A.size
    clear A
    obtain ⟨X10, X11, X12, X13⟩ := X1.out
    go_wp2_with fail
    clear X10 X11 X12 X13
    refine (szNo _ _ _ _ _ _ _ (Nat.le_trans h1.cap1 h1.cap2) (by omega) (by omega)).mono ?_
    rintro e wz ⟨rfl, A⟩
    have T := T.trans (A.mono T.size)
    go_wp2
    go_ret
    exact ⟨rfl, T⟩
  by_cases g2 : 1048576 < n0 + n1 + n2
  · go_enter Try.func7, Try.ntmps7
    have T := Below.refl w.heap.size w
    go_wp2_with fail
    refine calls_at ?_
    intro w3 hA
    obtain ⟨w1, hB⟩ : ∃ v, v = w.alloc (.cells #[.int .i64 ro0, .int .i64 co0, .slice a0 n0 c0] 30) := ⟨_, rfl⟩
    rw [← hB] at hA
    obtain ⟨Q, A, z1, z2⟩ := box_new hB
    clear hB
    have X0 := Lib.hid Q
    clear Q
    have T := T.trans (A.mono T.size)
    have zw1 := A.size
    clear A
    have yw1 := z1
    have xw1 := z2
    clear z1 z2
    obtain ⟨w2, hB⟩ : ∃ v, v = w1.alloc (.cells #[.int .i64 ro1, .int .i64 co1, .slice a1 n1 c1] 30) := ⟨_, rfl⟩
    rw [← hB] at hA
    obtain ⟨Q, A, z1, z2⟩ := box_new hB
    clear hB
    have eb : w1.heap.size = w.heap.size + 1 := by omega
    rw [eb] at Q
    clear eb
    have X1 := Lib.hid Q
    clear Q
    have T := T.trans (A.mono T.size)
    have X0 := Lib.hid (X0.out.below A)
    have zw2 := A.size
    clear A
    have yw2 := z1
    have xw2 := z2
    clear z1 z2
    obtain ⟨Q, A, z1, z2⟩ := box_new hA
    clear hA
    have eb : w2.heap.size = w.heap.size + 1 + 1 := by omega
    rw [eb] at Q
    clear eb
    have X2 := Lib.hid Q
    clear Q
    have T := T.trans (A.mono T.size)
    have X0 := Lib.hid (X0.out.below A)
    have X1 := Lib.hid (X1.out.below A)
    have zw3 := A.size
    clear A
    have yw3 := z1
    have xw3 := z2
    clear z1 z2
    refine (szYes _ _ _ _ _ _ _ (by omega) (by omega)).mono ?_
    rintro e w4 ⟨rfl, A⟩
    have T := T.trans (A.mono T.size)
    have X0 := Lib.hid (X0.out.below A)
    have X1 := Lib.hid (X1.out.below A)
    have X2 := Lib.hid (X2.out.below A)
    have zw4 := A.size
    clear A
    obtain ⟨X10, X11, X12, X13⟩ := X1.out
    go_wp2_with fail
    clear X10 X11 X12 X13
    refine (szYes _ _ _ _ _ _ _ (by omega) (by omega)).mono ?_
    rintro e w5 ⟨rfl, A⟩
    have T := T.trans (A.mono T.size)
    have X0 := Lib.hid (X0.out.below A)
    have X1 := Lib.hid (X1.out.below A)
    have X2 := Lib.hid (X2.out.below A)
    have zw5 := A.size
    clear A
    obtain ⟨X20, X21, X22, X23⟩ := X2.out
    go_wp2_with fail
    clear X20 X21 X22 X23
    refine (szNo _ _ _ _ _ _ _ (Nat.le_trans h2.cap1 h2.cap2) (by omega) (by omega)).mono ?_
    rintro e wz ⟨rfl, A⟩
    have T := T.trans (A.mono T.size)
    go_wp2
    go_ret
    exact ⟨rfl, T⟩
  have hn0 : n0 ≤ 1048576 := by omega
  have hn1 : n1 ≤ 1048576 := by omega
  have hn2 : n2 ≤ 1048576 := by omega
  obtain ⟨ok, R0, C0, S, hS, hs, hi⟩ := both ro0 co0 n0 xs0 ro1 co1 n1 xs1 ro2 co2 n2 xs2 a3 hn0 h0.len _wr0 _wc0 hn1 h1.len _wr1 _wc1 hn2 h2.len _wr2 _wc2
  go_enter Try.func7, Try.ntmps7
  have T := Below.refl w.heap.size w
  go_wp2_with fail
  refine calls_at ?_
  intro w3 hA
  obtain ⟨w1, hB⟩ : ∃ v, v = w.alloc (.cells #[.int .i64 ro0, .int .i64 co0, .slice a0 n0 c0] 30) := ⟨_, rfl⟩
  rw [← hB] at hA
  obtain ⟨Q, A, z1, z2⟩ := box_new hB
  clear hB
  have X0 := Lib.hid Q
  clear Q
  have T := T.trans (A.mono T.size)
  have zw1 := A.size
  clear A
  have yw1 := z1
  have xw1 := z2
  clear z1 z2
  obtain ⟨w2, hB⟩ : ∃ v, v = w1.alloc (.cells #[.int .i64 ro1, .int .i64 co1, .slice a1 n1 c1] 30) := ⟨_, rfl⟩
  rw [← hB] at hA
  obtain ⟨Q, A, z1, z2⟩ := box_new hB
  clear hB
  have eb : w1.heap.size = w.heap.size + 1 := by omega
  rw [eb] at Q
  clear eb
  have X1 := Lib.hid Q
  clear Q
  have T := T.trans (A.mono T.size)
  have X0 := Lib.hid (X0.out.below A)
  have zw2 := A.size
  clear A
  have yw2 := z1
  have xw2 := z2
  clear z1 z2
  obtain ⟨Q, A, z1, z2⟩ := box_new hA
  clear hA
  have eb : w2.heap.size = w.heap.size + 1 + 1 := by omega
  rw [eb] at Q
  clear eb
  have X2 := Lib.hid Q
  clear Q
  have T := T.trans (A.mono T.size)
  have X0 := Lib.hid (X0.out.below A)
  have X1 := Lib.hid (X1.out.below A)
  have zw3 := A.size
  clear A
  have yw3 := z1
  have xw3 := z2
  clear z1 z2
  refine (szYes _ _ _ _ _ _ _ (by omega) (by omega)).mono ?_
  rintro e w4 ⟨rfl, A⟩
  have T := T.trans (A.mono T.size)
  have X0 := Lib.hid (X0.out.below A)
  have X1 := Lib.hid (X1.out.below A)
  have X2 := Lib.hid (X2.out.below A)
  have zw4 := A.size
  clear A
  obtain ⟨X10, X11, X12, X13⟩ := X1.out
  go_wp2_with fail
  clear X10 X11 X12 X13
  refine (szYes _ _ _ _ _ _ _ (by omega) (by omega)).mono ?_
  rintro e w5 ⟨rfl, A⟩
  have T := T.trans (A.mono T.size)
  have X0 := Lib.hid (X0.out.below A)
  have X1 := Lib.hid (X1.out.below A)
  have X2 := Lib.hid (X2.out.below A)
  have zw5 := A.size
  clear A
  obtain ⟨X20, X21, X22, X23⟩ := X2.out
  go_wp2_with fail
  clear X20 X21 X22 X23
  refine (szYes _ _ _ _ _ _ _ (by omega) (by omega)).mono ?_
  rintro e w6 ⟨rfl, A⟩
  have T := T.trans (A.mono T.size)
  have X0 := Lib.hid (X0.out.below A)
  have X1 := Lib.hid (X1.out.below A)
  have X2 := Lib.hid (X2.out.below A)
  have zw6 := A.size
  clear A
  go_wp2_with fail
  go_cut [10, 11] from 37 to 47 (fun sb sk wx => ∃ bb bq pq yq, sb = .pointer (some ⟨bb, 0, none⟩) ∧ sk = .bool ok ∧ Box wx bb R0 C0 bq S.length pq ∧ Row wx w6.heap.size wx.heap.size 45 (.slice bq S.length pq) S.length yq ∧ yq.map (cn .f32) = S.map (cn .f32) ∧ Below w6.heap.size w6 wx)
  case first =>
    refine wp_plan 13 [0, 2, 0, 2, 0, 2, 0, 2, 0, 0, 0, 2, 2, 0] (.go 0 (.go 2 (.go 4 (.go 6 (.either 11 1 (.only 1 (.only 3 (.only 5 (.only 7 (.go 8 (.go 9 (.go 10 (.only 12 .fin)))))))) (.either 11 3 (.only 3 (.only 5 (.only 7 (.go 8 (.go 9 (.go 10 (.only 12 .fin))))))) (.either 11 5 (.only 5 (.only 7 (.go 8 (.go 9 (.go 10 (.only 12 .fin)))))) (.either 11 7 (.only 7 (.go 8 (.go 9 (.go 10 (.only 12 .fin))))) (.go 8 (.go 9 (.go 10 (.only 11 (.only 12 .fin))))))))))))) (Bl w6) (by kernel_rfl) (by kernel_rfl) (Bl.refl _) Bl.drew ?_
    simp only [List.drop_succ_cons, List.drop_zero]
    refine plan_go (pl0 (v := ?_) (by rfl) rfl rfl (fun w' hw' => ?_) (fun K hK => ?_))
    rotate_left
    · obtain ⟨q0, q1, q2, q3⟩ := X0.out.below hw'
      go_simp
      rfl
    go_simp
    refine hK _ _ ?_
    clear hK K
    refine plan_go (pl0 (v := ?_) (by rfl) rfl rfl (fun w' hw' => ?_) (fun K hK => ?_))
    rotate_left
    · obtain ⟨q0, q1, q2, q3⟩ := X1.out.below hw'
      go_simp
      rfl
    go_simp
    refine hK _ _ ?_
    clear hK K
    refine plan_go (pl0 (v := ?_) (by rfl) rfl rfl (fun w' hw' => ?_) (fun K hK => ?_))
    rotate_left
    · obtain ⟨q0, q1, q2, q3⟩ := X2.out.below hw'
      go_simp
      rfl
    go_simp
    refine hK _ _ ?_
    clear hK K
    refine plan_go (pl0 (v := ?_) (by rfl) rfl rfl (fun w' hw' => ?_) (fun K hK => ?_))
    rotate_left
    · go_simp
      rfl
    go_simp
    refine hK _ _ ?_
    clear hK K
    have C1_0 : Below w6.heap.size w6 w6 := Below.refl _ _
    refine plan_either ?_ ?_
    · skip
      refine pl2 (by rfl) rfl rfl (fun K hK => ?_)
      go_simp
      intro nA
      refine ⟨(bdrew C1_0 _).alloc (by have := C1_0.size; simp <;> omega) _, hK _ _ ?_⟩
      clear hK K
      refine plan_at (fun v1_1 hA => ?_)
      obtain ⟨Q, A0, z0⟩ := zbox_new hA
      clear hA
      have A : Below w6.heap.size w6 v1_1 := (bdrew (Below.refl _ _) _).trans A0
      clear A0
      have Q : Zbox v1_1 w6.heap.size := Q
      have z0 : w6.heap.size < v1_1.heap.size := z0
      have B1_1 := Q
      clear Q
      have C1_1 := C1_0.trans (A.mono C1_0.size)
      have T1_1 := T.trans (A.mono T.size)
      have zz1_1 := A.size
      clear A
      refine plan_only (pl2 (by rfl) rfl rfl (fun K hK => ?_))
      go_simp
      intro nA
      refine (toTens _ _ _ _ _ _ _ hn0 ((h0.below T1_1).drew _)).mono ?_
      rintro e v1_2 ⟨g1_2, rfl, R, A0⟩
      have A : Below v1_1.heap.size v1_1 v1_2 := (bdrew (Below.refl _ _) _).trans A0
      clear A0
      refine ⟨_, rfl, C1_1.trans (A.mono C1_1.size), hK _ _ ?_⟩
      clear hK K
      have C1_2 := C1_1.trans (A.mono C1_1.size)
      have T1_2 := T1_1.trans (A.mono T1_1.size)
      have B1_1 := B1_1.below A
      have zz1_2 := A.size
      clear A
      have K1_2 : Row v1_2 v1_1.heap.size v1_2.heap.size 45 _ _ _ := R
      clear R
      refine plan_only (pl2 (by rfl) rfl rfl (fun K hK => ?_))
      go_simp
      intro nA
      refine (toTens _ _ _ _ _ _ _ hn1 ((h1.below T1_2).drew _)).mono ?_
      rintro e v1_3 ⟨g1_3, rfl, R, A0⟩
      have A : Below v1_2.heap.size v1_2 v1_3 := (bdrew (Below.refl _ _) _).trans A0
      clear A0
      refine ⟨_, rfl, C1_2.trans (A.mono C1_2.size), hK _ _ ?_⟩
      clear hK K
      have C1_3 := C1_2.trans (A.mono C1_2.size)
      have T1_3 := T1_2.trans (A.mono T1_2.size)
      have K1_2 := K1_2.below A
      have B1_1 := B1_1.below A
      have zz1_3 := A.size
      clear A
      have K1_3 : Row v1_3 v1_2.heap.size v1_3.heap.size 45 _ _ _ := R
      clear R
      refine plan_only (pl2 (by rfl) rfl rfl (fun K hK => ?_))
      go_simp
      intro nA
      refine (toTens _ _ _ _ _ _ _ hn2 ((h2.below T1_3).drew _)).mono ?_
      rintro e v1_4 ⟨g1_4, rfl, R, A0⟩
      have A : Below v1_3.heap.size v1_3 v1_4 := (bdrew (Below.refl _ _) _).trans A0
      clear A0
      refine ⟨_, rfl, C1_3.trans (A.mono C1_3.size), hK _ _ ?_⟩
      clear hK K
      have C1_4 := C1_3.trans (A.mono C1_3.size)
      have T1_4 := T1_3.trans (A.mono T1_3.size)
      have K1_2 := K1_2.below A
      have K1_3 := K1_3.below A
      have B1_1 := B1_1.below A
      have zz1_4 := A.size
      clear A
      have K1_4 : Row v1_4 v1_3.heap.size v1_4.heap.size 45 _ _ _ := R
      clear R
      refine plan_only (pl2 (by rfl) rfl rfl (fun K hK => ?_))
      go_simp
      intro nA
      refine (hs _ _ _ _ _ _ _ (K1_2.fs.drew _) (K1_3.fs.drew _) (K1_4.fs.drew _)).mono ?_
      rintro e v1_5 ⟨b1_5, p1_5, ys1_5, rfl, R, E0, A0⟩
      have E1_5 := Lib.hid E0
      clear E0
      have A : Below v1_4.heap.size v1_4 v1_5 := (bdrew (Below.refl _ _) _).trans A0
      clear A0
      refine ⟨_, rfl, C1_4.trans (A.mono C1_4.size), hK _ _ ?_⟩
      clear hK K
      have C1_5 := C1_4.trans (A.mono C1_4.size)
      have T1_5 := T1_4.trans (A.mono T1_4.size)
      have K1_2 := K1_2.below A
      have K1_3 := K1_3.below A
      have K1_4 := K1_4.below A
      have B1_1 := B1_1.below A
      have zz1_5 := A.size
      clear A
      have K1_5 : Row v1_5 v1_4.heap.size v1_5.heap.size 45 _ _ _ := R
      clear R
      refine plan_go (pl0 (v := ?_) (by rfl) rfl rfl (fun w' hw' => ?_) (fun K hK => ?_))
      rotate_left
      · go_simp
        rfl
      go_simp
      refine hK _ _ ?_
      clear hK K
      refine plan_go (pl0 (v := ?_) (by rfl) rfl rfl (fun w' hw' => ?_) (fun K hK => ?_))
      rotate_left
      · go_simp
        rfl
      go_simp
      refine hK _ _ ?_
      clear hK K
      refine plan_go (pl0 (v := ?_) (by rfl) rfl rfl (fun w' hw' => ?_) (fun K hK => ?_))
      rotate_left
      · go_simp
        rfl
      go_simp
      refine hK _ _ ?_
      clear hK K
      refine plan_only (pl2 (by rfl) rfl rfl (fun K hK => ?_))
      obtain ⟨⟨q0, q1, q2, q3⟩, q4, q5, q6⟩ := B1_1
      go_simp
      intro nS
      have B1_1 : Zbox v1_5 w6.heap.size := ⟨⟨q0, q1, q2, q3⟩, q4, q5, q6⟩
      clear q0 q1 q2 q3 q4 q5 q6
      refine ⟨(((bdrew C1_5 _).setCell (by simp <;> omega) _).setCell (by simp <;> omega) _).setCell (by simp <;> omega) _, hK _ _ ?_⟩
      clear hK K
      refine plan_fin (fun nF => ?_)
      go_wp2_with fail
      go_meet
      obtain ⟨X, Y, Z⟩ := par_end (r := R0) (c := C0) C1_5 (by omega) B1_1 K1_5 (by omega) (by omega) nS nF
      exact ⟨_, _, _, _, rfl, rfl, X, Y, E1_5.out, Z⟩
    · skip
      refine pl2 (by rfl) rfl rfl (fun K hK => ?_)
      go_simp
      intro nA
      refine (toTens _ _ _ _ _ _ _ hn0 ((h0.below T).drew _)).mono ?_
      rintro e v1_21 ⟨g1_21, rfl, R, A0⟩
      have A : Below w6.heap.size w6 v1_21 := (bdrew (Below.refl _ _) _).trans A0
      clear A0
      refine ⟨_, rfl, C1_0.trans (A.mono C1_0.size), hK _ _ ?_⟩
      clear hK K
      have C1_21 := C1_0.trans (A.mono C1_0.size)
      have T1_21 := T.trans (A.mono T.size)
      have zz1_21 := A.size
      clear A
      have K1_21 : Row v1_21 w6.heap.size v1_21.heap.size 45 _ _ _ := R
      clear R
      refine plan_either ?_ ?_
      · skip
        refine pl2 (by rfl) rfl rfl (fun K hK => ?_)
        go_simp
        intro nA
        refine ⟨(bdrew C1_21 _).alloc (by have := C1_21.size; simp <;> omega) _, hK _ _ ?_⟩
        clear hK K
        refine plan_at (fun v1_22 hA => ?_)
        obtain ⟨Q, A0, z0⟩ := zbox_new hA
        clear hA
        have A : Below v1_21.heap.size v1_21 v1_22 := (bdrew (Below.refl _ _) _).trans A0
        clear A0
        have Q : Zbox v1_22 v1_21.heap.size := Q
        have z0 : v1_21.heap.size < v1_22.heap.size := z0
        have B1_22 := Q
        clear Q
        have C1_22 := C1_21.trans (A.mono C1_21.size)
        have T1_22 := T1_21.trans (A.mono T1_21.size)
        have K1_21 := K1_21.below A
        have zz1_22 := A.size
        clear A
        refine plan_only (pl2 (by rfl) rfl rfl (fun K hK => ?_))
        go_simp
        intro nA
        refine (toTens _ _ _ _ _ _ _ hn1 ((h1.below T1_22).drew _)).mono ?_
        rintro e v1_23 ⟨g1_23, rfl, R, A0⟩
        have A : Below v1_22.heap.size v1_22 v1_23 := (bdrew (Below.refl _ _) _).trans A0
        clear A0
        refine ⟨_, rfl, C1_22.trans (A.mono C1_22.size), hK _ _ ?_⟩
        clear hK K
        have C1_23 := C1_22.trans (A.mono C1_22.size)
        have T1_23 := T1_22.trans (A.mono T1_22.size)
        have K1_21 := K1_21.below A
        have B1_22 := B1_22.below A
        have zz1_23 := A.size
        clear A
        have K1_23 : Row v1_23 v1_22.heap.size v1_23.heap.size 45 _ _ _ := R
        clear R
        refine plan_only (pl2 (by rfl) rfl rfl (fun K hK => ?_))
        go_simp
        intro nA
        refine (toTens _ _ _ _ _ _ _ hn2 ((h2.below T1_23).drew _)).mono ?_
        rintro e v1_24 ⟨g1_24, rfl, R, A0⟩
        have A : Below v1_23.heap.size v1_23 v1_24 := (bdrew (Below.refl _ _) _).trans A0
        clear A0
        refine ⟨_, rfl, C1_23.trans (A.mono C1_23.size), hK _ _ ?_⟩
        clear hK K
        have C1_24 := C1_23.trans (A.mono C1_23.size)
        have T1_24 := T1_23.trans (A.mono T1_23.size)
        have K1_21 := K1_21.below A
        have K1_23 := K1_23.below A
        have B1_22 := B1_22.below A
        have zz1_24 := A.size
        clear A
        have K1_24 : Row v1_24 v1_23.heap.size v1_24.heap.size 45 _ _ _ := R
        clear R
        refine plan_only (pl2 (by rfl) rfl rfl (fun K hK => ?_))
        go_simp
        intro nA
        refine (hs _ _ _ _ _ _ _ (K1_21.fs.drew _) (K1_23.fs.drew _) (K1_24.fs.drew _)).mono ?_
        rintro e v1_25 ⟨b1_25, p1_25, ys1_25, rfl, R, E0, A0⟩
        have E1_25 := Lib.hid E0
        clear E0
        have A : Below v1_24.heap.size v1_24 v1_25 := (bdrew (Below.refl _ _) _).trans A0
        clear A0
        refine ⟨_, rfl, C1_24.trans (A.mono C1_24.size), hK _ _ ?_⟩
        clear hK K
        have C1_25 := C1_24.trans (A.mono C1_24.size)
        have T1_25 := T1_24.trans (A.mono T1_24.size)
        have K1_21 := K1_21.below A
        have K1_23 := K1_23.below A
        have K1_24 := K1_24.below A
        have B1_22 := B1_22.below A
        have zz1_25 := A.size
        clear A
        have K1_25 : Row v1_25 v1_24.heap.size v1_25.heap.size 45 _ _ _ := R
        clear R
        refine plan_go (pl0 (v := ?_) (by rfl) rfl rfl (fun w' hw' => ?_) (fun K hK => ?_))
        rotate_left
        · go_simp
          rfl
        go_simp
        refine hK _ _ ?_
        clear hK K
        refine plan_go (pl0 (v := ?_) (by rfl) rfl rfl (fun w' hw' => ?_) (fun K hK => ?_))
        rotate_left
        · go_simp
          rfl
        go_simp
        refine hK _ _ ?_
        clear hK K
        refine plan_go (pl0 (v := ?_) (by rfl) rfl rfl (fun w' hw' => ?_) (fun K hK => ?_))
        rotate_left
        · go_simp
          rfl
        go_simp
        refine hK _ _ ?_
        clear hK K
        refine plan_only (pl2 (by rfl) rfl rfl (fun K hK => ?_))
        obtain ⟨⟨q0, q1, q2, q3⟩, q4, q5, q6⟩ := B1_22
        go_simp
        intro nS
        have B1_22 : Zbox v1_25 v1_21.heap.size := ⟨⟨q0, q1, q2, q3⟩, q4, q5, q6⟩
        clear q0 q1 q2 q3 q4 q5 q6
        refine ⟨(((bdrew C1_25 _).setCell (by simp <;> omega) _).setCell (by simp <;> omega) _).setCell (by simp <;> omega) _, hK _ _ ?_⟩
        clear hK K
        refine plan_fin (fun nF => ?_)
        go_wp2_with fail
        go_meet
        obtain ⟨X, Y, Z⟩ := par_end (r := R0) (c := C0) C1_25 (by omega) B1_22 K1_25 (by omega) (by omega) nS nF
        exact ⟨_, _, _, _, rfl, rfl, X, Y, E1_25.out, Z⟩
      · skip
        refine pl2 (by rfl) rfl rfl (fun K hK => ?_)
        go_simp
        intro nA
        refine (toTens _ _ _ _ _ _ _ hn1 ((h1.below T1_21).drew _)).mono ?_
        rintro e v1_42 ⟨g1_42, rfl, R, A0⟩
        have A : Below v1_21.heap.size v1_21 v1_42 := (bdrew (Below.refl _ _) _).trans A0
        clear A0
        refine ⟨_, rfl, C1_21.trans (A.mono C1_21.size), hK _ _ ?_⟩
        clear hK K
        have C1_42 := C1_21.trans (A.mono C1_21.size)
        have T1_42 := T1_21.trans (A.mono T1_21.size)
        have K1_21 := K1_21.below A
        have zz1_42 := A.size
        clear A
        have K1_42 : Row v1_42 v1_21.heap.size v1_42.heap.size 45 _ _ _ := R
        clear R
        refine plan_either ?_ ?_
        · skip
          refine pl2 (by rfl) rfl rfl (fun K hK => ?_)
          go_simp
          intro nA
          refine ⟨(bdrew C1_42 _).alloc (by have := C1_42.size; simp <;> omega) _, hK _ _ ?_⟩
          clear hK K
          refine plan_at (fun v1_43 hA => ?_)
          obtain ⟨Q, A0, z0⟩ := zbox_new hA
          clear hA
          have A : Below v1_42.heap.size v1_42 v1_43 := (bdrew (Below.refl _ _) _).trans A0
          clear A0
          have Q : Zbox v1_43 v1_42.heap.size := Q
          have z0 : v1_42.heap.size < v1_43.heap.size := z0
          have B1_43 := Q
          clear Q
          have C1_43 := C1_42.trans (A.mono C1_42.size)
          have T1_43 := T1_42.trans (A.mono T1_42.size)
          have K1_21 := K1_21.below A
          have K1_42 := K1_42.below A
          have zz1_43 := A.size
          clear A
          refine plan_only (pl2 (by rfl) rfl rfl (fun K hK => ?_))
          go_simp
          intro nA
          refine (toTens _ _ _ _ _ _ _ hn2 ((h2.below T1_43).drew _)).mono ?_
          rintro e v1_44 ⟨g1_44, rfl, R, A0⟩
          have A : Below v1_43.heap.size v1_43 v1_44 := (bdrew (Below.refl _ _) _).trans A0
          clear A0
          refine ⟨_, rfl, C1_43.trans (A.mono C1_43.size), hK _ _ ?_⟩
          clear hK K
          have C1_44 := C1_43.trans (A.mono C1_43.size)
          have T1_44 := T1_43.trans (A.mono T1_43.size)
          have K1_21 := K1_21.below A
          have K1_42 := K1_42.below A
          have B1_43 := B1_43.below A
          have zz1_44 := A.size
          clear A
          have K1_44 : Row v1_44 v1_43.heap.size v1_44.heap.size 45 _ _ _ := R
          clear R
          refine plan_only (pl2 (by rfl) rfl rfl (fun K hK => ?_))
          go_simp
          intro nA
          refine (hs _ _ _ _ _ _ _ (K1_21.fs.drew _) (K1_42.fs.drew _) (K1_44.fs.drew _)).mono ?_
          rintro e v1_45 ⟨b1_45, p1_45, ys1_45, rfl, R, E0, A0⟩
          have E1_45 := Lib.hid E0
          clear E0
          have A : Below v1_44.heap.size v1_44 v1_45 := (bdrew (Below.refl _ _) _).trans A0
          clear A0
          refine ⟨_, rfl, C1_44.trans (A.mono C1_44.size), hK _ _ ?_⟩
          clear hK K
          have C1_45 := C1_44.trans (A.mono C1_44.size)
          have T1_45 := T1_44.trans (A.mono T1_44.size)
          have K1_21 := K1_21.below A
          have K1_42 := K1_42.below A
          have K1_44 := K1_44.below A
          have B1_43 := B1_43.below A
          have zz1_45 := A.size
          clear A
          have K1_45 : Row v1_45 v1_44.heap.size v1_45.heap.size 45 _ _ _ := R
          clear R
          refine plan_go (pl0 (v := ?_) (by rfl) rfl rfl (fun w' hw' => ?_) (fun K hK => ?_))
          rotate_left
          · go_simp
            rfl
          go_simp
          refine hK _ _ ?_
          clear hK K
          refine plan_go (pl0 (v := ?_) (by rfl) rfl rfl (fun w' hw' => ?_) (fun K hK => ?_))
          rotate_left
          · go_simp
            rfl
          go_simp
          refine hK _ _ ?_
          clear hK K
          refine plan_go (pl0 (v := ?_) (by rfl) rfl rfl (fun w' hw' => ?_) (fun K hK => ?_))
          rotate_left
          · go_simp
            rfl
          go_simp
          refine hK _ _ ?_
          clear hK K
          refine plan_only (pl2 (by rfl) rfl rfl (fun K hK => ?_))
          obtain ⟨⟨q0, q1, q2, q3⟩, q4, q5, q6⟩ := B1_43
          go_simp
          intro nS
          have B1_43 : Zbox v1_45 v1_42.heap.size := ⟨⟨q0, q1, q2, q3⟩, q4, q5, q6⟩
          clear q0 q1 q2 q3 q4 q5 q6
          refine ⟨(((bdrew C1_45 _).setCell (by simp <;> omega) _).setCell (by simp <;> omega) _).setCell (by simp <;> omega) _, hK _ _ ?_⟩
          clear hK K
          refine plan_fin (fun nF => ?_)
          go_wp2_with fail
          go_meet
          obtain ⟨X, Y, Z⟩ := par_end (r := R0) (c := C0) C1_45 (by omega) B1_43 K1_45 (by omega) (by omega) nS nF
          exact ⟨_, _, _, _, rfl, rfl, X, Y, E1_45.out, Z⟩
        · skip
          refine pl2 (by rfl) rfl rfl (fun K hK => ?_)
          go_simp
          intro nA
          refine (toTens _ _ _ _ _ _ _ hn2 ((h2.below T1_42).drew _)).mono ?_
          rintro e v1_63 ⟨g1_63, rfl, R, A0⟩
          have A : Below v1_42.heap.size v1_42 v1_63 := (bdrew (Below.refl _ _) _).trans A0
          clear A0
          refine ⟨_, rfl, C1_42.trans (A.mono C1_42.size), hK _ _ ?_⟩
          clear hK K
          have C1_63 := C1_42.trans (A.mono C1_42.size)
          have T1_63 := T1_42.trans (A.mono T1_42.size)
          have K1_21 := K1_21.below A
          have K1_42 := K1_42.below A
          have zz1_63 := A.size
          clear A
          have K1_63 : Row v1_63 v1_42.heap.size v1_63.heap.size 45 _ _ _ := R
          clear R
          refine plan_either ?_ ?_
          · skip
            refine pl2 (by rfl) rfl rfl (fun K hK => ?_)
            go_simp
            intro nA
            refine ⟨(bdrew C1_63 _).alloc (by have := C1_63.size; simp <;> omega) _, hK _ _ ?_⟩
            clear hK K
            refine plan_at (fun v1_64 hA => ?_)
            obtain ⟨Q, A0, z0⟩ := zbox_new hA
            clear hA
            have A : Below v1_63.heap.size v1_63 v1_64 := (bdrew (Below.refl _ _) _).trans A0
            clear A0
            have Q : Zbox v1_64 v1_63.heap.size := Q
            have z0 : v1_63.heap.size < v1_64.heap.size := z0
            have B1_64 := Q
            clear Q
            have C1_64 := C1_63.trans (A.mono C1_63.size)
            have T1_64 := T1_63.trans (A.mono T1_63.size)
            have K1_21 := K1_21.below A
            have K1_42 := K1_42.below A
            have K1_63 := K1_63.below A
            have zz1_64 := A.size
            clear A
            refine plan_only (pl2 (by rfl) rfl rfl (fun K hK => ?_))
            go_simp
            intro nA
            refine (hs _ _ _ _ _ _ _ (K1_21.fs.drew _) (K1_42.fs.drew _) (K1_63.fs.drew _)).mono ?_
            rintro e v1_65 ⟨b1_65, p1_65, ys1_65, rfl, R, E0, A0⟩
            have E1_65 := Lib.hid E0
            clear E0
            have A : Below v1_64.heap.size v1_64 v1_65 := (bdrew (Below.refl _ _) _).trans A0
            clear A0
            refine ⟨_, rfl, C1_64.trans (A.mono C1_64.size), hK _ _ ?_⟩
            clear hK K
            have C1_65 := C1_64.trans (A.mono C1_64.size)
            have T1_65 := T1_64.trans (A.mono T1_64.size)
            have K1_21 := K1_21.below A
            have K1_42 := K1_42.below A
            have K1_63 := K1_63.below A
            have B1_64 := B1_64.below A
            have zz1_65 := A.size
            clear A
            have K1_65 : Row v1_65 v1_64.heap.size v1_65.heap.size 45 _ _ _ := R
            clear R
            refine plan_go (pl0 (v := ?_) (by rfl) rfl rfl (fun w' hw' => ?_) (fun K hK => ?_))
            rotate_left
            · go_simp
              rfl
            go_simp
            refine hK _ _ ?_
            clear hK K
            refine plan_go (pl0 (v := ?_) (by rfl) rfl rfl (fun w' hw' => ?_) (fun K hK => ?_))
            rotate_left
            · go_simp
              rfl
            go_simp
            refine hK _ _ ?_
            clear hK K
            refine plan_go (pl0 (v := ?_) (by rfl) rfl rfl (fun w' hw' => ?_) (fun K hK => ?_))
            rotate_left
            · go_simp
              rfl
            go_simp
            refine hK _ _ ?_
            clear hK K
            refine plan_only (pl2 (by rfl) rfl rfl (fun K hK => ?_))
            obtain ⟨⟨q0, q1, q2, q3⟩, q4, q5, q6⟩ := B1_64
            go_simp
            intro nS
            have B1_64 : Zbox v1_65 v1_63.heap.size := ⟨⟨q0, q1, q2, q3⟩, q4, q5, q6⟩
            clear q0 q1 q2 q3 q4 q5 q6
            refine ⟨(((bdrew C1_65 _).setCell (by simp <;> omega) _).setCell (by simp <;> omega) _).setCell (by simp <;> omega) _, hK _ _ ?_⟩
            clear hK K
            refine plan_fin (fun nF => ?_)
            go_wp2_with fail
            go_meet
            obtain ⟨X, Y, Z⟩ := par_end (r := R0) (c := C0) C1_65 (by omega) B1_64 K1_65 (by omega) (by omega) nS nF
            exact ⟨_, _, _, _, rfl, rfl, X, Y, E1_65.out, Z⟩
          · skip
            refine pl2 (by rfl) rfl rfl (fun K hK => ?_)
            go_simp
            intro nA
            refine (hs _ _ _ _ _ _ _ (K1_21.fs.drew _) (K1_42.fs.drew _) (K1_63.fs.drew _)).mono ?_
            rintro e v1_84 ⟨b1_84, p1_84, ys1_84, rfl, R, E0, A0⟩
            have E1_84 := Lib.hid E0
            clear E0
            have A : Below v1_63.heap.size v1_63 v1_84 := (bdrew (Below.refl _ _) _).trans A0
            clear A0
            refine ⟨_, rfl, C1_63.trans (A.mono C1_63.size), hK _ _ ?_⟩
            clear hK K
            have C1_84 := C1_63.trans (A.mono C1_63.size)
            have T1_84 := T1_63.trans (A.mono T1_63.size)
            have K1_21 := K1_21.below A
            have K1_42 := K1_42.below A
            have K1_63 := K1_63.below A
            have zz1_84 := A.size
            clear A
            have K1_84 : Row v1_84 v1_63.heap.size v1_84.heap.size 45 _ _ _ := R
            clear R
            refine plan_go (pl0 (v := ?_) (by rfl) rfl rfl (fun w' hw' => ?_) (fun K hK => ?_))
            rotate_left
            · go_simp
              rfl
            go_simp
            refine hK _ _ ?_
            clear hK K
            refine plan_go (pl0 (v := ?_) (by rfl) rfl rfl (fun w' hw' => ?_) (fun K hK => ?_))
            rotate_left
            · go_simp
              rfl
            go_simp
            refine hK _ _ ?_
            clear hK K
            refine plan_go (pl0 (v := ?_) (by rfl) rfl rfl (fun w' hw' => ?_) (fun K hK => ?_))
            rotate_left
            · go_simp
              rfl
            go_simp
            refine hK _ _ ?_
            clear hK K
            refine plan_only (pl2 (by rfl) rfl rfl (fun K hK => ?_))
            go_simp
            intro nA
            refine ⟨(bdrew C1_84 _).alloc (by have := C1_84.size; simp <;> omega) _, hK _ _ ?_⟩
            clear hK K
            refine plan_at (fun v1_85 hA => ?_)
            obtain ⟨Q, A0, z0⟩ := zbox_new hA
            clear hA
            have A : Below v1_84.heap.size v1_84 v1_85 := (bdrew (Below.refl _ _) _).trans A0
            clear A0
            have Q : Zbox v1_85 v1_84.heap.size := Q
            have z0 : v1_84.heap.size < v1_85.heap.size := z0
            have B1_85 := Q
            clear Q
            have C1_85 := C1_84.trans (A.mono C1_84.size)
            have T1_85 := T1_84.trans (A.mono T1_84.size)
            have K1_21 := K1_21.below A
            have K1_42 := K1_42.below A
            have K1_63 := K1_63.below A
            have K1_84 := K1_84.below A
            have zz1_85 := A.size
            clear A
            refine plan_only (pl2 (by rfl) rfl rfl (fun K hK => ?_))
            obtain ⟨⟨q0, q1, q2, q3⟩, q4, q5, q6⟩ := B1_85
            go_simp
            intro nS
            have B1_85 : Zbox v1_85 v1_84.heap.size := ⟨⟨q0, q1, q2, q3⟩, q4, q5, q6⟩
            clear q0 q1 q2 q3 q4 q5 q6
            refine ⟨(((bdrew C1_85 _).setCell (by simp <;> omega) _).setCell (by simp <;> omega) _).setCell (by simp <;> omega) _, hK _ _ ?_⟩
            clear hK K
            refine plan_fin (fun nF => ?_)
            go_wp2_with fail
            go_meet
            obtain ⟨X, Y, Z⟩ := par_end (r := R0) (c := C0) C1_85 (by omega) B1_85 K1_84 (by omega) (by omega) nS nF
            exact ⟨_, _, _, _, rfl, rfl, X, Y, E1_84.out, Z⟩
  case rest =>
  obtain ⟨bb1, b1, p1, ys1, rfl, rfl, Q, R, E0, A⟩ := hcut
  generalize wc = w7 at *
  have E1h := Lib.hid E0
  clear E0
  have lt1 := Q.lt
  have Y1 := Lib.hid Q
  clear Q
  have T := T.trans (A.mono T.size)
  have X0 := Lib.hid (X0.out.below A)
  have X1 := Lib.hid (X1.out.below A)
  have X2 := Lib.hid (X2.out.below A)
  have zw7 := A.size
  clear A
  have K1 := R
  clear R
  obtain ⟨X00, X01, X02, X03⟩ := X0.out
  go_wp2_with fail
  clear X00 X01 X02 X03
  refine (toTens _ _ _ _ _ _ _ hn0 (h0.below T)).mono ?_
  rintro e w8 ⟨g2, rfl, R, A⟩
  have T := T.trans (A.mono T.size)
  have K1 := K1.below A
  have X0 := Lib.hid (X0.out.below A)
  have X1 := Lib.hid (X1.out.below A)
  have X2 := Lib.hid (X2.out.below A)
  have Y1 := Lib.hid (Y1.out.below A)
  have zw8 := A.size
  clear A
  have K2 := R
  clear R
  obtain ⟨X10, X11, X12, X13⟩ := X1.out
  go_wp2_with fail
  clear X10 X11 X12 X13
  refine calls_at ?_
  intro w9 hA
  obtain ⟨Q, A, z1, z2⟩ := box_new (r := ro0) (c := co0) (a := (some ⟨g2, 0, none⟩)) (n := n0) (cap := n0) hA
  clear hA
  have Z0 := Lib.hid Q
  clear Q
  have T := T.trans (A.mono T.size)
  have K1 := K1.below A
  have K2 := K2.below A
  have X0 := Lib.hid (X0.out.below A)
  have X1 := Lib.hid (X1.out.below A)
  have X2 := Lib.hid (X2.out.below A)
  have Y1 := Lib.hid (Y1.out.below A)
  have zw9 := A.size
  clear A
  have yw9 := z1
  have xw9 := z2
  clear z1 z2
  refine (toTens _ _ _ _ _ _ _ hn1 (h1.below T)).mono ?_
  rintro e w10 ⟨g3, rfl, R, A⟩
  have T := T.trans (A.mono T.size)
  have K1 := K1.below A
  have K2 := K2.below A
  have X0 := Lib.hid (X0.out.below A)
  have X1 := Lib.hid (X1.out.below A)
  have X2 := Lib.hid (X2.out.below A)
  have Y1 := Lib.hid (Y1.out.below A)
  have Z0 := Lib.hid (Z0.out.below A)
  have zw10 := A.size
  clear A
  have K3 := R
  clear R
  obtain ⟨X20, X21, X22, X23⟩ := X2.out
  go_wp2_with fail
  clear X20 X21 X22 X23
  refine calls_at ?_
  intro w11 hA
  obtain ⟨Q, A, z1, z2⟩ := box_new (r := ro1) (c := co1) (a := (some ⟨g3, 0, none⟩)) (n := n1) (cap := n1) hA
  clear hA
  have Z1 := Lib.hid Q
  clear Q
  have T := T.trans (A.mono T.size)
  have K1 := K1.below A
  have K2 := K2.below A
  have K3 := K3.below A
  have X0 := Lib.hid (X0.out.below A)
  have X1 := Lib.hid (X1.out.below A)
  have X2 := Lib.hid (X2.out.below A)
  have Y1 := Lib.hid (Y1.out.below A)
  have Z0 := Lib.hid (Z0.out.below A)
  have zw11 := A.size
  clear A
  have yw11 := z1
  have xw11 := z2
  clear z1 z2
  refine (toTens _ _ _ _ _ _ _ hn2 (h2.below T)).mono ?_
  rintro e w12 ⟨g4, rfl, R, A⟩
  have T := T.trans (A.mono T.size)
  have K1 := K1.below A
  have K2 := K2.below A
  have K3 := K3.below A
  have X0 := Lib.hid (X0.out.below A)
  have X1 := Lib.hid (X1.out.below A)
  have X2 := Lib.hid (X2.out.below A)
  have Y1 := Lib.hid (Y1.out.below A)
  have Z0 := Lib.hid (Z0.out.below A)
  have Z1 := Lib.hid (Z1.out.below A)
  have zw12 := A.size
  clear A
  have K4 := R
  clear R
  obtain ⟨Z00, Z01, Z02, Z03⟩ := Z0.out
  obtain ⟨Z10, Z11, Z12, Z13⟩ := Z1.out
  go_wp2_with fail
  clear Z00 Z01 Z02 Z03 Z10 Z11 Z12 Z13
  refine calls_at ?_
  intro w13 hA
  obtain ⟨Q, A, z1, z2⟩ := box_new (r := ro2) (c := co2) (a := (some ⟨g4, 0, none⟩)) (n := n2) (cap := n2) hA
  clear hA
  have Z2 := Lib.hid Q
  clear Q
  have T := T.trans (A.mono T.size)
  have K1 := K1.below A
  have K2 := K2.below A
  have K3 := K3.below A
  have K4 := K4.below A
  have X0 := Lib.hid (X0.out.below A)
  have X1 := Lib.hid (X1.out.below A)
  have X2 := Lib.hid (X2.out.below A)
  have Y1 := Lib.hid (Y1.out.below A)
  have Z0 := Lib.hid (Z0.out.below A)
  have Z1 := Lib.hid (Z1.out.below A)
  have zw13 := A.size
  clear A
  have yw13 := z1
  have xw13 := z2
  clear z1 z2
  refine (hi w13 _ _ _ _ _ _ K2.fs K3.fs K4.fs).mono ?_
  rintro e w14 ⟨b5, p5, ys5, rfl, R, E5, A⟩
  have T := T.trans (A.mono T.size)
  have K1 := K1.below A
  have K2 := K2.below A
  have K3 := K3.below A
  have K4 := K4.below A
  have X0 := Lib.hid (X0.out.below A)
  have X1 := Lib.hid (X1.out.below A)
  have X2 := Lib.hid (X2.out.below A)
  have Y1 := Lib.hid (Y1.out.below A)
  have Z0 := Lib.hid (Z0.out.below A)
  have Z1 := Lib.hid (Z1.out.below A)
  have Z2 := Lib.hid (Z2.out.below A)
  have zw14 := A.size
  clear A
  have K5 := R
  clear R
  have E5h := Lib.hid E5
  clear E5
  obtain ⟨Y10, Y11, Y12, Y13⟩ := Y1.out
  go_wp2_with fail
  clear Y10 Y11 Y12 Y13
  refine calls_at ?_
  intro w15 hA
  obtain ⟨Q, A, z1, z2⟩ := box_new (r := R0) (c := C0) (a := b5) (n := S.length) (cap := p5) hA
  clear hA
  have Y5 := Lib.hid Q
  clear Q
  have T := T.trans (A.mono T.size)
  have K1 := K1.below A
  have K2 := K2.below A
  have K3 := K3.below A
  have K4 := K4.below A
  have K5 := K5.below A
  have X0 := Lib.hid (X0.out.below A)
  have X1 := Lib.hid (X1.out.below A)
  have X2 := Lib.hid (X2.out.below A)
  have Y1 := Lib.hid (Y1.out.below A)
  have Z0 := Lib.hid (Z0.out.below A)
  have Z1 := Lib.hid (Z1.out.below A)
  have Z2 := Lib.hid (Z2.out.below A)
  have zw15 := A.size
  clear A
  have yw15 := z1
  have xw15 := z2
  clear z1 z2
  refine (eqTens _ _ _ _ _ _ _ _ _ _ hS K5.fs K1.fs (E5h.out.trans E1h.out.symm)).mono ?_
  rintro e w16 ⟨rfl, A⟩
  have T := T.trans (A.mono T.size)
  have K1 := K1.below A
  have K2 := K2.below A
  have K3 := K3.below A
  have K4 := K4.below A
  have K5 := K5.below A
  have X0 := Lib.hid (X0.out.below A)
  have X1 := Lib.hid (X1.out.below A)
  have X2 := Lib.hid (X2.out.below A)
  have Y1 := Lib.hid (Y1.out.below A)
  have Z0 := Lib.hid (Z0.out.below A)
  have Z1 := Lib.hid (Z1.out.below A)
  have Z2 := Lib.hid (Z2.out.below A)
  have Y5 := Lib.hid (Y5.out.below A)
  have zw16 := A.size
  clear A
  go_wp2_with fail
  refine wp_bl 4 [0, 0, 2, 2, 0] (by kernel_rfl) (by kernel_rfl) ?_
  simp only [List.take_succ_cons, List.take_zero, List.drop_succ_cons, List.drop_zero]
  with_reducible refine bl_step ?_
  intro K hK
  go_simp
  refine ⟨.agg #[.int .i64 ro0, .int .i64 co0, .slice (some ⟨g2, 0, none⟩) n0 n0], fun w' hw' => ?_, hK _ _ ?_⟩
  · obtain ⟨q0, q1, q2, q3⟩ := Z0.out.below hw'
    go_simp
  clear hK K
  with_reducible refine bl_step ?_
  intro K hK
  go_simp
  refine ⟨.agg #[.int .i64 ro0, .int .i64 co0, .slice a0 n0 c0], fun w' hw' => ?_, hK _ _ ?_⟩
  · obtain ⟨q0, q1, q2, q3⟩ := X0.out.below hw'
    go_simp
  clear hK K
  with_reducible refine bl_step ?_
  intro K hK
  go_simp
  intro _
  refine (toTens _ _ _ _ _ _ _ hn0 ((h0.below T).drew _)).mono ?_
  rintro e w17 ⟨g6, rfl, R, A0⟩
  have A := (bdrew (Below.refl _ _) _).trans A0
  clear A0
  refine ⟨_, rfl, A, hK _ _ ?_⟩
  clear hK K
  have BL : Below w16.heap.size w16 w17 := A
  have T := T.trans (A.mono T.size)
  have K1 := K1.below A
  have K2 := K2.below A
  have K3 := K3.below A
  have K4 := K4.below A
  have K5 := K5.below A
  have X0 := Lib.hid (X0.out.below A)
  have X1 := Lib.hid (X1.out.below A)
  have X2 := Lib.hid (X2.out.below A)
  have Y1 := Lib.hid (Y1.out.below A)
  have Z0 := Lib.hid (Z0.out.below A)
  have Z1 := Lib.hid (Z1.out.below A)
  have Z2 := Lib.hid (Z2.out.below A)
  have Y5 := Lib.hid (Y5.out.below A)
  have zw17 := A.size
  clear A
  have K6 := R
  clear R
  with_reducible refine bl_step ?_
  intro K hK
  go_simp
  intro _
  refine (eqTens _ _ _ _ _ _ _ _ _ _ hn0 (K2.fs.drew _) (K6.fs.drew _) rfl).mono ?_
  rintro e w18 ⟨rfl, A0⟩
  have A := (bdrew (Below.refl _ _) _).trans A0
  clear A0
  refine ⟨_, rfl, BL.trans (A.mono BL.size), hK _ _ ?_⟩
  clear hK K BL
  have T := T.trans (A.mono T.size)
  have K1 := K1.below A
  have K2 := K2.below A
  have K3 := K3.below A
  have K4 := K4.below A
  have K5 := K5.below A
  have K6 := K6.below A
  have X0 := Lib.hid (X0.out.below A)
  have X1 := Lib.hid (X1.out.below A)
  have X2 := Lib.hid (X2.out.below A)
  have Y1 := Lib.hid (Y1.out.below A)
  have Z0 := Lib.hid (Z0.out.below A)
  have Z1 := Lib.hid (Z1.out.below A)
  have Z2 := Lib.hid (Z2.out.below A)
  have Y5 := Lib.hid (Y5.out.below A)
  have zw18 := A.size
  clear A
  with_reducible refine wpR_nil (fun nq => ?_)
  generalize hA : w18.drewN nq = w19
  have A := below_of_drew hA.symm
  clear hA
  have T := T.trans (A.mono T.size)
  have K1 := K1.below A
  have K2 := K2.below A
  have K3 := K3.below A
  have K4 := K4.below A
  have K5 := K5.below A
  have K6 := K6.below A
  have X0 := Lib.hid (X0.out.below A)
  have X1 := Lib.hid (X1.out.below A)
  have X2 := Lib.hid (X2.out.below A)
  have Y1 := Lib.hid (Y1.out.below A)
  have Z0 := Lib.hid (Z0.out.below A)
  have Z1 := Lib.hid (Z1.out.below A)
  have Z2 := Lib.hid (Z2.out.below A)
  have Y5 := Lib.hid (Y5.out.below A)
  have zw19 := A.size
  clear A
  go_wp2_with fail
  refine wp_bl 4 [0, 0, 2, 2, 0] (by kernel_rfl) (by kernel_rfl) ?_
  simp only [List.take_succ_cons, List.take_zero, List.drop_succ_cons, List.drop_zero]
  with_reducible refine bl_step ?_
  intro K hK
  go_simp
  refine ⟨.agg #[.int .i64 ro1, .int .i64 co1, .slice (some ⟨g3, 0, none⟩) n1 n1], fun w' hw' => ?_, hK _ _ ?_⟩
  · obtain ⟨q0, q1, q2, q3⟩ := Z1.out.below hw'
    go_simp
  clear hK K
  with_reducible refine bl_step ?_
  intro K hK
  go_simp
  refine ⟨.agg #[.int .i64 ro1, .int .i64 co1, .slice a1 n1 c1], fun w' hw' => ?_, hK _ _ ?_⟩
  · obtain ⟨q0, q1, q2, q3⟩ := X1.out.below hw'
    go_simp
  clear hK K
  with_reducible refine bl_step ?_
  intro K hK
  go_simp
  intro _
  refine (toTens _ _ _ _ _ _ _ hn1 ((h1.below T).drew _)).mono ?_
  rintro e w20 ⟨g7, rfl, R, A0⟩
  have A := (bdrew (Below.refl _ _) _).trans A0
  clear A0
  refine ⟨_, rfl, A, hK _ _ ?_⟩
  clear hK K
  have BL : Below w19.heap.size w19 w20 := A
  have T := T.trans (A.mono T.size)
  have K1 := K1.below A
  have K2 := K2.below A
  have K3 := K3.below A
  have K4 := K4.below A
  have K5 := K5.below A
  have K6 := K6.below A
  have X0 := Lib.hid (X0.out.below A)
  have X1 := Lib.hid (X1.out.below A)
  have X2 := Lib.hid (X2.out.below A)
  have Y1 := Lib.hid (Y1.out.below A)
  have Z0 := Lib.hid (Z0.out.below A)
  have Z1 := Lib.hid (Z1.out.below A)
  have Z2 := Lib.hid (Z2.out.below A)
  have Y5 := Lib.hid (Y5.out.below A)
  have zw20 := A.size
  clear A
  have K7 := R
  clear R
  with_reducible refine bl_step ?_
  intro K hK
  go_simp
  intro _
  refine (eqTens _ _ _ _ _ _ _ _ _ _ hn1 (K3.fs.drew _) (K7.fs.drew _) rfl).mono ?_
  rintro e w21 ⟨rfl, A0⟩
  have A := (bdrew (Below.refl _ _) _).trans A0
  clear A0
  refine ⟨_, rfl, BL.trans (A.mono BL.size), hK _ _ ?_⟩
  clear hK K BL
  have T := T.trans (A.mono T.size)
  have K1 := K1.below A
  have K2 := K2.below A
  have K3 := K3.below A
  have K4 := K4.below A
  have K5 := K5.below A
  have K6 := K6.below A
  have K7 := K7.below A
  have X0 := Lib.hid (X0.out.below A)
  have X1 := Lib.hid (X1.out.below A)
  have X2 := Lib.hid (X2.out.below A)
  have Y1 := Lib.hid (Y1.out.below A)
  have Z0 := Lib.hid (Z0.out.below A)
  have Z1 := Lib.hid (Z1.out.below A)
  have Z2 := Lib.hid (Z2.out.below A)
  have Y5 := Lib.hid (Y5.out.below A)
  have zw21 := A.size
  clear A
  with_reducible refine wpR_nil (fun nq => ?_)
  generalize hA : w21.drewN nq = w22
  have A := below_of_drew hA.symm
  clear hA
  have T := T.trans (A.mono T.size)
  have K1 := K1.below A
  have K2 := K2.below A
  have K3 := K3.below A
  have K4 := K4.below A
  have K5 := K5.below A
  have K6 := K6.below A
  have K7 := K7.below A
  have X0 := Lib.hid (X0.out.below A)
  have X1 := Lib.hid (X1.out.below A)
  have X2 := Lib.hid (X2.out.below A)
  have Y1 := Lib.hid (Y1.out.below A)
  have Z0 := Lib.hid (Z0.out.below A)
  have Z1 := Lib.hid (Z1.out.below A)
  have Z2 := Lib.hid (Z2.out.below A)
  have Y5 := Lib.hid (Y5.out.below A)
  have zw22 := A.size
  clear A
  go_wp2_with fail
  refine wp_bl 4 [0, 0, 2, 2, 0] (by kernel_rfl) (by kernel_rfl) ?_
  simp only [List.take_succ_cons, List.take_zero, List.drop_succ_cons, List.drop_zero]
  with_reducible refine bl_step ?_
  intro K hK
  go_simp
  refine ⟨.agg #[.int .i64 ro2, .int .i64 co2, .slice (some ⟨g4, 0, none⟩) n2 n2], fun w' hw' => ?_, hK _ _ ?_⟩
  · obtain ⟨q0, q1, q2, q3⟩ := Z2.out.below hw'
    go_simp
  clear hK K
  with_reducible refine bl_step ?_
  intro K hK
  go_simp
  refine ⟨.agg #[.int .i64 ro2, .int .i64 co2, .slice a2 n2 c2], fun w' hw' => ?_, hK _ _ ?_⟩
  · obtain ⟨q0, q1, q2, q3⟩ := X2.out.below hw'
    go_simp
  clear hK K
  with_reducible refine bl_step ?_
  intro K hK
  go_simp
  intro _
  refine (toTens _ _ _ _ _ _ _ hn2 ((h2.below T).drew _)).mono ?_
  rintro e w23 ⟨g8, rfl, R, A0⟩
  have A := (bdrew (Below.refl _ _) _).trans A0
  clear A0
  refine ⟨_, rfl, A, hK _ _ ?_⟩
  clear hK K
  have BL : Below w22.heap.size w22 w23 := A
  have T := T.trans (A.mono T.size)
  have K1 := K1.below A
  have K2 := K2.below A
  have K3 := K3.below A
  have K4 := K4.below A
  have K5 := K5.below A
  have K6 := K6.below A
  have K7 := K7.below A
  have X0 := Lib.hid (X0.out.below A)
  have X1 := Lib.hid (X1.out.below A)
  have X2 := Lib.hid (X2.out.below A)
  have Y1 := Lib.hid (Y1.out.below A)
  have Z0 := Lib.hid (Z0.out.below A)
  have Z1 := Lib.hid (Z1.out.below A)
  have Z2 := Lib.hid (Z2.out.below A)
  have Y5 := Lib.hid (Y5.out.below A)
  have zw23 := A.size
  clear A
  have K8 := R
  clear R
  with_reducible refine bl_step ?_
  intro K hK
  go_simp
  intro _
  refine (eqTens _ _ _ _ _ _ _ _ _ _ hn2 (K4.fs.drew _) (K8.fs.drew _) rfl).mono ?_
  rintro e w24 ⟨rfl, A0⟩
  have A := (bdrew (Below.refl _ _) _).trans A0
  clear A0
  refine ⟨_, rfl, BL.trans (A.mono BL.size), hK _ _ ?_⟩
  clear hK K BL
  have T := T.trans (A.mono T.size)
  have K1 := K1.below A
  have K2 := K2.below A
  have K3 := K3.below A
  have K4 := K4.below A
  have K5 := K5.below A
  have K6 := K6.below A
  have K7 := K7.below A
  have K8 := K8.below A
  have X0 := Lib.hid (X0.out.below A)
  have X1 := Lib.hid (X1.out.below A)
  have X2 := Lib.hid (X2.out.below A)
  have Y1 := Lib.hid (Y1.out.below A)
  have Z0 := Lib.hid (Z0.out.below A)
  have Z1 := Lib.hid (Z1.out.below A)
  have Z2 := Lib.hid (Z2.out.below A)
  have Y5 := Lib.hid (Y5.out.below A)
  have zw24 := A.size
  clear A
  with_reducible refine wpR_nil (fun nq => ?_)
  generalize hA : w24.drewN nq = w25
  have A := below_of_drew hA.symm
  clear hA
  have T := T.trans (A.mono T.size)
  have K1 := K1.below A
  have K2 := K2.below A
  have K3 := K3.below A
  have K4 := K4.below A
  have K5 := K5.below A
  have K6 := K6.below A
  have K7 := K7.below A
  have K8 := K8.below A
  have X0 := Lib.hid (X0.out.below A)
  have X1 := Lib.hid (X1.out.below A)
  have X2 := Lib.hid (X2.out.below A)
  have Y1 := Lib.hid (Y1.out.below A)
  have Z0 := Lib.hid (Z0.out.below A)
  have Z1 := Lib.hid (Z1.out.below A)
  have Z2 := Lib.hid (Z2.out.below A)
  have Y5 := Lib.hid (Y5.out.below A)
  have zw25 := A.size
  clear A
  clear K6 K7 K8
  obtain ⟨Z00, Z01, Z02, Z03⟩ := Z0.out
  go_wp2_with fail
  clear Z00 Z01 Z02 Z03
  refine (markTens _ _ _ _ _ _ _ _ (1) _ hn0 (by omega) K2).mono ?_
  rintro e w26 ⟨rfl, R, A⟩
  have z := A.size
  have t := T.size
  have T := T.trans (A.below (by omega) (by omega))
  have K1 := K1.keep A (by omega)
  have K3 := K3.keep A (by omega)
  have K4 := K4.keep A (by omega)
  have K5 := K5.keep A (by omega)
  have X0 := Lib.hid (X0.out.keep A (by omega))
  have X1 := Lib.hid (X1.out.keep A (by omega))
  have X2 := Lib.hid (X2.out.keep A (by omega))
  have Y1 := Lib.hid (Y1.out.keep A (by omega))
  have Z0 := Lib.hid (Z0.out.keep A (by omega))
  have Z1 := Lib.hid (Z1.out.keep A (by omega))
  have Z2 := Lib.hid (Z2.out.keep A (by omega))
  have Y5 := Lib.hid (Y5.out.keep A (by omega))
  have K2 := R
  have zw26 := z
  clear A R z t
  obtain ⟨Z10, Z11, Z12, Z13⟩ := Z1.out
  go_wp2_with fail
  clear Z10 Z11 Z12 Z13
  refine (markTens _ _ _ _ _ _ _ _ (1 + (n0 : Int)) _ hn1 (by omega) K3).mono ?_
  rintro e w27 ⟨rfl, R, A⟩
  have z := A.size
  have t := T.size
  have T := T.trans (A.below (by omega) (by omega))
  have K1 := K1.keep A (by omega)
  have K2 := K2.keep A (by omega)
  have K4 := K4.keep A (by omega)
  have K5 := K5.keep A (by omega)
  have X0 := Lib.hid (X0.out.keep A (by omega))
  have X1 := Lib.hid (X1.out.keep A (by omega))
  have X2 := Lib.hid (X2.out.keep A (by omega))
  have Y1 := Lib.hid (Y1.out.keep A (by omega))
  have Z0 := Lib.hid (Z0.out.keep A (by omega))
  have Z1 := Lib.hid (Z1.out.keep A (by omega))
  have Z2 := Lib.hid (Z2.out.keep A (by omega))
  have Y5 := Lib.hid (Y5.out.keep A (by omega))
  have K3 := R
  have zw27 := z
  clear A R z t
  obtain ⟨Z20, Z21, Z22, Z23⟩ := Z2.out
  go_wp2_with fail
  clear Z20 Z21 Z22 Z23
  refine (markTens _ _ _ _ _ _ _ _ (1 + (n0 : Int) + (n1 : Int)) _ hn2 (by omega) K4).mono ?_
  rintro e w28 ⟨rfl, R, A⟩
  have z := A.size
  have t := T.size
  have T := T.trans (A.below (by omega) (by omega))
  have K1 := K1.keep A (by omega)
  have K2 := K2.keep A (by omega)
  have K3 := K3.keep A (by omega)
  have K5 := K5.keep A (by omega)
  have X0 := Lib.hid (X0.out.keep A (by omega))
  have X1 := Lib.hid (X1.out.keep A (by omega))
  have X2 := Lib.hid (X2.out.keep A (by omega))
  have Y1 := Lib.hid (Y1.out.keep A (by omega))
  have Z0 := Lib.hid (Z0.out.keep A (by omega))
  have Z1 := Lib.hid (Z1.out.keep A (by omega))
  have Z2 := Lib.hid (Z2.out.keep A (by omega))
  have Y5 := Lib.hid (Y5.out.keep A (by omega))
  have K4 := R
  have zw28 := z
  clear A R z t
  obtain ⟨Y50, Y51, Y52, Y53⟩ := Y5.out
  obtain ⟨Y10, Y11, Y12, Y13⟩ := Y1.out
  go_wp2_with fail
  clear Y50 Y51 Y52 Y53 Y10 Y11 Y12 Y13
  refine (eqTens _ _ _ _ _ _ _ _ _ _ hS K5.fs K1.fs (E5h.out.trans E1h.out.symm)).mono ?_
  rintro e w29 ⟨rfl, A⟩
  have T := T.trans (A.mono T.size)
  have K1 := K1.below A
  have K2 := K2.below A
  have K3 := K3.below A
  have K4 := K4.below A
  have K5 := K5.below A
  have X0 := Lib.hid (X0.out.below A)
  have X1 := Lib.hid (X1.out.below A)
  have X2 := Lib.hid (X2.out.below A)
  have Y1 := Lib.hid (Y1.out.below A)
  have Z0 := Lib.hid (Z0.out.below A)
  have Z1 := Lib.hid (Z1.out.below A)
  have Z2 := Lib.hid (Z2.out.below A)
  have Y5 := Lib.hid (Y5.out.below A)
  have zw29 := A.size
  clear A
  obtain ⟨Y50, Y51, Y52, Y53⟩ := Y5.out
  go_wp2_with fail
  clear Y50 Y51 Y52 Y53
  refine (markTens _ _ _ _ _ _ _ _ 1 _ hS (by omega) K5).mono ?_
  rintro e w30 ⟨rfl, R, A⟩
  have z := A.size
  have t := T.size
  have T := T.trans (A.below (by omega) (by omega))
  have K1 := K1.keep A (by omega)
  have K2 := K2.keep A (by omega)
  have K3 := K3.keep A (by omega)
  have K4 := K4.keep A (by omega)
  have X0 := Lib.hid (X0.out.keep A (by omega))
  have X1 := Lib.hid (X1.out.keep A (by omega))
  have X2 := Lib.hid (X2.out.keep A (by omega))
  have Y1 := Lib.hid (Y1.out.keep A (by omega))
  have Z0 := Lib.hid (Z0.out.keep A (by omega))
  have Z1 := Lib.hid (Z1.out.keep A (by omega))
  have Z2 := Lib.hid (Z2.out.keep A (by omega))
  have Y5 := Lib.hid (Y5.out.keep A (by omega))
  have K5 := R
  have zw30 := z
  clear A R z t
  obtain ⟨Y50, Y51, Y52, Y53⟩ := Y5.out
  go_wp2_with fail
  clear Y50 Y51 Y52 Y53
  refine (heldTens _ _ _ _ _ 1 _ hS (by omega) K5.fs).mono ?_
  rintro e w31 ⟨rfl, A⟩
  have T := T.trans (A.mono T.size)
  have K1 := K1.below A
  have K2 := K2.below A
  have K3 := K3.below A
  have K4 := K4.below A
  have K5 := K5.below A
  have X0 := Lib.hid (X0.out.below A)
  have X1 := Lib.hid (X1.out.below A)
  have X2 := Lib.hid (X2.out.below A)
  have Y1 := Lib.hid (Y1.out.below A)
  have Z0 := Lib.hid (Z0.out.below A)
  have Z1 := Lib.hid (Z1.out.below A)
  have Z2 := Lib.hid (Z2.out.below A)
  have Y5 := Lib.hid (Y5.out.below A)
  have zw31 := A.size
  clear A
  go_wp2_with fail
  go_cut [20, 21] from 119 to 129 (fun sb sk wx => ∃ bb bq pq yq, sb = .pointer (some ⟨bb, 0, none⟩) ∧ sk = .bool ok ∧ Box wx bb R0 C0 bq S.length pq ∧ Row wx w31.heap.size wx.heap.size 45 (.slice bq S.length pq) S.length yq ∧ yq.map (cn .f32) = S.map (cn .f32) ∧ Below w31.heap.size w31 wx)
  case first =>
    refine wp_plan 13 [0, 2, 0, 2, 0, 2, 0, 2, 0, 0, 0, 2, 2, 0] (.go 0 (.go 2 (.go 4 (.go 6 (.either 11 1 (.only 1 (.only 3 (.only 5 (.only 7 (.go 8 (.go 9 (.go 10 (.only 12 .fin)))))))) (.either 11 3 (.only 3 (.only 5 (.only 7 (.go 8 (.go 9 (.go 10 (.only 12 .fin))))))) (.either 11 5 (.only 5 (.only 7 (.go 8 (.go 9 (.go 10 (.only 12 .fin)))))) (.either 11 7 (.only 7 (.go 8 (.go 9 (.go 10 (.only 12 .fin))))) (.go 8 (.go 9 (.go 10 (.only 11 (.only 12 .fin))))))))))))) (Bl w31) (by kernel_rfl) (by kernel_rfl) (Bl.refl _) Bl.drew ?_
    simp only [List.drop_succ_cons, List.drop_zero]
    refine plan_go (pl0 (v := ?_) (by rfl) rfl rfl (fun w' hw' => ?_) (fun K hK => ?_))
    rotate_left
    · obtain ⟨q0, q1, q2, q3⟩ := X0.out.below hw'
      go_simp
      rfl
    go_simp
    refine hK _ _ ?_
    clear hK K
    refine plan_go (pl0 (v := ?_) (by rfl) rfl rfl (fun w' hw' => ?_) (fun K hK => ?_))
    rotate_left
    · obtain ⟨q0, q1, q2, q3⟩ := X1.out.below hw'
      go_simp
      rfl
    go_simp
    refine hK _ _ ?_
    clear hK K
    refine plan_go (pl0 (v := ?_) (by rfl) rfl rfl (fun w' hw' => ?_) (fun K hK => ?_))
    rotate_left
    · obtain ⟨q0, q1, q2, q3⟩ := X2.out.below hw'
      go_simp
      rfl
    go_simp
    refine hK _ _ ?_
    clear hK K
    refine plan_go (pl0 (v := ?_) (by rfl) rfl rfl (fun w' hw' => ?_) (fun K hK => ?_))
    rotate_left
    · go_simp
      rfl
    go_simp
    refine hK _ _ ?_
    clear hK K
    have C9_0 : Below w31.heap.size w31 w31 := Below.refl _ _
    refine plan_either ?_ ?_
    · skip
      refine pl2 (by rfl) rfl rfl (fun K hK => ?_)
      go_simp
      intro nA
      refine ⟨(bdrew C9_0 _).alloc (by have := C9_0.size; simp <;> omega) _, hK _ _ ?_⟩
      clear hK K
      refine plan_at (fun v9_1 hA => ?_)
      obtain ⟨Q, A0, z0⟩ := zbox_new hA
      clear hA
      have A : Below w31.heap.size w31 v9_1 := (bdrew (Below.refl _ _) _).trans A0
      clear A0
      have Q : Zbox v9_1 w31.heap.size := Q
      have z0 : w31.heap.size < v9_1.heap.size := z0
      have B9_1 := Q
      clear Q
      have C9_1 := C9_0.trans (A.mono C9_0.size)
      have T9_1 := T.trans (A.mono T.size)
      have zz9_1 := A.size
      clear A
      refine plan_only (pl2 (by rfl) rfl rfl (fun K hK => ?_))
      go_simp
      intro nA
      refine (toTens _ _ _ _ _ _ _ hn0 ((h0.below T9_1).drew _)).mono ?_
      rintro e v9_2 ⟨g9_2, rfl, R, A0⟩
      have A : Below v9_1.heap.size v9_1 v9_2 := (bdrew (Below.refl _ _) _).trans A0
      clear A0
      refine ⟨_, rfl, C9_1.trans (A.mono C9_1.size), hK _ _ ?_⟩
      clear hK K
      have C9_2 := C9_1.trans (A.mono C9_1.size)
      have T9_2 := T9_1.trans (A.mono T9_1.size)
      have B9_1 := B9_1.below A
      have zz9_2 := A.size
      clear A
      have K9_2 : Row v9_2 v9_1.heap.size v9_2.heap.size 45 _ _ _ := R
      clear R
      refine plan_only (pl2 (by rfl) rfl rfl (fun K hK => ?_))
      go_simp
      intro nA
      refine (toTens _ _ _ _ _ _ _ hn1 ((h1.below T9_2).drew _)).mono ?_
      rintro e v9_3 ⟨g9_3, rfl, R, A0⟩
      have A : Below v9_2.heap.size v9_2 v9_3 := (bdrew (Below.refl _ _) _).trans A0
      clear A0
      refine ⟨_, rfl, C9_2.trans (A.mono C9_2.size), hK _ _ ?_⟩
      clear hK K
      have C9_3 := C9_2.trans (A.mono C9_2.size)
      have T9_3 := T9_2.trans (A.mono T9_2.size)
      have K9_2 := K9_2.below A
      have B9_1 := B9_1.below A
      have zz9_3 := A.size
      clear A
      have K9_3 : Row v9_3 v9_2.heap.size v9_3.heap.size 45 _ _ _ := R
      clear R
      refine plan_only (pl2 (by rfl) rfl rfl (fun K hK => ?_))
      go_simp
      intro nA
      refine (toTens _ _ _ _ _ _ _ hn2 ((h2.below T9_3).drew _)).mono ?_
      rintro e v9_4 ⟨g9_4, rfl, R, A0⟩
      have A : Below v9_3.heap.size v9_3 v9_4 := (bdrew (Below.refl _ _) _).trans A0
      clear A0
      refine ⟨_, rfl, C9_3.trans (A.mono C9_3.size), hK _ _ ?_⟩
      clear hK K
      have C9_4 := C9_3.trans (A.mono C9_3.size)
      have T9_4 := T9_3.trans (A.mono T9_3.size)
      have K9_2 := K9_2.below A
      have K9_3 := K9_3.below A
      have B9_1 := B9_1.below A
      have zz9_4 := A.size
      clear A
      have K9_4 : Row v9_4 v9_3.heap.size v9_4.heap.size 45 _ _ _ := R
      clear R
      refine plan_only (pl2 (by rfl) rfl rfl (fun K hK => ?_))
      go_simp
      intro nA
      refine (hi _ _ _ _ _ _ _ (K9_2.fs.drew _) (K9_3.fs.drew _) (K9_4.fs.drew _)).mono ?_
      rintro e v9_5 ⟨b9_5, p9_5, ys9_5, rfl, R, E0, A0⟩
      have E9_5 := Lib.hid E0
      clear E0
      have A : Below v9_4.heap.size v9_4 v9_5 := (bdrew (Below.refl _ _) _).trans A0
      clear A0
      refine ⟨_, rfl, C9_4.trans (A.mono C9_4.size), hK _ _ ?_⟩
      clear hK K
      have C9_5 := C9_4.trans (A.mono C9_4.size)
      have T9_5 := T9_4.trans (A.mono T9_4.size)
      have K9_2 := K9_2.below A
      have K9_3 := K9_3.below A
      have K9_4 := K9_4.below A
      have B9_1 := B9_1.below A
      have zz9_5 := A.size
      clear A
      have K9_5 : Row v9_5 v9_4.heap.size v9_5.heap.size 45 _ _ _ := R
      clear R
      refine plan_go (pl0 (v := ?_) (by rfl) rfl rfl (fun w' hw' => ?_) (fun K hK => ?_))
      rotate_left
      · go_simp
        rfl
      go_simp
      refine hK _ _ ?_
      clear hK K
      refine plan_go (pl0 (v := ?_) (by rfl) rfl rfl (fun w' hw' => ?_) (fun K hK => ?_))
      rotate_left
      · go_simp
        rfl
      go_simp
      refine hK _ _ ?_
      clear hK K
      refine plan_go (pl0 (v := ?_) (by rfl) rfl rfl (fun w' hw' => ?_) (fun K hK => ?_))
      rotate_left
      · go_simp
        rfl
      go_simp
      refine hK _ _ ?_
      clear hK K
      refine plan_only (pl2 (by rfl) rfl rfl (fun K hK => ?_))
      obtain ⟨⟨q0, q1, q2, q3⟩, q4, q5, q6⟩ := B9_1
      go_simp
      intro nS
      have B9_1 : Zbox v9_5 w31.heap.size := ⟨⟨q0, q1, q2, q3⟩, q4, q5, q6⟩
      clear q0 q1 q2 q3 q4 q5 q6
      refine ⟨(((bdrew C9_5 _).setCell (by simp <;> omega) _).setCell (by simp <;> omega) _).setCell (by simp <;> omega) _, hK _ _ ?_⟩
      clear hK K
      refine plan_fin (fun nF => ?_)
      go_wp2_with fail
      go_meet
      obtain ⟨X, Y, Z⟩ := par_end (r := R0) (c := C0) C9_5 (by omega) B9_1 K9_5 (by omega) (by omega) nS nF
      exact ⟨_, _, _, _, rfl, rfl, X, Y, E9_5.out, Z⟩
    · skip
      refine pl2 (by rfl) rfl rfl (fun K hK => ?_)
      go_simp
      intro nA
      refine (toTens _ _ _ _ _ _ _ hn0 ((h0.below T).drew _)).mono ?_
      rintro e v9_21 ⟨g9_21, rfl, R, A0⟩
      have A : Below w31.heap.size w31 v9_21 := (bdrew (Below.refl _ _) _).trans A0
      clear A0
      refine ⟨_, rfl, C9_0.trans (A.mono C9_0.size), hK _ _ ?_⟩
      clear hK K
      have C9_21 := C9_0.trans (A.mono C9_0.size)
      have T9_21 := T.trans (A.mono T.size)
      have zz9_21 := A.size
      clear A
      have K9_21 : Row v9_21 w31.heap.size v9_21.heap.size 45 _ _ _ := R
      clear R
      refine plan_either ?_ ?_
      · skip
        refine pl2 (by rfl) rfl rfl (fun K hK => ?_)
        go_simp
        intro nA
        refine ⟨(bdrew C9_21 _).alloc (by have := C9_21.size; simp <;> omega) _, hK _ _ ?_⟩
        clear hK K
        refine plan_at (fun v9_22 hA => ?_)
        obtain ⟨Q, A0, z0⟩ := zbox_new hA
        clear hA
        have A : Below v9_21.heap.size v9_21 v9_22 := (bdrew (Below.refl _ _) _).trans A0
        clear A0
        have Q : Zbox v9_22 v9_21.heap.size := Q
        have z0 : v9_21.heap.size < v9_22.heap.size := z0
        have B9_22 := Q
        clear Q
        have C9_22 := C9_21.trans (A.mono C9_21.size)
        have T9_22 := T9_21.trans (A.mono T9_21.size)
        have K9_21 := K9_21.below A
        have zz9_22 := A.size
        clear A
        refine plan_only (pl2 (by rfl) rfl rfl (fun K hK => ?_))
        go_simp
        intro nA
        refine (toTens _ _ _ _ _ _ _ hn1 ((h1.below T9_22).drew _)).mono ?_
        rintro e v9_23 ⟨g9_23, rfl, R, A0⟩
        have A : Below v9_22.heap.size v9_22 v9_23 := (bdrew (Below.refl _ _) _).trans A0
        clear A0
        refine ⟨_, rfl, C9_22.trans (A.mono C9_22.size), hK _ _ ?_⟩
        clear hK K
        have C9_23 := C9_22.trans (A.mono C9_22.size)
        have T9_23 := T9_22.trans (A.mono T9_22.size)
        have K9_21 := K9_21.below A
        have B9_22 := B9_22.below A
        have zz9_23 := A.size
        clear A
        have K9_23 : Row v9_23 v9_22.heap.size v9_23.heap.size 45 _ _ _ := R
        clear R
        refine plan_only (pl2 (by rfl) rfl rfl (fun K hK => ?_))
        go_simp
        intro nA
        refine (toTens _ _ _ _ _ _ _ hn2 ((h2.below T9_23).drew _)).mono ?_
        rintro e v9_24 ⟨g9_24, rfl, R, A0⟩
        have A : Below v9_23.heap.size v9_23 v9_24 := (bdrew (Below.refl _ _) _).trans A0
        clear A0
        refine ⟨_, rfl, C9_23.trans (A.mono C9_23.size), hK _ _ ?_⟩
        clear hK K
        have C9_24 := C9_23.trans (A.mono C9_23.size)
        have T9_24 := T9_23.trans (A.mono T9_23.size)
        have K9_21 := K9_21.below A
        have K9_23 := K9_23.below A
        have B9_22 := B9_22.below A
        have zz9_24 := A.size
        clear A
        have K9_24 : Row v9_24 v9_23.heap.size v9_24.heap.size 45 _ _ _ := R
        clear R
        refine plan_only (pl2 (by rfl) rfl rfl (fun K hK => ?_))
        go_simp
        intro nA
        refine (hi _ _ _ _ _ _ _ (K9_21.fs.drew _) (K9_23.fs.drew _) (K9_24.fs.drew _)).mono ?_
        rintro e v9_25 ⟨b9_25, p9_25, ys9_25, rfl, R, E0, A0⟩
        have E9_25 := Lib.hid E0
        clear E0
        have A : Below v9_24.heap.size v9_24 v9_25 := (bdrew (Below.refl _ _) _).trans A0
        clear A0
        refine ⟨_, rfl, C9_24.trans (A.mono C9_24.size), hK _ _ ?_⟩
        clear hK K
        have C9_25 := C9_24.trans (A.mono C9_24.size)
        have T9_25 := T9_24.trans (A.mono T9_24.size)
        have K9_21 := K9_21.below A
        have K9_23 := K9_23.below A
        have K9_24 := K9_24.below A
        have B9_22 := B9_22.below A
        have zz9_25 := A.size
        clear A
        have K9_25 : Row v9_25 v9_24.heap.size v9_25.heap.size 45 _ _ _ := R
        clear R
        refine plan_go (pl0 (v := ?_) (by rfl) rfl rfl (fun w' hw' => ?_) (fun K hK => ?_))
        rotate_left
        · go_simp
          rfl
        go_simp
        refine hK _ _ ?_
        clear hK K
        refine plan_go (pl0 (v := ?_) (by rfl) rfl rfl (fun w' hw' => ?_) (fun K hK => ?_))
        rotate_left
        · go_simp
          rfl
        go_simp
        refine hK _ _ ?_
        clear hK K
        refine plan_go (pl0 (v := ?_) (by rfl) rfl rfl (fun w' hw' => ?_) (fun K hK => ?_))
        rotate_left
        · go_simp
          rfl
        go_simp
        refine hK _ _ ?_
        clear hK K
        refine plan_only (pl2 (by rfl) rfl rfl (fun K hK => ?_))
        obtain ⟨⟨q0, q1, q2, q3⟩, q4, q5, q6⟩ := B9_22
        go_simp
        intro nS
        have B9_22 : Zbox v9_25 v9_21.heap.size := ⟨⟨q0, q1, q2, q3⟩, q4, q5, q6⟩
        clear q0 q1 q2 q3 q4 q5 q6
        refine ⟨(((bdrew C9_25 _).setCell (by simp <;> omega) _).setCell (by simp <;> omega) _).setCell (by simp <;> omega) _, hK _ _ ?_⟩
        clear hK K
        refine plan_fin (fun nF => ?_)
        go_wp2_with fail
        go_meet
        obtain ⟨X, Y, Z⟩ := par_end (r := R0) (c := C0) C9_25 (by omega) B9_22 K9_25 (by omega) (by omega) nS nF
        exact ⟨_, _, _, _, rfl, rfl, X, Y, E9_25.out, Z⟩
      · skip
        refine pl2 (by rfl) rfl rfl (fun K hK => ?_)
        go_simp
        intro nA
        refine (toTens _ _ _ _ _ _ _ hn1 ((h1.below T9_21).drew _)).mono ?_
        rintro e v9_42 ⟨g9_42, rfl, R, A0⟩
        have A : Below v9_21.heap.size v9_21 v9_42 := (bdrew (Below.refl _ _) _).trans A0
        clear A0
        refine ⟨_, rfl, C9_21.trans (A.mono C9_21.size), hK _ _ ?_⟩
        clear hK K
        have C9_42 := C9_21.trans (A.mono C9_21.size)
        have T9_42 := T9_21.trans (A.mono T9_21.size)
        have K9_21 := K9_21.below A
        have zz9_42 := A.size
        clear A
        have K9_42 : Row v9_42 v9_21.heap.size v9_42.heap.size 45 _ _ _ := R
        clear R
        refine plan_either ?_ ?_
        · skip
          refine pl2 (by rfl) rfl rfl (fun K hK => ?_)
          go_simp
          intro nA
          refine ⟨(bdrew C9_42 _).alloc (by have := C9_42.size; simp <;> omega) _, hK _ _ ?_⟩
          clear hK K
          refine plan_at (fun v9_43 hA => ?_)
          obtain ⟨Q, A0, z0⟩ := zbox_new hA
          clear hA
          have A : Below v9_42.heap.size v9_42 v9_43 := (bdrew (Below.refl _ _) _).trans A0
          clear A0
          have Q : Zbox v9_43 v9_42.heap.size := Q
          have z0 : v9_42.heap.size < v9_43.heap.size := z0
          have B9_43 := Q
          clear Q
          have C9_43 := C9_42.trans (A.mono C9_42.size)
          have T9_43 := T9_42.trans (A.mono T9_42.size)
          have K9_21 := K9_21.below A
          have K9_42 := K9_42.below A
          have zz9_43 := A.size
          clear A
          refine plan_only (pl2 (by rfl) rfl rfl (fun K hK => ?_))
          go_simp
          intro nA
          refine (toTens _ _ _ _ _ _ _ hn2 ((h2.below T9_43).drew _)).mono ?_
          rintro e v9_44 ⟨g9_44, rfl, R, A0⟩
          have A : Below v9_43.heap.size v9_43 v9_44 := (bdrew (Below.refl _ _) _).trans A0
          clear A0
          refine ⟨_, rfl, C9_43.trans (A.mono C9_43.size), hK _ _ ?_⟩
          clear hK K
          have C9_44 := C9_43.trans (A.mono C9_43.size)
          have T9_44 := T9_43.trans (A.mono T9_43.size)
          have K9_21 := K9_21.below A
          have K9_42 := K9_42.below A
          have B9_43 := B9_43.below A
          have zz9_44 := A.size
          clear A
          have K9_44 : Row v9_44 v9_43.heap.size v9_44.heap.size 45 _ _ _ := R
          clear R
          refine plan_only (pl2 (by rfl) rfl rfl (fun K hK => ?_))
          go_simp
          intro nA
          refine (hi _ _ _ _ _ _ _ (K9_21.fs.drew _) (K9_42.fs.drew _) (K9_44.fs.drew _)).mono ?_
          rintro e v9_45 ⟨b9_45, p9_45, ys9_45, rfl, R, E0, A0⟩
          have E9_45 := Lib.hid E0
          clear E0
          have A : Below v9_44.heap.size v9_44 v9_45 := (bdrew (Below.refl _ _) _).trans A0
          clear A0
          refine ⟨_, rfl, C9_44.trans (A.mono C9_44.size), hK _ _ ?_⟩
          clear hK K
          have C9_45 := C9_44.trans (A.mono C9_44.size)
          have T9_45 := T9_44.trans (A.mono T9_44.size)
          have K9_21 := K9_21.below A
          have K9_42 := K9_42.below A
          have K9_44 := K9_44.below A
          have B9_43 := B9_43.below A
          have zz9_45 := A.size
          clear A
          have K9_45 : Row v9_45 v9_44.heap.size v9_45.heap.size 45 _ _ _ := R
          clear R
          refine plan_go (pl0 (v := ?_) (by rfl) rfl rfl (fun w' hw' => ?_) (fun K hK => ?_))
          rotate_left
          · go_simp
            rfl
          go_simp
          refine hK _ _ ?_
          clear hK K
          refine plan_go (pl0 (v := ?_) (by rfl) rfl rfl (fun w' hw' => ?_) (fun K hK => ?_))
          rotate_left
          · go_simp
            rfl
          go_simp
          refine hK _ _ ?_
          clear hK K
          refine plan_go (pl0 (v := ?_) (by rfl) rfl rfl (fun w' hw' => ?_) (fun K hK => ?_))
          rotate_left
          · go_simp
            rfl
          go_simp
          refine hK _ _ ?_
          clear hK K
          refine plan_only (pl2 (by rfl) rfl rfl (fun K hK => ?_))
          obtain ⟨⟨q0, q1, q2, q3⟩, q4, q5, q6⟩ := B9_43
          go_simp
          intro nS
          have B9_43 : Zbox v9_45 v9_42.heap.size := ⟨⟨q0, q1, q2, q3⟩, q4, q5, q6⟩
          clear q0 q1 q2 q3 q4 q5 q6
          refine ⟨(((bdrew C9_45 _).setCell (by simp <;> omega) _).setCell (by simp <;> omega) _).setCell (by simp <;> omega) _, hK _ _ ?_⟩
          clear hK K
          refine plan_fin (fun nF => ?_)
          go_wp2_with fail
          go_meet
          obtain ⟨X, Y, Z⟩ := par_end (r := R0) (c := C0) C9_45 (by omega) B9_43 K9_45 (by omega) (by omega) nS nF
          exact ⟨_, _, _, _, rfl, rfl, X, Y, E9_45.out, Z⟩
        · skip
          refine pl2 (by rfl) rfl rfl (fun K hK => ?_)
          go_simp
          intro nA
          refine (toTens _ _ _ _ _ _ _ hn2 ((h2.below T9_42).drew _)).mono ?_
          rintro e v9_63 ⟨g9_63, rfl, R, A0⟩
          have A : Below v9_42.heap.size v9_42 v9_63 := (bdrew (Below.refl _ _) _).trans A0
          clear A0
          refine ⟨_, rfl, C9_42.trans (A.mono C9_42.size), hK _ _ ?_⟩
          clear hK K
          have C9_63 := C9_42.trans (A.mono C9_42.size)
          have T9_63 := T9_42.trans (A.mono T9_42.size)
          have K9_21 := K9_21.below A
          have K9_42 := K9_42.below A
          have zz9_63 := A.size
          clear A
          have K9_63 : Row v9_63 v9_42.heap.size v9_63.heap.size 45 _ _ _ := R
          clear R
          refine plan_either ?_ ?_
          · skip
            refine pl2 (by rfl) rfl rfl (fun K hK => ?_)
            go_simp
            intro nA
            refine ⟨(bdrew C9_63 _).alloc (by have := C9_63.size; simp <;> omega) _, hK _ _ ?_⟩
            clear hK K
            refine plan_at (fun v9_64 hA => ?_)
            obtain ⟨Q, A0, z0⟩ := zbox_new hA
            clear hA
            have A : Below v9_63.heap.size v9_63 v9_64 := (bdrew (Below.refl _ _) _).trans A0
            clear A0
            have Q : Zbox v9_64 v9_63.heap.size := Q
            have z0 : v9_63.heap.size < v9_64.heap.size := z0
            have B9_64 := Q
            clear Q
            have C9_64 := C9_63.trans (A.mono C9_63.size)
            have T9_64 := T9_63.trans (A.mono T9_63.size)
            have K9_21 := K9_21.below A
            have K9_42 := K9_42.below A
            have K9_63 := K9_63.below A
            have zz9_64 := A.size
            clear A
            refine plan_only (pl2 (by rfl) rfl rfl (fun K hK => ?_))
            go_simp
            intro nA
            refine (hi _ _ _ _ _ _ _ (K9_21.fs.drew _) (K9_42.fs.drew _) (K9_63.fs.drew _)).mono ?_
            rintro e v9_65 ⟨b9_65, p9_65, ys9_65, rfl, R, E0, A0⟩
            have E9_65 := Lib.hid E0
            clear E0
            have A : Below v9_64.heap.size v9_64 v9_65 := (bdrew (Below.refl _ _) _).trans A0
            clear A0
            refine ⟨_, rfl, C9_64.trans (A.mono C9_64.size), hK _ _ ?_⟩
            clear hK K
            have C9_65 := C9_64.trans (A.mono C9_64.size)
            have T9_65 := T9_64.trans (A.mono T9_64.size)
            have K9_21 := K9_21.below A
            have K9_42 := K9_42.below A
            have K9_63 := K9_63.below A
            have B9_64 := B9_64.below A
            have zz9_65 := A.size
            clear A
            have K9_65 : Row v9_65 v9_64.heap.size v9_65.heap.size 45 _ _ _ := R
            clear R
            refine plan_go (pl0 (v := ?_) (by rfl) rfl rfl (fun w' hw' => ?_) (fun K hK => ?_))
            rotate_left
            · go_simp
              rfl
            go_simp
            refine hK _ _ ?_
            clear hK K
            refine plan_go (pl0 (v := ?_) (by rfl) rfl rfl (fun w' hw' => ?_) (fun K hK => ?_))
            rotate_left
            · go_simp
              rfl
            go_simp
            refine hK _ _ ?_
            clear hK K
            refine plan_go (pl0 (v := ?_) (by rfl) rfl rfl (fun w' hw' => ?_) (fun K hK => ?_))
            rotate_left
            · go_simp
              rfl
            go_simp
            refine hK _ _ ?_
            clear hK K
            refine plan_only (pl2 (by rfl) rfl rfl (fun K hK => ?_))
            obtain ⟨⟨q0, q1, q2, q3⟩, q4, q5, q6⟩ := B9_64
            go_simp
            intro nS
            have B9_64 : Zbox v9_65 v9_63.heap.size := ⟨⟨q0, q1, q2, q3⟩, q4, q5, q6⟩
            clear q0 q1 q2 q3 q4 q5 q6
            refine ⟨(((bdrew C9_65 _).setCell (by simp <;> omega) _).setCell (by simp <;> omega) _).setCell (by simp <;> omega) _, hK _ _ ?_⟩
            clear hK K
            refine plan_fin (fun nF => ?_)
            go_wp2_with fail
            go_meet
            obtain ⟨X, Y, Z⟩ := par_end (r := R0) (c := C0) C9_65 (by omega) B9_64 K9_65 (by omega) (by omega) nS nF
            exact ⟨_, _, _, _, rfl, rfl, X, Y, E9_65.out, Z⟩
          · skip
            refine pl2 (by rfl) rfl rfl (fun K hK => ?_)
            go_simp
            intro nA
            refine (hi _ _ _ _ _ _ _ (K9_21.fs.drew _) (K9_42.fs.drew _) (K9_63.fs.drew _)).mono ?_
            rintro e v9_84 ⟨b9_84, p9_84, ys9_84, rfl, R, E0, A0⟩
            have E9_84 := Lib.hid E0
            clear E0
            have A : Below v9_63.heap.size v9_63 v9_84 := (bdrew (Below.refl _ _) _).trans A0
            clear A0
            refine ⟨_, rfl, C9_63.trans (A.mono C9_63.size), hK _ _ ?_⟩
            clear hK K
            have C9_84 := C9_63.trans (A.mono C9_63.size)
            have T9_84 := T9_63.trans (A.mono T9_63.size)
            have K9_21 := K9_21.below A
            have K9_42 := K9_42.below A
            have K9_63 := K9_63.below A
            have zz9_84 := A.size
            clear A
            have K9_84 : Row v9_84 v9_63.heap.size v9_84.heap.size 45 _ _ _ := R
            clear R
            refine plan_go (pl0 (v := ?_) (by rfl) rfl rfl (fun w' hw' => ?_) (fun K hK => ?_))
            rotate_left
            · go_simp
              rfl
            go_simp
            refine hK _ _ ?_
            clear hK K
            refine plan_go (pl0 (v := ?_) (by rfl) rfl rfl (fun w' hw' => ?_) (fun K hK => ?_))
            rotate_left
            · go_simp
              rfl
            go_simp
            refine hK _ _ ?_
            clear hK K
            refine plan_go (pl0 (v := ?_) (by rfl) rfl rfl (fun w' hw' => ?_) (fun K hK => ?_))
            rotate_left
            · go_simp
              rfl
            go_simp
            refine hK _ _ ?_
            clear hK K
            refine plan_only (pl2 (by rfl) rfl rfl (fun K hK => ?_))
            go_simp
            intro nA
            refine ⟨(bdrew C9_84 _).alloc (by have := C9_84.size; simp <;> omega) _, hK _ _ ?_⟩
            clear hK K
            refine plan_at (fun v9_85 hA => ?_)
            obtain ⟨Q, A0, z0⟩ := zbox_new hA
            clear hA
            have A : Below v9_84.heap.size v9_84 v9_85 := (bdrew (Below.refl _ _) _).trans A0
            clear A0
            have Q : Zbox v9_85 v9_84.heap.size := Q
            have z0 : v9_84.heap.size < v9_85.heap.size := z0
            have B9_85 := Q
            clear Q
            have C9_85 := C9_84.trans (A.mono C9_84.size)
            have T9_85 := T9_84.trans (A.mono T9_84.size)
            have K9_21 := K9_21.below A
            have K9_42 := K9_42.below A
            have K9_63 := K9_63.below A
            have K9_84 := K9_84.below A
            have zz9_85 := A.size
            clear A
            refine plan_only (pl2 (by rfl) rfl rfl (fun K hK => ?_))
            obtain ⟨⟨q0, q1, q2, q3⟩, q4, q5, q6⟩ := B9_85
            go_simp
            intro nS
            have B9_85 : Zbox v9_85 v9_84.heap.size := ⟨⟨q0, q1, q2, q3⟩, q4, q5, q6⟩
            clear q0 q1 q2 q3 q4 q5 q6
            refine ⟨(((bdrew C9_85 _).setCell (by simp <;> omega) _).setCell (by simp <;> omega) _).setCell (by simp <;> omega) _, hK _ _ ?_⟩
            clear hK K
            refine plan_fin (fun nF => ?_)
            go_wp2_with fail
            go_meet
            obtain ⟨X, Y, Z⟩ := par_end (r := R0) (c := C0) C9_85 (by omega) B9_85 K9_84 (by omega) (by omega) nS nF
            exact ⟨_, _, _, _, rfl, rfl, X, Y, E9_84.out, Z⟩
  case rest =>
  obtain ⟨bb9, b9, p9, ys9, rfl, rfl, Q, R, E0, A⟩ := hcut
  generalize wc = w32 at *
  have E9h := Lib.hid E0
  clear E0
  have lt9 := Q.lt
  have Y9 := Lib.hid Q
  clear Q
  have T := T.trans (A.mono T.size)
  have K1 := K1.below A
  have K2 := K2.below A
  have K3 := K3.below A
  have K4 := K4.below A
  have K5 := K5.below A
  have X0 := Lib.hid (X0.out.below A)
  have X1 := Lib.hid (X1.out.below A)
  have X2 := Lib.hid (X2.out.below A)
  have Y1 := Lib.hid (Y1.out.below A)
  have Z0 := Lib.hid (Z0.out.below A)
  have Z1 := Lib.hid (Z1.out.below A)
  have Z2 := Lib.hid (Z2.out.below A)
  have Y5 := Lib.hid (Y5.out.below A)
  have zw32 := A.size
  clear A
  have K9 := R
  clear R
  obtain ⟨Y90, Y91, Y92, Y93⟩ := Y9.out
  obtain ⟨Y10, Y11, Y12, Y13⟩ := Y1.out
  go_wp2_with fail
  clear Y90 Y91 Y92 Y93 Y10 Y11 Y12 Y13
  refine (eqTens _ _ _ _ _ _ _ _ _ _ hS K9.fs K1.fs (E9h.out.trans E1h.out.symm)).mono ?_
  rintro e w33 ⟨rfl, A⟩
  have T := T.trans (A.mono T.size)
  have K1 := K1.below A
  have K2 := K2.below A
  have K3 := K3.below A
  have K4 := K4.below A
  have K5 := K5.below A
  have K9 := K9.below A
  have X0 := Lib.hid (X0.out.below A)
  have X1 := Lib.hid (X1.out.below A)
  have X2 := Lib.hid (X2.out.below A)
  have Y1 := Lib.hid (Y1.out.below A)
  have Z0 := Lib.hid (Z0.out.below A)
  have Z1 := Lib.hid (Z1.out.below A)
  have Z2 := Lib.hid (Z2.out.below A)
  have Y5 := Lib.hid (Y5.out.below A)
  have Y9 := Lib.hid (Y9.out.below A)
  have zw33 := A.size
  clear A
  obtain ⟨Y50, Y51, Y52, Y53⟩ := Y5.out
  go_wp2_with fail
  clear Y50 Y51 Y52 Y53
  refine (heldTens _ _ _ _ _ 1 _ hS (by omega) K5.fs).mono ?_
  rintro e w34 ⟨rfl, A⟩
  have T := T.trans (A.mono T.size)
  have K1 := K1.below A
  have K2 := K2.below A
  have K3 := K3.below A
  have K4 := K4.below A
  have K5 := K5.below A
  have K9 := K9.below A
  have X0 := Lib.hid (X0.out.below A)
  have X1 := Lib.hid (X1.out.below A)
  have X2 := Lib.hid (X2.out.below A)
  have Y1 := Lib.hid (Y1.out.below A)
  have Z0 := Lib.hid (Z0.out.below A)
  have Z1 := Lib.hid (Z1.out.below A)
  have Z2 := Lib.hid (Z2.out.below A)
  have Y5 := Lib.hid (Y5.out.below A)
  have Y9 := Lib.hid (Y9.out.below A)
  have zw34 := A.size
  clear A
  go_wp2
  go_ret
  exact ⟨rfl, T⟩
theorem own : ownKnob Try.prog.godebug = none := by kernel_rfl
theorem laidOut : laidOutB Try.prog = true := by kernel_rfl
set_option maxRecDepth 100000 in
set_option maxHeartbeats 2000000 in
theorem lifted (os : Os) (started : os.Started) (H : Type) (enc : TypeId × Value → H) :
    ReturnsInHanded {} Try.checked os 7 .any (Rows.fnExactAttendRowsSpec.pre6 enc Try.prog Try.f7 Rows.fnExactAttendRowsRow.domain false) (Rows.fnExactAttendRowsSpec.post enc Try.prog Try.f7 false true false false) := by
  refine returnsInHanded_of_change (C := Try.checked) own started (by kernel_rfl) Try.func7
    (ChangeSpec.witness6 (enc := enc) (C := Try.checked) false ⟨#[], #[.agg #[.int .i64 0, .int .i64 0, .slice none 0 0], .agg #[.int .i64 0, .int .i64 0, .slice none 0 0], .agg #[.int .i64 0, .int .i64 0, .slice none 0 0], .bool false], []⟩ 8 (by kernel_rfl) (by kernel_rfl) (by kernel_rfl) (by kernel_rfl)) ?_
  intro W base args ds gs before hval0 hW hcnd _
  have hval : ∀ (j : Nat) t v, Try.f7.params[j]? = some t → args[j]? = some v → Value.okWide Try.prog W .any base t v := hval0
  have hW' := hW
  obtain ⟨p, q, hA0, hV, rfl, hfz, hnd⟩ := hW
  have hA : DataW.TrodAll enc Try.prog W 0 (fun _ => true) true Try.f7.params.toList args.toList ds p := hA0
  rw [Try.params7] at hA hval
  obtain ⟨v0, vs0, d0, ds0, p0, q0, hargs, rfl, rfl, h0, r0⟩ := trodAll_cons hA
  obtain ⟨v1, vs1, d1, ds1, p1, q1, rfl, rfl, rfl, h1, r1⟩ := trodAll_cons r0
  obtain ⟨v2, vs2, d2, ds2, p2, q2, rfl, rfl, rfl, h2, r2⟩ := trodAll_cons r1
  obtain ⟨v3, vs3, d3, ds3, p3, q3, rfl, rfl, rfl, h3, r3⟩ := trodAll_cons r2
  obtain ⟨rfl, rfl, rfl⟩ := trodAll_nil r3
  obtain rfl : args = #[v0, v1, v2, v3] := by cases args; simp_all
  obtain ⟨rfl, rfl⟩ := trodVars_none hV
  have k0 := h0
  have lt0 : ∀ x ∈ p0, x.block < W.heap.size := by obtain ⟨m, hm⟩ := k0; exact DataW.trod_lt m _ _ _ hm
  have k1 := h1
  have lt1 : ∀ x ∈ p1, x.block < W.heap.size := by obtain ⟨m, hm⟩ := k1; exact DataW.trod_lt m _ _ _ hm
  have k2 := h2
  have lt2 : ∀ x ∈ p2, x.block < W.heap.size := by obtain ⟨m, hm⟩ := k2; exact DataW.trod_lt m _ _ _ hm
  have k3 := h3
  have lt3 : ∀ x ∈ p3, x.block < W.heap.size := by obtain ⟨m, hm⟩ := k3; exact DataW.trod_lt m _ _ _ hm
  obtain ⟨ro0, co0, a0, n0, c0, z0, rfl, f0, wr0, wc0, b0⟩ := open_tensor Try.underlying30 (by kernel_rfl) (by kernel_rfl) Try.underlying2 Try.underlying2 Try.underlying22 Try.underlying45 (by kernel_rfl) (hval 0 30 v0 rfl rfl) h0
  obtain ⟨ro1, co1, a1, n1, c1, z1, rfl, f1, wr1, wc1, b1⟩ := open_tensor Try.underlying30 (by kernel_rfl) (by kernel_rfl) Try.underlying2 Try.underlying2 Try.underlying22 Try.underlying45 (by kernel_rfl) (hval 1 30 v1 rfl rfl) h1
  obtain ⟨ro2, co2, a2, n2, c2, z2, rfl, f2, wr2, wc2, b2⟩ := open_tensor Try.underlying30 (by kernel_rfl) (by kernel_rfl) Try.underlying2 Try.underlying2 Try.underlying22 Try.underlying45 (by kernel_rfl) (hval 2 30 v2 rfl rfl) h2
  obtain ⟨a3, rfl, rfl, rfl⟩ := open_bool Try.underlying4 (hval 3 4 v3 rfl rfl) h3
  clear hA0 hval0
  refine (walk W ro0 co0 a0 n0 c0 z0 f0 wr0 wc0 b0 ro1 co1 a1 n1 c1 z1 f1 wr1 wc1 b1 ro2 co2 a2 n2 c2 z2 f2 wr2 wc2 b2 a3).mono fun e W' ⟨he, bel⟩ => ?_
  subst he
  exact ⟨_, rfl, _, _, _, [], _, [], hW', trodAll_mk1 (shut_bool Try.underlying4 _), (trodAll_cons_mk (Below.trod laidOut (by kernel_rfl) (of_decide_eq_true (by kernel_rfl)) k0 bel lt0) (trodAll_cons_mk (Below.trod laidOut (by kernel_rfl) (of_decide_eq_true (by kernel_rfl)) k1 bel lt1) (trodAll_cons_mk (Below.trod laidOut (by kernel_rfl) (of_decide_eq_true (by kernel_rfl)) k2 bel lt2) (trodAll_cons_mk (Below.trod laidOut (by kernel_rfl) (of_decide_eq_true (by kernel_rfl)) k3 bel lt3) trodAll_mk0)))), rfl, bel.frame _, fun h => by cases h⟩

theorem over : Rows.fnExactAttendRowsRow.holds Try.pinned (OpenSpec.ofChange Rows.fnExactAttendRowsSpec) :=
  OpenClaim.holds_of_wide 7 Try.f7 rfl rfl rfl rfl rfl rfl rfl ⟨rfl, rfl, rfl, rfl, rfl⟩ rfl rfl rfl rfl rfl (by kernel_rfl) Try.func7 (by kernel_rfl)
    (of_decide_eq_true (by kernel_rfl)) (by unfold Func.isWrapper; first | (rw [if_pos (by decide +kernel)]; kernel_rfl) | (rw [if_neg (by decide +kernel)]; exact ⟨rfl, rfl⟩))
    (fun os started H enc _ => lifted os started H enc)

theorem proved : Rows.FnExactAttendRowsSaid := over
end Go.Proofs.Ytfgmpodmbbnijaa.attendRows
