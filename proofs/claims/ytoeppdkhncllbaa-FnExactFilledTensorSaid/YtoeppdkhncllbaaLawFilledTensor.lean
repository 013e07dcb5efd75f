/- The law FnExactFilledTensor holds for every input. No conditions. -/
import Derived.Test.YtoeppdkhncllbaaValid
import Derived.Test.YtoeppdkhncllbaaFin
import Derived.Test.YtoeppdkhncllbaaRowT
import Derived.Test.YtoeppdkhncllbaaRep
import Derived.Deep.CutRange
import Derived.Test.YtoeppdkhncllbaaOpen
import Derived.ProofKit
import Derived.OpenShut
import Derived.ChangeOld
import Derived.WalkSmall
namespace Go.Proofs.Ytoeppdkhncllbaa.filledTensor
open Go.ChangeShapes Go.WideShapes Go.ChangeAt Go.RowKit Go.Fl Go.Reg
open Go.Proofs.Ytoeppdkhncllbaa.rep
theorem accStartP {w w' : World} {t tt : TypeId} {r c : Int} (h : w' = (w.alloc (.cells #[] t)).alloc (.cells #[.int .i64 r, .int .i64 c, .slice (some ⟨w.heap.size, 0, none⟩) 0 0] tt)) :
    Acc w.heap.size (w.heap.size + 1) t r c w w' 0 (some ⟨w.heap.size, 0, none⟩) 0 [] ∧ Below w.heap.size w w' := by
  have B : Below w.heap.size w w' := by rw [h]; exact ((Below.refl _ _).alloc (Nat.le_refl _) _).alloc (by simp) _
  refine ⟨⟨B, by rw [h]; exact ⟨by simp [go_sem], by simp [go_sem], by simp [go_sem], by simp⟩, by rw [h]; simp [go_sem], ?_, fun q hq => by cases hq; simp⟩, B⟩
  rw [h]
  exact (World.ownsRow_made w #[] 0 (Nat.le_refl _) (by simp [maxLen]) rfl : (w.alloc (.cells #[] t)).ownsRow w.heap.size t 1 (.slice (some ⟨w.heap.size, 0, none⟩) 0 0) 0 []).alloc _
theorem sh_yes {r c : Int} (h : sh r c = true) : ∃ R C P : Nat, r = (R : Int) ∧ c = (C : Int) ∧ (1 ≤ R ∧ R ≤ 16) ∧ (1 ≤ C ∧ C ≤ 16) ∧ P = R * C ∧ (R : Int) * (C : Int) = (P : Int) ∧ (1 ≤ P ∧ P ≤ 256) := by
  unfold sh at h
  simp at h
  obtain ⟨R, rfl⟩ := Int.eq_ofNat_of_zero_le (a := r) (by omega)
  obtain ⟨C, rfl⟩ := Int.eq_ofNat_of_zero_le (a := c) (by omega)
  have h1 : R * C ≤ 16 * 16 := Nat.mul_le_mul (by omega) (by omega)
  have h2 : 0 < R * C := Nat.mul_pos (by omega) (by omega)
  exact ⟨R, C, R * C, rfl, rfl, by omega, by omega, rfl, by simp, by omega⟩
def S (r c : Int) (v : Nat) : List Nat := if sh r c = true then List.replicate (r * c).toNat v else []
def R0 (r c : Int) : Int := if sh r c = true then r else 0
def C0 (r c : Int) : Int := if sh r c = true then c else 0
theorem S_no {r c : Int} {v : Nat} (h : sh r c = false) : S r c v = [] ∧ R0 r c = 0 ∧ C0 r c = 0 := by unfold S R0 C0; rw [h]; exact ⟨rfl, rfl, rfl⟩
theorem S_yes {R C P v : Nat} (h : sh (R : Int) (C : Int) = true) (hp : (R : Int) * (C : Int) = (P : Int)) : S (R : Int) (C : Int) v = List.replicate P v ∧ R0 (R : Int) (C : Int) = R ∧ C0 (R : Int) (C : Int) = C := by unfold S R0 C0; rw [if_pos h, if_pos h, if_pos h, hp]; exact ⟨rfl, rfl, rfl⟩
theorem S_len (r c : Int) (v : Nat) : (S r c v).length ≤ 1048576 := by
  cases h : sh r c
  · rw [(S_no h).1]; simp
  · obtain ⟨R, C, P, rfl, rfl, hR, hC, _, e, hP⟩ := sh_yes h
    rw [(S_yes h e).1, List.length_replicate]; omega
theorem specFill (R C P v : Nat) (hP : 1 ≤ P ∧ P ≤ 256) (hRC : (R : Int) * (C : Int) = (P : Int)) (_hR : R ≤ 16) (_hC : C ≤ 16) (w : World) :
    Calls Try.prog 49 #[.int .i64 (R : Int), .int .i64 (C : Int), .float .f32 v] w (RT1 33 w (R : Int) (C : Int) (List.replicate P v)) := by
  go_enter Try.func49, Try.ntmps49
  go_wp2_with fail
  refine reg_at ?_
  intro w3 hA
  obtain ⟨w1, h1⟩ : ∃ x, x = w.alloc (.cells #[.int .i64 0, .int .i64 0, .slice none 0 0] 26) := ⟨_, rfl⟩
  rw [← h1] at hA
  obtain ⟨Q, A0, z0⟩ := zbox_new h1
  have e1 : w1.heap.size = w.heap.size + 1 := by rw [h1]; simp
  clear h1
  rw [← e1] at hA
  obtain ⟨ACC, A⟩ := accStartP hA
  clear hA
  rw [e1] at ACC
  have HQ := Lib.hid Q
  have hz := A.size
  clear Q A
  have HACC := Lib.hid ACC
  clear ACC
  obtain ⟨i0, hi, hz0, hz1, hz2⟩ := info_parts infoF32
  have HI := Lib.hid hi
  have HZ0 := Lib.hid hz0
  have HZ1 := Lib.hid hz1
  have HZ2 := Lib.hid hz2
  clear hi hz0 hz1 hz2
  obtain ⟨b, hb⟩ : ∃ b, b = w.heap.size + 1 + 1 := ⟨_, rfl⟩
  have hb1 := Nat.le_of_eq hb
  have hb2 := Nat.le_of_eq hb.symm
  rw [← hb] at HACC ⊢
  clear hb
  go_loopw [8] (fun i w' => ∃ (k : Nat) (a' : Option Addr) (cap' : Nat), k ≤ P ∧ i = .int .i64 k ∧ Acc (w.heap.size + 1) b 33 (R : Int) (C : Int) w1 w' k a' cap' (List.replicate k v)) (fun i _ => P - (intOf i).toNat)
  case atStart => exact ⟨0, _, _, Nat.zero_le _, rfl, HACC.out⟩
  case round =>
    clear HACC
    obtain ⟨k, a', cap', hk, rfl, acc⟩ := hrel
    obtain ⟨ys, hye⟩ : ∃ ys, ys = List.replicate k v := ⟨_, rfl⟩
    rw [← hye] at acc
    have HYE := Lib.hid hye
    clear hye
    by_cases hlt : k < P
    · have hys := hlt
      obtain ⟨b0', b1', b2', b3'⟩ := acc.box
      have AC := Lib.hid acc
      have HY := Lib.hid hys
      clear acc hys
      have zb := AC.out.box.lt
      have zB := AC.out.below.size
      go_wp2_with (at_builtin; refine wpList_append_own _ rfl (.tmp 21) (.tmp 23) 22 rfl (w.heap.size + 1) 33 i0 (.float .f32 0) 1 4 Try.underlying22 HI.out HZ0.out HZ1.out HZ2.out rfl (by decide) (.slice a' k cap') (k) (fl ys) rfl (AC.out.alloc (by omega) _).own ⟨wr.heap.size, 0, none⟩ 1 1 [.float .f32 v] rfl rfl ?c1 ?c2 ?c3 ?c4 ?c5 ?_)
      try
        case c1 =>
          intro j v hj
          match j, hj with
          | 0, hj => simp at hj; subst hj; exact cell_new _ _ _
      case c2 => first | rfl | (intro v hv; simp at hv; subst hv; rfl)
      case c3 => unfold maxLen; omega
      case c4 => omega
      case c5 => first | omega | (simp; done) | (simp; omega)
      intro v' w2 hown hgr _
      clear b0' b1' b2' b3'
      obtain ⟨a2, cap2, rfl, bx, fr, cl, acc2⟩ := Acc.app (by first | omega | (simp; omega)) AC.out hown ⟨hgr.os, hgr.tape, hgr.output, hgr.size, hgr.block⟩
      have AC2 := Lib.hid acc2
      clear acc2 hown hgr cl
      obtain ⟨b0', b1', b2', b3'⟩ := bx
      go_wp2
      go_roundw
      case rel => exact ⟨k + 1, a2, cap2, by omega, by go_num, by rw [List.replicate_succ', ← HYE.out]; exact AC2.out⟩
      case measure => simp [intOf]; omega
    · have e : k = P := by omega
      have hyp : ys = List.replicate P v := HYE.out.trans (by rw [e])
      subst e
      have A1 : Below w.heap.size w1 wr := acc.below.mono (by omega)
      have BW := A0.trans A1
      have ZR := Lib.hid (HQ.out.upto acc.below (by omega))
      obtain ⟨b0', b1', b2', b3'⟩ := acc.box
      have hlo := acc.below.size
      have HR := Lib.hid (Row.of acc.own (by omega))
      obtain ⟨⟨ZR0, ZR1, ZR2, ZR3⟩, ZR4, ZR5, ZR6⟩ := ZR.out
      go_wp2
      refine bodyPost_ret (v := .agg #[.int .i64 (R : Int), .int .i64 (C : Int), .slice a' k cap']) (by simp [results, Try.results49, go_sem, ZR0, ZR1, ZR2]) rfl ?_
      exact RT1_end BW (by omega) HR.out (by omega) (by rw [hyp]) (by rw [List.length_replicate])
theorem implFill (R C P v : Nat) (hP : 1 ≤ P ∧ P ≤ 256) (hRC : (R : Int) * (C : Int) = (P : Int)) (_hR : R ≤ 16) (_hC : C ≤ 16) (w : World) :
    Calls Try.prog 51 #[.int .i64 (R : Int), .int .i64 (C : Int), .float .f32 v] w (RT1 33 w (R : Int) (C : Int) (List.replicate P v)) := by
  go_enter Try.func51, Try.ntmps51
  go_wp2_with fail
  refine calls_at ?_
  intro w1 hA
  have A : Below w.heap.size w w1 := by rw [hA]; exact ((Below.refl _ _).alloc (Nat.le_refl _) _).alloc (by simp <;> omega) _
  have zw1 : w1.heap.size = w.heap.size + 1 + 1 := by rw [hA]; simp
  have ZR_ : Zbox w1 (w.heap.size) := by rw [hA]; exact ⟨⟨by simp [go_sem], by simp [go_sem], by simp [go_sem], by simp <;> omega⟩, by simp [go_sem], by simp [go_sem], by simp [go_sem]⟩
  have CV_ : Cell1 w1 (w.heap.size + 1) (.float .f32 v) := by rw [hA]; exact ⟨by simp [go_sem], by simp <;> omega⟩
  clear hA
  have zw1a := Nat.le_of_eq zw1
  have zw1b := Nat.le_of_eq zw1.symm
  clear zw1
  have T := A
  clear A
  have ZR := Lib.hid ZR_
  clear ZR_
  have CV := Lib.hid CV_
  clear CV_
  refine (repeatI _ v P hP _ CV.out.c0).mono ?_
  rintro e w2 ⟨a2, cap2, rfl, R2, A⟩
  have T := T.trans (A.mono T.size)
  have ZR := Lib.hid (ZR.out.below A)
  have CV := Lib.hid (CV.out.below A)
  have zw2 := A.size
  clear A
  have RR := Lib.hid R2
  clear R2
  obtain ⟨⟨ZR0, ZR1, ZR2, ZR3⟩, ZR4, ZR5, ZR6⟩ := ZR.out
  go_wp2
  refine bodyPost_ret (v := .agg #[.int .i64 (R : Int), .int .i64 (C : Int), .slice (some a2) P cap2]) (by simp [results, Try.results51, go_sem, ZR0, ZR1, ZR2]) rfl ?_
  exact RT1_end T (by omega) RR.out (by omega) rfl (by rw [List.length_replicate])
set_option maxHeartbeats 2000000 in
theorem specS (r c : Int) (v : Nat) (w : World) :
    Calls Try.prog 18 #[.int .i64 r, .int .i64 c, .float .f32 v] w (RT 33 w (R0 r c) (C0 r c) (S r c v) (sh r c)) := by
  cases hv : sh r c
  · obtain ⟨e1, e2, e3⟩ := S_no (v := v) hv
    rw [e1, e2, e3]
    clear e1 e2 e3
    have HV := Lib.hid hv
    clear hv
    go_enter Try.func18, Try.ntmps18
    go_wp2_with fail
    refine calls_at ?_
    intro w1 hA
    have A : Below w.heap.size w w1 := by rw [hA]; exact (Below.refl _ _).alloc (Nat.le_refl _) _
    have zw1 : w1.heap.size = w.heap.size + 1 := by rw [hA]; simp
    have ZR_ : Zbox w1 (w.heap.size) := by rw [hA]; exact ⟨⟨by simp [go_sem], by simp [go_sem], by simp [go_sem], by simp <;> omega⟩, by simp [go_sem], by simp [go_sem], by simp [go_sem]⟩
    clear hA
    have zw1a := Nat.le_of_eq zw1
    have zw1b := Nat.le_of_eq zw1.symm
    clear zw1
    have T := A
    clear A
    have ZR := Lib.hid ZR_
    clear ZR_
    refine (shape r c _).mono ?_
    rintro e w1x ⟨rfl, hsame⟩
    replace hsame := hsame.symm
    subst hsame
    rw [HV.out]
    obtain ⟨⟨ZR0, ZR1, ZR2, ZR3⟩, ZR4, ZR5, ZR6⟩ := ZR.out
    go_wp2
    refine bodyPost_ret (v := .tuple #[.agg #[.int .i64 0, .int .i64 0, .slice none 0 0], .bool false]) (by simp [results, Try.results18, go_sem, ZR0, ZR1, ZR2]) rfl ?_
    exact RT_no T (by omega)
  · obtain ⟨R, C, P, rfl, rfl, hR, hC, -, hRC, hP⟩ := sh_yes hv
    obtain ⟨e1, e2, e3⟩ := S_yes (v := v) hv hRC
    rw [e1, e2, e3]
    clear e1 e2 e3
    have HV := Lib.hid hv
    clear hv
    go_enter Try.func18, Try.ntmps18
    go_wp2_with fail
    refine calls_at ?_
    intro w1 hA
    have A : Below w.heap.size w w1 := by rw [hA]; exact (Below.refl _ _).alloc (Nat.le_refl _) _
    have zw1 : w1.heap.size = w.heap.size + 1 := by rw [hA]; simp
    have ZR_ : Zbox w1 (w.heap.size) := by rw [hA]; exact ⟨⟨by simp [go_sem], by simp [go_sem], by simp [go_sem], by simp <;> omega⟩, by simp [go_sem], by simp [go_sem], by simp [go_sem]⟩
    clear hA
    have zw1a := Nat.le_of_eq zw1
    have zw1b := Nat.le_of_eq zw1.symm
    clear zw1
    have T := A
    clear A
    have ZR := Lib.hid ZR_
    clear ZR_
    refine (shape _ _ _).mono ?_
    rintro e w1x ⟨rfl, hsame⟩
    replace hsame := hsame.symm
    subst hsame
    rw [HV.out]
    go_wp2_with fail
    refine (specFill R C P v hP hRC hR.2 hC.2 _).mono ?_
    rintro e w2 ⟨a2, cap2, ys, rfl, R2, hy, A⟩
    have T := T.trans (A.mono T.size)
    have ZR := Lib.hid (ZR.out.below A)
    have zw2 := A.size
    clear A
    clear hRC
    rw [List.length_replicate] at R2
    have RR := Lib.hid R2
    have HY := Lib.hid hy
    clear R2 hy
    rw [List.length_replicate]
    obtain ⟨⟨ZR0, ZR1, ZR2, ZR3⟩, ZR4, ZR5, ZR6⟩ := ZR.out
    go_wp2
    refine bodyPost_ret (v := .tuple #[.agg #[.int .i64 (R : Int), .int .i64 (C : Int), .slice a2 P cap2], .bool true]) (by simp [results, Try.results18, go_sem, ZR0, ZR1, ZR2]) rfl ?_
    exact RT_end T (by omega) RR.out (by omega) HY.out (List.length_replicate)
set_option maxHeartbeats 2000000 in
theorem implS (r c : Int) (v : Nat) (w : World) :
    Calls Try.prog 19 #[.int .i64 r, .int .i64 c, .float .f32 v] w (RT 33 w (R0 r c) (C0 r c) (S r c v) (sh r c)) := by
  cases hv : sh r c
  · obtain ⟨e1, e2, e3⟩ := S_no (v := v) hv
    rw [e1, e2, e3]
    clear e1 e2 e3
    rw [sh_in] at hv
    cases hr : inr r 1 16
    · have HV := Lib.hid hr
      clear hr hv
      go_enter Try.func19, Try.ntmps19
      go_wp2_with fail
      refine calls_at ?_
      intro w1 hA
      have A : Below w.heap.size w w1 := by rw [hA]; exact (Below.refl _ _).alloc (Nat.le_refl _) _
      have zw1 : w1.heap.size = w.heap.size + 1 := by rw [hA]; simp
      have ZR_ : Zbox w1 (w.heap.size) := by rw [hA]; exact ⟨⟨by simp [go_sem], by simp [go_sem], by simp [go_sem], by simp <;> omega⟩, by simp [go_sem], by simp [go_sem], by simp [go_sem]⟩
      clear hA
      have zw1a := Nat.le_of_eq zw1
      have zw1b := Nat.le_of_eq zw1.symm
      clear zw1
      have T := A
      clear A
      have ZR := Lib.hid ZR_
      clear ZR_
      refine (isSide r _).mono ?_
      rintro e w1x ⟨rfl, hsame⟩
      replace hsame := hsame.symm
      subst hsame
      rw [HV.out]
      obtain ⟨⟨ZR0, ZR1, ZR2, ZR3⟩, ZR4, ZR5, ZR6⟩ := ZR.out
      go_wp2
      refine bodyPost_ret (v := .tuple #[.agg #[.int .i64 0, .int .i64 0, .slice none 0 0], .bool false]) (by simp [results, Try.results19, go_sem, ZR0, ZR1, ZR2]) rfl ?_
      exact RT_no T (by omega)
    · rw [hr, Bool.true_and] at hv
      have HV := Lib.hid hr
      have HU := Lib.hid hv
      clear hr hv
      go_enter Try.func19, Try.ntmps19
      go_wp2_with fail
      refine calls_at ?_
      intro w1 hA
      have A : Below w.heap.size w w1 := by rw [hA]; exact (Below.refl _ _).alloc (Nat.le_refl _) _
      have zw1 : w1.heap.size = w.heap.size + 1 := by rw [hA]; simp
      have ZR_ : Zbox w1 (w.heap.size) := by rw [hA]; exact ⟨⟨by simp [go_sem], by simp [go_sem], by simp [go_sem], by simp <;> omega⟩, by simp [go_sem], by simp [go_sem], by simp [go_sem]⟩
      clear hA
      have zw1a := Nat.le_of_eq zw1
      have zw1b := Nat.le_of_eq zw1.symm
      clear zw1
      have T := A
      clear A
      have ZR := Lib.hid ZR_
      clear ZR_
      refine (isSide r _).mono ?_
      rintro e w1x ⟨rfl, hsame⟩
      replace hsame := hsame.symm
      subst hsame
      rw [HV.out]
      go_wp2_with fail
      refine (isSide c _).mono ?_
      rintro e w1x ⟨rfl, hsame⟩
      replace hsame := hsame.symm
      subst hsame
      rw [HU.out]
      obtain ⟨⟨ZR0, ZR1, ZR2, ZR3⟩, ZR4, ZR5, ZR6⟩ := ZR.out
      go_wp2
      refine bodyPost_ret (v := .tuple #[.agg #[.int .i64 0, .int .i64 0, .slice none 0 0], .bool false]) (by simp [results, Try.results19, go_sem, ZR0, ZR1, ZR2]) rfl ?_
      exact RT_no T (by omega)
  · obtain ⟨R, C, P, rfl, rfl, hR, hC, -, hRC, hP⟩ := sh_yes hv
    obtain ⟨e1, e2, e3⟩ := S_yes (v := v) hv hRC
    rw [e1, e2, e3]
    clear e1 e2 e3
    rw [sh_in, Bool.and_eq_true] at hv
    obtain ⟨hr, hv⟩ := hv
    have HV := Lib.hid hr
    have HU := Lib.hid hv
    clear hr hv
    go_enter Try.func19, Try.ntmps19
    go_wp2_with fail
    refine calls_at ?_
    intro w1 hA
    have A : Below w.heap.size w w1 := by rw [hA]; exact (Below.refl _ _).alloc (Nat.le_refl _) _
    have zw1 : w1.heap.size = w.heap.size + 1 := by rw [hA]; simp
    have ZR_ : Zbox w1 (w.heap.size) := by rw [hA]; exact ⟨⟨by simp [go_sem], by simp [go_sem], by simp [go_sem], by simp <;> omega⟩, by simp [go_sem], by simp [go_sem], by simp [go_sem]⟩
    clear hA
    have zw1a := Nat.le_of_eq zw1
    have zw1b := Nat.le_of_eq zw1.symm
    clear zw1
    have T := A
    clear A
    have ZR := Lib.hid ZR_
    clear ZR_
    refine (isSide _ _).mono ?_
    rintro e w1x ⟨rfl, hsame⟩
    replace hsame := hsame.symm
    subst hsame
    rw [HV.out]
    go_wp2_with fail
    refine (isSide _ _).mono ?_
    rintro e w1x ⟨rfl, hsame⟩
    replace hsame := hsame.symm
    subst hsame
    rw [HU.out]
    go_wp2_with fail
    refine (implFill R C P v hP hRC hR.2 hC.2 _).mono ?_
    rintro e w2 ⟨a2, cap2, ys, rfl, R2, hy, A⟩
    have T := T.trans (A.mono T.size)
    have ZR := Lib.hid (ZR.out.below A)
    have zw2 := A.size
    clear A
    clear hRC
    rw [List.length_replicate] at R2
    have RR := Lib.hid R2
    have HY := Lib.hid hy
    clear R2 hy
    rw [List.length_replicate]
    obtain ⟨⟨ZR0, ZR1, ZR2, ZR3⟩, ZR4, ZR5, ZR6⟩ := ZR.out
    go_wp2
    refine bodyPost_ret (v := .tuple #[.agg #[.int .i64 (R : Int), .int .i64 (C : Int), .slice a2 P cap2], .bool true]) (by simp [results, Try.results19, go_sem, ZR0, ZR1, ZR2]) rfl ?_
    exact RT_end T (by omega) RR.out (by omega) HY.out (List.length_replicate)
theorem both (r c : Int) (v : Nat) (_wr : (Lit.int .i64 r).wf = true) (_wc : (Lit.int .i64 c).wf = true) (_w : (Lit.float .f32 v).wf = true) :
    ∃ ok R0 C0 S, S.length ≤ 1048576 ∧ (∀ w, Calls Try.prog 18 #[.int .i64 r, .int .i64 c, .float .f32 v] w (RT 33 w R0 C0 S ok)) ∧ (∀ w, Calls Try.prog 19 #[.int .i64 r, .int .i64 c, .float .f32 v] w (RT 33 w R0 C0 S ok)) :=
  ⟨_, _, _, _, S_len r c v, fun w => specS r c v w, fun w => implS r c v w⟩
set_option maxHeartbeats 4000000 in
theorem walk (a0 : Int) (_w0 : (Lit.int .i64 a0).wf = true) (a1 : Int) (_w1 : (Lit.int .i64 a1).wf = true) (a2 : Nat) (_w2 : (Lit.float .f32 a2).wf = true) (w : World) :
    Calls Try.prog 4 #[.int .i64 a0, .int .i64 a1, .float .f32 a2] w fun e w' => e = .returned (.bool true) ∧ Below w.heap.size w w' := by
  obtain ⟨ok, R0, C0, S, hS, hs, hi⟩ := both a0 a1 a2 _w0 _w1 _w2
  go_enter Try.func4, Try.ntmps4
  have T := Below.refl w.heap.size w
  go_wp2_with fail
  refine (hs w).mono ?_
  rintro e w1 ⟨b1, p1, ys1, rfl, R, E1, A⟩
  have T := T.trans (A.mono T.size)
  have zw1 := A.size
  clear A
  have K1 := R
  clear R
  have E1h := Lib.hid E1
  clear E1
  go_wp2_with fail
  refine calls_at ?_
  intro w2 hA
  obtain ⟨Q, A, z1, z2⟩ := box_new (r := R0) (c := C0) (a := b1) (n := S.length) (cap := p1) hA
  clear hA
  have Y1 := Lib.hid Q
  clear Q
  have T := T.trans (A.mono T.size)
  have K1 := K1.below A
  have zw2 := A.size
  clear A
  have yw2 := z1
  have xw2 := z2
  clear z1 z2
  refine (hi w2).mono ?_
  rintro e w3 ⟨b2, p2, ys2, rfl, R, E2, A⟩
  have T := T.trans (A.mono T.size)
  have K1 := K1.below A
  have Y1 := Lib.hid (Y1.out.below A)
  have zw3 := A.size
  clear A
  have K2 := R
  clear R
  have E2h := Lib.hid E2
  clear E2
  obtain ⟨Y10, Y11, Y12, Y13⟩ := Y1.out
  go_wp2_with fail
  clear Y10 Y11 Y12 Y13
  refine calls_at ?_
  intro w4 hA
  obtain ⟨Q, A, z1, z2⟩ := box_new (r := R0) (c := C0) (a := b2) (n := S.length) (cap := p2) hA
  clear hA
  have Y2 := Lib.hid Q
  clear Q
  have T := T.trans (A.mono T.size)
  have K1 := K1.below A
  have K2 := K2.below A
  have Y1 := Lib.hid (Y1.out.below A)
  have zw4 := A.size
  clear A
  have yw4 := z1
  have xw4 := z2
  clear z1 z2
  refine (eqTens _ _ _ _ _ _ _ _ _ _ hS K2.fs K1.fs (E2h.out.trans E1h.out.symm)).mono ?_
  rintro e w5 ⟨rfl, A⟩
  have T := T.trans (A.mono T.size)
  have K1 := K1.below A
  have K2 := K2.below A
  have Y1 := Lib.hid (Y1.out.below A)
  have Y2 := Lib.hid (Y2.out.below A)
  have zw5 := A.size
  clear A
  obtain ⟨Y20, Y21, Y22, Y23⟩ := Y2.out
  go_wp2_with fail
  clear Y20 Y21 Y22 Y23
  refine (markTens _ _ _ _ _ _ _ _ 1 _ hS (by omega) K2).mono ?_
  rintro e w6 ⟨rfl, R, A⟩
  have z := A.size
  have t := T.size
  have T := T.trans (A.below (by omega) (by omega))
  have K1 := K1.keep A (by omega)
  have Y1 := Lib.hid (Y1.out.keep A (by omega))
  have Y2 := Lib.hid (Y2.out.keep A (by omega))
  have K2 := R
  have zw6 := z
  clear A R z t
  obtain ⟨Y20, Y21, Y22, Y23⟩ := Y2.out
  go_wp2_with fail
  clear Y20 Y21 Y22 Y23
  refine (heldTens _ _ _ _ _ 1 _ hS (by omega) K2.fs).mono ?_
  rintro e w7 ⟨rfl, A⟩
  have T := T.trans (A.mono T.size)
  have K1 := K1.below A
  have K2 := K2.below A
  have Y1 := Lib.hid (Y1.out.below A)
  have Y2 := Lib.hid (Y2.out.below A)
  have zw7 := A.size
  clear A
  go_wp2_with fail
  refine (hi w7).mono ?_
  rintro e w8 ⟨b3, p3, ys3, rfl, R, E3, A⟩
  have T := T.trans (A.mono T.size)
  have K1 := K1.below A
  have K2 := K2.below A
  have Y1 := Lib.hid (Y1.out.below A)
  have Y2 := Lib.hid (Y2.out.below A)
  have zw8 := A.size
  clear A
  have K3 := R
  clear R
  have E3h := Lib.hid E3
  clear E3
  obtain ⟨Y10, Y11, Y12, Y13⟩ := Y1.out
  go_wp2_with fail
  clear Y10 Y11 Y12 Y13
  refine calls_at ?_
  intro w9 hA
  obtain ⟨Q, A, z1, z2⟩ := box_new (r := R0) (c := C0) (a := b3) (n := S.length) (cap := p3) hA
  clear hA
  have Y3 := Lib.hid Q
  clear Q
  have T := T.trans (A.mono T.size)
  have K1 := K1.below A
  have K2 := K2.below A
  have K3 := K3.below A
  have Y1 := Lib.hid (Y1.out.below A)
  have Y2 := Lib.hid (Y2.out.below A)
  have zw9 := A.size
  clear A
  have yw9 := z1
  have xw9 := z2
  clear z1 z2
  refine (eqTens _ _ _ _ _ _ _ _ _ _ hS K3.fs K1.fs (E3h.out.trans E1h.out.symm)).mono ?_
  rintro e w10 ⟨rfl, A⟩
  have T := T.trans (A.mono T.size)
  have K1 := K1.below A
  have K2 := K2.below A
  have K3 := K3.below A
  have Y1 := Lib.hid (Y1.out.below A)
  have Y2 := Lib.hid (Y2.out.below A)
  have Y3 := Lib.hid (Y3.out.below A)
  have zw10 := A.size
  clear A
  obtain ⟨Y20, Y21, Y22, Y23⟩ := Y2.out
  go_wp2_with fail
  clear Y20 Y21 Y22 Y23
  refine (heldTens _ _ _ _ _ 1 _ hS (by omega) K2.fs).mono ?_
  rintro e w11 ⟨rfl, A⟩
  have T := T.trans (A.mono T.size)
  have K1 := K1.below A
  have K2 := K2.below A
  have K3 := K3.below A
  have Y1 := Lib.hid (Y1.out.below A)
  have Y2 := Lib.hid (Y2.out.below A)
  have Y3 := Lib.hid (Y3.out.below A)
  have zw11 := A.size
  clear A
  go_wp2
  go_ret
  exact ⟨rfl, T⟩
theorem own : ownKnob Try.prog.godebug = none := by kernel_rfl
theorem laidOut : laidOutB Try.prog = true := by kernel_rfl
set_option maxRecDepth 100000 in
set_option maxHeartbeats 2000000 in
theorem lifted (os : Os) (started : os.Started) (H : Type) (enc : TypeId × Value → H) :
    ReturnsInHanded {} Try.checked os 4 .any (Rows.fnExactFilledTensorSpec.pre6 enc Try.prog Try.f4 Rows.fnExactFilledTensorRow.domain false) (Rows.fnExactFilledTensorSpec.post enc Try.prog Try.f4 false true false false) := by
  refine returnsInHanded_of_change (C := Try.checked) own started (by kernel_rfl) Try.func4
    (ChangeSpec.witness6 (enc := enc) (C := Try.checked) false ⟨#[], #[.int .i64 0, .int .i64 0, .float .f32 0], []⟩ 8 (by kernel_rfl) (by kernel_rfl) (by kernel_rfl) (by kernel_rfl)) ?_
  intro W base args ds gs before hval0 hW hcnd _
  have hval : ∀ (j : Nat) t v, Try.f4.params[j]? = some t → args[j]? = some v → Value.okWide Try.prog W .any base t v := hval0
  have hW' := hW
  obtain ⟨p, q, hA0, hV, rfl, hfz, hnd⟩ := hW
  have hA : DataW.TrodAll enc Try.prog W 0 (fun _ => true) true Try.f4.params.toList args.toList ds p := hA0
  rw [Try.params4] at hA hval
  obtain ⟨v0, vs0, d0, ds0, p0, q0, hargs, rfl, rfl, h0, r0⟩ := trodAll_cons hA
  obtain ⟨v1, vs1, d1, ds1, p1, q1, rfl, rfl, rfl, h1, r1⟩ := trodAll_cons r0
  obtain ⟨v2, vs2, d2, ds2, p2, q2, rfl, rfl, rfl, h2, r2⟩ := trodAll_cons r1
  obtain ⟨rfl, rfl, rfl⟩ := trodAll_nil r2
  obtain rfl : args = #[v0, v1, v2] := by cases args; simp_all
  obtain ⟨rfl, rfl⟩ := trodVars_none hV
  have k0 := h0
  have lt0 : ∀ x ∈ p0, x.block < W.heap.size := by obtain ⟨m, hm⟩ := k0; exact DataW.trod_lt m _ _ _ hm
  have k1 := h1
  have lt1 : ∀ x ∈ p1, x.block < W.heap.size := by obtain ⟨m, hm⟩ := k1; exact DataW.trod_lt m _ _ _ hm
  have k2 := h2
  have lt2 : ∀ x ∈ p2, x.block < W.heap.size := by obtain ⟨m, hm⟩ := k2; exact DataW.trod_lt m _ _ _ hm
  obtain ⟨a0, rfl, rfl, rfl, w0⟩ := open_int Try.underlying2 (hval 0 2 v0 rfl rfl) h0
  obtain ⟨a1, rfl, rfl, rfl, w1⟩ := open_int Try.underlying2 (hval 1 2 v1 rfl rfl) h1
  obtain ⟨a2, rfl, rfl, rfl, w2⟩ := open_float Try.underlying33 (hval 2 33 v2 rfl rfl) h2
  clear hA0 hval0
  refine (walk a0 w0 a1 w1 a2 w2 W).mono fun e W' ⟨he, bel⟩ => ?_
  subst he
  exact ⟨_, rfl, _, _, _, [], _, [], hW', trodAll_mk1 (shut_bool Try.underlying4 _), (trodAll_cons_mk (Below.trod laidOut (by kernel_rfl) (of_decide_eq_true (by kernel_rfl)) k0 bel lt0) (trodAll_cons_mk (Below.trod laidOut (by kernel_rfl) (of_decide_eq_true (by kernel_rfl)) k1 bel lt1) (trodAll_cons_mk (Below.trod laidOut (by kernel_rfl) (of_decide_eq_true (by kernel_rfl)) k2 bel lt2) trodAll_mk0))), rfl, bel.frame _, fun h => by cases h⟩

theorem over : Rows.fnExactFilledTensorRow.holds Try.pinned (OpenSpec.ofChange Rows.fnExactFilledTensorSpec) :=
  OpenClaim.holds_of_wide 4 Try.f4 rfl rfl rfl rfl rfl rfl rfl ⟨rfl, rfl, rfl, rfl, rfl⟩ rfl rfl rfl rfl rfl (by kernel_rfl) Try.func4 (by kernel_rfl)
    (of_decide_eq_true (by kernel_rfl)) (by unfold Func.isWrapper; first | (rw [if_pos (by decide +kernel)]; kernel_rfl) | (rw [if_neg (by decide +kernel)]; exact ⟨rfl, rfl⟩))
    (fun os started H enc _ => lifted os started H enc)

theorem proved : Rows.FnExactFilledTensorSaid := over
end Go.Proofs.Ytoeppdkhncllbaa.filledTensor
