/- The values of the numbers of eight bits: both functions' walks. -/
import Derived.Test.YtfoanhffcghjaaaLdexp
namespace Go.Proofs.Ytfoanhffcghjaaa
open Go.RowKit Go.Fl Go.Reg Go.Ord
/-- i parts of P, and one more than that -/
def fq (P i : Nat) : Nat := fop .quo .f64 (floatOfInt .f64 (i : Int)) (floatOfInt .f64 (P : Int))
def fo (P i : Nat) : Nat := fop .add .f64 4607182418800017408 (fq P i)
theorem fq_some : ∀ P : Nat, (P = 4 ∨ P = 8) → ∀ i : Nat, i < P → floatBits .quo .f64 (floatOfInt .f64 (i : Int)) (floatOfInt .f64 (P : Int)) = some (fq P i) ∧ (fq P i = 0 ∨ (900 * 4503599627370496 ≤ fq P i ∧ fq P i < 1100 * 4503599627370496)) := by
  have h4 : ∀ i : Nat, i < 4 → floatBits .quo .f64 (floatOfInt .f64 (i : Int)) (floatOfInt .f64 ((4 : Nat) : Int)) = some (fq 4 i) ∧ (fq 4 i = 0 ∨ (900 * 4503599627370496 ≤ fq 4 i ∧ fq 4 i < 1100 * 4503599627370496)) := by decide +kernel
  have h8 : ∀ i : Nat, i < 8 → floatBits .quo .f64 (floatOfInt .f64 (i : Int)) (floatOfInt .f64 ((8 : Nat) : Int)) = some (fq 8 i) ∧ (fq 8 i = 0 ∨ (900 * 4503599627370496 ≤ fq 8 i ∧ fq 8 i < 1100 * 4503599627370496)) := by decide +kernel
  rintro P (rfl | rfl)
  · exact h4
  · exact h8
theorem fo_some : ∀ P : Nat, (P = 4 ∨ P = 8) → ∀ i : Nat, i < P → floatBits .add .f64 4607182418800017408 (fq P i) = some (fo P i) ∧ floatBits .add .f64 (fq P i) 4607182418800017408 = some (fo P i) ∧ 1023 * 4503599627370496 ≤ fo P i ∧ fo P i < 1024 * 4503599627370496 := by
  have h4 : ∀ i : Nat, i < 4 → floatBits .add .f64 4607182418800017408 (fq 4 i) = some (fo 4 i) ∧ floatBits .add .f64 (fq 4 i) 4607182418800017408 = some (fo 4 i) ∧ 1023 * 4503599627370496 ≤ fo 4 i ∧ fo 4 i < 1024 * 4503599627370496 := by decide +kernel
  have h8 : ∀ i : Nat, i < 8 → floatBits .add .f64 4607182418800017408 (fq 8 i) = some (fo 8 i) ∧ floatBits .add .f64 (fq 8 i) 4607182418800017408 = some (fo 8 i) ∧ 1023 * 4503599627370496 ≤ fo 8 i ∧ fo 8 i < 1024 * 4503599627370496 := by decide +kernel
  rintro P (rfl | rfl)
  · exact h4
  · exact h8
/-- a word times a power of two -/
def sc (v : Nat) (t : Int) : Nat := if v = 0 then 0 else ((v : Int) + t * 4503599627370496).toNat
/-- the value of rest e parts and i, with P parts a binade and the bias b -/
def rv (P : Nat) (b : Int) (e i : Nat) : Nat := if e = 0 then sc (fq P i) (1 - b) else sc (fo P i) (e - b)
def RVp (v : Nat) (w : World) (e : Ending) (w' : World) : Prop := ∃ m, e = .returned (.float .f64 v) ∧ w' = w.drewN m
theorem sc_ok {v : Nat} (_h : v = 0 ∨ (900 * 4503599627370496 ≤ v ∧ v < 1100 * 4503599627370496)) (t : Int) : (if v = 0 then 0 else ((v : Int) + t * 4503599627370496).toNat) = sc v t := rfl
theorem fo_rng {P i : Nat} (h3 : 1023 * 4503599627370496 ≤ fo P i) (h4 : fo P i < 1024 * 4503599627370496) : fo P i = 0 ∨ (900 * 4503599627370496 ≤ fo P i ∧ fo P i < 1100 * 4503599627370496) := by omega
/-- the loops' state: the number and the power of two that is left -/
def SI (R v : Nat) (p : Int) : Prop := sc v p = R ∧ (v = 0 ∨ (860 * 4503599627370496 ≤ (v : Int) + p * 4503599627370496 ∧ (v : Int) + p * 4503599627370496 ≤ 1140 * 4503599627370496)) ∧ -40 ≤ p ∧ p ≤ 40
theorem si_dbl {R v : Nat} {p : Int} (h : SI R v p) (hp : 0 < p) : ∃ v', floatBits .mul .f64 v 4611686018427387904 = some v' ∧ SI R v' (p - 1) := by
  obtain ⟨h1, h2, h3, h4⟩ := h
  rcases h2 with rfl | ⟨h2, h5⟩
  · exact ⟨0, by decide +kernel, h1, .inl rfl, by omega, by omega⟩
  · refine ⟨v + 4503599627370496, double_word (by omega) (by omega), ?_, .inr (by omega), by omega, by omega⟩
    rw [← h1]; unfold sc; rw [if_neg (by omega), if_neg (by omega)]; omega
theorem si_hlv {R v : Nat} {p : Int} (h : SI R v p) (hp : p < 0) : ∃ v', floatBits .quo .f64 v 4611686018427387904 = some v' ∧ SI R v' (p + 1) := by
  obtain ⟨h1, h2, h3, h4⟩ := h
  rcases h2 with rfl | ⟨h2, h5⟩
  · exact ⟨0, by decide +kernel, h1, .inl rfl, by omega, by omega⟩
  · refine ⟨v - 4503599627370496, halve_word (by omega) (by omega), ?_, .inr (by omega), by omega, by omega⟩
    rw [← h1]; unfold sc; rw [if_neg (by omega), if_neg (by omega)]; omega
theorem si_end {R v : Nat} (h : SI R v 0) : R = v := by
  rw [← h.1]; unfold sc; split <;> omega
theorem restI0 (r e i : Nat) (w : World) (he : r = 4 * e + i) (hi : i < 4) (hr : r ≤ 126) :
    Calls Try.prog 67 #[.int .i64 0, .int .i64 (r : Int)] w (RVp (rv 4 15 e i) w) := by
  have hm : (r : Int) % 4 = (i : Int) := by omega
  have hd : (r : Int) / 4 = (e : Int) := by omega
  have hm2 : Int.tmod (r : Int) 4 = (i : Int) := by rw [Int.tmod_eq_emod_of_nonneg (by omega), hm]
  have hw : IntKind.i64.wrap ((r : Int) / 4) = (e : Int) := by rw [hd]; exact IntWalk.i64_in _ (by omega)
  obtain ⟨f1, f2⟩ := fq_some 4 (by omega) i hi
  obtain ⟨g1, _, g3, g4⟩ := fo_some 4 (by omega) i hi
  have F1 := Lib.hid (show floatBits .quo .f64 (floatOfInt .f64 (i : Int)) (floatOfInt .f64 4) = some (fq 4 i) from f1)
  have F2 := Lib.hid f2
  have G1 := Lib.hid g1
  have G3 := Lib.hid (fo_rng g3 g4)
  clear f1 f2 g1 g3 g4
  have hrv : rv 4 15 e i = if e = 0 then sc (fq 4 i) (1 - 15) else sc (fo 4 i) ((e : Int) - 15) := rfl
  have HRV := Lib.hid hrv
  clear hrv
  generalize rv 4 15 e i = R at *
  have hel : e ≤ 31 := by omega
  clear he hi
  by_cases he0 : e = 0
  · skip
    subst he0
    have HV := Lib.hid (HRV.out.trans (if_pos rfl))
    clear HRV
    go_enter Try.func67, Try.ntmps67
    go_wp2_with fail
    refine wp_dr 11 [0, 0, 0, 0, 0, 0, 0, 0, 0, 1, 0, 0] (by kernel_rfl) (by kernel_rfl) ?_
    simp only [List.take_succ_cons, List.take_zero, List.drop_succ_cons, List.drop_zero]
    iterate 11 (with_reducible refine dr_step ?_; intro K hK; go_simp; (try intro _); refine hK _ _ ?_; clear hK K)
    refine wpR_nil (fun nq => ?_)
    go_wp2_with fail
    try rw [hm]
    try rw [hm2]
    rw [fres_of F1.out]
    refine (ldexpT _ _ _ F2.out (by omega) (by omega)).mono ?_
    rintro e w1 ⟨rfl, hw1⟩
    rw [sc_ok F2.out]
    have HW := Lib.hid hw1
    clear hw1
    have HS := Lib.hid (HV.out)
    go_wp2
    go_ret
    exact ⟨_, by rw [HV.out]; rfl, HW.out⟩
  · skip
    have HV := Lib.hid (HRV.out.trans (if_neg he0))
    have he1 : ¬ (e : Int) = 0 := by omega
    clear HRV he0
    go_enter Try.func67, Try.ntmps67
    go_wp2_with fail
    refine wp_dr 11 [0, 0, 0, 0, 0, 0, 0, 0, 0, 1, 0, 0] (by kernel_rfl) (by kernel_rfl) ?_
    simp only [List.take_succ_cons, List.take_zero, List.drop_succ_cons, List.drop_zero]
    iterate 11 (with_reducible refine dr_step ?_; intro K hK; go_simp; (try intro _); refine hK _ _ ?_; clear hK K)
    refine wpR_nil (fun nq => ?_)
    go_wp2_with fail
    try rw [hm]
    try rw [hm2]
    rw [fres_of F1.out]
    rw [fres_of G1.out]
    refine (ldexpT _ _ _ G3.out (by omega) (by omega)).mono ?_
    rintro e w1 ⟨rfl, hw1⟩
    rw [sc_ok G3.out]
    have HW := Lib.hid hw1
    clear hw1
    have HS := Lib.hid (HV.out)
    go_wp2
    go_ret
    exact ⟨_, by rw [HV.out]; rfl, HW.out⟩
set_option maxHeartbeats 1000000 in
theorem restS0 (r e i : Nat) (w : World) (he : r = 4 * e + i) (hi : i < 4) (hr : r ≤ 126) :
    Calls Try.prog 82 #[.int .i64 0, .int .i64 (r : Int)] w (RVp (rv 4 15 e i) w) := by
  have hm : (r : Int) % 4 = (i : Int) := by omega
  have hd : (r : Int) / 4 = (e : Int) := by omega
  obtain ⟨f1, f2⟩ := fq_some 4 (by omega) i hi
  obtain ⟨_, g1, g3, g4⟩ := fo_some 4 (by omega) i hi
  have F1 := Lib.hid (show floatBits .quo .f64 (floatOfInt .f64 (i : Int)) (floatOfInt .f64 4) = some (fq 4 i) from f1)
  have F2 := Lib.hid f2
  have G1 := Lib.hid g1
  have G3 := Lib.hid (fo_rng g3 g4)
  clear f1 f2 g1 g3 g4
  have hrv : rv 4 15 e i = if e = 0 then sc (fq 4 i) (1 - 15) else sc (fo 4 i) ((e : Int) - 15) := rfl
  have HRV := Lib.hid hrv
  clear hrv
  generalize rv 4 15 e i = R at *
  have hel : e ≤ 31 := by omega
  clear he hi
  by_cases he0 : e = 0
  · skip
    subst he0
    have HV := Lib.hid (show SI R (fq 4 i) (1 - 15) by
      refine ⟨(HRV.out.trans (if_pos rfl)).symm, ?_, by omega, by omega⟩
      have := F2.out
      omega)
    clear HRV
    go_enter Try.func82, Try.ntmps82
    go_wp2
    go_loopw [8, 6] (fun x p w' => ∃ (v m : Nat) (q : Int), x = .float .f64 v ∧ p = .int .i64 q ∧ Hid (SI R v q) ∧ Hid (w' = w.drewN m)) (fun _ p _ => (intOf p).toNat)
    case atStart => exact ⟨fq 4 i, _, _, (by rw [fres_of F1.out]), rfl, (by first | exact HV | (have := HV.out; show SI _ _ _; first | exact this | (rw [show (e : Int) - 15 = -15 + (e : Int) by omega] at this; exact this))), rfl⟩
    case round =>
      obtain ⟨v, m, q, rfl, rfl, hs, hw⟩ := hrel
      obtain ⟨-, -, hq1, hq2⟩ := hs.out
      by_cases hq : 0 < q
      · obtain ⟨v', e1, hs'⟩ := si_dbl hs.out hq
        have E1 := Lib.hid e1
        clear e1
        go_wp2
        go_roundw
        case rel => exact ⟨v', _, q - 1, (by rw [fres_of E1.out]), rfl, hs', (by show _ = _; rw [hw.out, drewN_drewN])⟩
        case measure => simp [intOf]; omega
      · go_wp2
        go_loopw [8, 6] (fun x p w' => ∃ (v m : Nat) (q : Int), q ≤ 0 ∧ x = .float .f64 v ∧ p = .int .i64 q ∧ Hid (SI R v q) ∧ Hid (w' = w.drewN m)) (fun _ p _ => (-(intOf p)).toNat)
        case atStart => exact ⟨v, m, q, by omega, rfl, rfl, hs, hw⟩
        case round =>
          clear hs hw hq hq1 hq2
          obtain ⟨v2, m, q2, hq0, rfl, rfl, hs, hw⟩ := hrel
          obtain ⟨-, -, hq1, hq2⟩ := hs.out
          by_cases hq : q2 < 0
          · obtain ⟨v', e1, hs'⟩ := si_hlv hs.out hq
            have E1 := Lib.hid e1
            clear e1
            go_wp2
            go_roundw
            case rel => exact ⟨v', _, q2 + 1, by omega, (by rw [fres_of E1.out]), rfl, hs', (by show _ = _; rw [hw.out, drewN_drewN])⟩
            case measure => simp [intOf]; omega
          · have e : q2 = 0 := by omega
            subst e
            go_wp2
            go_ret
            exact ⟨_, by rw [si_end hs.out]; rfl, hw.out⟩
  · skip
    have HV := Lib.hid (show SI R (fo 4 i) ((e : Int) - 15) by
      refine ⟨(HRV.out.trans (if_neg he0)).symm, ?_, by omega, by omega⟩
      have := G3.out
      omega)
    have he1 : ¬ (e : Int) = 0 := by omega
    clear HRV he0
    go_enter Try.func82, Try.ntmps82
    go_wp2
    go_loopw [8, 6] (fun x p w' => ∃ (v m : Nat) (q : Int), x = .float .f64 v ∧ p = .int .i64 q ∧ Hid (SI R v q) ∧ Hid (w' = w.drewN m)) (fun _ p _ => (intOf p).toNat)
    case atStart => exact ⟨fo 4 i, _, _, (by rw [fres_of F1.out, fres_of G1.out]), rfl, (by first | exact HV | (have := HV.out; show SI _ _ _; first | exact this | (rw [show (e : Int) - 15 = -15 + (e : Int) by omega] at this; exact this))), rfl⟩
    case round =>
      obtain ⟨v, m, q, rfl, rfl, hs, hw⟩ := hrel
      obtain ⟨-, -, hq1, hq2⟩ := hs.out
      by_cases hq : 0 < q
      · obtain ⟨v', e1, hs'⟩ := si_dbl hs.out hq
        have E1 := Lib.hid e1
        clear e1
        go_wp2
        go_roundw
        case rel => exact ⟨v', _, q - 1, (by rw [fres_of E1.out]), rfl, hs', (by show _ = _; rw [hw.out, drewN_drewN])⟩
        case measure => simp [intOf]; omega
      · go_wp2
        go_loopw [8, 6] (fun x p w' => ∃ (v m : Nat) (q : Int), q ≤ 0 ∧ x = .float .f64 v ∧ p = .int .i64 q ∧ Hid (SI R v q) ∧ Hid (w' = w.drewN m)) (fun _ p _ => (-(intOf p)).toNat)
        case atStart => exact ⟨v, m, q, by omega, rfl, rfl, hs, hw⟩
        case round =>
          clear hs hw hq hq1 hq2
          obtain ⟨v2, m, q2, hq0, rfl, rfl, hs, hw⟩ := hrel
          obtain ⟨-, -, hq1, hq2⟩ := hs.out
          by_cases hq : q2 < 0
          · obtain ⟨v', e1, hs'⟩ := si_hlv hs.out hq
            have E1 := Lib.hid e1
            clear e1
            go_wp2
            go_roundw
            case rel => exact ⟨v', _, q2 + 1, by omega, (by rw [fres_of E1.out]), rfl, hs', (by show _ = _; rw [hw.out, drewN_drewN])⟩
            case measure => simp [intOf]; omega
          · have e : q2 = 0 := by omega
            subst e
            go_wp2
            go_ret
            exact ⟨_, by rw [si_end hs.out]; rfl, hw.out⟩
theorem restI1 (r e i : Nat) (w : World) (he : r = 8 * e + i) (hi : i < 8) (hr : r ≤ 126) :
    Calls Try.prog 67 #[.int .i64 1, .int .i64 (r : Int)] w (RVp (rv 8 7 e i) w) := by
  have hm : (r : Int) % 8 = (i : Int) := by omega
  have hd : (r : Int) / 8 = (e : Int) := by omega
  have hm2 : Int.tmod (r : Int) 8 = (i : Int) := by rw [Int.tmod_eq_emod_of_nonneg (by omega), hm]
  have hw : IntKind.i64.wrap ((r : Int) / 8) = (e : Int) := by rw [hd]; exact IntWalk.i64_in _ (by omega)
  obtain ⟨f1, f2⟩ := fq_some 8 (by omega) i hi
  obtain ⟨g1, _, g3, g4⟩ := fo_some 8 (by omega) i hi
  have F1 := Lib.hid (show floatBits .quo .f64 (floatOfInt .f64 (i : Int)) (floatOfInt .f64 8) = some (fq 8 i) from f1)
  have F2 := Lib.hid f2
  have G1 := Lib.hid g1
  have G3 := Lib.hid (fo_rng g3 g4)
  clear f1 f2 g1 g3 g4
  have hrv : rv 8 7 e i = if e = 0 then sc (fq 8 i) (1 - 7) else sc (fo 8 i) ((e : Int) - 7) := rfl
  have HRV := Lib.hid hrv
  clear hrv
  generalize rv 8 7 e i = R at *
  have hel : e ≤ 31 := by omega
  clear he hi
  by_cases he0 : e = 0
  · skip
    subst he0
    have HV := Lib.hid (HRV.out.trans (if_pos rfl))
    clear HRV
    go_enter Try.func67, Try.ntmps67
    go_wp2_with fail
    refine wp_dr 11 [0, 0, 0, 0, 0, 0, 0, 0, 0, 1, 0, 0] (by kernel_rfl) (by kernel_rfl) ?_
    simp only [List.take_succ_cons, List.take_zero, List.drop_succ_cons, List.drop_zero]
    iterate 11 (with_reducible refine dr_step ?_; intro K hK; go_simp; (try intro _); refine hK _ _ ?_; clear hK K)
    refine wpR_nil (fun nq => ?_)
    go_wp2_with fail
    try rw [hm]
    try rw [hm2]
    rw [fres_of F1.out]
    refine (ldexpT _ _ _ F2.out (by omega) (by omega)).mono ?_
    rintro e w1 ⟨rfl, hw1⟩
    rw [sc_ok F2.out]
    have HW := Lib.hid hw1
    clear hw1
    have HS := Lib.hid (HV.out)
    go_wp2
    go_ret
    exact ⟨_, by rw [HV.out]; rfl, HW.out⟩
  · skip
    have HV := Lib.hid (HRV.out.trans (if_neg he0))
    have he1 : ¬ (e : Int) = 0 := by omega
    clear HRV he0
    go_enter Try.func67, Try.ntmps67
    go_wp2_with fail
    refine wp_dr 11 [0, 0, 0, 0, 0, 0, 0, 0, 0, 1, 0, 0] (by kernel_rfl) (by kernel_rfl) ?_
    simp only [List.take_succ_cons, List.take_zero, List.drop_succ_cons, List.drop_zero]
    iterate 11 (with_reducible refine dr_step ?_; intro K hK; go_simp; (try intro _); refine hK _ _ ?_; clear hK K)
    refine wpR_nil (fun nq => ?_)
    go_wp2_with fail
    try rw [hm]
    try rw [hm2]
    rw [fres_of F1.out]
    rw [fres_of G1.out]
    refine (ldexpT _ _ _ G3.out (by omega) (by omega)).mono ?_
    rintro e w1 ⟨rfl, hw1⟩
    rw [sc_ok G3.out]
    have HW := Lib.hid hw1
    clear hw1
    have HS := Lib.hid (HV.out)
    go_wp2
    go_ret
    exact ⟨_, by rw [HV.out]; rfl, HW.out⟩
set_option maxHeartbeats 1000000 in
theorem restS1 (r e i : Nat) (w : World) (he : r = 8 * e + i) (hi : i < 8) (hr : r ≤ 126) :
    Calls Try.prog 82 #[.int .i64 1, .int .i64 (r : Int)] w (RVp (rv 8 7 e i) w) := by
  have hm : (r : Int) % 8 = (i : Int) := by omega
  have hd : (r : Int) / 8 = (e : Int) := by omega
  obtain ⟨f1, f2⟩ := fq_some 8 (by omega) i hi
  obtain ⟨_, g1, g3, g4⟩ := fo_some 8 (by omega) i hi
  have F1 := Lib.hid (show floatBits .quo .f64 (floatOfInt .f64 (i : Int)) (floatOfInt .f64 8) = some (fq 8 i) from f1)
  have F2 := Lib.hid f2
  have G1 := Lib.hid g1
  have G3 := Lib.hid (fo_rng g3 g4)
  clear f1 f2 g1 g3 g4
  have hrv : rv 8 7 e i = if e = 0 then sc (fq 8 i) (1 - 7) else sc (fo 8 i) ((e : Int) - 7) := rfl
  have HRV := Lib.hid hrv
  clear hrv
  generalize rv 8 7 e i = R at *
  have hel : e ≤ 31 := by omega
  clear he hi
  by_cases he0 : e = 0
  · skip
    subst he0
    have HV := Lib.hid (show SI R (fq 8 i) (1 - 7) by
      refine ⟨(HRV.out.trans (if_pos rfl)).symm, ?_, by omega, by omega⟩
      have := F2.out
      omega)
    clear HRV
    go_enter Try.func82, Try.ntmps82
    go_wp2
    go_loopw [8, 6] (fun x p w' => ∃ (v m : Nat) (q : Int), x = .float .f64 v ∧ p = .int .i64 q ∧ Hid (SI R v q) ∧ Hid (w' = w.drewN m)) (fun _ p _ => (intOf p).toNat)
    case atStart => exact ⟨fq 8 i, _, _, (by rw [fres_of F1.out]), rfl, (by first | exact HV | (have := HV.out; show SI _ _ _; first | exact this | (rw [show (e : Int) - 7 = -7 + (e : Int) by omega] at this; exact this))), rfl⟩
    case round =>
      obtain ⟨v, m, q, rfl, rfl, hs, hw⟩ := hrel
      obtain ⟨-, -, hq1, hq2⟩ := hs.out
      by_cases hq : 0 < q
      · obtain ⟨v', e1, hs'⟩ := si_dbl hs.out hq
        have E1 := Lib.hid e1
        clear e1
        go_wp2
        go_roundw
        case rel => exact ⟨v', _, q - 1, (by rw [fres_of E1.out]), rfl, hs', (by show _ = _; rw [hw.out, drewN_drewN])⟩
        case measure => simp [intOf]; omega
      · go_wp2
        go_loopw [8, 6] (fun x p w' => ∃ (v m : Nat) (q : Int), q ≤ 0 ∧ x = .float .f64 v ∧ p = .int .i64 q ∧ Hid (SI R v q) ∧ Hid (w' = w.drewN m)) (fun _ p _ => (-(intOf p)).toNat)
        case atStart => exact ⟨v, m, q, by omega, rfl, rfl, hs, hw⟩
        case round =>
          clear hs hw hq hq1 hq2
          obtain ⟨v2, m, q2, hq0, rfl, rfl, hs, hw⟩ := hrel
          obtain ⟨-, -, hq1, hq2⟩ := hs.out
          by_cases hq : q2 < 0
          · obtain ⟨v', e1, hs'⟩ := si_hlv hs.out hq
            have E1 := Lib.hid e1
            clear e1
            go_wp2
            go_roundw
            case rel => exact ⟨v', _, q2 + 1, by omega, (by rw [fres_of E1.out]), rfl, hs', (by show _ = _; rw [hw.out, drewN_drewN])⟩
            case measure => simp [intOf]; omega
          · have e : q2 = 0 := by omega
            subst e
            go_wp2
            go_ret
            exact ⟨_, by rw [si_end hs.out]; rfl, hw.out⟩
  · skip
    have HV := Lib.hid (show SI R (fo 8 i) ((e : Int) - 7) by
      refine ⟨(HRV.out.trans (if_neg he0)).symm, ?_, by omega, by omega⟩
      have := G3.out
      omega)
    have he1 : ¬ (e : Int) = 0 := by omega
    clear HRV he0
    go_enter Try.func82, Try.ntmps82
    go_wp2
    go_loopw [8, 6] (fun x p w' => ∃ (v m : Nat) (q : Int), x = .float .f64 v ∧ p = .int .i64 q ∧ Hid (SI R v q) ∧ Hid (w' = w.drewN m)) (fun _ p _ => (intOf p).toNat)
    case atStart => exact ⟨fo 8 i, _, _, (by rw [fres_of F1.out, fres_of G1.out]), rfl, (by first | exact HV | (have := HV.out; show SI _ _ _; first | exact this | (rw [show (e : Int) - 7 = -7 + (e : Int) by omega] at this; exact this))), rfl⟩
    case round =>
      obtain ⟨v, m, q, rfl, rfl, hs, hw⟩ := hrel
      obtain ⟨-, -, hq1, hq2⟩ := hs.out
      by_cases hq : 0 < q
      · obtain ⟨v', e1, hs'⟩ := si_dbl hs.out hq
        have E1 := Lib.hid e1
        clear e1
        go_wp2
        go_roundw
        case rel => exact ⟨v', _, q - 1, (by rw [fres_of E1.out]), rfl, hs', (by show _ = _; rw [hw.out, drewN_drewN])⟩
        case measure => simp [intOf]; omega
      · go_wp2
        go_loopw [8, 6] (fun x p w' => ∃ (v m : Nat) (q : Int), q ≤ 0 ∧ x = .float .f64 v ∧ p = .int .i64 q ∧ Hid (SI R v q) ∧ Hid (w' = w.drewN m)) (fun _ p _ => (-(intOf p)).toNat)
        case atStart => exact ⟨v, m, q, by omega, rfl, rfl, hs, hw⟩
        case round =>
          clear hs hw hq hq1 hq2
          obtain ⟨v2, m, q2, hq0, rfl, rfl, hs, hw⟩ := hrel
          obtain ⟨-, -, hq1, hq2⟩ := hs.out
          by_cases hq : q2 < 0
          · obtain ⟨v', e1, hs'⟩ := si_hlv hs.out hq
            have E1 := Lib.hid e1
            clear e1
            go_wp2
            go_roundw
            case rel => exact ⟨v', _, q2 + 1, by omega, (by rw [fres_of E1.out]), rfl, hs', (by show _ = _; rw [hw.out, drewN_drewN])⟩
            case measure => simp [intOf]; omega
          · have e : q2 = 0 := by omega
            subst e
            go_wp2
            go_ret
            exact ⟨_, by rw [si_end hs.out]; rfl, hw.out⟩
end Go.Proofs.Ytfoanhffcghjaaa
