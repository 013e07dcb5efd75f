/- The root of a number, as the program and the reference compute it. -/
import Derived.Test.YtfgmpodmbbnijaaBd
import Derived.Test.YtfgmpodmbbnijaaSame
import Derived.Test.YtfgmpodmbbnijaaExt
namespace Go.Proofs.Ytfgmpodmbbnijaa.root
open Go.RowKit Go.Fl Go.Reg Go.Ord
open Ieee (Datum Format)
def fsq (b : Nat) (w : World) : Nat := match FloatKind.f64.format.sqrt b with | some r => r | none => (Question.nanBits .f64 b b).cut (w.tape w.drawn (.nanBits .f64 b b))
def sdr (b : Nat) : Nat := match FloatKind.f64.format.sqrt b with | some _ => 0 | none => 1
@[go_sem] theorem call_sqrt (b : Nat) (w : World) : (callFunc 59 #[.float .f64 b]).run Try.prog w = .ok (.value (.float .f64 (fsq b w))) (w.drewN (sdr b)) := by
  rw [run_callFunc_extern Try.func59 (by kernel_rfl) rfl (by kernel_rfl) (e := Extern.MathSqrt.sqrt) (by kernel_rfl)]
  have e : Extern.MathSqrt.sqrt #[.float .f64 b] = (match FloatKind.f64.format.sqrt b with | some r => pure (.float .f64 r) | none => do pure (.float .f64 (← choose (.nanBits .f64 b b)))) := rfl
  rw [e]
  unfold fsq sdr
  cases hr : FloatKind.f64.format.sqrt b with
  | some r => simp [World.drewN, Result.andThen]
  | none => simp [World.drewN, choose, Sem.run, Question.forced, Result.andThen]
def sqv (x : Nat) : Nat := (FloatKind.f64.format.sqrt (wid x)).getD (qn .f64)
theorem sqrt_nan {b : Nat} (h : isNaN .f64 b = true) : FloatKind.f64.format.sqrt b = none := by
  obtain ⟨s, f, hr⟩ := isNaN_nan h
  unfold Format.sqrt; rw [hr]; rfl
theorem fsq_sqv (x : Nat) (w w2 : World) : cn .f64 (fsq (fwid x w) w2) = cn .f64 (sqv x) := by
  cases hn : isNaN .f32 x
  · rw [fwid_of hn]
    unfold fsq sqv
    cases hr : FloatKind.f64.format.sqrt (wid x) with
    | some r => rfl
    | none => exact nan_cn_eq (nanBits_nan .f64 _ _ _) (isNaN_qn .f64)
  · have h1 : isNaN .f64 (fwid x w) = true := by rw [isNaN_fwid]; unfold wid; rw [hn]; exact isNaN_qn .f64
    have h2 : isNaN .f64 (wid x) = true := by unfold wid; rw [hn]; exact isNaN_qn .f64
    unfold fsq sqv
    rw [sqrt_nan h1, sqrt_nan h2]
    exact nan_cn_eq (nanBits_nan .f64 _ _ _) (isNaN_qn .f64)
theorem root_lt (n : Nat) : ∀ todo root, Datum.rootFrom n todo root < root + 2 ^ todo
  | 0, root => by show root < root + 1; omega
  | todo + 1, root => by
    have h := root_lt n todo
    show Datum.rootFrom n todo (if _ then _ else _) < _
    have e : 1 <<< todo = 2 ^ todo := by rw [Nat.shiftLeft_eq, Nat.one_mul]
    rw [Nat.pow_succ, e]
    split
    · have := h (root + 2 ^ todo); omega
    · have := h root; have := Nat.two_pow_pos todo; omega
theorem log_shift {m : Nat} (h : m ≠ 0) (k : Nat) : (m <<< k).log2 = m.log2 + k := by
  rw [Nat.shiftLeft_eq]
  have h1 := Nat.log2_self_le h
  have h2 : m < 2 ^ (m.log2 + 1) := Nat.lt_log2_self
  have h0 : m * 2 ^ k ≠ 0 := by have := Nat.mul_pos (Nat.pos_of_ne_zero h) (Nat.two_pow_pos k); omega
  have g1 : m.log2 + k ≤ (m * 2 ^ k).log2 := (Nat.le_log2 h0).2 (by rw [Nat.pow_add]; exact Nat.mul_le_mul_right _ h1)
  have g2 : (m * 2 ^ k).log2 < m.log2 + k + 1 := (Nat.log2_lt h0).2 (by rw [show m.log2 + k + 1 = m.log2 + 1 + k by omega, Nat.pow_add]; exact Nat.mul_lt_mul_of_pos_right h2 (Nat.two_pow_pos k))
  omega
theorem sqrt_bd {C R b : Nat} {z y : Nat} (hC : C < 9218868437227405312) (hz : mg Ieee.double C = 2 ^ z) (hz2 : z = 1202) (hR : R < 9218868437227405312) (hy : mg Ieee.double R = 2 ^ y) (hy2 : y = 1174) (hb : bd C b) : bd R ((FloatKind.f64.format.sqrt b).getD (qn .f64)) := by
  rcases hb with hb | hb
  · rw [sqrt_nan hb]; exact .inl (isNaN_qn .f64)
  obtain ⟨s, m, i, hr, hi, hm, hl⟩ := read_bd hC hb
  have hs : FloatKind.f64.format.sqrt b = ((Ieee.double.read b).root 54).map Ieee.double.write := rfl
  rw [hs, hr]
  unfold Datum.root
  by_cases h0 : m = 0
  · subst h0
    right
    show ab (Ieee.double.nearest s 0 i) ≤ _
    rw [nearest_zero, ab_word _ (Nat.zero_le _)]; exact Nat.zero_le _
  · simp only [if_neg h0]
    cases s
    · simp only [Bool.false_eq_true, if_false, Option.map_some, Option.getD_some]
      right
      generalize hmo : 2 * 54 - m.log2 + ((i - ((2 * 54 - m.log2 : Nat) : Int)) % 2).toNat = more
      have hw := root_lt (m <<< more) ((m <<< more).log2 / 2 + 1) 0
      rw [Nat.zero_add, log_shift h0] at hw
      rw [log_shift h0]
      generalize Datum.rootFrom (m <<< more) ((m.log2 + more) / 2 + 1) 0 = whole at *
      show ab (Ieee.double.nearest _ _ _) ≤ _
      refine near_le _ _ _ hR ?_
      rw [hy]
      have hbt : (whole * whole != m <<< more).toNat ≤ 1 := Bool.toNat_le _
      have hlog : m.log2 + (i + 1074).toNat ≤ z := by
        have h1 := Nat.log2_self_le h0
        have h2 : 2 ^ (m.log2 + (i + 1074).toNat) ≤ 2 ^ z := by
          rw [Nat.pow_add]
          refine Nat.le_trans (Nat.mul_le_mul_right _ h1) ?_
          rw [hm, ← hz]; exact hl
        exact (Nat.pow_le_pow_iff_right (by omega)).1 h2
      have hmag : 2 * whole + (whole * whole != m <<< more).toNat ≤ 2 ^ ((m.log2 + more) / 2 + 2) := by
        rw [Nat.pow_succ 2 ((m.log2 + more) / 2 + 1)]; omega
      refine Nat.le_trans (Nat.mul_le_mul_right _ hmag) ?_
      rw [← Nat.pow_add, ← Nat.pow_add]
      exact Nat.pow_le_pow_right (by omega) (by omega)
    · simp only [if_true, Option.map_none, Option.getD_none]
      exact .inl (isNaN_qn .f64)
/-- no root of a number of 32 bits is too great, but an infinity's -/
theorem root_ovf (x : Nat) : ovf (sqv x) = false := by
  by_cases hf : isNaN .f32 x = true ∨ x % 2147483648 ≤ 2139095039
  · have h1 : bd 5183643171103440896 (wid x) := bd_wid (A := 2139095039) (by decide +kernel) (by decide +kernel) (by decide +kernel) hf
    obtain ⟨z, hz⟩ : ∃ z : Nat, z = 1202 := ⟨_, rfl⟩
    obtain ⟨y, hy⟩ : ∃ y : Nat, y = 1174 := ⟨_, rfl⟩
    have h2 := sqrt_bd (C := 5183643171103440896) (R := 5057542381537067008) (by decide +kernel) (by subst hz; decide +kernel) hz (by decide +kernel) (by subst hy; decide +kernel) hy h1
    exact ovf_bd (C := 5057542381537067008) (R := 1904214016) (by decide +kernel) (by decide +kernel) (by decide +kernel) h2
  · have hn : isNaN .f32 x = false := by cases h : isNaN .f32 x <;> simp_all
    have hi : x % sw .f32 = ir .f32 := by
      have := (nan_iff .f32 x).1 hn
      have h2 : ¬ x % 2147483648 ≤ 2139095039 := fun h => hf (.inr h)
      show x % 2147483648 = 2139095040
      have h3 : x % 2147483648 ≤ 2139095040 := this
      omega
    have r1 : FloatKind.f32.decode x = .infinity (Ord.neg FloatKind.f32.format x) := read_inf .f32 hi
    unfold sqv wid
    rw [if_neg (by rw [hn]; simp), r1]
    cases Ord.neg FloatKind.f32.format x <;> decide +kernel
def Tv (x : Nat) (w : World) (e : Ending) (w' : World) : Prop := ∃ u m, e = .returned (.float .f32 u) ∧ w' = w.drewN m ∧ cn .f32 u = cn .f32 (nar (sqv x))
theorem root_end (x : Nat) (w1 w2 w3 : World) : cn .f32 (fnar (fsq (fwid x w1) w2) w3) = cn .f32 (nar (sqv x)) := by
  have h := fsq_sqv x w1 w2
  rw [cn_fnar _ _ (by rw [← ovf_cn, h, ovf_cn]; exact root_ovf x), h, nar_cn, cn_nar]
theorem sqrtW (b : Nat) (w : World) : Calls Try.prog 55 #[.float .f64 b] w fun e w' => e = .returned (.float .f64 (fsq b w)) ∧ w' = w.drewN (sdr b) := by
  go_enter Try.func55, Try.ntmps55
  go_wp2
  go_ret
  exact ⟨rfl, rfl⟩
theorem narS (x : Nat) (w : World) : Calls Try.prog 54 #[.float .f64 x] w fun e w' => e = .returned (.float .f32 (fnar x w)) ∧ w' = w.drewN (ndr x) := by
  go_enter Try.func54, Try.ntmps54
  go_wp2
  go_ret
  exact ⟨rfl, rfl⟩
theorem implT (x : Nat) (w : World) : Calls Try.prog 48 #[.float .f32 x] w (Tv x w) := by
  go_enter Try.func48, Try.ntmps48
  go_wp2_with fail
  refine (sqrtW _ _).mono ?_
  rintro e w1 ⟨rfl, rfl⟩
  go_wp2
  go_ret
  exact ⟨_, _, rfl, rfl, root_end _ _ _ _⟩
theorem specT (x : Nat) (w : World) : Calls Try.prog 43 #[.float .f32 x] w (Tv x w) := by
  go_enter Try.func43, Try.ntmps43
  go_wp2_with fail
  refine (sqrtW _ _).mono ?_
  rintro e w1 ⟨rfl, rfl⟩
  go_wp2_with fail
  refine (narS _ _).mono ?_
  rintro e w1 ⟨rfl, rfl⟩
  go_wp2
  go_ret
  exact ⟨_, _, rfl, rfl, root_end _ _ _ _⟩
end Go.Proofs.Ytfgmpodmbbnijaa.root
