/- math.Ldexp of a number that is neither great nor small. -/
import Derived.Test.YtfoanhffcghjaaaLog
import Derived.Test.YtfoanhffcghjaaaExt
import Derived.Test.YtfoanhffcghjaaaReg
namespace Go.Proofs.Ytfoanhffcghjaaa
open Go.RowKit Go.Fl Go.Reg Go.Ord
theorem absW (b : Nat) (w : World) : Calls Try.prog 69 #[.float .f64 b] w fun e w' => e = .returned (.float .f64 (ab b)) ∧ w' = w := by
  have e : (bits .andNot .u64 (b : Int) 9223372036854775808).toNat = ab b := by rw [u64_andNot63]; rfl
  have HE := Lib.hid e
  clear e
  go_enter Try.func69, Try.ntmps69
  go_wp2
  go_ret
  exact ⟨by rw [← HE.out]; rfl, rfl⟩
theorem i64_and2047 (n : Nat) (h : n < 2048) : bits .and .i64 (n : Int) 2047 = (n : Int) := by
  show IntKind.i64.wrap ((BitVec.ofInt 64 (n : Int) &&& BitVec.ofInt 64 2047).toNat : Int) = _
  have e2 : (BitVec.ofInt 64 2047).toNat = 2 ^ 11 - 1 := by decide
  rw [BitVec.toNat_and, e2, BitVec.toNat_ofInt, Nat.and_two_pow_sub_one_eq_mod]
  rw [IntKind.wrap_i64]
  have e3 : ((n : Int) % ((2 ^ 64 : Nat) : Int)).toNat = n := by omega
  rw [e3, Nat.mod_eq_of_lt (by omega)]
  omega
theorem u64_mask (v : Nat) (h : v < 9223372036854775808) : bits .andNot .u64 (v : Int) 9218868437227405312 = ((v % 4503599627370496 : Nat) : Int) := by
  show IntKind.u64.wrap ((BitVec.ofInt 64 (v : Int) &&& ~~~BitVec.ofInt 64 9218868437227405312).toNat : Int) = _
  have e2 : (~~~BitVec.ofInt 64 9218868437227405312).toNat = 9227875636482146303 := by decide
  rw [BitVec.toNat_and, e2, BitVec.toNat_ofInt]
  have e3 : ((v : Int) % ((2 ^ 64 : Nat) : Int)).toNat = v := by omega
  rw [e3]
  have h1 : v &&& 9227875636482146303 ≤ v := Nat.and_le_left
  have h2 : v &&& 9227875636482146303 = v % 4503599627370496 := by
    have h3 : (v &&& 9227875636482146303) % 2 ^ 63 = v &&& 9227875636482146303 := Nat.mod_eq_of_lt (by omega)
    rw [← h3, Nat.and_mod_two_pow, show 9227875636482146303 % 2 ^ 63 = 2 ^ 52 - 1 by decide, Nat.and_two_pow_sub_one_eq_mod, Nat.mod_eq_of_lt (show v < 2 ^ 63 by omega)]
  rw [h2, IntKind.wrap_u64]; omega
theorem u64_or (a k : Nat) (ha : a < 4503599627370496) (hk : k < 2048) : bits .or .u64 (a : Int) ((k * 4503599627370496 : Nat) : Int) = ((k * 4503599627370496 + a : Nat) : Int) := by
  show IntKind.u64.wrap ((BitVec.ofInt 64 (a : Int) ||| BitVec.ofInt 64 ((k * 4503599627370496 : Nat) : Int)).toNat : Int) = _
  rw [BitVec.toNat_or, BitVec.toNat_ofInt, BitVec.toNat_ofInt]
  have e3 : ((a : Int) % ((2 ^ 64 : Nat) : Int)).toNat = a := by omega
  have e4 : (((k * 4503599627370496 : Nat) : Int) % ((2 ^ 64 : Nat) : Int)).toNat = k * 4503599627370496 := by omega
  rw [e3, e4, Nat.or_comm]
  have := Nat.two_pow_add_eq_or_of_lt (i := 52) (b := a) (by omega) k
  rw [show k * 4503599627370496 = 2 ^ 52 * k by omega, ← this, IntKind.wrap_u64]
  omega
theorem mul_one {v : Nat} (h : 4503599627370496 ≤ v) (h2 : v < 9218868437227405312) : floatBits .mul .f64 4607182418800017408 v = some v := by
  have e2 : Ieee.double.read 4607182418800017408 = .number false 4503599627370496 (-52) := by decide +kernel
  have hb : floatBits .mul .f64 4607182418800017408 v = ((Ieee.double.read 4607182418800017408).product (Ieee.double.read v)).map Ieee.double.write := rfl
  rw [hb, read_pos v h (by omega), e2]
  show some (Ieee.double.nearest false _ _) = _
  refine congrArg some ?_
  rw [near_eq (R := v) _ _ ?_ h2 ?_, word_false]
  · exact Nat.mul_ne_zero (by omega) (by omega)
  · rw [mg_B _ h]
    have e5 : 4503599627370496 = 2 ^ 52 := by decide
    generalize hq : v / 4503599627370496 = q
    have hq1 : 1 ≤ q := by omega
    generalize (4503599627370496 + v % 4503599627370496) = m
    rw [e5, Nat.mul_comm (2 ^ 52) m, Nat.mul_assoc, Nat.mul_assoc, ← Nat.pow_add, ← Nat.pow_add]
    exact congrArg (fun z => m * 2 ^ z) (by omega)
theorem ldexpW (v : Nat) (t : Int) (w : World) (h1 : 900 * 4503599627370496 ≤ v) (h2 : v < 1100 * 4503599627370496) (h3 : -100 ≤ t) (h4 : t ≤ 100) : Calls Try.prog 88 #[.float .f64 v, .int .i64 t] w fun e w' => e = .returned (.float .f64 ((v : Int) + t * 4503599627370496).toNat) ∧ w' = w := by
  have hn : isNaN .f64 v = false := (nan_iff .f64 v).2 (show v % 9223372036854775808 ≤ 9218868437227405312 by omega)
  have z1 : (FloatKind.f64.format.order v 0 == some .eq) = false := by
    rw [ord_pos (show v ≤ 9218868437227405312 by omega) (show 0 ≤ 9218868437227405312 by omega), Nat.compare_eq_gt.2 (by omega)]; rfl
  have z2 : (FloatKind.f64.format.order v 9218868437227405311 == some .gt) = false := by
    rw [ord_pos (show v ≤ 9218868437227405312 by omega) (show 9218868437227405311 ≤ 9218868437227405312 by omega), Nat.compare_eq_lt.2 (by omega)]; rfl
  have z3 := lt_no (v := v) (c := 4503599627370496) (by omega) (by omega)
  have ea : ab v = v := Nat.mod_eq_of_lt (by omega)
  have hb : bits .and .i64 ((v : Int) / 4503599627370496) 2047 = (v : Int) / 4503599627370496 := by have := i64_and2047 (v / 4503599627370496) (by omega); rwa [show ((v / 4503599627370496 : Nat) : Int) = (v : Int) / 4503599627370496 by omega] at this
  have hf : floatBits .mul .f64 4607182418800017408 (bits .or .u64 (bits .andNot .u64 (v : Int) 9218868437227405312) ((t + ((v : Int) / 4503599627370496 - 1023) + 1023) * 4503599627370496)).toNat = some (bits .or .u64 (bits .andNot .u64 (v : Int) 9218868437227405312) ((t + ((v : Int) / 4503599627370496 - 1023) + 1023) * 4503599627370496)).toNat ∧ (bits .or .u64 (bits .andNot .u64 (v : Int) 9218868437227405312) ((t + ((v : Int) / 4503599627370496 - 1023) + 1023) * 4503599627370496)).toNat = ((v : Int) + t * 4503599627370496).toNat := by
    obtain ⟨k, hk⟩ : ∃ k : Nat, k = (t + ((v : Int) / 4503599627370496 - 1023) + 1023).toNat := ⟨_, rfl⟩
    rw [show (t + ((v : Int) / 4503599627370496 - 1023) + 1023) * 4503599627370496 = ((k * 4503599627370496 : Nat) : Int) by omega, u64_mask v (by omega), u64_or _ k (by omega) (by omega)]
    have e : (((k * 4503599627370496 + v % 4503599627370496 : Nat) : Int)).toNat = ((v : Int) + t * 4503599627370496).toNat := by omega
    rw [e]
    exact ⟨mul_one (by omega) (by omega), rfl⟩
  have HF := Lib.hid hf
  clear hf
  go_enter Try.func88, Try.ntmps88
  go_wp2_with (first | (go_at_call 69; refine (absW _ _).mono ?_; rintro e w1 ⟨rfl, rfl⟩; rw [ea]) | go_in)
  go_ret
  obtain ⟨E1, E2⟩ := HF.out
  exact ⟨by show Ending.returned (Value.float .f64 (fres _ _ _ _ _)) = _; rw [fres_of E1, E2], by rw [fdr_of E1]; rfl⟩
theorem ldexp0 (t : Int) (w : World) : Calls Try.prog 88 #[.float .f64 0, .int .i64 t] w fun e w' => e = .returned (.float .f64 0) ∧ w' = w := by
  have z1 : (FloatKind.f64.format.order 0 0 == some .eq) = true := by decide +kernel
  go_enter Try.func88, Try.ntmps88
  go_wp2
  go_ret
  exact ⟨rfl, rfl⟩
theorem ldexpT (v : Nat) (t : Int) (w : World) (h : v = 0 ∨ (900 * 4503599627370496 ≤ v ∧ v < 1100 * 4503599627370496)) (h3 : -100 ≤ t) (h4 : t ≤ 100) : Calls Try.prog 83 #[.float .f64 v, .int .i64 t] w fun e w' => e = .returned (.float .f64 (if v = 0 then 0 else ((v : Int) + t * 4503599627370496).toNat)) ∧ w' = w := by
  have k : ∀ w, Calls Try.prog 88 #[.float .f64 v, .int .i64 t] w fun e w' => e = .returned (.float .f64 (if v = 0 then 0 else ((v : Int) + t * 4503599627370496).toNat)) ∧ w' = w := by
    intro w
    rcases h with rfl | ⟨h1, h2⟩
    · rw [if_pos rfl]; exact ldexp0 t w
    · rw [if_neg (by omega)]; exact ldexpW v t w h1 h2 h3 h4
  obtain ⟨r, hr⟩ : ∃ r : Nat, r = if v = 0 then 0 else ((v : Int) + t * 4503599627370496).toNat := ⟨_, rfl⟩
  rw [← hr] at k ⊢
  clear hr h
  go_enter Try.func83, Try.ntmps83
  go_wp2_with fail
  refine (k _).mono ?_
  rintro e w1 ⟨rfl, rfl⟩
  go_wp2
  go_ret
  exact ⟨rfl, rfl⟩
end Go.Proofs.Ytfoanhffcghjaaa
