/- The bit operations that the program uses, as arithmetic on natural numbers. -/
import Derived.WalkKit
namespace Go.Fl
open Go.RowKit (wrap64)
theorem and_hi16 (x : Nat) (n : Nat) : x % 2 ^ (16 + n) &&& (2 ^ n - 1) * 65536 = x % 2 ^ (16 + n) - x % 65536 := by
  have e : x % 2 ^ (16 + n) - x % 65536 = (x % 2 ^ (16 + n)) / 65536 * 65536 := by
    have h1 : x % 65536 = (x % 2 ^ (16 + n)) % 65536 := by
      rw [Nat.pow_add]; exact (Nat.mod_mul_right_mod x 65536 (2 ^ n)).symm
    rw [h1]; omega
  rw [e]
  apply Nat.eq_of_testBit_eq
  intro i
  rw [Nat.testBit_and, show (65536 : Nat) = 2 ^ 16 from rfl, Nat.testBit_mul_two_pow, Nat.testBit_mul_two_pow, Nat.testBit_two_pow_sub_one, Nat.testBit_div_two_pow]
  by_cases h : 16 ≤ i
  · rw [show i - 16 + 16 = i by omega]
    by_cases h2 : i - 16 < n
    · simp [h, h2]
    · have : (x % 2 ^ (16 + n)).testBit i = false := Nat.testBit_lt_two_pow (Nat.lt_of_lt_of_le (Nat.mod_lt _ (Nat.two_pow_pos _)) (Nat.pow_le_pow_right (by omega) (by omega)))
      simp [this]
  · simp [h]
theorem u32_andNot16 (x : Int) (h0 : 0 ≤ x) (h1 : x < 4294967296) : bits .andNot .u32 x 65535 = x - x % 65536 := by
  rw [u32_andNot x 65535 h0 h1 (by omega) (by omega)]
  have h := and_hi16 x.toNat 16
  rw [Nat.mod_eq_of_lt (show x.toNat < 2 ^ (16 + 16) by omega)] at h
  have e : 4294967295 - (65535 : Int).toNat = (2 ^ 16 - 1) * 65536 := by decide
  rw [e, h]; omega
theorem i64_andNot16 (x : Int) (h0 : 0 ≤ x) (h1 : x < 9223372036854775808) : bits .andNot .i64 x 65535 = x - x % 65536 := by
  have h := and_hi16 x.toNat 48
  rw [Nat.mod_eq_of_lt (show x.toNat < 2 ^ (16 + 48) by omega)] at h
  have e1 : (BitVec.ofInt 64 x).toNat = x.toNat := by rw [BitVec.toNat_ofInt]; omega
  have e2 : (~~~BitVec.ofInt 64 65535).toNat = (2 ^ 48 - 1) * 65536 := by decide
  show IntKind.i64.wrap ((BitVec.ofInt 64 x &&& ~~~BitVec.ofInt 64 65535).toNat : Int) = _
  rw [BitVec.toNat_and, e1, e2, h, IntKind.wrap_i64]; omega
theorem u32_and1 (x : Int) (h0 : 0 ≤ x) (h1 : x < 4294967296) : bits .and .u32 x 1 = x % 2 := by
  rw [u32_and x 1 h0 h1 (by omega) (by omega), show (1 : Int).toNat = 1 from rfl, Nat.and_one_is_mod]; omega
theorem i64_and1 (x : Int) : bits .and .i64 x 1 = x % 2 := by
  have h1 : (BitVec.ofInt 64 1).toNat = 2 ^ 1 - 1 := by decide
  show IntKind.i64.wrap ((BitVec.ofInt 64 x &&& BitVec.ofInt 64 1).toNat : Int) = _
  rw [BitVec.toNat_and, BitVec.toNat_ofInt, h1, Nat.and_two_pow_sub_one_eq_mod, IntKind.wrap_i64]; omega
/-- the nearest word of 16 bits -/
def bf (x : Nat) : Nat := (x + 32767 + x / 65536 % 2) / 65536 * 65536
theorem bf_u32 (x : Nat) (hx : x < 4294967296) (hr : x % 2147483648 < 2139095040) : (bits BinOp.andNot IntKind.u32 (((x : Int) + (32767 + bits BinOp.and IntKind.u32 ((x : Int) / 65536) 1)) % 4294967296) 65535).toNat = bf x := by
  rw [u32_and1 _ (by omega) (by omega), u32_andNot16 _ (by omega) (by omega)]
  have e : (x : Int) / 65536 % 2 = ((x / 65536 % 2 : Nat) : Int) := by omega
  unfold bf
  rw [e]
  have hp : x / 65536 % 2 ≤ 1 := by omega
  generalize x / 65536 % 2 = p at *
  omega
theorem bf_i64 (x : Nat) (hx : x < 4294967296) (hr : x % 2147483648 < 2139095040) : (bits BinOp.andNot IntKind.i64 (wrap64 ((x : Int) + wrap64 (32767 + bits BinOp.and IntKind.i64 ((x : Int) / 65536) 1))) 65535 % 4294967296).toNat = bf x := by
  have e : (x : Int) / 65536 % 2 = ((x / 65536 % 2 : Nat) : Int) := by omega
  have hp : x / 65536 % 2 ≤ 1 := by omega
  rw [i64_and1, e]
  unfold bf
  generalize x / 65536 % 2 = p at *
  rw [IntWalk.wrap64_in (32767 + (p : Int)) ⟨by omega, by omega⟩, IntWalk.wrap64_in _ ⟨by omega, by omega⟩, i64_andNot16 _ (by omega) (by omega)]
  omega
theorem bf_inf1 : (bits BinOp.andNot IntKind.u32 ((2139095040 + (32767 + bits BinOp.and IntKind.u32 32640 1)) % 4294967296) 65535).toNat = 2139095040 := by decide +kernel
theorem bf_inf2 : (bits BinOp.andNot IntKind.u32 ((4286578688 + (32767 + bits BinOp.and IntKind.u32 65408 1)) % 4294967296) 65535).toNat = 4286578688 := by decide +kernel
end Go.Fl
