/- Words of 64 bits whose sign is clear: their order is the words' own; the absolute value. -/
import Derived.Test.YtfoanhffcghjaaaFl2
import Derived.Test.YtfoanhffcghjaaaCmp
namespace Go.Fl
open Ieee Go.RowKit Go.Ord
theorem toZ_pos {u : Nat} (h : u < ir .f64) : toZ Ieee.double u = (mg Ieee.double u : Nat) := by
  have h0 : u < 9223372036854775808 := by simp [ir] at h; omega
  unfold toZ rung neg
  rw [show Ieee.double.signWeight = 9223372036854775808 by decide +kernel, Nat.mod_eq_of_lt h0, Nat.div_eq_of_lt h0]
  rfl
theorem fin_pos {u : Nat} (h : u < ir .f64) : Ord.fin Ieee.double u = true := by
  rw [show Ieee.double = FloatKind.f64.format from rfl, fin_iff]
  have h0 : u < 9223372036854775808 := by simp [ir] at h; omega
  rw [show sw .f64 = 9223372036854775808 from rfl, Nat.mod_eq_of_lt h0]; exact h
theorem compare_mg (a b : Nat) : compare ((mg Ieee.double a : Nat) : Int) ((mg Ieee.double b : Nat) : Int) = compare a b := by
  rcases Nat.lt_trichotomy a b with h | h | h
  · have := mg_lt Ieee.double h
    rw [Nat.compare_eq_lt.2 h, show compare ((mg Ieee.double a : Nat) : Int) ((mg Ieee.double b : Nat) : Int) = .lt from Int.compare_eq_lt.2 (by omega)]
  · subst h; simp
  · have := mg_lt Ieee.double h
    rw [Nat.compare_eq_gt.2 h, show compare ((mg Ieee.double a : Nat) : Int) ((mg Ieee.double b : Nat) : Int) = .gt from Int.compare_eq_gt.2 (by omega)]
theorem read_pinf : Ieee.double.read 9218868437227405312 = .infinity false := by decide +kernel
theorem ord_pos {u v : Nat} (hu : u ≤ ir .f64) (hv : v ≤ ir .f64) : FloatKind.f64.format.order u v = some (compare u v) := by
  have ei : ir .f64 = 9218868437227405312 := rfl
  show Ieee.double.order u v = _
  rcases Nat.lt_or_eq_of_le hu with hu' | hu' <;> rcases Nat.lt_or_eq_of_le hv with hv' | hv'
  · rw [order_fin Ieee.double (fin_pos hu') (fin_pos hv'), toZ_pos hu', toZ_pos hv', compare_mg]
  · subst hv'
    have := read_fin Ieee.double (fin_pos hu')
    rw [Nat.compare_eq_lt.2 hu', ei]
    unfold Format.order
    rw [read_pinf]
    cases hr : Ieee.double.read u with
    | number s m e => rfl
    | infinity s => rw [hr] at this; simp at this
    | nan s f => rw [hr] at this; simp at this
  · subst hu'
    have := read_fin Ieee.double (fin_pos hv')
    rw [Nat.compare_eq_gt.2 hv', ei]
    unfold Format.order
    rw [read_pinf]
    cases hr : Ieee.double.read v with
    | number s m e => rfl
    | infinity s => rw [hr] at this; simp at this
    | nan s f => rw [hr] at this; simp at this
  · subst hu'; subst hv'
    rw [ei]; unfold Format.order; rw [read_pinf]; decide +kernel
/-- the absolute value of a word of 64 bits -/
def ab (b : Nat) : Nat := b % 9223372036854775808
theorem ab_nan (b : Nat) : isNaN .f64 (ab b) = isNaN .f64 b := by
  rw [Bool.eq_iff_iff, isNaN_f64, isNaN_f64]; unfold ab; rw [Nat.mod_mod]
theorem ab_le {b : Nat} (h : isNaN .f64 b = false) : ab b ≤ ir .f64 := (nan_iff .f64 b).1 h
theorem u64_andNot63 (x : Nat) : bits .andNot .u64 (x : Int) 9223372036854775808 = ((ab x : Nat) : Int) := by
  have e2 : (~~~BitVec.ofInt 64 9223372036854775808).toNat = 2 ^ 63 - 1 := by decide
  show IntKind.u64.wrap ((BitVec.ofInt 64 (x : Int) &&& ~~~BitVec.ofInt 64 9223372036854775808).toNat : Int) = _
  rw [BitVec.toNat_and, e2, BitVec.toNat_ofInt, Nat.and_two_pow_sub_one_eq_mod]
  have e3 : IntKind.u64.wrap (((((x : Int) % ((2 ^ 64 : Nat) : Int)).toNat % 2 ^ 63 : Nat)) : Int) = ((((x : Int) % ((2 ^ 64 : Nat) : Int)).toNat % 2 ^ 63 : Nat) : Int) := by
    rw [IntKind.wrap_u64]; omega
  rw [e3]; unfold ab; omega
end Go.Fl
