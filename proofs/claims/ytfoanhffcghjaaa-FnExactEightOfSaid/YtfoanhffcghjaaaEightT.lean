/- The tables of the values of eight bits, their middles, and a number's size in 64 bits. -/
import Derived.Test.YtfoanhffcghjaaaEightN
import Derived.Test.YtfoanhffcghjaaaEight
namespace Go.Proofs.Ytfoanhffcghjaaa
open Go.RowKit Go.Fl Go.Reg Go.Ord
def V0 (r : Nat) : Nat := rv 4 15 (r / 4) (r % 4)
def q0 (r : Nat) : Nat := if r < 4 then r else (4 + r % 4) * 2 ^ (r / 4 - 1)
def am0 (r : Nat) : Nat := fop .add .f64 (V0 r) (V0 (r + 1))
def mid0 (r : Nat) : Nat := fop .quo .f64 (am0 r) 4611686018427387904
theorem tab0a : ∀ r, r < 124 → V0 r < 9218868437227405312 ∧ Ord.mg Ieee.double (V0 r) = q0 r * 2 ^ 1058 ∧ q0 r < 4294967296 ∧ q0 r < q0 (r + 1) ∧ (1 ≤ r → q0 (r + 1) ≤ 2 * q0 r) ∧ 2 * q0 (r + 1) ≤ q0 r + q0 (r + 2) := by decide +kernel
theorem tab0m : ∀ r, r < 123 → floatBits .add .f64 (V0 r) (V0 (r + 1)) = some (am0 r) ∧ floatBits .quo .f64 (am0 r) 4611686018427387904 = some (mid0 r) ∧ mid0 r < 9218868437227405312 ∧ Ord.mg Ieee.double (mid0 r) * 2 = (q0 r + q0 (r + 1)) * 2 ^ 1058 := by decide +kernel
theorem tab0 : Tab V0 q0 123 1058 :=
  ⟨fun r h => (tab0a r (by omega)).1, fun r h => (tab0a r (by omega)).2.1, rfl, fun r h => (tab0a r (by omega)).2.2.2.1, fun r h => (tab0a r (by omega)).2.2.1, fun r h1 h => (tab0a r (by omega)).2.2.2.2.1 h1, fun r h => (tab0a r (by omega)).2.2.2.2.2, by omega, by omega⟩
/-- the rounded distance of the value r -/
def d0 (y r : Nat) : Nat := ab (fop .sub .f64 y (V0 r))
theorem d0_ok {y r : Nat} (hy : y < 9218868437227405312) (hr : r ≤ 123) : floatBits .sub .f64 y (V0 r) = some (fop .sub .f64 y (V0 r)) ∧ d0 y r ≤ 9218868437227405312 ∧ Nr (((Ord.mg Ieee.double y : Nat) : Int) - (Ord.mg Ieee.double (V0 r) : Nat)).natAbs (d0 y r) := by
  obtain ⟨x, h1, h2, h3⟩ := sub_Nr hy (tab0.lt r hr)
  have e : fop .sub .f64 y (V0 r) = x := by unfold fop; rw [h1]; rfl
  unfold d0
  rw [e]
  exact ⟨h1, h2, h3⟩
/-- the place for a number of the size y -/
def pl0 (y : Nat) : Nat := if y < V0 123 then bst (d0 y) 123 else 123
theorem pl0_mids {x : Nat} (hx : x ≤ 2139095040) : Mids (wid x) mid0 123 (pl0 (wid x)) := by
  unfold pl0
  by_cases h : wid x < V0 123
  · rw [if_pos h]
    rcases Nat.lt_or_eq_of_le hx with hx' | hx'
    · obtain ⟨m, p, h1, h2, h3, h4⟩ := wid_few hx'
      exact nearest_mid tab0 h1 h2 h3 h (fun r hr => (tab0m r hr).2.2.2) (fun r hr => (d0_ok h4 hr).2.2)
    · exfalso
      subst hx'
      revert h
      decide +kernel
  · rw [if_neg h]
    exact mids_top tab0 (by omega) (fun r hr => (tab0m r hr).2.2.2)
def V1 (r : Nat) : Nat := rv 8 7 (r / 8) (r % 8)
def q1 (r : Nat) : Nat := if r < 8 then r else (8 + r % 8) * 2 ^ (r / 8 - 1)
def am1 (r : Nat) : Nat := fop .add .f64 (V1 r) (V1 (r + 1))
def mid1 (r : Nat) : Nat := fop .quo .f64 (am1 r) 4611686018427387904
theorem tab1a : ∀ r, r < 127 → V1 r < 9218868437227405312 ∧ Ord.mg Ieee.double (V1 r) = q1 r * 2 ^ 1065 ∧ q1 r < 4294967296 ∧ q1 r < q1 (r + 1) ∧ (1 ≤ r → q1 (r + 1) ≤ 2 * q1 r) ∧ 2 * q1 (r + 1) ≤ q1 r + q1 (r + 2) := by decide +kernel
theorem tab1m : ∀ r, r < 126 → floatBits .add .f64 (V1 r) (V1 (r + 1)) = some (am1 r) ∧ floatBits .quo .f64 (am1 r) 4611686018427387904 = some (mid1 r) ∧ mid1 r < 9218868437227405312 ∧ Ord.mg Ieee.double (mid1 r) * 2 = (q1 r + q1 (r + 1)) * 2 ^ 1065 := by decide +kernel
theorem tab1 : Tab V1 q1 126 1065 :=
  ⟨fun r h => (tab1a r (by omega)).1, fun r h => (tab1a r (by omega)).2.1, rfl, fun r h => (tab1a r (by omega)).2.2.2.1, fun r h => (tab1a r (by omega)).2.2.1, fun r h1 h => (tab1a r (by omega)).2.2.2.2.1 h1, fun r h => (tab1a r (by omega)).2.2.2.2.2, by omega, by omega⟩
/-- the rounded distance of the value r -/
def d1 (y r : Nat) : Nat := ab (fop .sub .f64 y (V1 r))
theorem d1_ok {y r : Nat} (hy : y < 9218868437227405312) (hr : r ≤ 126) : floatBits .sub .f64 y (V1 r) = some (fop .sub .f64 y (V1 r)) ∧ d1 y r ≤ 9218868437227405312 ∧ Nr (((Ord.mg Ieee.double y : Nat) : Int) - (Ord.mg Ieee.double (V1 r) : Nat)).natAbs (d1 y r) := by
  obtain ⟨x, h1, h2, h3⟩ := sub_Nr hy (tab1.lt r hr)
  have e : fop .sub .f64 y (V1 r) = x := by unfold fop; rw [h1]; rfl
  unfold d1
  rw [e]
  exact ⟨h1, h2, h3⟩
/-- the place for a number of the size y -/
def pl1 (y : Nat) : Nat := if y < V1 126 then bst (d1 y) 126 else 126
theorem pl1_mids {x : Nat} (hx : x ≤ 2139095040) : Mids (wid x) mid1 126 (pl1 (wid x)) := by
  unfold pl1
  by_cases h : wid x < V1 126
  · rw [if_pos h]
    rcases Nat.lt_or_eq_of_le hx with hx' | hx'
    · obtain ⟨m, p, h1, h2, h3, h4⟩ := wid_few hx'
      exact nearest_mid tab1 h1 h2 h3 h (fun r hr => (tab1m r hr).2.2.2) (fun r hr => (d1_ok h4 hr).2.2)
    · exfalso
      subst hx'
      revert h
      decide +kernel
  · rw [if_neg h]
    exact mids_top tab1 (by omega) (fun r hr => (tab1m r hr).2.2.2)
theorem wid_inf : wid 2139095040 = 9218868437227405312 := by decide +kernel
theorem wid_le {x : Nat} (hx : x ≤ 2139095040) : wid x ≤ 9218868437227405312 := by
  rcases Nat.lt_or_eq_of_le hx with h | h
  · obtain ⟨m, p, h1, h2, h3, h4⟩ := wid_few h
    omega
  · subst h; rw [wid_inf]; omega
theorem wid_sign {z : Nat} (hz : z ≤ 2139095040) : wid (2147483648 + z) = 9223372036854775808 + wid z := by
  rcases Nat.lt_or_eq_of_le hz with h | h
  · obtain ⟨m, p, h1, h2, h3⟩ := single_few h
    obtain ⟨m', e, hw, he, hm⟩ := wid_read h
    have hrg : rung Ieee.single (2147483648 + z) = z := by unfold rung; rw [ssw]; omega
    have hf : Ord.fin Ieee.single (2147483648 + z) = true := by unfold Ord.fin; rw [hrg, sir]; exact decide_eq_true (by omega)
    have hn : isNaN .f32 (2147483648 + z) = false := not_nan (by omega)
    obtain ⟨n, i, hr, hi, hn2⟩ := read_fin Ieee.single hf
    rw [slp] at hi hn2
    rw [hrg] at hn2
    have hng : Ord.neg Ieee.single (2147483648 + z) = true := by unfold Ord.neg; rw [ssw, show (2147483648 + z) / 2147483648 = 1 by omega]; rfl
    rw [hng] at hr
    have hw2 : wid (2147483648 + z) = Ieee.double.nearest true n i := by
      unfold wid
      rw [hn]
      show Ieee.double.write (Ieee.single.read (2147483648 + z)) = _
      rw [hr]
      rfl
    obtain ⟨c, hc⟩ : ∃ c, c = 925 := ⟨_, rfl⟩
    obtain ⟨R, hR, hmR⟩ := rep m (p + c) (by omega) (by omega)
    obtain ⟨-, k1⟩ := nearest_Nr false m' (place := e) (by omega)
    obtain ⟨-, k2⟩ := nearest_Nr true n (place := i) (by omega)
    rw [show (e + 1074).toNat = (e - -149).toNat + c by omega, Nat.pow_add, ← Nat.mul_assoc, hm, h3, Nat.mul_assoc, ← Nat.pow_add] at k1
    rw [show (i + 1074).toNat = (i - -149).toNat + c by omega, Nat.pow_add, ← Nat.mul_assoc, hn2, h3, Nat.mul_assoc, ← Nat.pow_add] at k2
    have e1 := k1.eq hR hmR
    have e2 := k2.eq hR hmR
    have f1 : Ieee.double.nearest false m' e = R := by rw [← e1]; unfold ab; exact (Nat.mod_eq_of_lt (nearest_pos _ _)).symm
    have f2 : Ieee.double.nearest true n i = 9223372036854775808 + R := by
      by_cases h0 : n = 0
      · subst h0
        rw [nearest_zero] at e2 ⊢
        rw [ab_word _ (by omega)] at e2
        subst e2
        decide +kernel
      · rw [nearest_nr _ _ _ h0, dir, ab_word _ (Nat.min_le_right _ _)] at e2
        rw [nearest_nr _ _ _ h0, dir, e2]
        unfold Ieee.Format.word
        rw [dsw]
        rfl
    rw [hw, hw2, f1, f2]
  · subst h; decide +kernel
theorem ab_wid {x : Nat} (_hx : x < 4294967296) (hn : isNaN .f32 x = false) : ab (wid x) = wid (x % 2147483648) := by
  have h := nan_le hn
  have hl := wid_le h
  by_cases h1 : 2147483648 ≤ x
  · have e : x = 2147483648 + x % 2147483648 := by omega
    have := wid_sign h
    rw [← e] at this
    rw [this]
    unfold ab
    omega
  · have e : x % 2147483648 = x := by omega
    rw [e] at hl ⊢
    unfold ab
    omega
theorem sgn_wid {x : Nat} (_hx : x < 4294967296) (hn : isNaN .f32 x = false) : decide (wrap64 ((wid x : Nat) : Int) < 0) = decide (2147483648 ≤ x) := by
  have h := nan_le hn
  have hl := wid_le h
  by_cases h1 : 2147483648 ≤ x
  · have e : x = 2147483648 + x % 2147483648 := by omega
    have := wid_sign h
    rw [← e] at this
    rw [decide_eq_true h1, decide_eq_true]
    unfold wrap64
    omega
  · have e : x % 2147483648 = x := by omega
    rw [e] at hl
    rw [decide_eq_false h1, decide_eq_false]
    unfold wrap64
    omega
theorem negf {x : Nat} (h1 : 2147483648 ≤ x) (h2 : x < 4294967296) : Op.negFloat .f32 x = x % 2147483648 := by
  have e : (Op.negFloat .f32 x) % 2147483648 = x % 2147483648 := by
    show (x ^^^ 2 ^ 31) % 2 ^ 31 = x % 2 ^ 31
    rw [Nat.xor_mod_two_pow, Nat.mod_self, Nat.xor_zero]
  have e2 : (Op.negFloat .f32 x) / 2147483648 = 0 := by
    show (x ^^^ 2 ^ 31) / 2 ^ 31 = 0
    rw [Nat.xor_div_two_pow, show x / 2 ^ 31 = 1 by omega]
    rfl
  omega
theorem ord_lt {u v : Nat} (hu : u ≤ 9218868437227405312) (hv : v ≤ 9218868437227405312) : (FloatKind.f64.format.order u v == some .lt) = decide (u < v) := by
  rw [ord_pos hu hv]
  rcases Nat.lt_trichotomy u v with h | h | h
  · rw [Nat.compare_eq_lt.2 h, decide_eq_true h]; rfl
  · rw [Nat.compare_eq_eq.2 h, decide_eq_false (by omega)]; rfl
  · rw [Nat.compare_eq_gt.2 h, decide_eq_false (by omega)]; rfl
theorem ord_eq {u v : Nat} (hu : u ≤ 9218868437227405312) (hv : v ≤ 9218868437227405312) : (FloatKind.f64.format.order u v == some .eq) = decide (u = v) := by
  rw [ord_pos hu hv]
  rcases Nat.lt_trichotomy u v with h | h | h
  · rw [Nat.compare_eq_lt.2 h, decide_eq_false (by omega)]; rfl
  · rw [Nat.compare_eq_eq.2 h, decide_eq_true h]; rfl
  · rw [Nat.compare_eq_gt.2 h, decide_eq_false (by omega)]; rfl
/-- the code for a number -/
def code (K x : Nat) : Nat := if isNaN .f32 x = true then 127 else (if K = 0 then pl0 (wid (x % 2147483648)) else pl1 (wid (x % 2147483648))) + (if 2147483648 ≤ x then 128 else 0)
end Go.Proofs.Ytfoanhffcghjaaa
