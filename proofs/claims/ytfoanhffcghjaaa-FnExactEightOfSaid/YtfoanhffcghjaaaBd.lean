/- Bounds: a word of 64 bits is none, or no greater in size than a given one; what sums, products, quotients, roots and conversions keep of that. -/
import Derived.Test.YtfoanhffcghjaaaNear
import Derived.Test.YtfoanhffcghjaaaPos
namespace Go.Fl
open Go.Ord Go.RowKit
open Ieee (Datum Format)

/-- the word is none, or its size is at most C's -/
def bd (C b : Nat) : Prop := isNaN .f64 b = true ∨ ab b ≤ C
theorem dlp : Ieee.double.leastPlace = -1074 := by decide +kernel
theorem slp : Ieee.single.leastPlace = -149 := by decide +kernel
theorem dir : Ieee.double.infRung = 9218868437227405312 := by decide +kernel
theorem sir : Ieee.single.infRung = 2139095040 := by decide +kernel
theorem dsw : Ieee.double.signWeight = 9223372036854775808 := by decide +kernel
theorem ssw : Ieee.single.signWeight = 2147483648 := by decide +kernel
theorem ab_word (neg : Bool) {r : Nat} (h : r ≤ 9218868437227405312) : ab (Ieee.double.word neg r) = r := by
  unfold ab Format.word; rw [dsw]; cases neg
  · rw [if_neg (by simp)]; exact Nat.mod_eq_of_lt (by omega)
  · simp only [if_true]; rw [Nat.add_mod_left]; exact Nat.mod_eq_of_lt (by omega)
theorem mg_le {f : Format} {a b : Nat} (h : a ≤ b) : mg f a ≤ mg f b := by
  rcases Nat.lt_or_eq_of_le h with h | h
  · exact Nat.le_of_lt (mg_lt f h)
  · rw [h]; exact Nat.le_refl _
/-- the nearest word to a number that is no greater than R -/
theorem near_le (neg : Bool) (mag : Nat) (place : Int) {R : Nat} (hR : R < 9218868437227405312) (h : mag * 2 ^ (place + 1074).toNat ≤ mg Ieee.double R * 2 ^ (-1074 - place).toNat) : ab (Ieee.double.nearest neg mag place) ≤ R := by
  by_cases h0 : mag = 0
  · subst h0; rw [nearest_zero, ab_word _ (by omega)]; exact Nat.zero_le _
  · have k := (nr_both Ieee.double neg place h0 R).1
    rw [dlp] at k
    have k := k (by rw [show place - -1074 = place + 1074 by omega]; exact h)
    rw [nearest_nr _ _ _ h0, dir, ab_word _ (Nat.min_le_right _ _)]
    omega
/-- what a bounded word reads as -/
theorem read_bd {C b : Nat} (hC : C < 9218868437227405312) (h : ab b ≤ C) : ∃ s m e, Ieee.double.read b = .number s m e ∧ -1074 ≤ e ∧ m * 2 ^ (e + 1074).toNat = mg Ieee.double (ab b) ∧ mg Ieee.double (ab b) ≤ mg Ieee.double C := by
  have hf : Ord.fin Ieee.double b = true := by unfold Ord.fin rung; rw [dsw, dir]; unfold ab at h; exact decide_eq_true (by omega)
  obtain ⟨m, e, hr, he, hm⟩ := read_fin Ieee.double hf
  rw [dlp] at he hm
  refine ⟨_, m, e, hr, he, ?_, mg_le h⟩
  rw [show e - -1074 = e + 1074 by omega] at hm
  rw [hm]; unfold rung ab; rw [dsw]
theorem bd_some {op : BinOp} {x y C : Nat} (h : ∀ r, floatBits op .f64 x y = some r → ab r ≤ C) : bd C (fop op .f64 x y) := by
  unfold fop
  cases hb : floatBits op .f64 x y with
  | none => exact .inl (isNaN_qn .f64)
  | some r => exact .inr (h r hb)
theorem fop_nan_l (op : BinOp) {x : Nat} (y : Nat) (h : isNaN .f64 x = true) : isNaN .f64 (fop op .f64 x y) = true := by
  unfold fop; rw [floatBits_nan_left op y h]; exact isNaN_qn .f64
theorem fop_nan_r (op : BinOp) (x : Nat) {y : Nat} (h : isNaN .f64 y = true) : isNaN .f64 (fop op .f64 x y) = true := by
  unfold fop; rw [floatBits_nan_right op x h]; exact isNaN_qn .f64
theorem natAbs_signed (s : Bool) (m n : Nat) : (Ieee.signed s m n).natAbs = m * 2 ^ n := by unfold Ieee.signed; rw [Nat.shiftLeft_eq]; generalize m * 2 ^ n = q; cases s <;> simp
theorem sum_le {s t : Bool} {m n : Nat} {i j : Int} {A B : Nat} (hi : -1074 ≤ i) (hj : -1074 ≤ j) (hA : m * 2 ^ (i + 1074).toNat = A) (hB : n * 2 ^ (j + 1074).toNat = B) :
    (Ieee.signed s m (i - min i j).toNat + Ieee.signed t n (j - min i j).toNat).natAbs * 2 ^ (min i j + 1074).toNat ≤ A + B := by
  have h1 := Int.natAbs_add_le (Ieee.signed s m (i - min i j).toNat) (Ieee.signed t n (j - min i j).toNat)
  rw [natAbs_signed, natAbs_signed] at h1
  refine Nat.le_trans (Nat.mul_le_mul_right _ h1) ?_
  rw [Nat.add_mul, Nat.mul_assoc, Nat.mul_assoc, ← Nat.pow_add, ← Nat.pow_add, show (i - min i j).toNat + (min i j + 1074).toNat = (i + 1074).toNat by omega, show (j - min i j).toNat + (min i j + 1074).toNat = (j + 1074).toNat by omega, hA, hB]
  exact Nat.le_refl _
theorem bd_sum {a b : Datum} {A B C : Nat} {r : Nat} (hC : C < 9218868437227405312) (hc : A + B ≤ mg Ieee.double C)
    (ha : ∃ s m e, a = .number s m e ∧ -1074 ≤ e ∧ m * 2 ^ (e + 1074).toNat ≤ A) (hb : ∃ s m e, b = .number s m e ∧ -1074 ≤ e ∧ m * 2 ^ (e + 1074).toNat ≤ B) (h : (a.sum b).map Ieee.double.write = some r) : ab r ≤ C := by
  obtain ⟨s, m, i, rfl, hi, em⟩ := ha
  obtain ⟨t, n, j, rfl, hj, en⟩ := hb
  simp only [Datum.sum, Option.map_some, Option.some.injEq] at h
  subst h
  refine near_le _ _ _ hC ?_
  have := sum_le (s := s) (t := t) (m := m) (n := n) (A := m * 2 ^ (i + 1074).toNat) (B := n * 2 ^ (j + 1074).toNat) hi hj rfl rfl
  rw [show (-1074 - min i j).toNat = 0 by omega, Nat.pow_zero, Nat.mul_one]
  omega
theorem bd_add {A B C x y : Nat} (hA : A < 9218868437227405312) (hB : B < 9218868437227405312) (hC : C < 9218868437227405312) (hc : mg Ieee.double A + mg Ieee.double B ≤ mg Ieee.double C) (hx : bd A x) (hy : bd B y) : bd C (fop .add .f64 x y) := by
  rcases hx with hx | hx
  · exact .inl (fop_nan_l _ _ hx)
  rcases hy with hy | hy
  · exact .inl (fop_nan_r _ _ hy)
  refine bd_some fun r hr => ?_
  obtain ⟨s, m, i, e1, hi, em, lm⟩ := read_bd hA hx
  obtain ⟨t, n, j, e2, hj, en, ln⟩ := read_bd hB hy
  exact bd_sum hC hc ⟨s, m, i, e1, hi, by omega⟩ ⟨t, n, j, e2, hj, by omega⟩ hr
theorem bd_sub {A B C x y : Nat} (hA : A < 9218868437227405312) (hB : B < 9218868437227405312) (hC : C < 9218868437227405312) (hc : mg Ieee.double A + mg Ieee.double B ≤ mg Ieee.double C) (hx : bd A x) (hy : bd B y) : bd C (fop .sub .f64 x y) := by
  rcases hx with hx | hx
  · exact .inl (fop_nan_l _ _ hx)
  rcases hy with hy | hy
  · exact .inl (fop_nan_r _ _ hy)
  refine bd_some fun r hr => ?_
  obtain ⟨s, m, i, e1, hi, em, lm⟩ := read_bd hA hx
  obtain ⟨t, n, j, e2, hj, en, ln⟩ := read_bd hB hy
  exact bd_sum hC hc ⟨s, m, i, e1, hi, by omega⟩ ⟨!t, n, j, by rw [show FloatKind.f64.format = Ieee.double from rfl, e2]; rfl, hj, by omega⟩ hr
theorem bd_mul {A B C x y : Nat} (hA : A < 9218868437227405312) (hB : B < 9218868437227405312) (hC : C < 9218868437227405312) (hc : mg Ieee.double A * mg Ieee.double B ≤ mg Ieee.double C * 2 ^ 1074) (hx : bd A x) (hy : bd B y) : bd C (fop .mul .f64 x y) := by
  rcases hx with hx | hx
  · exact .inl (fop_nan_l _ _ hx)
  rcases hy with hy | hy
  · exact .inl (fop_nan_r _ _ hy)
  refine bd_some fun r hr => ?_
  obtain ⟨s, m, i, e1, hi, em, lm⟩ := read_bd hA hx
  obtain ⟨t, n, j, e2, hj, en, ln⟩ := read_bd hB hy
  have hr' : ((Ieee.double.read x).product (Ieee.double.read y)).map Ieee.double.write = some r := hr
  rw [e1, e2] at hr'
  simp only [Datum.product, Option.map_some, Option.some.injEq] at hr'
  subst hr'
  refine near_le _ _ _ hC ?_
  have k : m * 2 ^ (i + 1074).toNat * (n * 2 ^ (j + 1074).toNat) ≤ mg Ieee.double C * 2 ^ 1074 := Nat.le_trans (Nat.mul_le_mul (by omega) (by omega)) hc
  have k2 : m * n * 2 ^ ((i + 1074).toNat + (j + 1074).toNat) ≤ mg Ieee.double C * 2 ^ 1074 := by
    rw [Nat.pow_add, show m * n * (2 ^ (i + 1074).toNat * 2 ^ (j + 1074).toNat) = m * 2 ^ (i + 1074).toNat * (n * 2 ^ (j + 1074).toNat) from Nat.mul_mul_mul_comm _ _ _ _]
    exact k
  by_cases h : -1074 ≤ i + j
  · rw [show (-1074 - (i + j)).toNat = 0 by omega, Nat.pow_zero, Nat.mul_one]
    rw [show (i + 1074).toNat + (j + 1074).toNat = (i + j + 1074).toNat + 1074 by omega, Nat.pow_add, ← Nat.mul_assoc] at k2
    exact mul_pow_le_cancel _ k2
  · rw [show (i + j + 1074).toNat = 0 by omega, Nat.pow_zero, Nat.mul_one]
    rw [show 1074 = (-1074 - (i + j)).toNat + ((i + 1074).toNat + (j + 1074).toNat) by omega, Nat.pow_add 2 (-1074 - (i + j)).toNat, ← Nat.mul_assoc] at k2
    exact mul_pow_le_cancel _ k2
/-- a quotient by a number whose size is at least D's -/
theorem bd_quo {A D C x y : Nat} (hA : A < 9218868437227405312) (hD : 0 < D) (hC : C < 9218868437227405312) (hc : (2 ^ 54 + 1) * (mg Ieee.double A * 2 ^ 1074) ≤ 2 ^ 54 * (mg Ieee.double C * mg Ieee.double D)) (hx : bd A x)
    (hy : isNaN .f64 y = true ∨ (D ≤ ab y ∧ ab y < 9218868437227405312)) : bd C (fop .quo .f64 x y) := by
  rcases hx with hx | hx
  · exact .inl (fop_nan_l _ _ hx)
  rcases hy with hy | ⟨hy, hy2⟩
  · exact .inl (fop_nan_r _ _ hy)
  refine bd_some fun r hr => ?_
  obtain ⟨s, m, i, e1, hi, em, lm⟩ := read_bd hA hx
  obtain ⟨t, n, j, e2, hj, en, _⟩ := read_bd hy2 (Nat.le_refl _)
  have hr' : ((Ieee.double.read x).quotient 54 (Ieee.double.read y)).map Ieee.double.write = some r := hr
  have hn0 : n ≠ 0 := by
    rintro rfl
    rw [Nat.zero_mul] at en
    have := mg_lt Ieee.double (show 0 < ab y by omega)
    omega
  rw [e1, e2] at hr'
  simp only [Datum.quotient, if_neg hn0, Option.map_some, Option.some.injEq] at hr'
  subst hr'
  refine near_le _ _ _ hC ?_
  by_cases hm0 : m = 0
  · subst hm0; simp
  -- the dividend is at least 2 ^ 53 times the divisor
  generalize hmo : 54 + n.log2 - m.log2 = more
  have hd : 2 ^ 53 * n ≤ m <<< more := by
    rw [Nat.shiftLeft_eq]
    have h1 : 2 ^ m.log2 ≤ m := Nat.log2_self_le hm0
    have h2 : n < 2 ^ (n.log2 + 1) := Nat.lt_log2_self
    calc 2 ^ 53 * n ≤ 2 ^ 53 * 2 ^ (n.log2 + 1) := Nat.mul_le_mul_left _ (Nat.le_of_lt h2)
      _ = 2 ^ (54 + n.log2) := by rw [← Nat.pow_add]; congr 1; omega
      _ ≤ 2 ^ (m.log2 + more) := Nat.pow_le_pow_right (by omega) (by omega)
      _ = 2 ^ m.log2 * 2 ^ more := by rw [Nat.pow_add]
      _ ≤ m * 2 ^ more := Nat.mul_le_mul_right _ h1
  have hmag : 2 ^ 53 * ((2 * (m <<< more / n) + (m <<< more % n != 0).toNat) * n) ≤ (2 ^ 54 + 1) * (m <<< more) := by
    have h3 := Nat.div_add_mod (m <<< more) n
    have h4 : (m <<< more % n != 0).toNat ≤ 1 := Bool.toNat_le _
    have h5 : (2 * (m <<< more / n) + (m <<< more % n != 0).toNat) * n ≤ 2 * (m <<< more) + n := by
      rw [Nat.add_mul, Nat.mul_assoc, Nat.mul_comm (m <<< more / n) n]
      have := Nat.mul_le_mul_right n h4
      omega
    have := Nat.mul_le_mul_left (2 ^ 53) h5
    rw [Nat.mul_add] at this
    omega
  generalize hmg : 2 * (m <<< more / n) + (m <<< more % n != 0).toNat = mag at *
  rw [Nat.shiftLeft_eq] at hmag
  have hDy : mg Ieee.double D ≤ n * 2 ^ (j + 1074).toNat := by rw [en]; exact mg_le hy
  -- 2^54 (mag n) 2^(I + 1074) <= 2^55 mgC n 2^(J + more) , in whole numbers
  have key : mag * 2 ^ ((i + 1074).toNat + 1074) ≤ mg Ieee.double C * 2 ^ ((j + 1074).toNat + more + 1) := by
    have k1 : (2 ^ 54 + 1) * (m * 2 ^ (i + 1074).toNat * 2 ^ 1074) ≤ 2 ^ 54 * (mg Ieee.double C * (n * 2 ^ (j + 1074).toNat)) := by
      refine Nat.le_trans (Nat.mul_le_mul_left _ (Nat.mul_le_mul_right _ (by omega))) (Nat.le_trans hc ?_)
      exact Nat.mul_le_mul_left _ (Nat.mul_le_mul_left _ hDy)
    have k2 : 2 ^ 53 * (mag * n) * (2 ^ (i + 1074).toNat * 2 ^ 1074) ≤ 2 ^ 54 * (mg Ieee.double C * (n * 2 ^ (j + 1074).toNat)) * 2 ^ more := by
      calc 2 ^ 53 * (mag * n) * (2 ^ (i + 1074).toNat * 2 ^ 1074) ≤ (2 ^ 54 + 1) * (m * 2 ^ more) * (2 ^ (i + 1074).toNat * 2 ^ 1074) := Nat.mul_le_mul_right _ hmag
        _ = (2 ^ 54 + 1) * (m * 2 ^ (i + 1074).toNat * 2 ^ 1074) * 2 ^ more := by
          generalize (2 ^ 54 + 1) = z
          generalize 2 ^ more = p
          generalize 2 ^ (i + 1074).toNat = q
          generalize 2 ^ 1074 = u
          simp only [Nat.mul_comm, Nat.mul_left_comm]
        _ ≤ _ := Nat.mul_le_mul_right _ k1
    have hp : 0 < 2 ^ 53 * n := by omega
    refine Nat.le_of_mul_le_mul_left (c := 2 ^ 53 * n) ?_ hp
    calc 2 ^ 53 * n * (mag * 2 ^ ((i + 1074).toNat + 1074)) = 2 ^ 53 * (mag * n) * (2 ^ (i + 1074).toNat * 2 ^ 1074) := by
          rw [Nat.pow_add]
          generalize 2 ^ 53 = z
          generalize 2 ^ (i + 1074).toNat = q
          generalize 2 ^ 1074 = u
          simp only [Nat.mul_comm, Nat.mul_left_comm]
      _ ≤ _ := k2
      _ = 2 ^ 53 * n * (mg Ieee.double C * 2 ^ ((j + 1074).toNat + more + 1)) := by
          rw [Nat.pow_succ 2 53, Nat.pow_succ 2 ((j + 1074).toNat + more), Nat.pow_add]
          generalize 2 ^ 53 = z
          generalize 2 ^ (j + 1074).toNat = q
          generalize 2 ^ more = u
          simp only [Nat.mul_assoc, Nat.mul_comm, Nat.mul_left_comm]
  generalize hpl : i - j - (more : Int) - 1 = place
  by_cases h : -1074 ≤ place
  · rw [show (-1074 - place).toNat = 0 by omega, Nat.pow_zero, Nat.mul_one]
    rw [show (i + 1074).toNat + 1074 = (place + 1074).toNat + ((j + 1074).toNat + more + 1) by omega, Nat.pow_add, ← Nat.mul_assoc] at key
    exact mul_pow_le_cancel _ key
  · rw [show (place + 1074).toNat = 0 by omega, Nat.pow_zero, Nat.mul_one]
    rw [show (j + 1074).toNat + more + 1 = (-1074 - place).toNat + ((i + 1074).toNat + 1074) by omega, Nat.pow_add 2 (-1074 - place).toNat, ← Nat.mul_assoc] at key
    exact mul_pow_le_cancel _ key
theorem bd_mono {A C b : Nat} (h : A ≤ C) (hb : bd A b) : bd C b := hb.imp id (fun x => Nat.le_trans x h)
/-- a number of 32 bits, widened -/
theorem bd_wid {A C x : Nat} (hA : A < 2139095040) (hC : C < 9218868437227405312) (hc : mg Ieee.single A * 2 ^ 925 ≤ mg Ieee.double C) (hx : isNaN .f32 x = true ∨ x % 2147483648 ≤ A) : bd C (wid x) := by
  unfold wid
  split
  · exact .inl (isNaN_qn .f64)
  · rename_i hn
    right
    have hx : x % 2147483648 ≤ A := hx.resolve_left hn
    have hf : Ord.fin Ieee.single x = true := by unfold Ord.fin rung; rw [ssw, sir]; exact decide_eq_true (by omega)
    obtain ⟨m, e, hr, he, hm⟩ := read_fin Ieee.single hf
    rw [slp] at he hm
    show ab (Ieee.double.write (Ieee.single.read x)) ≤ C
    rw [hr]
    refine near_le _ _ _ hC ?_
    rw [show (-1074 - e).toNat = 0 by omega, Nat.pow_zero, Nat.mul_one, show (e + 1074).toNat = (e - -149).toNat + 925 by omega, Nat.pow_add, ← Nat.mul_assoc, hm]
    refine Nat.le_trans (Nat.mul_le_mul_right _ (mg_le (f := Ieee.single) (b := A) ?_)) hc
    unfold rung; rw [ssw]; exact hx
/-- a bounded number is narrowed without an overflow -/
theorem ovf_bd {C R b : Nat} (hC : C < 9218868437227405312) (hR : R < 2139095040) (hc : mg Ieee.double C ≤ mg Ieee.single R * 2 ^ 925) (hb : bd C b) : ovf b = false := by
  rcases hb with hb | hb
  · unfold ovf; unfold isNaN at hb; rw [hb]; rfl
  · obtain ⟨s, m, e, hr, he, hm, hl⟩ := read_bd hC hb
    unfold ovf
    rw [show FloatKind.f64.decode b = .number s m e from hr]
    have h2 : (FloatKind.f32.decode (FloatKind.f32.encode (.number s m e))).isInfinity = false := by
      show (FloatKind.f32.decode (Ieee.single.nearest s m e)).isInfinity = false
      by_cases h0 : m = 0
      · subst h0; rw [nearest_zero]; exact word_read_inf .f32 s (by decide +kernel)
      · have k := (nr_both Ieee.single s e h0 R).1
        rw [slp] at k
        have k := k (by
          have h3 : m * 2 ^ (e + 1074).toNat ≤ mg Ieee.single R * 2 ^ 925 := by omega
          by_cases h : -149 ≤ e
          · rw [show (-149 - e).toNat = 0 by omega, Nat.pow_zero, Nat.mul_one]
            rw [show (e + 1074).toNat = (e - -149).toNat + 925 by omega, Nat.pow_add, ← Nat.mul_assoc] at h3
            exact mul_pow_le_cancel _ h3
          · rw [show (e - -149).toNat = 0 by omega, Nat.pow_zero, Nat.mul_one]
            rw [show 925 = (-149 - e).toNat + (e + 1074).toNat by omega, Nat.pow_add 2 (-149 - e).toNat, ← Nat.mul_assoc] at h3
            exact mul_pow_le_cancel _ h3)
        rw [nearest_nr _ _ _ h0]
        refine word_read_inf .f32 s ?_
        show _ < Ieee.single.infRung
        rw [sir]
        omega
    rw [h2]
    simp [Datum.isNaN, Datum.isInfinity]
end Go.Fl
