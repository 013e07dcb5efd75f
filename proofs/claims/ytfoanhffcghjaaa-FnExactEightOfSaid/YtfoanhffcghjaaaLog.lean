/- The logarithm in 64 bits: halving and doubling, the series, its bounds. -/
import Derived.Test.YtfoanhffcghjaaaBd
import Derived.Test.YtfoanhffcghjaaaExp
namespace Go.Fl
open Go.Ord Go.RowKit
open Ieee (Datum Format)
/-- the nearest word to a number that is no less than R -/
theorem near_ge (neg : Bool) {mag : Nat} (place : Int) {R : Nat} (h0 : mag ≠ 0) (hR : R ≤ 9218868437227405312) (h : mg Ieee.double R * 2 ^ (-1074 - place).toNat ≤ mag * 2 ^ (place + 1074).toNat) : R ≤ ab (Ieee.double.nearest neg mag place) := by
  have k := (nr_both Ieee.double neg place h0 R).2
  rw [dlp] at k
  have k := k (by rw [show place - -1074 = place + 1074 by omega]; exact h)
  rw [nearest_nr _ _ _ h0, dir, ab_word _ (Nat.min_le_right _ _)]
  omega
/-- a square is none or has no sign -/
theorem sq_pos (p : Nat) : isNaN .f64 (fop .mul .f64 p p) = true ∨ fop .mul .f64 p p ≤ 9218868437227405312 := by
  unfold fop
  cases hb : floatBits .mul .f64 p p with
  | none => exact .inl (isNaN_qn .f64)
  | some r =>
    right
    have hb' : ((Ieee.double.read p).product (Ieee.double.read p)).map Ieee.double.write = some r := hb
    cases hr : Ieee.double.read p with
    | nan s f => rw [hr] at hb'; simp [Datum.product] at hb'
    | infinity s =>
      rw [hr] at hb'
      simp only [Datum.product, Bool.xor_self, Option.map_some, Option.some.injEq] at hb'
      subst hb'
      show Ieee.double.word false Ieee.double.infRung ≤ _
      decide +kernel
    | number s m e =>
      rw [hr] at hb'
      simp only [Datum.product, Bool.xor_self, Option.map_some, Option.some.injEq] at hb'
      subst hb'
      show Ieee.double.nearest false (m * m) (e + e) ≤ _
      by_cases h0 : m * m = 0
      · rw [h0, nearest_zero]; decide +kernel
      · rw [nearest_nr _ _ _ h0, dir]
        show (if false = true then _ else min _ _) ≤ _
        rw [if_neg (by simp)]
        exact Nat.min_le_right _ _
/-- one more than a number without a sign is at least one -/
theorem add_one {p C : Nat} (hp : p ≤ C) (hC : C < 9218868437227405312) : 4607182418800017408 ≤ ab (fop .add .f64 p 4607182418800017408) := by
  obtain ⟨s, m, i, e1, hi, em, lm⟩ := read_bd (b := p) (C := C) hC (Nat.le_trans (Nat.mod_le _ _) hp)
  have e2 : Ieee.double.read 4607182418800017408 = .number false 4503599627370496 (-52) := by decide +kernel
  have hs : s = false := by
    have hf : Ord.fin Ieee.double p = true := by unfold Ord.fin rung; rw [dsw, dir]; exact decide_eq_true (by omega)
    obtain ⟨m', e', hr, _, _⟩ := read_fin Ieee.double hf
    rw [e1] at hr
    injection hr with h1
    rw [h1]
    unfold Ord.neg
    rw [dsw, Nat.div_eq_of_lt (by omega)]; rfl
  subst hs
  have hfb : floatBits .add .f64 p 4607182418800017408 = ((Ieee.double.read p).sum (Ieee.double.read 4607182418800017408)).map Ieee.double.write := rfl
  unfold fop
  rw [hfb, e1, e2]
  have hb : min i (-52) ≤ -52 := Int.min_le_right _ _
  have hb2 : -1074 ≤ min i (-52) := by omega
  have ht : Ieee.signed false m (i - min i (-52)).toNat + Ieee.signed false 4503599627370496 (-52 - min i (-52)).toNat = ((m * 2 ^ (i - min i (-52)).toNat + 4503599627370496 * 2 ^ (-52 - min i (-52)).toNat : Nat) : Int) := by
    unfold Ieee.signed
    rw [if_neg (by simp), if_neg (by simp), Nat.shiftLeft_eq, Nat.shiftLeft_eq]; simp
  have hpos : 0 < 4503599627370496 * 2 ^ (-52 - min i (-52)).toNat := Nat.mul_pos (by omega) (Nat.two_pow_pos _)
  simp only [Datum.sum, Option.map_some, Option.getD_some]
  rw [ht]
  show _ ≤ ab (Ieee.double.nearest _ _ _)
  refine near_ge _ _ (by omega) (by omega) ?_
  obtain ⟨z, hz⟩ : ∃ z : Nat, z = 1022 := ⟨_, rfl⟩
  have h1 : mg Ieee.double 4607182418800017408 = 4503599627370496 * 2 ^ z := by subst hz; decide +kernel
  rw [h1, show (-1074 - min i (-52)).toNat = 0 by omega, Nat.pow_zero, Nat.mul_one, Int.natAbs_natCast, Nat.add_mul]
  have h2 : 4503599627370496 * 2 ^ (-52 - min i (-52)).toNat * 2 ^ (min i (-52) + 1074).toNat = 4503599627370496 * 2 ^ z := by
    rw [Nat.mul_assoc, ← Nat.pow_add, show (-52 - min i (-52)).toNat + (min i (-52) + 1074).toNat = z by omega]
  rw [h2]
  exact Nat.le_add_left _ _
/-- the nearest word to a word's own number -/
theorem near_eq (neg : Bool) {mag : Nat} (place : Int) {R : Nat} (h0 : mag ≠ 0) (hR : R < 9218868437227405312) (h : mag * 2 ^ (place + 1074).toNat = mg Ieee.double R * 2 ^ (-1074 - place).toNat) : Ieee.double.nearest neg mag place = Ieee.double.word neg R := by
  have k := nr_both Ieee.double neg place h0 R
  rw [dlp, show place - -1074 = place + 1074 by omega, h] at k
  rw [nearest_nr _ _ _ h0, dir]
  have h1 := k.1 (Nat.le_refl _)
  have h2 := k.2 (Nat.le_refl _)
  congr 1
  omega
theorem mg_B (r : Nat) (h : 4503599627370496 ≤ r) : mg Ieee.double r = (4503599627370496 + r % 4503599627370496) * 2 ^ (r / 4503599627370496 - 1) := by
  have hb : Ieee.double.binade = 4503599627370496 := by decide +kernel
  unfold mg; rw [hb, if_neg (by omega)]
theorem read_pos (v : Nat) (h : 4503599627370496 ≤ v) (h2 : v < 9218868437227405312) : Ieee.double.read v = .number false (4503599627370496 + v % 4503599627370496) (((v / 4503599627370496 : Nat) : Int) - 1075) := by
  have hb : Ieee.double.binade = 4503599627370496 := by decide +kernel
  have hn : v / 9223372036854775808 = 0 := Nat.div_eq_of_lt (by omega)
  have hm : v % 9223372036854775808 = v := Nat.mod_eq_of_lt (by omega)
  unfold Format.read
  dsimp only
  rw [hb, dsw, dir, dlp, hn, hm, if_neg (by omega), if_pos h2]
  congr 1
  omega
theorem word_false (R : Nat) : Ieee.double.word false R = R := by unfold Format.word; rw [if_neg (by simp)]
theorem double_word {v : Nat} (h : 4503599627370496 ≤ v) (h2 : v + 4503599627370496 < 9218868437227405312) : floatBits .mul .f64 v 4611686018427387904 = some (v + 4503599627370496) := by
  have e2 : Ieee.double.read 4611686018427387904 = .number false 4503599627370496 (-51) := by decide +kernel
  have hb : floatBits .mul .f64 v 4611686018427387904 = ((Ieee.double.read v).product (Ieee.double.read 4611686018427387904)).map Ieee.double.write := rfl
  rw [hb, read_pos v h (by omega), e2]
  show some (Ieee.double.nearest false _ _) = _
  refine congrArg some ?_
  rw [near_eq (R := v + 4503599627370496) _ _ ?_ h2 ?_, word_false]
  · exact Nat.mul_ne_zero (by omega) (by omega)
  · rw [mg_B _ (by omega)]
    have e3 : (v + 4503599627370496) % 4503599627370496 = v % 4503599627370496 := by omega
    have e4 : (v + 4503599627370496) / 4503599627370496 - 1 = v / 4503599627370496 := by omega
    rw [e3, e4]
    have e5 : 4503599627370496 = 2 ^ 52 := by decide
    generalize hq : v / 4503599627370496 = q
    have hq1 : 1 ≤ q := by omega
    generalize (4503599627370496 + v % 4503599627370496) = m
    rw [e5, Nat.mul_assoc, Nat.mul_assoc, ← Nat.pow_add, ← Nat.pow_add]
    exact congrArg (fun z => m * 2 ^ z) (by omega)
theorem halve_word {v : Nat} (h : 2 * 4503599627370496 ≤ v) (h2 : v < 9218868437227405312) : floatBits .quo .f64 v 4611686018427387904 = some (v - 4503599627370496) := by
  have e2 : Ieee.double.read 4611686018427387904 = .number false 4503599627370496 (-51) := by decide +kernel
  have hb : floatBits .quo .f64 v 4611686018427387904 = ((Ieee.double.read v).quotient 54 (Ieee.double.read 4611686018427387904)).map Ieee.double.write := rfl
  rw [hb, read_pos v (by omega) (by omega), e2]
  have hm : (4503599627370496 + v % 4503599627370496).log2 = 52 := by
    have h1 : 4503599627370496 + v % 4503599627370496 ≠ 0 := by omega
    have g1 : 52 ≤ (4503599627370496 + v % 4503599627370496).log2 := (Nat.le_log2 h1).2 (by show 4503599627370496 ≤ _; omega)
    have g2 : (4503599627370496 + v % 4503599627370496).log2 < 53 := (Nat.log2_lt h1).2 (by show _ < 9007199254740992; omega)
    omega
  have hn : (4503599627370496 : Nat).log2 = 52 := by decide +kernel
  simp only [Datum.quotient, hm, hn, Nat.shiftLeft_eq]
  rw [if_neg (by omega)]
  have e6 : (4503599627370496 + v % 4503599627370496) * 2 ^ (54 + 52 - 52) / 4503599627370496 = (4503599627370496 + v % 4503599627370496) * 4 := by
    rw [show 2 ^ (54 + 52 - 52) = 4 * 4503599627370496 by decide, ← Nat.mul_assoc, Nat.mul_div_cancel _ (by omega)]
  have e7 : (4503599627370496 + v % 4503599627370496) * 2 ^ (54 + 52 - 52) % 4503599627370496 = 0 := by
    rw [show 2 ^ (54 + 52 - 52) = 4 * 4503599627370496 by decide, ← Nat.mul_assoc, Nat.mul_mod_left]
  rw [e6, e7]
  show some (Ieee.double.nearest false (2 * ((4503599627370496 + v % 4503599627370496) * 4) + 0) _) = _
  refine congrArg some ?_
  rw [near_eq (R := v - 4503599627370496) _ _ (by omega) (by omega) ?_, word_false]
  rw [mg_B _ (by omega)]
  have e3 : (v - 4503599627370496) % 4503599627370496 = v % 4503599627370496 := by omega
  have e4 : (v - 4503599627370496) / 4503599627370496 - 1 = v / 4503599627370496 - 2 := by omega
  rw [e3, e4]
  generalize hq : v / 4503599627370496 = q
  have hq1 : 2 ≤ q := by omega
  generalize (4503599627370496 + v % 4503599627370496) = m
  rw [show 2 * (m * 4) + 0 = m * 2 ^ 3 by omega, Nat.mul_assoc, Nat.mul_assoc, ← Nat.pow_add, ← Nat.pow_add]
  exact congrArg (fun z => m * 2 ^ z) (by omega)
/-- a positive finite number, widened -/
theorem wid_pos {x : Nat} (h1 : 0 < x) (h2 : x < 2139095040) : 874 * 4503599627370496 ≤ wid x ∧ wid x < 1152 * 4503599627370496 := by
  have hn : isNaN .f32 x = false := not_nan (by omega)
  have hf : Ord.fin Ieee.single x = true := by unfold Ord.fin rung; rw [ssw, sir]; exact decide_eq_true (by omega)
  obtain ⟨m, e, hr, he, hm⟩ := read_fin Ieee.single hf
  rw [slp] at he hm
  have hng : Ord.neg Ieee.single x = false := by unfold Ord.neg; rw [ssw, Nat.div_eq_of_lt (by omega)]; rfl
  rw [hng] at hr
  have hrx : rung Ieee.single x = x := by unfold rung; rw [ssw]; exact Nat.mod_eq_of_lt (by omega)
  rw [hrx] at hm
  have hw : wid x = Ieee.double.nearest false m e := by unfold wid; rw [if_neg (by rw [hn]; simp), show FloatKind.f32.decode x = .number false m e from hr]; rfl
  have hm0 : m ≠ 0 := by
    rintro rfl
    rw [Nat.zero_mul] at hm
    have := mg_lt Ieee.single h1
    omega
  have hpos : Ieee.double.nearest false m e = ab (Ieee.double.nearest false m e) := by
    rw [nearest_nr _ _ _ hm0, dir, word_false]
    unfold ab
    exact (Nat.mod_eq_of_lt (by have := Nat.min_le_right (nr Ieee.double false m e) 9218868437227405312; omega)).symm
  rw [hw, hpos]
  constructor
  · refine near_ge _ _ hm0 (by omega) ?_
    obtain ⟨z, hz⟩ : ∃ z : Nat, z = 925 := ⟨_, rfl⟩
    have hg : mg Ieee.double (874 * 4503599627370496) = 2 ^ z := by subst hz; decide +kernel
    rw [hg, show (-1074 - e).toNat = 0 by omega, Nat.pow_zero, Nat.mul_one]
    calc 2 ^ z ≤ 2 ^ (e + 1074).toNat := Nat.pow_le_pow_right (by omega) (by omega)
      _ ≤ m * 2 ^ (e + 1074).toNat := Nat.le_mul_of_pos_left _ (Nat.pos_of_ne_zero hm0)
  · refine Nat.lt_of_le_of_lt (near_le (R := 1151 * 4503599627370496 + 4503599627370495) _ _ _ (by omega) ?_) (by omega)
    obtain ⟨z, hz⟩ : ∃ z : Nat, z = 925 := ⟨_, rfl⟩
    have hg : mg Ieee.single 2139095039 * 2 ^ z ≤ mg Ieee.double (1151 * 4503599627370496 + 4503599627370495) := by subst hz; decide +kernel
    rw [show (-1074 - e).toNat = 0 by omega, Nat.pow_zero, Nat.mul_one, show (e + 1074).toNat = (e - -149).toNat + z by omega, Nat.pow_add, ← Nat.mul_assoc, hm]
    exact Nat.le_trans (Nat.mul_le_mul_right _ (mg_le (by omega))) hg
end Go.Fl
namespace Go.Proofs.Ytfoanhffcghjaaa
open Go.RowKit Go.Fl Go.Reg Go.Ord
/-- the number between 0.75 and 1.5, and the power of two, that a word comes to -/
def vv (u : Nat) : Nat := 4604930618986332160 + (u + 1024 * 4503599627370496 - 4604930618986332160) % 4503599627370496
def ee (u : Nat) : Int := ((u : Int) - (vv u : Int)) / 4503599627370496
def ls (u : Nat) : Nat := fop .quo .f64 (fop .sub .f64 (vv u) 4607182418800017408) (fop .add .f64 (vv u) 4607182418800017408)
def lu (u : Nat) : Nat := fop .mul .f64 (ls u) (ls u)
def lq (u : Nat) : Nat → Nat
  | 0 => 0
  | j + 1 => fop .add .f64 (fop .quo .f64 4607182418800017408 (floatOfInt .f64 (25 - 2 * (j : Int)))) (fop .mul .f64 (lu u) (lq u j))
def lg (u : Nat) : Nat := fop .add .f64 (fop .mul .f64 4611686018427387904 (fop .mul .f64 (ls u) (lq u 13))) (fop .mul .f64 (floatOfInt .f64 (ee u)) 4604418534313441775)
theorem vv_of {u v : Nat} {k j : Nat} (h : v + k * 4503599627370496 = u + j * 4503599627370496) (h1 : 4604930618986332160 ≤ v) (h2 : v < 4609434218613702656) : v = vv u ∧ ee u = (k : Int) - (j : Int) := by
  have e : v = vv u := by unfold vv; omega
  refine ⟨e, ?_⟩
  unfold ee
  rw [← e]
  omega
theorem vv_le (u : Nat) : 4604930618986332160 ≤ vv u ∧ vv u < 4609434218613702656 := by unfold vv; omega
theorem ls_bd (u : Nat) : bd 4612811918334230532 (ls u) := by
  have hv := vv_le u
  have h1 : bd 4609434218613702656 (vv u) := .inr (by unfold ab; omega)
  have hs : bd 4612811918334230528 (fop .sub .f64 (vv u) 4607182418800017408) := bd_sub (A := 4609434218613702656) (B := 4607182418800017408) (by decide +kernel) (by decide +kernel) (by decide +kernel) (by decide +kernel) h1 (.inr (by decide +kernel))
  have ha : bd 4612811918334230528 (fop .add .f64 (vv u) 4607182418800017408) := bd_add (A := 4609434218613702656) (B := 4607182418800017408) (by decide +kernel) (by decide +kernel) (by decide +kernel) (by decide +kernel) h1 (.inr (by decide +kernel))
  refine bd_quo (A := 4612811918334230528) (D := 4607182418800017408) (by decide +kernel) (by decide +kernel) (by decide +kernel) (by decide +kernel) hs ?_
  rcases ha with ha | ha
  · exact .inl ha
  · exact .inr ⟨add_one (C := 4609434218613702656) (by omega) (by decide +kernel), by omega⟩
theorem lu_bd (u : Nat) : bd 4618722892845154318 (lu u) := bd_mul (by decide +kernel) (by decide +kernel) (by decide +kernel) (by decide +kernel) (ls_bd u) (ls_bd u)
theorem lq_bd0 {u : Nat} : bd 0 (lq u 0) := .inr (show ab 0 ≤ 0 by decide +kernel)
theorem inv_bd : ∀ j : Nat, j < 13 → bd 4607182418800017408 (fop .quo .f64 4607182418800017408 (floatOfInt .f64 (25 - 2 * (j : Int)))) := by
  have h : ∀ j : Nat, j < 13 → ab (fop .quo .f64 4607182418800017408 (floatOfInt .f64 (25 - 2 * (j : Int)))) ≤ 4607182418800017408 := by decide +kernel
  exact fun j hj => .inr (h j hj)
theorem lq_bd1 {u : Nat} (hu : bd 4618722892845154318 (lu u)) : bd 4607182418800017412 (lq u 1) :=
  bd_add (A := 4607182418800017408) (B := 1) (by decide +kernel) (by decide +kernel) (by decide +kernel) (by decide +kernel) (inv_bd 0 (by omega)) (bd_mul (A := 4618722892845154318) (B := 0) (by decide +kernel) (by decide +kernel) (by decide +kernel) (by decide +kernel) hu (lq_bd0))
theorem lq_bd2 {u : Nat} (hu : bd 4618722892845154318 (lu u)) : bd 4619848792751996956 (lq u 2) :=
  bd_add (A := 4607182418800017408) (B := 4618722892845154328) (by decide +kernel) (by decide +kernel) (by decide +kernel) (by decide +kernel) (inv_bd 1 (by omega)) (bd_mul (A := 4618722892845154318) (B := 4607182418800017412) (by decide +kernel) (by decide +kernel) (by decide +kernel) (by decide +kernel) hu (lq_bd1 hu))
theorem lq_bd3 {u : Nat} (hu : bd 4618722892845154318 (lu u)) : bd 4631714722238955563 (lq u 3) :=
  bd_add (A := 4607182418800017408) (B := 4631573984750600231) (by decide +kernel) (by decide +kernel) (by decide +kernel) (by decide +kernel) (inv_bd 2 (by omega)) (bd_mul (A := 4618722892845154318) (B := 4619848792751996956) (by decide +kernel) (by decide +kernel) (by decide +kernel) (by decide +kernel) hu (lq_bd2 hu))
theorem lq_bd4 {u : Nat} (hu : bd 4618722892845154318 (lu u)) : bd 4643817321603792948 (lq u 4) :=
  bd_add (A := 4607182418800017408) (B := 4643799729417748528) (by decide +kernel) (by decide +kernel) (by decide +kernel) (by decide +kernel) (inv_bd 3 (by omega)) (bd_mul (A := 4618722892845154318) (B := 4631714722238955563) (by decide +kernel) (by decide +kernel) (by decide +kernel) (by decide +kernel) hu (lq_bd3 hu))
theorem lq_bd5 {u : Nat} (hu : bd 4618722892845154318 (lu u)) : bd 4655703128199397481 (lq u 5) :=
  bd_add (A := 4607182418800017408) (B := 4655698730152886373) (by decide +kernel) (by decide +kernel) (by decide +kernel) (by decide +kernel) (inv_bd 4 (by omega)) (bd_mul (A := 4618722892845154318) (B := 4643817321603792948) (by decide +kernel) (by decide +kernel) (by decide +kernel) (by decide +kernel) hu (lq_bd4 hu))
theorem lq_bd6 {u : Nat} (hu : bd 4618722892845154318 (lu u)) : bd 4667467033422594150 (lq u 6) :=
  bd_add (A := 4607182418800017408) (B := 4667466483666780258) (by decide +kernel) (by decide +kernel) (by decide +kernel) (by decide +kernel) (inv_bd 5 (by omega)) (bd_mul (A := 4618722892845154318) (B := 4655703128199397481) (by decide +kernel) (by decide +kernel) (by decide +kernel) (by decide +kernel) hu (lq_bd5 hu))
theorem lq_bd7 {u : Nat} (hu : bd 4618722892845154318 (lu u)) : bd 4679612590597341281 (lq u 7) :=
  bd_add (A := 4607182418800017408) (B := 4679612521877864541) (by decide +kernel) (by decide +kernel) (by decide +kernel) (by decide +kernel) (inv_bd 6 (by omega)) (bd_mul (A := 4618722892845154318) (B := 4667467033422594150) (by decide +kernel) (by decide +kernel) (by decide +kernel) (by decide +kernel) hu (lq_bd6 hu))
theorem lq_bd8 {u : Nat} (hu : bd 4618722892845154318 (lu u)) : bd 4691362656812007599 (lq u 8) :=
  bd_add (A := 4607182418800017408) (B := 4691362639632138411) (by decide +kernel) (by decide +kernel) (by decide +kernel) (by decide +kernel) (inv_bd 7 (by omega)) (bd_mul (A := 4618722892845154318) (B := 4679612590597341281) (by decide +kernel) (by decide +kernel) (by decide +kernel) (by decide +kernel) hu (lq_bd7 hu))
theorem lq_bd9 {u : Nat} (hu : bd 4618722892845154318 (lu u)) : bd 4703206791890763933 (lq u 9) :=
  bd_add (A := 4607182418800017408) (B := 4703206789743280281) (by decide +kernel) (by decide +kernel) (by decide +kernel) (by decide +kernel) (inv_bd 8 (by omega)) (bd_mul (A := 4618722892845154318) (B := 4691362656812007599) (by decide +kernel) (by decide +kernel) (by decide +kernel) (by decide +kernel) hu (lq_bd8 hu))
theorem lq_bd10 {u : Nat} (hu : bd 4618722892845154318 (lu u)) : bd 4715415507797456012 (lq u 10) :=
  bd_add (A := 4607182418800017408) (B := 4715415507529020552) (by decide +kernel) (by decide +kernel) (by decide +kernel) (by decide +kernel) (inv_bd 9 (by omega)) (bd_mul (A := 4618722892845154318) (B := 4703206791890763933) (by decide +kernel) (by decide +kernel) (by decide +kernel) (by decide +kernel) hu (lq_bd9 hu))
theorem lq_bd11 {u : Nat} (hu : bd 4618722892845154318 (lu u)) : bd 4727038499501259313 (lq u 11) :=
  bd_add (A := 4607182418800017408) (B := 4727038499434150445) (by decide +kernel) (by decide +kernel) (by decide +kernel) (by decide +kernel) (inv_bd 10 (by omega)) (bd_mul (A := 4618722892845154318) (B := 4715415507797456012) (by decide +kernel) (by decide +kernel) (by decide +kernel) (by decide +kernel) hu (lq_bd10 hu))
theorem lq_bd12 {u : Nat} (hu : bd 4618722892845154318 (lu u)) : bd 4738959841200545162 (lq u 12) :=
  bd_add (A := 4607182418800017408) (B := 4738959841192156550) (by decide +kernel) (by decide +kernel) (by decide +kernel) (by decide +kernel) (inv_bd 11 (by omega)) (bd_mul (A := 4618722892845154318) (B := 4727038499501259313) (by decide +kernel) (by decide +kernel) (by decide +kernel) (by decide +kernel) hu (lq_bd11 hu))
theorem lq_bd13 {u : Nat} (hu : bd 4618722892845154318 (lu u)) : bd 4751160146426594881 (lq u 13) :=
  bd_add (A := 4607182418800017408) (B := 4751160146424497725) (by decide +kernel) (by decide +kernel) (by decide +kernel) (by decide +kernel) (inv_bd 12 (by omega)) (bd_mul (A := 4618722892845154318) (B := 4738959841200545162) (by decide +kernel) (by decide +kernel) (by decide +kernel) (by decide +kernel) hu (lq_bd12 hu))
theorem ee_le {u : Nat} (h1 : 874 * 4503599627370496 ≤ u) (h2 : u < 1152 * 4503599627370496) : -200 ≤ ee u ∧ ee u ≤ 200 := by
  have := vv_le u
  unfold ee; omega
theorem foi_bd (e : Int) (h : -200 ≤ e ∧ e ≤ 200) : bd 4641240890982006784 (floatOfInt .f64 e) := by
  have hd : ∀ k : Nat, k < 401 → ab (floatOfInt .f64 ((k : Int) - 200)) ≤ 4641240890982006784 := by decide +kernel
  have := hd (e + 200).toNat (by omega)
  rw [show (((e + 200).toNat : Nat) : Int) - 200 = e by omega] at this
  exact .inr this
theorem lg_ovf {u : Nat} (h1 : 874 * 4503599627370496 ≤ u) (h2 : u < 1152 * 4503599627370496) : ovf (lg u) = false := by
  have q1 : bd 4756841193629287409 (fop .mul .f64 (ls u) (lq u 13)) := bd_mul (by decide +kernel) (by decide +kernel) (by decide +kernel) (by decide +kernel) (ls_bd u) (lq_bd13 (lu_bd u))
  have q2 : bd 4761344793256657909 (fop .mul .f64 4611686018427387904 (fop .mul .f64 (ls u) (lq u 13))) := bd_mul (A := 4611686018427387904) (by decide +kernel) (by decide +kernel) (by decide +kernel) (by decide +kernel) (.inr (by decide +kernel)) q1
  have q3 : bd 4639081606226869575 (fop .mul .f64 (floatOfInt .f64 (ee u)) 4604418534313441775) := bd_mul (B := 4604418534313441775) (by decide +kernel) (by decide +kernel) (by decide +kernel) (by decide +kernel) (foi_bd _ (ee_le h1 h2)) (.inr (by decide +kernel))
  exact ovf_bd (C := 5057542381537067008) (R := 1904214016) (by decide +kernel) (by decide +kernel) (by decide +kernel) (bd_mono (by decide +kernel) (bd_add (C := 4761344793292998788) (by decide +kernel) (by decide +kernel) (by decide +kernel) (by decide +kernel) q2 q3))
theorem foi_add : ∀ k : Nat, k < 300 → floatBits .add .f64 (floatOfInt .f64 (k : Int)) 4607182418800017408 = some (floatOfInt .f64 ((k : Int) + 1)) := by decide +kernel
theorem foi_sub {e : Int} (h : -200 ≤ e ∧ e ≤ 200) : floatBits .sub .f64 (floatOfInt .f64 e) 4607182418800017408 = some (floatOfInt .f64 (e - 1)) := by
  have hd : ∀ k : Nat, k < 401 → floatBits .sub .f64 (floatOfInt .f64 ((k : Int) - 200)) 4607182418800017408 = some (floatOfInt .f64 ((k : Int) - 200 - 1)) := by decide +kernel
  have := hd (e + 200).toNat (by omega)
  rwa [show (((e + 200).toNat : Nat) : Int) - 200 = e by omega] at this
theorem k2_step : ∀ j : Nat, j < 13 → floatBits .sub .f64 (floatOfInt .f64 (25 - 2 * (j : Int))) 4611686018427387904 = some (floatOfInt .f64 (25 - 2 * ((j + 1 : Nat) : Int))) := by decide +kernel
theorem k2_gt : ∀ j : Nat, j < 12 → FloatKind.f64.format.order (floatOfInt .f64 (25 - 2 * (j : Int))) 4607182418800017408 = some .gt := by decide +kernel
theorem k2_eq : FloatKind.f64.format.order (floatOfInt .f64 (25 - 2 * ((12 : Nat) : Int))) 4607182418800017408 = some .eq := by decide +kernel
theorem k2_lt : FloatKind.f64.format.order (floatOfInt .f64 (25 - 2 * ((13 : Nat) : Int))) 4607182418800017408 = some .lt := by decide +kernel
def msr2 : Value → Nat
  | .float _ K => (List.range 13).foldl (fun a j => if K = floatOfInt .f64 (25 - 2 * ((12 - j : Nat) : Int)) then j + 1 else a) 0
  | _ => 0
theorem msr2_at : ∀ j : Nat, j ≤ 13 → msr2 (.float .f64 (floatOfInt .f64 (25 - 2 * (j : Int)))) = 13 - j := by decide +kernel
/-- how a positive word stands to another -/
theorem ge_yes {v c : Nat} (h : c ≤ v) (hv : v < 9218868437227405312) : (FloatKind.f64.format.order v c == some .gt || FloatKind.f64.format.order v c == some .eq) = true := by
  rw [ord_pos (show v ≤ 9218868437227405312 by omega) (show c ≤ 9218868437227405312 by omega)]
  rcases Nat.lt_or_eq_of_le h with h | h
  · rw [Nat.compare_eq_gt.2 h]; rfl
  · subst h; rw [Nat.compare_eq_eq.2 rfl]; rfl
theorem ge_no {v c : Nat} (h : v < c) (hc : c < 9218868437227405312) : (FloatKind.f64.format.order v c == some .gt || FloatKind.f64.format.order v c == some .eq) = false := by
  rw [ord_pos (show v ≤ 9218868437227405312 by omega) (show c ≤ 9218868437227405312 by omega), Nat.compare_eq_lt.2 h]; rfl
theorem lt_yes {v c : Nat} (h : v < c) (hc : c < 9218868437227405312) : (FloatKind.f64.format.order v c == some .lt) = true := by
  rw [ord_pos (show v ≤ 9218868437227405312 by omega) (show c ≤ 9218868437227405312 by omega), Nat.compare_eq_lt.2 h]; rfl
theorem lt_no {v c : Nat} (h : c ≤ v) (hv : v < 9218868437227405312) : (FloatKind.f64.format.order v c == some .lt) = false := by
  rw [ord_pos (show v ≤ 9218868437227405312 by omega) (show c ≤ 9218868437227405312 by omega)]
  rcases Nat.lt_or_eq_of_le h with h | h
  · rw [Nat.compare_eq_gt.2 h]; rfl
  · subst h; rw [Nat.compare_eq_eq.2 rfl]; rfl
theorem lq_step {u lu' q : Nat} {j : Nat} (hl : cn .f64 lu' = cn .f64 (lu u)) (hq : cn .f64 q = cn .f64 (lq u j)) (K : Nat) (hK : K = floatOfInt .f64 (25 - 2 * (j : Int))) (w1 w2 w3 : World) :
    cn .f64 (fres .add .f64 (fres .quo .f64 4607182418800017408 K w1) (fres .mul .f64 lu' q w2) w3) = cn .f64 (lq u (j + 1)) := by
  rw [fres_fop, fop_fres_l, fop_fres_r, hK]
  show _ = cn .f64 (fop .add .f64 (fop .quo .f64 4607182418800017408 (floatOfInt .f64 (25 - 2 * (j : Int)))) (fop .mul .f64 (lu u) (lq u j)))
  rw [fop_l .mul hl, fop_r .mul hq]
theorem lg_end {u s q E : Nat} (hs : cn .f64 s = cn .f64 (ls u)) (hq : cn .f64 q = cn .f64 (lq u 13)) (hE : E = floatOfInt .f64 (ee u)) (w1 w2 w3 w4 : World) :
    cn .f64 (fres .add .f64 (fres .mul .f64 4611686018427387904 (fres .mul .f64 s q w1) w2) (fres .mul .f64 E 4604418534313441775 w3) w4) = cn .f64 (lg u) := by
  rw [fres_fop, fop_fres_l, fop_fres_r, hE]
  unfold lg
  rw [fop_fres_r]
  have : cn .f64 (fop .mul .f64 s q) = cn .f64 (fop .mul .f64 (ls u) (lq u 13)) := by rw [fop_l .mul hs, fop_r .mul hq]
  rw [fop_r .mul this]
theorem ls_end {u v : Nat} (hv : v = vv u) (w1 w2 w3 : World) : cn .f64 (fres .quo .f64 (fres .sub .f64 v 4607182418800017408 w1) (fres .add .f64 v 4607182418800017408 w2) w3) = cn .f64 (ls u) := by
  rw [fres_fop, fop_fres_l, fop_fres_r, hv]; rfl
theorem lu_end {u s : Nat} (hs : cn .f64 s = cn .f64 (ls u)) (w1 : World) : cn .f64 (fres .mul .f64 s s w1) = cn .f64 (lu u) := by
  rw [fres_fop, fop_l .mul hs, fop_r .mul hs]; rfl
end Go.Proofs.Ytfoanhffcghjaaa
