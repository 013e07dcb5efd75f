/- The nearest word: it lies on the same side of every word of the format as the number itself. -/
import Derived.Test.YtfoanhffcghjaaaOrd
namespace Go.Ord
open Ieee (Datum Format signed Toward)

theorem cut_even (neg : Bool) (n drop : Nat) : ∃ more : Nat, more ≤ 1 ∧ Toward.even.cut neg n drop = n / 2 ^ drop + more ∧ (n % 2 ^ drop = 0 → more = 0) := by
  unfold Toward.cut
  dsimp only
  by_cases h : drop ≤ n.log2 + 2
  · rw [Nat.min_eq_left h, Nat.shiftLeft_eq, Nat.one_mul]
    refine ⟨_, ?_, rfl, ?_⟩
    · exact Bool.toNat_le _
    · intro h0
      rw [h0]
      have hp : 0 < 2 ^ drop := Nat.two_pow_pos _
      have e1 : decide (2 ^ drop < 2 * 0) = false := by simp
      have e2 : (2 ^ drop == 2 * 0) = false := by simp
      rw [e1, e2]; rfl
  · have hlt : n < 2 ^ (n.log2 + 1) := Nat.lt_log2_self
    have hp : 2 ^ (n.log2 + 2) = 2 * 2 ^ (n.log2 + 1) := by rw [Nat.pow_succ, Nat.mul_comm]
    have hle : 2 ^ (n.log2 + 2) ≤ 2 ^ drop := Nat.pow_le_pow_right (by omega) (by omega)
    rw [Nat.min_eq_right (by omega), Nat.shiftLeft_eq, Nat.one_mul, Nat.div_eq_of_lt (show n < 2 ^ (n.log2 + 2) by omega), Nat.mod_eq_of_lt (show n < 2 ^ (n.log2 + 2) by omega), Nat.div_eq_of_lt (show n < 2 ^ drop by omega)]
    refine ⟨0, by omega, ?_, fun _ => rfl⟩
    have e1 : decide (2 ^ (n.log2 + 2) < 2 * n) = false := by simp; omega
    have e2 : (2 ^ (n.log2 + 2) == 2 * n) = false := by simp; omega
    rw [e1, e2]; rfl

theorem cut_le (neg : Bool) {n drop T : Nat} (h : n ≤ T * 2 ^ drop) : Toward.even.cut neg n drop ≤ T := by
  obtain ⟨more, h1, e, h0⟩ := cut_even neg n drop
  rw [e]
  have hp : 0 < 2 ^ drop := Nat.two_pow_pos _
  have hd : n / 2 ^ drop ≤ T := by rw [Nat.div_le_iff_le_mul_add_pred hp, Nat.mul_comm]; omega
  by_cases hz : n % 2 ^ drop = 0
  · rw [h0 hz]; omega
  · have : n / 2 ^ drop ≠ T := by
      intro he
      have := Nat.div_add_mod n (2 ^ drop)
      rw [he, Nat.mul_comm] at this
      omega
    omega
theorem le_cut (neg : Bool) {n drop T : Nat} (h : T * 2 ^ drop ≤ n) : T ≤ Toward.even.cut neg n drop := by
  obtain ⟨more, h1, e, h0⟩ := cut_even neg n drop
  rw [e]
  have hp : 0 < 2 ^ drop := Nat.two_pow_pos _
  have : T ≤ n / 2 ^ drop := by rw [Nat.le_div_iff_mul_le hp]; exact h
  omega

/-- the rung that 'nearest' finds, infinity left out -/
def nr (f : Format) (neg : Bool) (mag : Nat) (place : Int) : Nat :=
  let last := max (place + mag.log2 - f.fractionBits) f.leastPlace
  (last - f.leastPlace).toNat * f.binade + Toward.even.cut neg (mag <<< (place - last).toNat) (last - place).toNat

theorem nearest_nr (f : Format) (neg : Bool) {mag : Nat} (place : Int) (h : mag ≠ 0) : f.nearest neg mag place = f.word neg (min (nr f neg mag place) f.infRung) := by
  unfold Format.nearest nr; rw [if_neg h]
theorem nearest_zero (f : Format) (neg : Bool) (place : Int) : f.nearest neg 0 place = f.word neg 0 := by unfold Format.nearest; rw [if_pos rfl]

theorem mg_small (f : Format) {r : Nat} (h : r ≤ 2 * f.binade) : mg f r = r := by
  have hB := binade_pos f
  unfold mg
  split
  · rfl
  · by_cases h2 : r = 2 * f.binade
    · subst h2
      rw [Nat.mul_mod_left, Nat.mul_div_cancel _ hB]; omega
    · have : r / f.binade = 1 := by rw [Nat.div_eq_iff hB]; omega
      rw [this, Nat.sub_self, Nat.pow_zero, Nat.mul_one]
      have := Nat.div_add_mod r f.binade
      rw [‹r / f.binade = 1›] at this; omega
theorem mg_at (f : Format) (q s : Nat) (hs : s ≤ f.binade) : mg f ((q + 1) * f.binade + s) = (f.binade + s) * 2 ^ q := by
  have hB := binade_pos f
  by_cases h : s = f.binade
  · subst h
    have e : (q + 1) * f.binade + f.binade = (q + 2) * f.binade := by rw [← Nat.succ_mul]
    unfold mg
    rw [if_neg (by rw [e]; have : 1 * f.binade ≤ (q + 2) * f.binade := Nat.mul_le_mul_right _ (by omega); omega), e, Nat.mul_mod_left, Nat.mul_div_cancel _ hB, show q + 2 - 1 = q + 1 by omega, Nat.pow_succ, Nat.add_zero, Nat.mul_comm (2 ^ q) 2, ← Nat.mul_assoc, Nat.mul_two]
  · have hs' : s < f.binade := by omega
    unfold mg
    rw [if_neg (by have : 1 * f.binade ≤ (q + 1) * f.binade := Nat.mul_le_mul_right _ (by omega); omega)]
    have e1 : ((q + 1) * f.binade + s) % f.binade = s := by rw [Nat.add_comm, Nat.add_mul_mod_self_right, Nat.mod_eq_of_lt hs']
    have e2 : ((q + 1) * f.binade + s) / f.binade = q + 1 := by
      rw [Nat.add_comm, Nat.add_mul_div_right _ _ hB, Nat.div_eq_of_lt hs']; omega
    rw [e1, e2, Nat.add_sub_cancel]

/-- a rung either lies in the first two binades, or is told by its binade and place in it -/
theorem rung_cases (f : Format) (r : Nat) : r < 2 * f.binade ∨ ∃ q s, 1 ≤ q ∧ s < f.binade ∧ r = (q + 1) * f.binade + s := by
  have hB := binade_pos f
  by_cases h : r < 2 * f.binade
  · exact .inl h
  · right
    have hq : 2 ≤ r / f.binade := by rw [Nat.le_div_iff_mul_le hB]; omega
    refine ⟨r / f.binade - 1, r % f.binade, by omega, Nat.mod_lt _ hB, ?_⟩
    rw [show r / f.binade - 1 + 1 = r / f.binade by omega, Nat.mul_comm]
    exact (Nat.div_add_mod r f.binade).symm

theorem mul_pow_le_cancel {a b : Nat} (c : Nat) (h : a * 2 ^ c ≤ b * 2 ^ c) : a ≤ b := Nat.le_of_mul_le_mul_right h (Nat.two_pow_pos _)

/-- THE NEAREST WORD IS NO GREATER than a word that the number is not greater than; and no less than one that it is not less than. 'x': the number's place above the least, 'y': below it. -/
theorem nr_both (f : Format) (neg : Bool) {mag : Nat} (place : Int) (h : mag ≠ 0) (R : Nat) :
    (mag * 2 ^ (place - f.leastPlace).toNat ≤ mg f R * 2 ^ (f.leastPlace - place).toNat → nr f neg mag place ≤ R) ∧
    (mg f R * 2 ^ (f.leastPlace - place).toNat ≤ mag * 2 ^ (place - f.leastPlace).toNat → R ≤ nr f neg mag place) := by
  have hB := binade_pos f
  have hBf : f.binade = 2 ^ f.fractionBits := rfl
  have hlo : 2 ^ mag.log2 ≤ mag := Nat.log2_self_le h
  have hhi : mag < 2 ^ (mag.log2 + 1) := Nat.lt_log2_self
  unfold nr
  dsimp only
  generalize hL : mag.log2 = L at *
  generalize hfb : f.fractionBits = F at *
  generalize hlp : f.leastPlace = P at *
  by_cases hc : place + (L : Int) - (F : Int) ≤ P
  · -- the last digit that is kept stands at the least place
    rw [Int.max_eq_right hc, Int.sub_self, Int.toNat_zero, Nat.zero_mul, Nat.zero_add, Nat.shiftLeft_eq]
    -- the number is less than two binades
    have hv : mag * 2 ^ (place - P).toNat < 2 * f.binade * 2 ^ (P - place).toNat := by
      rw [hBf]
      rcases Int.le_total place P with hp | hp
      · rw [show (place - P).toNat = 0 by omega, Nat.pow_zero, Nat.mul_one]
        calc mag < 2 ^ (L + 1) := hhi
          _ ≤ 2 ^ (F + 1 + (P - place).toNat) := Nat.pow_le_pow_right (by omega) (by omega)
          _ = 2 * 2 ^ F * 2 ^ (P - place).toNat := by rw [Nat.pow_add, Nat.pow_succ, Nat.mul_comm (2 ^ F) 2]
      · rw [show (P - place).toNat = 0 by omega, Nat.pow_zero, Nat.mul_one]
        calc mag * 2 ^ (place - P).toNat < 2 ^ (L + 1) * 2 ^ (place - P).toNat := Nat.mul_lt_mul_of_pos_right hhi (Nat.two_pow_pos _)
          _ = 2 ^ (L + 1 + (place - P).toNat) := by rw [← Nat.pow_add]
          _ ≤ 2 ^ (F + 1) := Nat.pow_le_pow_right (by omega) (by omega)
          _ = 2 * 2 ^ F := by rw [Nat.pow_succ, Nat.mul_comm]
    constructor
    · intro hle
      by_cases hR : R ≤ 2 * f.binade
      · rw [mg_small f hR] at hle
        exact cut_le neg hle
      · have := cut_le neg (T := 2 * f.binade) (Nat.le_of_lt hv)
        omega
    · intro hge
      by_cases hR : R ≤ 2 * f.binade
      · rw [mg_small f hR] at hge
        exact le_cut neg hge
      · exfalso
        have h1 : mg f (2 * f.binade) < mg f R := mg_lt f (by omega)
        rw [mg_small f (Nat.le_refl _)] at h1
        have h2 : 2 * f.binade * 2 ^ (P - place).toNat ≤ mg f R * 2 ^ (P - place).toNat := Nat.mul_le_mul_right _ (Nat.le_of_lt h1)
        omega
  · -- it stands q places above
    have hc' : P < place + (L : Int) - (F : Int) := by omega
    rw [Int.max_eq_left (Int.le_of_lt hc'), Nat.shiftLeft_eq]
    obtain ⟨q, hq⟩ : ∃ q : Nat, place + (L : Int) - (F : Int) = P + q := ⟨(place + (L : Int) - (F : Int) - P).toNat, by omega⟩
    have hq1 : 1 ≤ q := by omega
    rw [hq, show (P + (q : Int) - P).toNat = q by omega]
    -- both sides in units of the last digit kept
    have e1 : mag * 2 ^ (place - P).toNat = mag * 2 ^ (place - (P + q)).toNat * 2 ^ ((place - P).toNat - (place - (P + q)).toNat) := by
      rw [Nat.mul_assoc, ← Nat.pow_add]; congr 2; omega
    have hexp : (place - P).toNat - (place - (P + q)).toNat + ((P + q) - place).toNat = q + (P - place).toNat := by omega
    -- B * 2^q ≤ the number < 2 B * 2^q, in the cut's units
    have hlow : f.binade * 2 ^ ((P + q) - place).toNat ≤ mag * 2 ^ (place - (P + q)).toNat := by
      rw [hBf]
      rcases Int.le_total place (P + q) with hp | hp
      · rw [show (place - (P + q)).toNat = 0 by omega, Nat.pow_zero, Nat.mul_one, ← Nat.pow_add]
        exact Nat.le_trans (Nat.pow_le_pow_right (by omega) (by omega)) hlo
      · rw [show ((P + q) - place).toNat = 0 by omega, Nat.pow_zero, Nat.mul_one]
        calc 2 ^ F ≤ 2 ^ (L + (place - (P + q)).toNat) := Nat.pow_le_pow_right (by omega) (by omega)
          _ = 2 ^ L * 2 ^ (place - (P + q)).toNat := by rw [Nat.pow_add]
          _ ≤ _ := Nat.mul_le_mul_right _ hlo
    have hupp : mag * 2 ^ (place - (P + q)).toNat ≤ 2 * f.binade * 2 ^ ((P + q) - place).toNat := by
      rw [hBf]
      rcases Int.le_total place (P + q) with hp | hp
      · rw [show (place - (P + q)).toNat = 0 by omega, Nat.pow_zero, Nat.mul_one]
        calc mag ≤ 2 ^ (L + 1) := Nat.le_of_lt hhi
          _ ≤ 2 ^ (F + 1 + ((P + q) - place).toNat) := Nat.pow_le_pow_right (by omega) (by omega)
          _ = 2 * 2 ^ F * 2 ^ ((P + q) - place).toNat := by rw [Nat.pow_add, Nat.pow_succ, Nat.mul_comm (2 ^ F) 2]
      · rw [show ((P + q) - place).toNat = 0 by omega, Nat.pow_zero, Nat.mul_one]
        calc mag * 2 ^ (place - (P + q)).toNat ≤ 2 ^ (L + 1) * 2 ^ (place - (P + q)).toNat := Nat.mul_le_mul_right _ (Nat.le_of_lt hhi)
          _ = 2 ^ (L + 1 + (place - (P + q)).toNat) := by rw [← Nat.pow_add]
          _ ≤ 2 ^ (F + 1) := Nat.pow_le_pow_right (by omega) (by omega)
          _ = 2 * 2 ^ F := by rw [Nat.pow_succ, Nat.mul_comm]
    have k1 := le_cut neg hlow
    have k2 := cut_le neg hupp
    -- against T * 2^q, T a whole number of the last digits kept
    have conv1 : ∀ T : Nat, mag * 2 ^ (place - P).toNat ≤ T * 2 ^ q * 2 ^ (P - place).toNat → mag * 2 ^ (place - (P + q)).toNat ≤ T * 2 ^ ((P + q) - place).toNat := by
      intro T hT
      rw [e1, Nat.mul_assoc T, ← Nat.pow_add, ← hexp, Nat.add_comm, Nat.pow_add, ← Nat.mul_assoc] at hT
      exact mul_pow_le_cancel _ hT
    have conv2 : ∀ T : Nat, T * 2 ^ q * 2 ^ (P - place).toNat ≤ mag * 2 ^ (place - P).toNat → T * 2 ^ ((P + q) - place).toNat ≤ mag * 2 ^ (place - (P + q)).toNat := by
      intro T hT
      rw [e1, Nat.mul_assoc T, ← Nat.pow_add, ← hexp, Nat.add_comm, Nat.pow_add, ← Nat.mul_assoc] at hT
      exact mul_pow_le_cancel _ hT
    have top : mg f ((q + 1) * f.binade) = f.binade * 2 ^ q := by have := mg_at f q 0 (by omega); rwa [Nat.add_zero, Nat.add_zero] at this
    have top2 : mg f ((q + 1) * f.binade + f.binade) = 2 * f.binade * 2 ^ q := by rw [mg_at f q f.binade (Nat.le_refl _), Nat.two_mul]
    have eqB : (q + 1) * f.binade = q * f.binade + f.binade := Nat.succ_mul _ _
    have c1 : ∀ T : Nat, mag * 2 ^ (place - (P + q)).toNat ≤ T * 2 ^ ((P + q) - place).toNat → Toward.even.cut neg (mag * 2 ^ (place - (P + q)).toNat) ((P + q) - place).toNat ≤ T := fun T hT => cut_le neg hT
    have c2 : ∀ T : Nat, T * 2 ^ ((P + q) - place).toNat ≤ mag * 2 ^ (place - (P + q)).toNat → T ≤ Toward.even.cut neg (mag * 2 ^ (place - (P + q)).toNat) ((P + q) - place).toNat := fun T hT => le_cut neg hT
    generalize Toward.even.cut neg (mag * 2 ^ (place - (P + q)).toNat) ((P + q) - place).toNat = kept at *
    constructor
    · intro hle
      by_cases hR1 : R < (q + 1) * f.binade
      · exfalso
        have h1 : mg f R < mg f ((q + 1) * f.binade) := mg_lt f hR1
        rw [top] at h1
        have h2 : mg f R * 2 ^ (P - place).toNat < f.binade * 2 ^ q * 2 ^ (P - place).toNat := Nat.mul_lt_mul_of_pos_right h1 (Nat.two_pow_pos _)
        have h3 : f.binade * 2 ^ q * 2 ^ (P - place).toNat ≤ mag * 2 ^ (place - P).toNat := by
          rw [e1, Nat.mul_assoc f.binade, ← Nat.pow_add, ← hexp, Nat.add_comm ((place - P).toNat - _), Nat.pow_add, ← Nat.mul_assoc]
          exact Nat.mul_le_mul_right _ hlow
        omega
      · by_cases hR2 : R < (q + 1) * f.binade + f.binade
        · obtain ⟨s, rfl⟩ : ∃ s, R = (q + 1) * f.binade + s := ⟨R - (q + 1) * f.binade, by omega⟩
          rw [mg_at f q s (by omega)] at hle
          have := c1 _ (conv1 _ hle)
          omega
        · omega
    · intro hge
      by_cases hR1 : R ≤ (q + 1) * f.binade
      · omega
      · by_cases hR2 : R ≤ (q + 1) * f.binade + f.binade
        · obtain ⟨s, rfl⟩ : ∃ s, R = (q + 1) * f.binade + s := ⟨R - (q + 1) * f.binade, by omega⟩
          rw [mg_at f q s (by omega)] at hge
          have := c2 _ (conv2 _ hge)
          omega
        · exfalso
          have h1 : mg f ((q + 1) * f.binade + f.binade) < mg f R := mg_lt f (by omega)
          rw [top2] at h1
          have h2 : 2 * f.binade * 2 ^ q * 2 ^ (P - place).toNat < mg f R * 2 ^ (P - place).toNat := Nat.mul_lt_mul_of_pos_right h1 (Nat.two_pow_pos _)
          have h3 : mag * 2 ^ (place - P).toNat ≤ 2 * f.binade * 2 ^ q * 2 ^ (P - place).toNat := by
            rw [e1, Nat.mul_assoc (2 * f.binade), ← Nat.pow_add, ← hexp, Nat.add_comm ((place - P).toNat - _), Nat.pow_add, ← Nat.mul_assoc]
            exact Nat.mul_le_mul_right _ hupp
          omega
end Go.Ord
