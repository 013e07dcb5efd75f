/- Words of a format as whole numbers: how they stand to each other. -/
import Ieee.Arith
namespace Go.Ord
open Ieee (Datum Format signed)

/-- the magnitude of a rung, in units of the least place -/
def mg (f : Format) (r : Nat) : Nat := if r < f.binade then r else (f.binade + r % f.binade) * 2 ^ (r / f.binade - 1)
def rung (f : Format) (b : Nat) : Nat := b % f.signWeight
def neg (f : Format) (b : Nat) : Bool := b / f.signWeight % 2 == 1
def sg (s : Bool) (n : Nat) : Int := if s then -(n : Int) else (n : Int)
/-- a finite word as a whole number of units of the least place -/
def toZ (f : Format) (b : Nat) : Int := sg (neg f b) (mg f (rung f b))
def fin (f : Format) (b : Nat) : Bool := decide (rung f b < f.infRung)

theorem binade_pos (f : Format) : 0 < f.binade := Nat.two_pow_pos _

theorem mg_step (f : Format) (r : Nat) : mg f r < mg f (r + 1) := by
  have hB := binade_pos f
  generalize hb : f.binade = B at *
  unfold mg
  rw [hb]
  by_cases h1 : r + 1 < B
  · rw [if_pos (by omega), if_pos h1]; omega
  · rw [if_neg h1]
    by_cases h2 : r < B
    · have : r + 1 = B := by omega
      rw [if_pos h2, this, Nat.mod_self, Nat.div_self hB]; simp; omega
    · rw [if_neg h2]
      have hq : 1 ≤ r / B := by rw [Nat.le_div_iff_mul_le hB]; omega
      by_cases h3 : r % B + 1 < B
      · have e1 : (r + 1) / B = r / B := by
          have hnd : ¬ B ∣ r + 1 := by
            intro hd
            have := Nat.mod_eq_zero_of_dvd hd
            rw [Nat.add_mod, Nat.mod_eq_of_lt (show 1 < B by omega), Nat.mod_eq_of_lt h3] at this; omega
          rw [Nat.succ_div, if_neg hnd, Nat.add_zero]
        have e2 : (r + 1) % B = r % B + 1 := by
          rw [Nat.add_mod, Nat.mod_eq_of_lt (show 1 < B by omega), Nat.mod_eq_of_lt h3]
        rw [e1, e2]
        exact Nat.mul_lt_mul_of_pos_right (by omega) (Nat.two_pow_pos _)
      · have hr : r % B = B - 1 := by have := Nat.mod_lt r hB; omega
        have hd : r + 1 = B * (r / B + 1) := by have := Nat.div_add_mod r B; rw [Nat.mul_add]; omega
        have e1 : (r + 1) / B = r / B + 1 := by rw [hd, Nat.mul_div_cancel_left _ hB]
        have e2 : (r + 1) % B = 0 := by rw [hd, Nat.mul_mod_right]
        rw [e1, e2, hr, Nat.add_zero, Nat.add_sub_cancel]
        obtain ⟨q, hq'⟩ : ∃ q, r / B = q + 1 := ⟨r / B - 1, by omega⟩
        rw [hq', Nat.add_sub_cancel, Nat.pow_succ, Nat.mul_comm (2 ^ q) 2, ← Nat.mul_assoc]
        exact Nat.mul_lt_mul_of_pos_right (by omega) (Nat.two_pow_pos _)
theorem mg_lt (f : Format) {a b : Nat} (h : a < b) : mg f a < mg f b := by
  induction b with
  | zero => omega
  | succ b ih =>
    by_cases hab : a < b
    · exact Nat.lt_trans (ih hab) (mg_step f b)
    · have : a = b := by omega
      subst this; exact mg_step f a
theorem mg_lt_iff (f : Format) (a b : Nat) : mg f a < mg f b ↔ a < b := by
  constructor
  · intro h
    rcases Nat.lt_trichotomy a b with h' | h' | h'
    · exact h'
    · subst h'; omega
    · have := mg_lt f h'; omega
  · exact mg_lt f
theorem mg_inj (f : Format) {a b : Nat} (h : mg f a = mg f b) : a = b := by
  rcases Nat.lt_trichotomy a b with h' | h' | h'
  · have := mg_lt f h'; omega
  · exact h'
  · have := mg_lt f h'; omega
theorem mg_zero (f : Format) : mg f 0 = 0 := by unfold mg; rw [if_pos (binade_pos f)]

/-- what a finite word reads as -/
theorem read_fin (f : Format) {b : Nat} (h : fin f b = true) :
    ∃ m e, f.read b = .number (neg f b) m e ∧ f.leastPlace ≤ e ∧ m * 2 ^ (e - f.leastPlace).toNat = mg f (rung f b) := by
  have h' : b % f.signWeight < f.infRung := of_decide_eq_true h
  unfold Format.read mg rung
  dsimp only
  by_cases h1 : b % f.signWeight < f.binade
  · rw [if_pos h1, if_pos h1]
    exact ⟨_, _, rfl, Int.le_refl _, by simp⟩
  · rw [if_neg h1, if_neg h1, if_pos h']
    refine ⟨_, _, rfl, by omega, ?_⟩
    congr 2
    omega

theorem compare_mul (a b : Int) {c : Int} (hc : 0 < c) : compare (a * c) (b * c) = compare a b := by
  have h1 : (a * c < b * c) ↔ a < b := ⟨fun h => Int.lt_of_mul_lt_mul_right h (Int.le_of_lt hc), fun h => Int.mul_lt_mul_of_pos_right h hc⟩
  have h2 : (a * c = b * c) ↔ a = b := ⟨fun h => Int.eq_of_mul_eq_mul_right (by omega) h, fun h => by rw [h]⟩
  simp only [compare, compareOfLessAndEq, h1, h2]

theorem signed_mul (s : Bool) (m n : Nat) : signed s m n = sg s (m * 2 ^ n) := by unfold signed sg; rw [Nat.shiftLeft_eq]
theorem sg_mul (s : Bool) (a b : Nat) : sg s a * (b : Int) = sg s (a * b) := by
  unfold sg; cases s
  · simp
  · simp [Int.neg_mul]

/-- TWO FINITE WORDS STAND AS THEIR WHOLE NUMBERS DO. -/
theorem order_fin (f : Format) {a b : Nat} (ha : fin f a = true) (hb : fin f b = true) : f.order a b = some (compare (toZ f a) (toZ f b)) := by
  obtain ⟨m, i, hm, hi, em⟩ := read_fin f ha
  obtain ⟨n, j, hn, hj, en⟩ := read_fin f hb
  unfold Format.order
  rw [hm, hn]
  show some (compare (signed _ m (i - min i j).toNat) (signed _ n (j - min i j).toNat)) = _
  congr 1
  have hc : (0 : Int) < ((2 ^ (min i j - f.leastPlace).toNat : Nat) : Int) := by exact_mod_cast Nat.two_pow_pos _
  rw [← compare_mul _ _ hc, signed_mul, signed_mul, sg_mul, sg_mul]
  unfold toZ
  rw [← em, ← en, Nat.mul_assoc, Nat.mul_assoc, ← Nat.pow_add, ← Nat.pow_add]
  have e1 : (i - min i j).toNat + (min i j - f.leastPlace).toNat = (i - f.leastPlace).toNat := by omega
  have e2 : (j - min i j).toNat + (min i j - f.leastPlace).toNat = (j - f.leastPlace).toNat := by omega
  rw [e1, e2]
end Go.Ord
