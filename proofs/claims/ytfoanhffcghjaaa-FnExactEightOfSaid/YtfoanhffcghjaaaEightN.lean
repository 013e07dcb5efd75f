/- Which of the values of a table is nearest to a number of 32 bits, told by differences that are rounded to 64 bits: the same that the middles tell. -/
import Derived.Test.YtfoanhffcghjaaaBd
namespace Go.Fl
open Go.Ord Go.RowKit
open Ieee (Datum Format)
/-- a word that the number D (in units of the least place) is rounded to -/
def Nr (D r : Nat) : Prop := (∀ R, R < 9218868437227405312 → D ≤ mg Ieee.double R → r ≤ R) ∧ (∀ R, R ≤ 9218868437227405312 → mg Ieee.double R ≤ D → R ≤ r)
theorem Nr.eq {D r R : Nat} (h : Nr D r) (hR : R < 9218868437227405312) (e : mg Ieee.double R = D) : r = R :=
  Nat.le_antisymm (h.1 R hR (by omega)) (h.2 R (by omega) (by omega))
theorem nearest_Nr (neg : Bool) (mag : Nat) {place : Int} (hp : -1074 ≤ place) : ab (Ieee.double.nearest neg mag place) ≤ 9218868437227405312 ∧ Nr (mag * 2 ^ (place + 1074).toNat) (ab (Ieee.double.nearest neg mag place)) := by
  by_cases h0 : mag = 0
  · subst h0
    rw [nearest_zero, ab_word _ (by omega), Nat.zero_mul]
    refine ⟨by omega, fun R _ _ => Nat.zero_le _, fun R _ h => ?_⟩
    rcases Nat.eq_zero_or_pos R with e | e
    · omega
    · have := mg_lt Ieee.double e
      omega
  · rw [nearest_nr _ _ _ h0, dir, ab_word _ (Nat.min_le_right _ _)]
    refine ⟨Nat.min_le_right _ _, fun R hR h => ?_, fun R hR h => ?_⟩
    · have k := (nr_both Ieee.double neg place h0 R).1
      rw [dlp, show place - -1074 = place + 1074 by omega, show (-1074 - place).toNat = 0 by omega, Nat.pow_zero, Nat.mul_one] at k
      have := k h
      omega
    · have k := (nr_both Ieee.double neg place h0 R).2
      rw [dlp, show place - -1074 = place + 1074 by omega, show (-1074 - place).toNat = 0 by omega, Nat.pow_zero, Nat.mul_one] at k
      have := k h
      omega
theorem read_up {u : Nat} (hu : u < 9218868437227405312) : ∃ m e, Ieee.double.read u = .number false m e ∧ -1074 ≤ e ∧ m * 2 ^ (e + 1074).toNat = mg Ieee.double u := by
  have hf : Ord.fin Ieee.double u = true := by unfold Ord.fin rung; rw [dsw, dir]; exact decide_eq_true (by omega)
  obtain ⟨m, e, hr, he, hm⟩ := read_fin Ieee.double hf
  rw [dlp] at he hm
  have hn : neg Ieee.double u = false := by unfold neg; rw [dsw, Nat.div_eq_of_lt (by omega)]; rfl
  rw [hn] at hr
  refine ⟨m, e, hr, he, ?_⟩
  rw [show e - -1074 = e + 1074 by omega] at hm
  rw [hm]; unfold rung; rw [dsw, Nat.mod_eq_of_lt (by omega)]
theorem sub_abs {m n : Nat} {i j : Int} {A B : Nat} (hi : -1074 ≤ i) (hj : -1074 ≤ j) (hA : m * 2 ^ (i + 1074).toNat = A) (hB : n * 2 ^ (j + 1074).toNat = B) :
    (Ieee.signed false m (i - min i j).toNat + Ieee.signed (!false) n (j - min i j).toNat).natAbs * 2 ^ (min i j + 1074).toNat = ((A : Int) - B).natAbs := by
  rw [signed_mul, signed_mul]
  show ((m * 2 ^ (i - min i j).toNat : Nat) + -((n * 2 ^ (j - min i j).toNat : Nat) : Int)).natAbs * _ = _
  have e1 : A = m * 2 ^ (i - min i j).toNat * 2 ^ (min i j + 1074).toNat := by
    rw [← hA, Nat.mul_assoc, ← Nat.pow_add]; congr 2; omega
  have e2 : B = n * 2 ^ (j - min i j).toNat * 2 ^ (min i j + 1074).toNat := by
    rw [← hB, Nat.mul_assoc, ← Nat.pow_add]; congr 2; omega
  rw [e1, e2]
  generalize m * 2 ^ (i - min i j).toNat = a
  generalize n * 2 ^ (j - min i j).toNat = b
  generalize 2 ^ (min i j + 1074).toNat = p
  rw [show (p : Nat) = ((p : Nat) : Int).natAbs from rfl, ← Int.natAbs_mul]
  congr 1
  rw [Int.natAbs_natCast, Int.natCast_mul, Int.natCast_mul, Int.add_mul, Int.neg_mul]
  rfl
/-- the difference of two words whose signs are clear -/
theorem sub_Nr {u v : Nat} (hu : u < 9218868437227405312) (hv : v < 9218868437227405312) : ∃ r, floatBits .sub .f64 u v = some r ∧ ab r ≤ 9218868437227405312 ∧ Nr (((mg Ieee.double u : Nat) : Int) - (mg Ieee.double v : Nat)).natAbs (ab r) := by
  obtain ⟨m, i, e1, hi, em⟩ := read_up hu
  obtain ⟨n, j, e2, hj, en⟩ := read_up hv
  have h : floatBits .sub .f64 u v = ((Ieee.double.read u).sum (Datum.number (!false) n j)).map Ieee.double.write := by
    show ((Ieee.double.read u).sum (Ieee.double.read v).opposite).map Ieee.double.write = _
    rw [e2]; rfl
  rw [h, e1]
  refine ⟨_, rfl, ?_⟩
  have hp : -1074 ≤ min i j := by omega
  rw [← sub_abs hi hj em en]
  exact nearest_Nr _ _ hp
/-- whole numbers of few bits are words -/
theorem rep (N p : Nat) (h : N < 9007199254740992) (hp : p ≤ 2000) : ∃ R, R < 9218868437227405312 ∧ mg Ieee.double R = N * 2 ^ p := by
  have hb : Ieee.double.binade = 4503599627370496 := by decide +kernel
  by_cases h0 : N = 0
  · subst h0; exact ⟨0, by omega, by rw [mg_zero, Nat.zero_mul]⟩
  · have hlo : 2 ^ N.log2 ≤ N := Nat.log2_self_le h0
    have hhi : N < 2 ^ (N.log2 + 1) := Nat.lt_log2_self
    have hL : N.log2 < 53 := (Nat.log2_lt h0).2 h
    generalize N.log2 = L at *
    by_cases hc : L + p < 52
    · refine ⟨N * 2 ^ p, ?_, ?_⟩
      · have : N * 2 ^ p < 2 ^ (L + 1) * 2 ^ p := Nat.mul_lt_mul_of_pos_right hhi (Nat.two_pow_pos _)
        rw [← Nat.pow_add] at this
        have h2 : 2 ^ (L + 1 + p) ≤ 2 ^ 52 := Nat.pow_le_pow_right (by omega) (by omega)
        have : (2 : Nat) ^ 52 = 4503599627370496 := by decide
        omega
      · refine mg_small _ ?_
        rw [hb]
        have : N * 2 ^ p < 2 ^ (L + 1) * 2 ^ p := Nat.mul_lt_mul_of_pos_right hhi (Nat.two_pow_pos _)
        rw [← Nat.pow_add] at this
        have h2 : 2 ^ (L + 1 + p) ≤ 2 ^ 52 := Nat.pow_le_pow_right (by omega) (by omega)
        have : (2 : Nat) ^ 52 = 4503599627370496 := by decide
        omega
    · have hs : (N - 2 ^ L) * 2 ^ (52 - L) < 4503599627370496 := by
        have h1 : N - 2 ^ L < 2 ^ L := by rw [Nat.pow_succ] at hhi; omega
        have h2 : (N - 2 ^ L) * 2 ^ (52 - L) < 2 ^ L * 2 ^ (52 - L) := Nat.mul_lt_mul_of_pos_right h1 (Nat.two_pow_pos _)
        rw [← Nat.pow_add, show L + (52 - L) = 52 by omega] at h2
        have : (2 : Nat) ^ 52 = 4503599627370496 := by decide
        omega
      refine ⟨(L + p - 52 + 1) * Ieee.double.binade + (N - 2 ^ L) * 2 ^ (52 - L), ?_, ?_⟩
      · rw [hb]; omega
      · rw [mg_at _ _ _ (by rw [hb]; omega), hb]
        have e : 4503599627370496 + (N - 2 ^ L) * 2 ^ (52 - L) = N * 2 ^ (52 - L) := by
          have h1 : 2 ^ L * 2 ^ (52 - L) = 4503599627370496 := by rw [← Nat.pow_add, show L + (52 - L) = 52 by omega]
          rw [Nat.sub_mul, h1]
          have h2 : 2 ^ L * 2 ^ (52 - L) ≤ N * 2 ^ (52 - L) := Nat.mul_le_mul_right _ hlo
          omega
        rw [e, Nat.mul_assoc, ← Nat.pow_add, show 52 - L + (L + p - 52) = p by omega]
/-- a difference of numbers of few bits is a word -/
theorem rep_diff {m p n u : Nat} (hp : p ≤ 2000) (h : (((m * 2 ^ p : Nat) : Int) - (n * 2 ^ u : Nat)).natAbs < 9007199254740992 * 2 ^ min p u) :
    ∃ R, R < 9218868437227405312 ∧ mg Ieee.double R = (((m * 2 ^ p : Nat) : Int) - (n * 2 ^ u : Nat)).natAbs := by
  have e1 : m * 2 ^ p = m * 2 ^ (p - min p u) * 2 ^ min p u := by rw [Nat.mul_assoc, ← Nat.pow_add, show p - min p u + min p u = p by omega]
  have e2 : n * 2 ^ u = n * 2 ^ (u - min p u) * 2 ^ min p u := by rw [Nat.mul_assoc, ← Nat.pow_add, show u - min p u + min p u = u by omega]
  rw [e1, e2] at h ⊢
  have hm : min p u ≤ 2000 := by omega
  generalize m * 2 ^ (p - min p u) = a at *
  generalize n * 2 ^ (u - min p u) = b at *
  generalize min p u = z at *
  have e : (((a * 2 ^ z : Nat) : Int) - (b * 2 ^ z : Nat)).natAbs = ((a : Int) - b).natAbs * 2 ^ z := by
    have : ((a : Int) - b).natAbs * 2 ^ z = (((a : Int) - b) * ((2 ^ z : Nat) : Int)).natAbs := by rw [Int.natAbs_mul, Int.natAbs_natCast]
    rw [this, Int.sub_mul, Int.natCast_mul, Int.natCast_mul]
  rw [e] at h ⊢
  exact rep _ _ (Nat.lt_of_mul_lt_mul_right h) hm
/-- a table of values that rise; 'q': their sizes in units of 2 ^ u -/
structure Tab (V q : Nat → Nat) (T u : Nat) : Prop where
  lt : ∀ r, r ≤ T → V r < 9218868437227405312
  val : ∀ r, r ≤ T → mg Ieee.double (V r) = q r * 2 ^ u
  q0 : q 0 = 0
  step : ∀ r, r < T → q r < q (r + 1)
  small : ∀ r, r ≤ T → q r < 4294967296
  dbl : ∀ r, 1 ≤ r → r < T → q (r + 1) ≤ 2 * q r
  gap : ∀ r, r + 1 < T → 2 * q (r + 1) ≤ q r + q (r + 2)
  u0 : 1 ≤ u
  u1 : u ≤ 1100
/-- the place of the nearest value, as a loop over all of them finds it -/
def bst (d : Nat → Nat) : Nat → Nat
  | 0 => 0
  | k + 1 => if d (k + 1) < d (bst d k) ∨ (d (k + 1) = d (bst d k) ∧ (k + 1) % 2 = 0) then k + 1 else bst d k
theorem bst_le (d : Nat → Nat) (k : Nat) : bst d k ≤ k := by
  induction k with
  | zero => exact Nat.le_refl _
  | succ k ih =>
    unfold bst
    split <;> omega
/-- the place that the middles tell -/
def Mids (y : Nat) (mid : Nat → Nat) (T c : Nat) : Prop := c ≤ T ∧ (∀ j, j < c → ¬ y < mid j ∧ ¬ (y = mid j ∧ j % 2 = 0)) ∧ (c = T ∨ y < mid c ∨ (y = mid c ∧ c % 2 = 0))
theorem Tab.mono {V q : Nat → Nat} {T u : Nat} (h : Tab V q T u) {a b : Nat} (hab : a ≤ b) (hb : b ≤ T) : q a ≤ q b := by
  induction b with
  | zero => have : a = 0 := by omega
            subst this; exact Nat.le_refl _
  | succ b ih =>
    by_cases e : a = b + 1
    · subst e; exact Nat.le_refl _
    · have := ih (by omega) (by omega)
      have := h.step b (by omega)
      omega
theorem Tab.find {V q : Nat → Nat} {T u y : Nat} (h : Tab V q T u) (h1 : y < V T) : ∃ r, r < T ∧ V r ≤ y ∧ y < V (r + 1) := by
  have h0 : V 0 = 0 := by
    have := h.val 0 (Nat.zero_le _)
    rw [h.q0, Nat.zero_mul] at this
    exact mg_inj Ieee.double (by rw [this, mg_zero])
  have : ∀ n, n ≤ T → y < V n → ∃ r, r < n ∧ V r ≤ y ∧ y < V (r + 1) := by
    intro n
    induction n with
    | zero => intro _ hy; rw [h0] at hy; omega
    | succ n ih =>
      intro hn hy
      by_cases e : y < V n
      · obtain ⟨r, a, b, c⟩ := ih (by omega) e
        exact ⟨r, by omega, b, c⟩
      · exact ⟨n, by omega, by omega, hy⟩
  exact this T (Nat.le_refl _) h1
theorem nearest_mid {V q d mid : Nat → Nat} {T u y m p : Nat} (h : Tab V q T u) (hm : m < 16777216) (hp : p ≤ 2000) (hy : mg Ieee.double y = m * 2 ^ p) (hyT : y < V T)
    (hmid : ∀ r, r < T → mg Ieee.double (mid r) * 2 = (q r + q (r + 1)) * 2 ^ u)
    (hd : ∀ r, r ≤ T → Nr (((mg Ieee.double y : Nat) : Int) - (mg Ieee.double (V r) : Nat)).natAbs (d r)) : Mids y mid T (bst d T) := by
  obtain ⟨r, hr, hlo, hhi⟩ := h.find hyT
  have hyI : y < 9218868437227405312 := by have := h.lt T (Nat.le_refl _); omega
  -- the sizes as whole numbers
  obtain ⟨A, hA⟩ : ∃ A : Nat → Nat, A = fun k => q k * 2 ^ u := ⟨_, rfl⟩
  have vA : ∀ k, k ≤ T → mg Ieee.double (V k) = A k := fun k hk => by rw [h.val k hk, hA]
  have Astep : ∀ k, k < T → A k < A (k + 1) := fun k hk => by rw [hA]; exact Nat.mul_lt_mul_of_pos_right (h.step k hk) (Nat.two_pow_pos _)
  have Amono : ∀ a b, a ≤ b → b ≤ T → A a ≤ A b := fun a b x z => by rw [hA]; exact Nat.mul_le_mul_right _ (h.mono x z)
  have Adbl : ∀ k, 1 ≤ k → k < T → A (k + 1) ≤ 2 * A k := fun k a b => by
    rw [hA]; have := Nat.mul_le_mul_right (2 ^ u) (h.dbl k a b); rw [Nat.mul_assoc] at this; exact this
  have Agap : ∀ k, k + 1 < T → 2 * A (k + 1) ≤ A k + A (k + 2) := fun k a => by
    rw [hA]; have := Nat.mul_le_mul_right (2 ^ u) (h.gap k a); rw [Nat.mul_assoc, Nat.add_mul] at this; exact this
  have Amid : ∀ k, k < T → mg Ieee.double (mid k) * 2 = A k + A (k + 1) := fun k a => by rw [hmid k a, Nat.add_mul, hA]
  have Alt : ∀ k, k ≤ T → A k < 4294967296 * 2 ^ u := fun k a => by rw [hA]; exact Nat.mul_lt_mul_of_pos_right (h.small k a) (Nat.two_pow_pos _)
  obtain ⟨Y, hY⟩ : ∃ Y, Y = mg Ieee.double y := ⟨_, rfl⟩
  have hYlo : A r ≤ Y := by rw [← vA r (by omega), hY]; exact mg_le hlo
  have hYhi : Y < A (r + 1) := by rw [← vA (r + 1) (by omega), hY]; exact mg_lt _ hhi
  have hYT : Y < 4294967296 * 2 ^ u := Nat.lt_trans hYhi (Alt _ (by omega))
  have hYp : Y < 16777216 * 2 ^ p := by rw [hY, hy]; exact Nat.mul_lt_mul_of_pos_right hm (Nat.two_pow_pos _)
  have hD : ∀ k, k ≤ T → Nr ((Y : Int) - A k).natAbs (d k) := fun k a => by have := hd k a; rw [vA k a, ← hY] at this; exact this
  -- exact differences
  have hrep : ∀ k, k ≤ T → (((Y : Int) - A k).natAbs ≤ Y ∨ u < p) → ∃ R, R < 9218868437227405312 ∧ mg Ieee.double R = ((Y : Int) - A k).natAbs ∧ d k = R := by
    intro k hk hor
    have hlt : (((m * 2 ^ p : Nat) : Int) - (q k * 2 ^ u : Nat)).natAbs < 9007199254740992 * 2 ^ min p u := by
      have e1 : ((m * 2 ^ p : Nat) : Int) = Y := by rw [hY, hy]
      have e2 : ((q k * 2 ^ u : Nat) : Int) = A k := by rw [hA]
      rw [e1, e2]
      by_cases hc : p ≤ u
      · rw [Nat.min_eq_left hc]
        have : ((Y : Int) - A k).natAbs ≤ Y := hor.resolve_right (by omega)
        have : 0 < 2 ^ p := Nat.two_pow_pos _
        omega
      · rw [Nat.min_eq_right (by omega)]
        have := Alt k hk
        have : 0 < 2 ^ u := Nat.two_pow_pos _
        omega
    obtain ⟨R, hR, hmR⟩ := rep_diff hp hlt
    have e1 : ((m * 2 ^ p : Nat) : Int) = Y := by rw [hY, hy]
    have e2 : ((q k * 2 ^ u : Nat) : Int) = A k := by rw [hA]
    rw [e1, e2] at hmR
    exact ⟨R, hR, hmR, (hD k hk).eq hR hmR⟩
  have hex : ∀ k, k ≤ r → ∃ R, R < 9218868437227405312 ∧ mg Ieee.double R = Y - A k ∧ d k = R := by
    intro k hk
    have := Amono k r hk (by omega)
    obtain ⟨R, a, b, c⟩ := hrep k (by omega) (.inl (by omega))
    exact ⟨R, a, by omega, c⟩
  -- up to r each value is nearer than the one before
  have hb1 : ∀ k, k ≤ r → bst d k = k := by
    intro k
    induction k with
    | zero => intro _; rfl
    | succ k ih =>
      intro hk
      have e := ih (by omega)
      unfold bst
      rw [e]
      obtain ⟨R1, a1, b1, c1⟩ := hex k (by omega)
      obtain ⟨R2, a2, b2, c2⟩ := hex (k + 1) hk
      have := Astep k (by omega)
      have := Amono (k + 1) r hk (by omega)
      have : R2 < R1 := (mg_lt_iff Ieee.double _ _).1 (by omega)
      rw [if_pos (.inl (by omega))]
  -- the two values beside the number
  obtain ⟨R0, a0, b0, c0⟩ := hex r (Nat.le_refl _)
  have hcmp : (d (r + 1) < d r ↔ A (r + 1) - Y < Y - A r) ∧ (d (r + 1) = d r ↔ A (r + 1) - Y = Y - A r) := by
    by_cases hor : A (r + 1) - Y ≤ Y ∨ u < p
    · obtain ⟨R1, a1, b1, c1⟩ := hrep (r + 1) (by omega) (by omega)
      have e : mg Ieee.double R1 = A (r + 1) - Y := by omega
      rw [c0, c1, ← e, ← b0]
      exact ⟨(mg_lt_iff Ieee.double _ _).symm, fun x => by rw [x], fun x => mg_inj _ x⟩
    · have hr0 : r = 0 := by
        rcases Nat.eq_zero_or_pos r with x | x
        · exact x
        · have := Adbl r x (by omega)
          omega
      subst hr0
      have hA0 : A 0 = 0 := by rw [hA]; simp [h.q0]
      -- half of the first value
      have h1 : q 1 < 9007199254740992 := by have := h.small 1 (by omega); omega
      obtain ⟨H, aH, bH⟩ := rep (q 1) (u - 1) h1 (by have := h.u1; omega)
      have hH2 : mg Ieee.double H * 2 = A 1 := by
        have hu1 := h.u0
        rw [bH, hA]
        show q 1 * 2 ^ (u - 1) * 2 = q 1 * 2 ^ u
        rw [Nat.mul_assoc, show 2 ^ (u - 1) * 2 = 2 ^ (u - 1 + 1) from rfl, show u - 1 + 1 = u by omega]
      have : H ≤ d 1 := (hD 1 (by omega)).2 H (by omega) (by simp only [Nat.zero_add] at hor hYhi; omega)
      have : R0 < H := (mg_lt_iff Ieee.double _ _).1 (by simp only [Nat.zero_add] at hor hYhi; omega)
      simp only [Nat.zero_add] at *
      refine ⟨⟨fun x => ?_, fun x => ?_⟩, ⟨fun x => ?_, fun x => ?_⟩⟩ <;> omega
  obtain ⟨c, hc⟩ : ∃ c, c = if A (r + 1) - Y < Y - A r ∨ (A (r + 1) - Y = Y - A r ∧ (r + 1) % 2 = 0) then r + 1 else r := ⟨_, rfl⟩
  have hb2 : bst d (r + 1) = c := by
    unfold bst
    rw [hb1 r (Nat.le_refl _), hc]
    simp only [hcmp.1, hcmp.2]
  -- the values behind are farther
  have hg : ∃ G, G < 9218868437227405312 ∧ mg Ieee.double G = A (r + 1) - A r := by
    have := h.step r hr
    have h1 : q (r + 1) - q r < 9007199254740992 := by have := h.small (r + 1) (by omega); omega
    obtain ⟨G, aG, bG⟩ := rep (q (r + 1) - q r) u h1 (by have := h.u1; omega)
    exact ⟨G, aG, by rw [bG, hA, Nat.sub_mul]⟩
  obtain ⟨G, aG, bG⟩ := hg
  have hdc : d c < G := by
    have hst := Astep r hr
    by_cases hcc : A (r + 1) - Y < Y - A r ∨ (A (r + 1) - Y = Y - A r ∧ (r + 1) % 2 = 0)
    · rw [if_pos hcc] at hc
      subst hc
      obtain ⟨R1, a1, b1, c1⟩ := hrep (r + 1) (by omega) (.inl (by omega))
      rw [c1]
      exact (mg_lt_iff Ieee.double _ _).1 (by omega)
    · rw [if_neg hcc] at hc
      subst hc
      rw [c0]
      exact (mg_lt_iff Ieee.double _ _).1 (by omega)
  have hfar : ∀ k, r + 1 < k → k ≤ T → G ≤ d k := by
    intro k h1 h2
    refine (hD k h2).2 G (by omega) ?_
    have := Amono (r + 2) k (by omega) h2
    have := Agap r (by omega)
    omega
  have hb3 : ∀ k, r + 1 ≤ k → k ≤ T → bst d k = c := by
    intro k h1
    induction k with
    | zero => omega
    | succ k ih =>
      intro h2
      by_cases e : r + 1 = k + 1
      · have : r = k := by omega
        subst this; exact hb2
      · have ih' := ih (by omega) (by omega)
        have := hfar (k + 1) (by omega) h2
        unfold bst
        rw [ih', if_neg (by omega)]
  rw [hb3 T (by omega) (Nat.le_refl _)]
  -- the middles
  have mlt : ∀ j, j < T → (y < mid j ↔ 2 * Y < A j + A (j + 1)) := by
    intro j hj
    rw [← mg_lt_iff Ieee.double, ← hY]
    have := Amid j hj
    omega
  have meq : ∀ j, j < T → (y = mid j → 2 * Y = A j + A (j + 1)) := by
    intro j hj e
    have := Amid j hj
    rw [← e, ← hY] at this
    omega
  have meq2 : ∀ j, j < T → 2 * Y = A j + A (j + 1) → y = mid j := by
    intro j hj e
    have := Amid j hj
    exact mg_inj Ieee.double (by rw [← hY]; omega)
  have hbelow : ∀ j, j < r → ¬ y < mid j ∧ ¬ (y = mid j ∧ j % 2 = 0) := by
    intro j hj
    have h1 := mlt j (by omega)
    have h2 := meq j (by omega)
    have := Astep j (by omega)
    have := Amono (j + 1) r (by omega) (by omega)
    refine ⟨fun x => ?_, fun x => ?_⟩
    · have := h1.1 x; omega
    · have := h2 x.1; omega
  have hst := Astep r hr
  by_cases hcc : A (r + 1) - Y < Y - A r ∨ (A (r + 1) - Y = Y - A r ∧ (r + 1) % 2 = 0)
  · rw [if_pos hcc] at hc
    subst hc
    refine ⟨by omega, fun j hj => ?_, ?_⟩
    · by_cases e : j = r
      · subst e
        have h1 := mlt j (by omega)
        have h2 := meq j (by omega)
        refine ⟨fun x => ?_, fun x => ?_⟩
        · have := h1.1 x; omega
        · have := h2 x.1; omega
      · exact hbelow j (by omega)
    · by_cases e : r + 1 = T
      · exact .inl e
      · refine .inr (.inl ((mlt (r + 1) (by omega)).2 ?_))
        have := Astep (r + 1) (by omega)
        omega
  · rw [if_neg hcc] at hc
    subst hc
    refine ⟨by omega, fun j hj => hbelow j hj, .inr ?_⟩
    by_cases e : 2 * Y < A c + A (c + 1)
    · exact .inl ((mlt c (by omega)).2 e)
    · exact .inr ⟨meq2 c (by omega) (by omega), by omega⟩
/-- a number that is no less than the greatest value -/
theorem mids_top {V q mid : Nat → Nat} {T u y : Nat} (h : Tab V q T u) (hyT : V T ≤ y)
    (hmid : ∀ r, r < T → mg Ieee.double (mid r) * 2 = (q r + q (r + 1)) * 2 ^ u) : Mids y mid T T := by
  refine ⟨Nat.le_refl _, fun j hj => ?_, .inl rfl⟩
  have h1 : mid j < V T := (mg_lt_iff Ieee.double _ _).1 (by
    have h1 := hmid j hj
    rw [h.val T (Nat.le_refl _)]
    have h2 := h.step j hj
    have h3 := h.mono (show j + 1 ≤ T by omega) (Nat.le_refl _)
    have h4 : (q j + q (j + 1)) * 2 ^ u < 2 * q T * 2 ^ u := Nat.mul_lt_mul_of_pos_right (by omega) (Nat.two_pow_pos _)
    rw [Nat.mul_assoc] at h4
    omega)
  exact ⟨by omega, by omega⟩
/-- a number of 32 bits, no less than 0, widened: a word of few bits -/
theorem single_few {x : Nat} (_hx : x < 2139095040) : ∃ m p, m < 16777216 ∧ p ≤ 253 ∧ mg Ieee.single x = m * 2 ^ p := by
  have hb : Ieee.single.binade = 8388608 := by decide +kernel
  unfold mg
  rw [hb]
  split
  · exact ⟨x, 0, by omega, by omega, by simp⟩
  · refine ⟨_, x / 8388608 - 1, ?_, by omega, rfl⟩
    have := Nat.mod_lt x (show 0 < 8388608 by omega)
    omega
theorem nearest_pos (m : Nat) (e : Int) : Ieee.double.nearest false m e < 9223372036854775808 := by
  by_cases h0 : m = 0
  · subst h0; rw [nearest_zero]; unfold Format.word; simp
  · rw [nearest_nr _ _ _ h0, dir]; unfold Format.word
    have := Nat.min_le_right (nr Ieee.double false m e) 9218868437227405312
    simp only [Bool.false_eq_true, if_false]
    omega
theorem wid_read {x : Nat} (hx : x < 2139095040) : ∃ m e, wid x = Ieee.double.nearest false m e ∧ -149 ≤ e ∧ m * 2 ^ (e - -149).toNat = mg Ieee.single x := by
  have hn : isNaN .f32 x = false := not_nan (by omega)
  have hf : Ord.fin Ieee.single x = true := by unfold Ord.fin rung; rw [ssw, sir]; exact decide_eq_true (by omega)
  obtain ⟨m', e, hr, he, hm⟩ := read_fin Ieee.single hf
  rw [slp] at he hm
  have hng : Ord.neg Ieee.single x = false := by unfold Ord.neg; rw [ssw, Nat.div_eq_of_lt (by omega)]; rfl
  rw [hng] at hr
  have hrg : rung Ieee.single x = x := by unfold rung; rw [ssw]; exact Nat.mod_eq_of_lt (by omega)
  rw [hrg] at hm
  refine ⟨m', e, ?_, he, hm⟩
  unfold wid
  rw [hn]
  show Ieee.double.write (Ieee.single.read x) = _
  rw [hr]
  rfl
theorem wid_few {x : Nat} (hx : x < 2139095040) : ∃ m p, m < 16777216 ∧ p ≤ 2000 ∧ mg Ieee.double (wid x) = m * 2 ^ p ∧ wid x < 9218868437227405312 := by
  obtain ⟨m, p, h1, h2, h3⟩ := single_few hx
  obtain ⟨m', e, hw, he, hm⟩ := wid_read hx
  rw [h3] at hm
  obtain ⟨z, hz⟩ : ∃ z, z = 925 := ⟨_, rfl⟩
  obtain ⟨-, k2⟩ := nearest_Nr false m' (place := e) (by omega)
  obtain ⟨R, hR, hmR⟩ := rep m (p + z) (by omega) (by omega)
  have e1 : m' * 2 ^ (e + 1074).toNat = m * 2 ^ (p + z) := by
    rw [show (e + 1074).toNat = (e - -149).toNat + z by omega, Nat.pow_add, ← Nat.mul_assoc, hm, Nat.mul_assoc, ← Nat.pow_add]
  rw [e1] at k2
  have k3 := k2.eq hR hmR
  have hab : ab (wid x) = wid x := by rw [hw]; unfold ab; exact Nat.mod_eq_of_lt (nearest_pos _ _)
  rw [← hw, hab] at k3
  exact ⟨m, p + z, h1, by omega, by rw [k3, hmR], by omega⟩
end Go.Fl
