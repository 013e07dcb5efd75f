/- The exponential function of numbers that are no greater than zero: no overflow. -/
import Derived.Test.YtfgmpodmbbnijaaExp
namespace Go.Proofs.Ytfgmpodmbbnijaa
open Go.RowKit Go.Fl Go.Reg Go.Ord
open Ieee (Datum Format)
/-! ### words with a sign -/
theorem neg_word {r : Nat} (h : r ≤ 9218868437227405312) : Ord.neg Ieee.double (Ieee.double.word true r) = true := by
  unfold Ord.neg Format.word; rw [dsw, if_pos rfl]
  have : (9223372036854775808 + r) / 9223372036854775808 = 1 := by omega
  rw [this]; rfl
theorem near_true (m : Nat) (p : Int) : Ord.neg Ieee.double (Ieee.double.nearest true m p) = true := by
  by_cases h : m = 0
  · subst h; rw [nearest_zero]; exact neg_word (Nat.zero_le _)
  · rw [nearest_nr _ _ _ h, dir]; exact neg_word (Nat.min_le_right _ _)
theorem near_false (m : Nat) (p : Int) : Ieee.double.nearest false m p = ab (Ieee.double.nearest false m p) := by
  have hw : ∀ r, r ≤ 9218868437227405312 → Ieee.double.word false r = ab (Ieee.double.word false r) := fun r hr => by rw [ab_word _ hr]; unfold Format.word; rw [if_neg (by simp)]
  by_cases h : m = 0
  · subst h; rw [nearest_zero]; exact hw _ (Nat.zero_le _)
  · rw [nearest_nr _ _ _ h, dir]; exact hw _ (Nat.min_le_right _ _)
/-- none, or no smaller than -A and no greater than zero -/
def ng (A b : Nat) : Prop := isNaN .f64 b = true ∨ (ab b ≤ A ∧ (ab b = 0 ∨ Ord.neg Ieee.double b = true))
/-- none, or from zero to one -/
def ps (b : Nat) : Prop := isNaN .f64 b = true ∨ b ≤ 4607182418800017408
theorem ng_bd {A b : Nat} (h : ng A b) : bd A b := h.imp id (fun x => x.1)
theorem ps_bd {b : Nat} (h : ps b) : bd 4607182418800017408 b := h.imp id (fun x => Nat.le_trans (Nat.mod_le _ _) x)
theorem ng_read {A b : Nat} (hA : A < 9218868437227405312) (h1 : ab b ≤ A) (h2 : ab b = 0 ∨ Ord.neg Ieee.double b = true) :
    ∃ s m e, Ieee.double.read b = .number s m e ∧ -1074 ≤ e ∧ m * 2 ^ (e + 1074).toNat ≤ mg Ieee.double A ∧ (m = 0 ∨ s = true) := by
  have hf : Ord.fin Ieee.double b = true := by unfold Ord.fin rung; rw [dsw, dir]; unfold ab at h1; exact decide_eq_true (by omega)
  obtain ⟨m, e, hr, he, hm⟩ := read_fin Ieee.double hf
  rw [dlp] at he hm
  rw [show e - -1074 = e + 1074 by omega] at hm
  refine ⟨_, m, e, hr, he, ?_, ?_⟩
  · rw [hm]; exact mg_le (by unfold rung; rw [dsw]; exact h1)
  · rcases h2 with h2 | h2
    · left
      have h3 : rung Ieee.double b = 0 := by unfold rung; rw [dsw]; exact h2
      rw [h3, mg_zero] at hm
      have := Nat.two_pow_pos (e + 1074).toNat
      rcases Nat.mul_eq_zero.1 hm with h | h <;> omega
    · exact .inr h2
theorem ps_read {b : Nat} (h : b ≤ 4607182418800017408) : ∃ m e, Ieee.double.read b = .number false m e := by
  have hf : Ord.fin Ieee.double b = true := by unfold Ord.fin rung; rw [dsw, dir]; exact decide_eq_true (by omega)
  obtain ⟨m, e, hr, _⟩ := read_fin Ieee.double hf
  refine ⟨m, e, ?_⟩
  rw [hr]; congr 1
  unfold Ord.neg; rw [dsw, Nat.div_eq_of_lt (by omega)]; rfl
/-- the nearest to a number without size, or with a sign -/
theorem near_ng {s : Bool} {m : Nat} (p : Int) (h : m = 0 ∨ s = true) : ab (Ieee.double.nearest s m p) = 0 ∨ Ord.neg Ieee.double (Ieee.double.nearest s m p) = true := by
  rcases h with h | h
  · subst h; left; rw [nearest_zero]; exact ab_word _ (Nat.zero_le _)
  · subst h; exact .inr (near_true _ _)
theorem ng_of {A b : Nat} (h : bd A b) (h2 : isNaN .f64 b = true ∨ ab b = 0 ∨ Ord.neg Ieee.double b = true) : ng A b := by
  rcases h with h | h
  · exact .inl h
  · rcases h2 with h2 | h2
    · exact .inl h2
    · exact .inr ⟨h, h2⟩
theorem ng_mul {A C t p : Nat} (hA : A < 9218868437227405312) (hC : C < 9218868437227405312) (hc : mg Ieee.double A * mg Ieee.double 4607182418800017408 ≤ mg Ieee.double C * 2 ^ 1074) (ht : ng A t) (hp : ps p) : ng C (fop .mul .f64 t p) := by
  refine ng_of (bd_mul hA (by decide +kernel) hC hc (ng_bd ht) (ps_bd hp)) ?_
  rcases ht with ht | ⟨ht, hs⟩
  · exact .inl (fop_nan_l _ _ ht)
  rcases hp with hp | hp
  · exact .inl (fop_nan_r _ _ hp)
  obtain ⟨s, m, i, e1, _, _, h0⟩ := ng_read hA ht hs
  obtain ⟨n, j, e2⟩ := ps_read hp
  right
  have hfb : floatBits .mul .f64 t p = ((Ieee.double.read t).product (Ieee.double.read p)).map Ieee.double.write := rfl
  unfold fop
  rw [hfb, e1, e2]
  simp only [Datum.product, Option.map_some, Option.getD_some]
  show ab (Ieee.double.nearest _ _ _) = 0 ∨ _
  refine near_ng _ ?_
  rcases h0 with h0 | h0
  · left; rw [h0, Nat.zero_mul]
  · right; rw [h0]; rfl
theorem ng_quo {A D C x y : Nat} (hA : A < 9218868437227405312) (hD : 0 < D) (hC : C < 9218868437227405312) (hc : (2 ^ 54 + 1) * (mg Ieee.double A * 2 ^ 1074) ≤ 2 ^ 54 * (mg Ieee.double C * mg Ieee.double D)) (hx : ng A x)
    (hy : D ≤ y ∧ y < 9218868437227405312) : ng C (fop .quo .f64 x y) := by
  have hya : ab y = y := Nat.mod_eq_of_lt (by omega)
  refine ng_of (bd_quo hA hD hC hc (ng_bd hx) (.inr (by rw [hya]; exact hy))) ?_
  rcases hx with hx | ⟨hx, hs⟩
  · exact .inl (fop_nan_l _ _ hx)
  obtain ⟨s, m, i, e1, _, _, h0⟩ := ng_read hA hx hs
  have hf : Ord.fin Ieee.double y = true := by unfold Ord.fin rung; rw [dsw, dir]; exact decide_eq_true (by omega)
  obtain ⟨n, j, e2, _, hn⟩ := read_fin Ieee.double hf
  have hneg : Ord.neg Ieee.double y = false := by unfold Ord.neg; rw [dsw, Nat.div_eq_of_lt (by omega)]; rfl
  rw [hneg] at e2
  have hn0 : n ≠ 0 := by
    rintro rfl
    rw [Nat.zero_mul] at hn
    have h3 : rung Ieee.double y = y := by unfold rung; rw [dsw]; exact hya
    rw [h3] at hn
    have := mg_lt Ieee.double (show 0 < y by omega)
    omega
  right
  have hfb : floatBits .quo .f64 x y = ((Ieee.double.read x).quotient 54 (Ieee.double.read y)).map Ieee.double.write := rfl
  unfold fop
  rw [hfb, e1, e2]
  simp only [Datum.quotient, if_neg hn0, Option.map_some, Option.getD_some]
  show ab (Ieee.double.nearest _ _ _) = 0 ∨ _
  refine near_ng _ ?_
  rcases h0 with h0 | h0
  · left; rw [h0, Nat.zero_shiftLeft, Nat.zero_div, Nat.zero_mod]; rfl
  · right; rw [h0]; rfl
theorem ps_add {A z : Nat} (hA : A < 4607182418800017408) (hz : ng A z) : ps (fop .add .f64 4607182418800017408 z) := by
  rcases hz with hz | ⟨hz, hs⟩
  · exact .inl (fop_nan_r _ _ hz)
  right
  obtain ⟨s, m, i, e1, hi, hm, h0⟩ := ng_read (by omega) hz hs
  have e2 : Ieee.double.read 4607182418800017408 = .number false 4503599627370496 (-52) := by decide +kernel
  have hfb : floatBits .add .f64 4607182418800017408 z = ((Ieee.double.read 4607182418800017408).sum (Ieee.double.read z)).map Ieee.double.write := rfl
  unfold fop
  rw [hfb, e1, e2]
  simp only [Datum.sum, Option.map_some, Option.getD_some]
  obtain ⟨b, hb⟩ : ∃ b, b = min (-52) i := ⟨_, rfl⟩
  have hb1 : b ≤ -52 := by rw [hb]; exact Int.min_le_left _ _
  have hb2 : b ≤ i := by rw [hb]; exact Int.min_le_right _ _
  have hb3 : -1074 ≤ b := by rw [hb]; omega
  rw [← hb]
  clear hb
  obtain ⟨c, hc⟩ : ∃ c : Nat, c = 1022 := ⟨_, rfl⟩
  have hone : mg Ieee.double 4607182418800017408 = 4503599627370496 * 2 ^ c := by subst hc; decide +kernel
  have hlt := mg_lt Ieee.double hA
  rw [hone] at hlt
  have ha : 4503599627370496 * 2 ^ (-52 - b).toNat * 2 ^ (b + 1074).toNat = 4503599627370496 * 2 ^ c := by
    rw [Nat.mul_assoc, ← Nat.pow_add, show (-52 - b).toNat + (b + 1074).toNat = c by omega]
  have hbm : m * 2 ^ (i - b).toNat * 2 ^ (b + 1074).toNat = m * 2 ^ (i + 1074).toNat := by
    rw [Nat.mul_assoc, ← Nat.pow_add, show (i - b).toNat + (b + 1074).toNat = (i + 1074).toNat by omega]
  have hl : m * 2 ^ (i - b).toNat < 4503599627370496 * 2 ^ (-52 - b).toNat := by
    refine Nat.lt_of_mul_lt_mul_right (a := 2 ^ (b + 1074).toNat) ?_
    rw [ha, hbm]; omega
  have ht : Ieee.signed false 4503599627370496 (-52 - b).toNat + Ieee.signed s m (i - b).toNat = ((4503599627370496 * 2 ^ (-52 - b).toNat - m * 2 ^ (i - b).toNat : Nat) : Int) := by
    unfold Ieee.signed
    rw [if_neg (by simp), Nat.shiftLeft_eq, Nat.shiftLeft_eq]
    generalize 4503599627370496 * 2 ^ (-52 - b).toNat = u at *
    generalize 2 ^ (i - b).toNat = v at *
    rcases h0 with h0 | h0
    · subst h0; rw [Nat.zero_mul]; split <;> simp
    · rw [if_pos h0]; omega
  rw [ht]
  generalize hq : 4503599627370496 * 2 ^ (-52 - b).toNat - m * 2 ^ (i - b).toNat = q
  have hq0 : q ≠ 0 := by omega
  have hq1 : q ≤ 4503599627370496 * 2 ^ (-52 - b).toNat := by omega
  show Ieee.double.nearest _ _ _ ≤ _
  rw [if_neg (by omega), show decide ((q : Int) < 0) = false from decide_eq_false (by omega), near_false, Int.natAbs_natCast]
  refine near_le _ _ _ (by decide +kernel) ?_
  rw [show (-1074 - b).toNat = 0 by omega, Nat.pow_zero, Nat.mul_one, hone, ← ha]
  exact Nat.mul_le_mul_right _ hq1
/-! ### the function -/
theorem tt_ng {x : Nat} (hx : ng 4641240890982006784 x) : ng 4605212093963042818 (tt x) :=
  ng_quo (D := 4643211215818981376) (by decide +kernel) (by decide +kernel) (by decide +kernel) (by decide +kernel) hx (by decide +kernel)
theorem pt_ps {t : Nat} (ht : ng 4605212093963042818 t) : ∀ j, j ≤ 12 → ps (pt t j)
  | 0, _ => .inr (Nat.le_refl _)
  | j + 1, hj => by
    have ih := pt_ps ht j (by omega)
    have k1 : ng 4605212093963042818 (fop .mul .f64 t (pt t j)) := ng_mul (by decide +kernel) (by decide +kernel) (by decide +kernel) ht ih
    have hk : ∀ j, j < 12 → 4607182418800017408 ≤ kw (12 - j) ∧ kw (12 - j) < 9218868437227405312 := by decide +kernel
    have k2 : ng 4605212093963042820 (fop .quo .f64 (fop .mul .f64 t (pt t j)) (kw (12 - j))) := ng_quo (D := 4607182418800017408) (by decide +kernel) (by decide +kernel) (by decide +kernel) (by decide +kernel) k1 (hk j (by omega))
    exact ps_add (by decide +kernel) k2
theorem sq_ps {p : Nat} (h : bd 4607182418800017408 p) : ∀ j, bd 4607182418800017408 (sq p j)
  | 0 => h
  | j + 1 => bd_mul (by decide +kernel) (by decide +kernel) (by decide +kernel) (by decide +kernel) (sq_ps h j) (sq_ps h j)
theorem ex_one {x : Nat} (hx : ng 4641240890982006784 x) : bd 4607182418800017408 (ex x) := sq_ps (ps_bd (pt_ps (tt_ng hx) 12 (Nat.le_refl _))) 8
theorem ex_ovf {x : Nat} (hx : ng 4641240890982006784 x) : ovf (ex x) = false := ovf_bd (C := 4607182418800017408) (R := 1065353216) (by decide +kernel) (by decide +kernel) (by decide +kernel) (ex_one hx)
theorem ex_cn {y z : Nat} (h : cn .f64 y = cn .f64 z) : cn .f64 (ex y) = cn .f64 (ex z) := by
  have ht : cn .f64 (tt y) = cn .f64 (tt z) := by unfold tt; rw [fop_l .quo h]
  have hpt : ∀ j, cn .f64 (pt (tt y) j) = cn .f64 (pt (tt z) j) := by
    intro j
    induction j with
    | zero => rfl
    | succ j ih => show cn .f64 (fop .add .f64 4607182418800017408 (fop .quo .f64 (fop .mul .f64 (tt y) (pt (tt y) j)) (kw (12 - j)))) = cn .f64 (fop .add .f64 4607182418800017408 (fop .quo .f64 (fop .mul .f64 (tt z) (pt (tt z) j)) (kw (12 - j)))); rw [fop_l .mul ht, fop_r .mul ih]
  exact sq_cn (hpt 12) 8
/-! ### words of 32 bits -/
/-- none, or no greater than zero -/
def np (x : Nat) : Prop := isNaN .f32 x = true ∨ x % 2147483648 = 0 ∨ Ord.neg Ieee.single x = true
def far (x : Nat) : Prop := isNaN .f32 x = false ∧ Ord.neg Ieee.single x = true ∧ 1128792064 < x % 2147483648
theorem key (x : Nat) (h : isNaN .f32 x = false) : (∃ m e, FloatKind.f32.decode x = .number (Ord.neg Ieee.single x) m e ∧ -149 ≤ e ∧ m * 2 ^ (e + 149).toNat = mg Ieee.single (x % 2147483648) ∧ x % 2147483648 < 2139095040) ∨ (FloatKind.f32.decode x = .infinity (Ord.neg Ieee.single x) ∧ x % 2147483648 = 2139095040) := by
  have hl := (nan_iff .f32 x).1 h
  by_cases hf : x % 2147483648 < 2139095040
  · left
    obtain ⟨m, e, hr, he, hm⟩ := read_fin Ieee.single ((fin_iff .f32 x).2 hf)
    rw [slp] at he hm
    refine ⟨m, e, hr, he, ?_, hf⟩
    rw [show e + 149 = e - -149 by omega, hm]; unfold rung; rw [ssw]
  · right
    have hi : x % sw .f32 = ir .f32 := by show x % 2147483648 = 2139095040; have h3 : x % 2147483648 ≤ 2139095040 := hl; omega
    exact ⟨read_inf .f32 hi, hi⟩
theorem ord200 {x : Nat} (h : np x) : (FloatKind.f32.format.order x 1128792064 == some .gt) = false ∧ ((FloatKind.f32.format.order x 3276275712 == some .lt) = true ↔ far x) := by
  rcases h with h | h
  · rw [order_nan (.inl h), order_nan (.inl h)]
    exact ⟨rfl, by constructor <;> intro k; · cases k
                   · rw [k.1] at h; cases h⟩
  cases hn : isNaN .f32 x
  · have q1 : FloatKind.f32.format.read 1128792064 = .number false 13107200 (-16) := by decide +kernel
    have q2 : FloatKind.f32.format.read 3276275712 = .number true 13107200 (-16) := by decide +kernel
    rcases key x hn with ⟨m, e, hr, he, hm, hl⟩ | ⟨hr, hl⟩
    · have fx : Ord.fin Ieee.single x = true := (fin_iff .f32 x).2 hl
      have o1 : FloatKind.f32.format.order x 1128792064 = _ := order_fin Ieee.single fx (by decide +kernel)
      have o2 : FloatKind.f32.format.order x 3276275712 = _ := order_fin Ieee.single fx (by decide +kernel)
      have t1 : toZ Ieee.single 1128792064 = (mg Ieee.single 1128792064 : Nat) := by decide +kernel
      have t2 : toZ Ieee.single 3276275712 = -(mg Ieee.single 1128792064 : Nat) := by decide +kernel
      have t3 : toZ Ieee.single x = -(mg Ieee.single (x % 2147483648) : Nat) := by
        unfold toZ sg rung; rw [ssw]
        rcases h with h | h
        · rw [h, mg_zero]; split <;> simp
        · rw [if_pos h]
      have hpos : 0 < mg Ieee.single 1128792064 := by decide +kernel
      rw [o1, o2, t1, t2, t3]
      have hcmp : mg Ieee.single 1128792064 < mg Ieee.single (x % 2147483648) ↔ 1128792064 < x % 2147483648 := mg_lt_iff _ _ _
      generalize mg Ieee.single 1128792064 = M at *
      generalize mg Ieee.single (x % 2147483648) = X at *
      constructor
      · cases hc : compare (-(X : Int)) (M : Int)
        · rfl
        · rfl
        · have := Int.compare_eq_gt.1 hc; omega
      · constructor
        · intro k
          have k2 : compare (-(X : Int)) (-(M : Int)) = .lt := by simpa using k
          have k3 := Int.compare_eq_lt.1 k2
          have k4 := hcmp.1 (by omega)
          exact ⟨hn, by rcases h with h | h; · omega
                        · exact h, k4⟩
        · rintro ⟨_, _, k⟩
          have k3 := hcmp.2 k
          rw [Int.compare_eq_lt.2 (by omega : -(X : Int) < -(M : Int))]; rfl
    · have hs : Ord.neg Ieee.single x = true := by rcases h with h | h; · omega
                                                   · exact h
      have hr' : FloatKind.f32.format.read x = .infinity true := by rw [← hs]; exact hr
      unfold Format.order
      rw [hr', q1, q2]
      exact ⟨rfl, fun _ => ⟨hn, hs, by omega⟩, fun _ => rfl⟩
  · rw [order_nan (.inl hn), order_nan (.inl hn)]
    exact ⟨rfl, by constructor <;> intro k; · cases k
                   · rw [k.1] at hn; cases hn⟩
theorem near_ge2 (neg : Bool) {mag : Nat} (place : Int) {R : Nat} (h0 : mag ≠ 0) (hR : R ≤ 9218868437227405312) (h : mg Ieee.double R * 2 ^ (-1074 - place).toNat ≤ mag * 2 ^ (place + 1074).toNat) : R ≤ ab (Ieee.double.nearest neg mag place) := by
  have k := (nr_both Ieee.double neg place h0 R).2
  rw [dlp] at k
  have k := k (by rw [show place - -1074 = place + 1074 by omega]; exact h)
  rw [nearest_nr _ _ _ h0, dir, ab_word _ (Nat.min_le_right _ _)]
  omega
/-- a number of 32 bits that is no greater than zero, and no smaller than -200, widened -/
theorem wid_ng {x : Nat} (h : np x) (hf : ¬ far x) : ng 4641240890982006784 (wid x) := by
  cases hn : isNaN .f32 x
  · rcases h with h | h
    · rw [h] at hn; cases hn
    have hle : x % 2147483648 ≤ 1128792064 := by
      rcases h with h | h
      · omega
      · by_cases hc : 1128792064 < x % 2147483648
        · exact absurd ⟨hn, h, hc⟩ hf
        · omega
    refine ng_of (bd_wid (A := 1128792064) (by decide +kernel) (by decide +kernel) (by decide +kernel) (.inr hle)) ?_
    right
    rcases key x hn with ⟨m, e, hr, he, hm, hl⟩ | ⟨hr, hl⟩
    · unfold wid
      rw [if_neg (by rw [hn]; simp), hr]
      show ab (Ieee.double.nearest _ _ _) = 0 ∨ _
      refine near_ng _ ?_
      rcases h with h | h
      · left
        rw [h, mg_zero] at hm
        have := Nat.two_pow_pos (e + 149).toNat
        rcases Nat.mul_eq_zero.1 hm with h | h <;> omega
      · exact .inr h
    · omega
  · left; unfold wid; rw [hn]; exact isNaN_qn .f64
theorem wid_far {x : Nat} (h : far x) : isNaN .f64 (wid x) = false ∧ (FloatKind.f64.format.order (wid x) 4641240890982006784 == some .gt) = false ∧ (FloatKind.f64.format.order (wid x) 13864612927836782592 == some .lt) = true := by
  obtain ⟨hn, hs, hl⟩ := h
  rcases key x hn with ⟨m, e, hr, he, hm, hf⟩ | ⟨hr, hi⟩
  · have hw : wid x = Ieee.double.nearest true m e := by unfold wid; rw [if_neg (by rw [hn]; simp), hr, hs]; rfl
    have hb : bd 5183643171103440896 (wid x) := bd_wid (A := 2139095039) (by decide +kernel) (by decide +kernel) (by decide +kernel) (.inr (by omega))
    have hnn : isNaN .f64 (wid x) = false := by rw [hw]; exact not_nan_nearest .f64 _ _ _
    have hb2 : ab (wid x) ≤ 5183643171103440896 := hb.resolve_left (by rw [hnn]; simp)
    have hge : 4641240891518877696 ≤ ab (wid x) := by
      rw [hw]
      have hm0 : m ≠ 0 := by
        rintro rfl
        rw [Nat.zero_mul] at hm
        have := mg_lt Ieee.single (show 0 < x % 2147483648 by omega)
        omega
      refine near_ge2 _ _ hm0 (by decide +kernel) ?_
      have hmm : mg Ieee.single 1128792065 ≤ mg Ieee.single (x % 2147483648) := mg_le (by omega)
      rw [← hm] at hmm
      have hk : mg Ieee.double 4641240891518877696 = mg Ieee.single 1128792065 * 2 ^ 925 := by decide +kernel
      rw [show (-1074 - e).toNat = 0 by omega, Nat.pow_zero, Nat.mul_one, hk, show (e + 1074).toNat = (e + 149).toNat + 925 by omega, Nat.pow_add, ← Nat.mul_assoc]
      exact Nat.mul_le_mul_right _ hmm
    have hng : Ord.neg Ieee.double (wid x) = true := by rw [hw]; exact near_true _ _
    generalize wid x = z at *
    have fz : Ord.fin Ieee.double z = true := by unfold Ord.fin rung; rw [dsw, dir]; unfold ab at hb2; exact decide_eq_true (by omega)
    have o1 : FloatKind.f64.format.order z 4641240890982006784 = _ := order_fin Ieee.double fz (by decide +kernel)
    have o2 : FloatKind.f64.format.order z 13864612927836782592 = _ := order_fin Ieee.double fz (by decide +kernel)
    have t1 : toZ Ieee.double 4641240890982006784 = (mg Ieee.double 4641240890982006784 : Nat) := by decide +kernel
    have t2 : toZ Ieee.double 13864612927836782592 = -(mg Ieee.double 4641240890982006784 : Nat) := by decide +kernel
    have t3 : toZ Ieee.double z = -(mg Ieee.double (ab z) : Nat) := by unfold toZ sg rung ab; rw [dsw, if_pos hng]
    have hlt : mg Ieee.double 4641240890982006784 < mg Ieee.double (ab z) := mg_lt _ (by omega)
    refine ⟨hnn, ?_, ?_⟩
    · rw [o1, t1, t3]
      generalize mg Ieee.double 4641240890982006784 = M at *
      generalize mg Ieee.double (ab z) = X at *
      rw [Int.compare_eq_lt.2 (by omega : -(X : Int) < (M : Int))]; rfl
    · rw [o2, t2, t3]
      generalize mg Ieee.double 4641240890982006784 = M at *
      generalize mg Ieee.double (ab z) = X at *
      rw [Int.compare_eq_lt.2 (by omega : -(X : Int) < -(M : Int))]; rfl
  · have hw : wid x = 18442240474082181120 := by unfold wid; rw [if_neg (by rw [hn]; simp), hr, hs]; decide +kernel
    rw [hw]; decide +kernel
theorem ng_ord {z : Nat} (h : ng 4641240890982006784 z) : (FloatKind.f64.format.order z 4641240890982006784 == some .gt) = false ∧ (FloatKind.f64.format.order z 13864612927836782592 == some .lt) = false := by
  rcases h with h | ⟨hb, hs⟩
  · rw [order_nan (.inl h), order_nan (.inl h)]; exact ⟨rfl, rfl⟩
  · have fz : Ord.fin Ieee.double z = true := by unfold Ord.fin rung; rw [dsw, dir]; unfold ab at hb; exact decide_eq_true (by omega)
    have o1 : FloatKind.f64.format.order z 4641240890982006784 = _ := order_fin Ieee.double fz (by decide +kernel)
    have o2 : FloatKind.f64.format.order z 13864612927836782592 = _ := order_fin Ieee.double fz (by decide +kernel)
    have t1 : toZ Ieee.double 4641240890982006784 = (mg Ieee.double 4641240890982006784 : Nat) := by decide +kernel
    have t2 : toZ Ieee.double 13864612927836782592 = -(mg Ieee.double 4641240890982006784 : Nat) := by decide +kernel
    have t3 : toZ Ieee.double z = -(mg Ieee.double (ab z) : Nat) := by
      unfold toZ sg rung ab; rw [dsw]
      rcases hs with h | h
      · unfold ab at h; rw [h, mg_zero]; split <;> simp
      · rw [if_pos h]
    have hlt : mg Ieee.double (ab z) ≤ mg Ieee.double 4641240890982006784 := mg_le hb
    have hpos : 0 < mg Ieee.double 4641240890982006784 := by decide +kernel
    rw [o1, o2, t1, t2, t3]
    generalize mg Ieee.double 4641240890982006784 = M at *
    generalize mg Ieee.double (ab z) = X at *
    constructor
    · rw [Int.compare_eq_lt.2 (by omega : -(X : Int) < (M : Int))]; rfl
    · cases hc : compare (-(X : Int)) (-(M : Int))
      · have := Int.compare_eq_lt.1 hc; omega
      · rfl
      · rfl
/-- the program's and the reference's value -/
def en (x : Nat) : Nat := if (FloatKind.f32.format.order x 3276275712 == some .lt) = true then 0 else nar (ex (wid x))
def Nv (x : Nat) (w : World) (e : Ending) (w' : World) : Prop := ∃ u m, e = .returned (.float .f32 u) ∧ w' = w.drewN m ∧ cn .f32 u = cn .f32 (en x)
theorem en_end {x p : Nat} (h : np x) (h2 : (FloatKind.f32.format.order x 3276275712 == some .lt) = false) {y : Nat} (hy : cn .f64 y = cn .f64 (wid x)) (hp : cn .f64 p = cn .f64 (ex y)) (w : World) : cn .f32 (fnar p w) = cn .f32 (en x) := by
  have hg := wid_ng h (fun hf => by rw [(ord200 h).2.2 hf] at h2; cases h2)
  have he : cn .f64 p = cn .f64 (ex (wid x)) := hp.trans (ex_cn hy)
  have ho : ovf p = false := by rw [← ovf_cn, he, ovf_cn]; exact ex_ovf hg
  rw [cn_fnar _ _ ho, he, nar_cn]
  unfold en
  rw [if_neg (by rw [h2]; simp), cn_nar]
theorem expNI (x : Nat) (h : np x) (w : World) : Calls Try.prog 61 #[.float .f32 x] w (Nv x w) := by
  have h1 := (ord200 h).1
  go_enter Try.func61, Try.ntmps61
  cases h2 : (FloatKind.f32.format.order x 3276275712 == some .lt)
  · have H2 := Lib.hid h2
    go_wp2_with fail
    refine (expI _ _).mono ?_
    rintro e w' ⟨u, m, rfl, rfl, hu⟩
    have HU := Lib.hid hu
    clear hu
    go_wp2
    go_ret
    exact ⟨_, _, rfl, rfl, en_end h H2.out (fwid_wid _ _) HU.out _⟩
  · have H2 := Lib.hid h2
    go_wp2
    go_ret
    exact ⟨0, 0, rfl, rfl, by unfold en; rw [if_pos H2.out]⟩
theorem narN (x : Nat) (w : World) : Calls Try.prog 54 #[.float .f64 x] w fun e w' => e = .returned (.float .f32 (fnar x w)) ∧ w' = w.drewN (ndr x) := by
  go_enter Try.func54, Try.ntmps54
  go_wp2
  go_ret
  exact ⟨rfl, rfl⟩
theorem expZ (x : Nat) (w : World) (hn : isNaN .f64 x = false) (h1 : (FloatKind.f64.format.order x 4641240890982006784 == some .gt) = false) (h2 : (FloatKind.f64.format.order x 13864612927836782592 == some .lt) = true) : Calls Try.prog 60 #[.float .f64 x] w fun e w' => e = .returned (.float .f64 0) ∧ w' = w := by
  go_enter Try.func60, Try.ntmps60
  go_wp2
  go_ret
  exact ⟨rfl, rfl⟩
theorem expNS (x : Nat) (h : np x) (w : World) : Calls Try.prog 57 #[.float .f32 x] w (Nv x w) := by
  go_enter Try.func57, Try.ntmps57
  go_wp2_with fail
  by_cases hf : far x
  · obtain ⟨g1, g2, g3⟩ := wid_far hf
    rw [fwid_of hf.1]
    refine (expZ _ _ g1 g2 g3).mono ?_
    rintro e w' ⟨rfl, rfl⟩
    go_wp2_with fail
    refine (narN _ _).mono ?_
    rintro e w' ⟨rfl, rfl⟩
    go_wp2
    go_ret
    refine ⟨_, _, rfl, rfl, ?_⟩
    have hz : ∀ w, fnar 0 w = 0 := fun w => by
      have a1 : isNaN .f64 0 = false := by decide +kernel
      have a2 : ovf 0 = false := by decide +kernel
      unfold fnar; rw [a1, a2, if_neg (by simp), if_neg (by simp)]; decide +kernel
    rw [hz]; unfold en; rw [if_pos ((ord200 h).2.2 hf)]
  · have hlt : (FloatKind.f32.format.order x 3276275712 == some .lt) = false := by
      cases hc : (FloatKind.f32.format.order x 3276275712 == some .lt)
      · rfl
      · exact absurd ((ord200 h).2.1 hc) hf
    have HL := Lib.hid hlt
    clear hlt
    have hg := wid_ng h hf
    cases hn : isNaN .f32 x
    · obtain ⟨g1, g2⟩ := ng_ord hg
      rw [fwid_of hn]
      have hnn : isNaN .f64 (wid x) = false := by unfold wid; rw [if_neg (by rw [hn]; simp)]; exact not_nan_write .f64 (by simpa [isNaN] using hn)
      refine (expS _ _ hnn g1 g2).mono ?_
      rintro e w' ⟨u, m, rfl, rfl, hu⟩
      have HU := Lib.hid hu
      clear hu g1 g2
      go_wp2_with fail
      refine (narN _ _).mono ?_
      rintro e w' ⟨rfl, rfl⟩
      go_wp2
      go_ret
      exact ⟨_, _, rfl, rfl, en_end h HL.out rfl HU.out _⟩
    · have hnn : isNaN .f64 (fwid x w) = true := by rw [isNaN_fwid]; unfold wid; rw [hn]; exact isNaN_qn .f64
      refine (expN _ _ hnn).mono ?_
      rintro e w' ⟨u, m, rfl, rfl, hu⟩
      have HU := Lib.hid hu
      clear hu
      go_wp2_with fail
      refine (narN _ _).mono ?_
      rintro e w' ⟨rfl, rfl⟩
      go_wp2
      go_ret
      exact ⟨_, _, rfl, rfl, en_end h HL.out (fwid_wid _ _) HU.out _⟩
end Go.Proofs.Ytfgmpodmbbnijaa
