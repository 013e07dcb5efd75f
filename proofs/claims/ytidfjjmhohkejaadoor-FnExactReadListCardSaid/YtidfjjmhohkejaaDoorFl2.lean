/- Comparisons of words with words: when two are equal, and how a word stands to zero. -/
import Derived.Test.YtidfjjmhohkejaaDoorFl
import Derived.Test.YtidfjjmhohkejaaDoorOrd
namespace Go.Fl
open Go.Ord
open Ieee (Datum Format)

theorem k_format32 : FloatKind.f32.format = Ieee.single := rfl
theorem k_format64 : FloatKind.f64.format = Ieee.double := rfl
def ir : FloatKind → Nat
  | .f32 => 2139095040
  | .f64 => 9218868437227405312
def sw : FloatKind → Nat
  | .f32 => 2147483648
  | .f64 => 9223372036854775808
theorem ir_eq (k : FloatKind) : k.format.infRung = ir k := by cases k <;> decide +kernel
theorem sw_eq (k : FloatKind) : k.format.signWeight = sw k := by cases k <;> decide +kernel
theorem sw_pos (k : FloatKind) : 0 < sw k ∧ ir k < sw k ∧ 0 < ir k := by cases k <;> decide +kernel

theorem nan_iff (k : FloatKind) (b : Nat) : isNaN k b = false ↔ b % sw k ≤ ir k := by
  have := isNaN_iff k b
  rw [ir_eq, sw_eq] at this
  rw [Bool.eq_false_iff, ne_eq, this]; omega
theorem fin_iff (k : FloatKind) (b : Nat) : Ord.fin k.format b = true ↔ b % sw k < ir k := by
  unfold Ord.fin rung; rw [ir_eq, sw_eq]; simp
theorem read_inf (k : FloatKind) {b : Nat} (h : b % sw k = ir k) : k.format.read b = .infinity (Ord.neg k.format b) := by
  have hp := infRung_pos k
  unfold Format.read Ord.neg
  dsimp only
  rw [ir_eq, sw_eq] at *
  rw [h, if_neg (by omega), if_neg (by omega), if_pos rfl]
theorem neg_iff (k : FloatKind) {b : Nat} (hb : b < 2 * sw k) : Ord.neg k.format b = decide (sw k ≤ b) := by
  have hp := sw_pos k
  unfold Ord.neg; rw [sw_eq]
  by_cases h : sw k ≤ b
  · have : b / sw k = 1 := by
      rw [Nat.div_eq_iff (by omega)]; omega
    rw [this]; simp [h]
  · rw [Nat.div_eq_of_lt (by omega)]; simp [h]
theorem rung_eq (k : FloatKind) (b : Nat) : rung k.format b = b % sw k := by unfold rung; rw [sw_eq]
theorem mod_sw (k : FloatKind) {b : Nat} (hb : b < 2 * sw k) : b % sw k = if sw k ≤ b then b - sw k else b := by
  have hp := sw_pos k
  split
  · rename_i h; rw [Nat.mod_eq_sub_mod h, Nat.mod_eq_of_lt (by omega)]
  · exact Nat.mod_eq_of_lt (by omega)

theorem toZ_zero_iff (k : FloatKind) (b : Nat) : toZ k.format b = 0 ↔ b % sw k = 0 := by
  unfold toZ sg
  rw [rung_eq]
  have : mg k.format (b % sw k) = 0 ↔ b % sw k = 0 := ⟨fun h => mg_inj k.format (by rw [h, mg_zero]), fun h => by rw [h, mg_zero]⟩
  split <;> omega

theorem compare_eq_iff (a b : Int) : compare a b = .eq ↔ a = b := by
  simp only [compare, compareOfLessAndEq]
  split
  · simp; omega
  · split
    · simp; assumption
    · simp; assumption

theorem toZ_eq {k : FloatKind} {a b : Nat} (ha : a < 2 * sw k) (hb : b < 2 * sw k) (h : toZ k.format a = toZ k.format b) : a = b ∨ (a % sw k = 0 ∧ b % sw k = 0) := by
  by_cases hz : toZ k.format a = 0
  · exact .inr ⟨(toZ_zero_iff k a).1 hz, (toZ_zero_iff k b).1 (by omega)⟩
  · left
    unfold toZ sg at h hz
    rw [neg_iff k ha, rung_eq] at h hz
    rw [neg_iff k hb, rung_eq] at h
    have ma := mod_sw k ha
    have mb := mod_sw k hb
    by_cases h1 : sw k ≤ a <;> by_cases h2 : sw k ≤ b <;> simp [h1, h2] at h hz ma mb
    · have := mg_inj k.format (a := a % sw k) (b := b % sw k) (by omega); omega
    · omega
    · omega
    · have := mg_inj k.format (a := a % sw k) (b := b % sw k) (by omega); omega

/-- TWO NUMBERS ARE EQUAL: one word, or two zeros. -/
theorem order_eq {k : FloatKind} {a b : Nat} (ha : a < 2 * sw k) (hb : b < 2 * sw k) (na : isNaN k a = false) (nb : isNaN k b = false) (h : k.format.order a b = some .eq) : a = b ∨ (a % sw k = 0 ∧ b % sw k = 0) := by
  rw [nan_iff] at na nb
  by_cases fa : a % sw k < ir k <;> by_cases fb : b % sw k < ir k
  · rw [order_fin _ ((fin_iff k a).2 fa) ((fin_iff k b).2 fb)] at h
    exact toZ_eq ha hb ((compare_eq_iff _ _).1 (Option.some.inj h))
  · obtain ⟨m, e, hr, _, _⟩ := read_fin k.format ((fin_iff k a).2 fa)
    unfold Format.order at h
    rw [hr, read_inf k (b := b) (by omega)] at h
    simp only [Datum.order] at h
    split at h <;> cases h
  · obtain ⟨m, e, hr, _, _⟩ := read_fin k.format ((fin_iff k b).2 fb)
    unfold Format.order at h
    rw [hr, read_inf k (b := a) (by omega)] at h
    simp only [Datum.order] at h
    split at h <;> cases h
  · unfold Format.order at h
    rw [read_inf k (b := a) (by omega), read_inf k (b := b) (by omega), neg_iff k ha, neg_iff k hb] at h
    have ma := mod_sw k ha
    have mb := mod_sw k hb
    by_cases h1 : sw k ≤ a <;> by_cases h2 : sw k ≤ b <;> simp [h1, h2, Datum.order, compare, compareOfLessAndEq] at h ma mb <;> left <;> omega

/-- HOW A WORD STANDS TO ZERO. -/
theorem order_zero {k : FloatKind} {a : Nat} (ha : a < 2 * sw k) (na : isNaN k a = false) :
    k.format.order a 0 = some (if a = 0 ∨ a = sw k then .eq else if a < sw k then .gt else .lt) := by
  have hp := sw_pos k
  rw [nan_iff] at na
  have ma := mod_sw k ha
  by_cases fa : a % sw k < ir k
  · have f0 : Ord.fin k.format 0 = true := (fin_iff k 0).2 (by rw [Nat.zero_mod]; omega)
    rw [order_fin _ ((fin_iff k a).2 fa) f0]
    have z0 : toZ k.format 0 = 0 := (toZ_zero_iff k 0).2 (Nat.zero_mod _)
    rw [z0]
    congr 1
    by_cases hz : a % sw k = 0
    · rw [(toZ_zero_iff k a).2 hz, if_pos (by split at ma <;> omega)]; rfl
    · have hm : 0 < mg k.format (a % sw k) := by have := mg_lt k.format (a := 0) (b := a % sw k) (by omega); rw [mg_zero] at this; exact this
      have hne : ¬ (a = 0 ∨ a = sw k) := by
        rintro (h | h)
        · subst h; exact hz (Nat.zero_mod _)
        · subst h; exact hz (Nat.mod_self _)
      rw [if_neg hne]
      unfold toZ sg
      rw [neg_iff k ha, rung_eq]
      by_cases h1 : sw k ≤ a
      · have e1 : (if a < sw k then Ordering.gt else Ordering.lt) = .lt := if_neg (by omega)
        rw [e1]
        simp only [h1, decide_true, if_true, compare, compareOfLessAndEq]
        exact if_pos (by omega)
      · have e1 : (if a < sw k then Ordering.gt else Ordering.lt) = .gt := if_pos (by omega)
        rw [e1]
        simp only [h1, decide_false, Bool.false_eq_true, if_false, compare, compareOfLessAndEq]
        rw [if_neg (by omega), if_neg (by omega)]
  · have hi : a % sw k = ir k := by omega
    have e0 : k.format.read 0 = .number false 0 k.format.leastPlace := by cases k <;> decide +kernel
    unfold Format.order
    rw [read_inf k hi, e0, neg_iff k ha]
    simp only [Datum.order]
    have hne : ¬ (a = 0 ∨ a = sw k) := by split at ma <;> omega
    rw [if_neg hne]
    by_cases h1 : sw k ≤ a
    · have e1 : (if a < sw k then Ordering.gt else Ordering.lt) = .lt := if_neg (by omega)
      rw [e1]; simp [h1]
    · have e1 : (if a < sw k then Ordering.gt else Ordering.lt) = .gt := if_pos (by omega)
      rw [e1]; simp [h1]

theorem fwid_of {b : Nat} (h : isNaN .f32 b = false) (w : World) : fwid b w = wid b := by unfold fwid wid; rw [h]; rfl
theorem wdr_of {b : Nat} (h : isNaN .f32 b = false) : wdr b = 0 := by unfold wdr; rw [h]; rfl
theorem fnar_of {b : Nat} (h : isNaN .f64 b = false) (ho : ovf b = false) (w : World) : fnar b w = nar b := by unfold fnar nar; rw [h, ho]; rfl
theorem ndr_of {b : Nat} (h : isNaN .f64 b = false) (ho : ovf b = false) : ndr b = 0 := by unfold ndr; rw [h, ho]; rfl
theorem fnar_inf (w : World) : fnar 9218868437227405312 w = 2139095040 := by
  rw [fnar_of (by decide +kernel) (by decide +kernel)]; decide +kernel
theorem ndr_inf : ndr 9218868437227405312 = 0 := by decide +kernel
theorem nan_cn_eq {k : FloatKind} {a b : Nat} (ha : isNaN k a = true) (hb : isNaN k b = true) : cn k a = cn k b := by rw [cn_of_nan ha, cn_of_nan hb]
theorem sub_self {k : FloatKind} {x : Nat} (h : x % sw k < ir k) : floatBits .sub k x x = some 0 := by
  obtain ⟨m, e, hr, _, _⟩ := read_fin k.format ((fin_iff k x).2 h)
  show (((k.format.read x).sum (k.format.read x).opposite)).map k.format.write = some 0
  rw [hr]
  have hz : ∀ s : Bool, Ieee.signed s m (e - min e e).toNat + Ieee.signed (!s) m (e - min e e).toNat = 0 := by
    intro s; cases s <;> simp [Ieee.signed] <;> omega
  simp only [Datum.opposite, Datum.sum, hz, if_true, Option.map_some]
  cases Ord.neg k.format x <;> cases k <;> rfl
/-- x - x is zero just where x is finite -/
theorem fin_sub {k : FloatKind} (x : Nat) : (k.format.order (fop .sub k x x) 0 == some .eq) = decide (x % sw k < ir k) := by
  have hp := sw_pos k
  by_cases h : x % sw k < ir k
  · rw [decide_eq_true h]
    unfold fop; rw [sub_self h]
    show (k.format.order 0 0 == some .eq) = true
    rw [order_self ((nan_iff k 0).2 (by rw [Nat.zero_mod]; omega))]; rfl
  · rw [decide_eq_false h]
    have hn : floatBits .sub k x x = none := by
      by_cases hi : x % sw k = ir k
      · show (((k.format.read x).sum (k.format.read x).opposite)).map k.format.write = none
        rw [read_inf k hi]
        cases Ord.neg k.format x <;> rfl
      · exact floatBits_nan_left _ _ (by cases hn : isNaN k x; · have := (nan_iff k x).1 hn; omega
                                         · rfl)
    unfold fop; rw [hn]
    show (k.format.order (qn k) 0 == some .eq) = false
    rw [order_nan (.inl (isNaN_qn k))]; rfl

theorem fin_yes {x : Nat} (h : x % 2147483648 < 2139095040) : (FloatKind.f32.format.order (fop .sub .f32 x x) 0 == some .eq) = true := by rw [fin_sub]; exact decide_eq_true h
theorem fin_no {x : Nat} (h : ¬ x % 2147483648 < 2139095040) : (FloatKind.f32.format.order (fop .sub .f32 x x) 0 == some .eq) = false := by rw [fin_sub]; exact decide_eq_false h
theorem nan_ge {x : Nat} (hn : isNaN .f32 x = true) : ¬ x % 2147483648 < 2139095040 := by have := (isNaN_f32 x).1 hn; omega
theorem nan_le {x : Nat} (hn : isNaN .f32 x = false) : x % 2147483648 ≤ 2139095040 := (nan_iff .f32 x).1 hn
theorem not_nan {x : Nat} (h : x % 2147483648 ≤ 2139095040) : isNaN .f32 x = false := (nan_iff .f32 x).2 h
theorem cnw {a b : Nat} (h : cn .f32 a = cn .f32 b) (w w' : World) : cn .f64 (fwid a w) = cn .f64 (fwid b w') := by rw [cn_fwid, cn_fwid, h]
theorem oz_eq {x : Nat} (h : x = 0 ∨ x = 2147483648) : FloatKind.f32.format.order x 0 = some .eq := by rcases h with rfl | rfl <;> decide +kernel
theorem oz_gt {x : Nat} (h1 : 0 < x) (h2 : x < 2147483648) (hn : isNaN .f32 x = false) : FloatKind.f32.format.order x 0 = some .gt := by
  rw [order_zero (k := .f32) (a := x) (by show x < 4294967296; omega) hn, if_neg (by show ¬(x = 0 ∨ x = 2147483648); omega), if_pos (show x < sw .f32 from h2)]
theorem oz_lt {x : Nat} (h1 : 2147483648 < x) (h2 : x < 4294967296) (hn : isNaN .f32 x = false) : FloatKind.f32.format.order x 0 = some .lt := by
  rw [order_zero (k := .f32) (a := x) h2 hn, if_neg (by show ¬(x = 0 ∨ x = 2147483648); omega), if_neg (by show ¬ x < 2147483648; omega)]
end Go.Fl
