/- Floats up to the bits of a not-a-number: canonical words, the operations on them, and what the machine's operations give. -/
import Derived.WalkKit
import Derived.Deep.QuietTactic
import Derived.Laws.Cover2
import Derived.Laws.FloatArith
namespace Go.Fl
open Go.RowKit
open Ieee (Datum Format)

/-! ### not-a-numbers -/
def isNaN (k : FloatKind) (b : Nat) : Bool := (k.decode b).isNaN
/-- the one not-a-number that stands for all -/
def qn : FloatKind → Nat
  | .f32 => 2143289344
  | .f64 => 9221120237041090560
def cn (k : FloatKind) (b : Nat) : Nat := if isNaN k b then qn k else b

theorem isNaN_qn (k : FloatKind) : isNaN k (qn k) = true := by cases k <;> decide +kernel
theorem isNaN_cn (k : FloatKind) (b : Nat) : isNaN k (cn k b) = isNaN k b := by
  unfold cn; split
  · rename_i h; rw [isNaN_qn, h]
  · rfl
theorem cn_cn (k : FloatKind) (b : Nat) : cn k (cn k b) = cn k b := by
  show (if isNaN k (cn k b) then qn k else cn k b) = cn k b
  rw [isNaN_cn]; unfold cn; split <;> rfl
theorem cn_of_not {k : FloatKind} {b : Nat} (h : isNaN k b = false) : cn k b = b := by unfold cn; rw [h]; rfl
theorem cn_of_nan {k : FloatKind} {b : Nat} (h : isNaN k b = true) : cn k b = qn k := by unfold cn; rw [h]; rfl
theorem cn_eq_nan {k : FloatKind} {a b : Nat} (h : cn k a = cn k b) : isNaN k a = isNaN k b := by
  rw [← isNaN_cn k a, ← isNaN_cn k b, h]

theorem infRung_pos (k : FloatKind) : k.format.binade ≤ k.format.infRung ∧ k.format.infRung < k.format.signWeight := by cases k <;> decide +kernel

theorem isNaN_iff (k : FloatKind) (b : Nat) : isNaN k b = true ↔ k.format.infRung < b % k.format.signWeight := by
  have h := infRung_pos k
  unfold isNaN FloatKind.decode Format.read
  dsimp only
  split
  · simp [Datum.isNaN]; omega
  · split
    · simp [Datum.isNaN]; omega
    · split
      · simp [Datum.isNaN]; omega
      · simp [Datum.isNaN]; omega

theorem isNaN_f32 (b : Nat) : isNaN .f32 b = true ↔ 2139095040 < b % 2147483648 := by
  have := isNaN_iff .f32 b
  rw [this]
  have e1 : FloatKind.f32.format.infRung = 2139095040 := by decide +kernel
  have e2 : FloatKind.f32.format.signWeight = 2147483648 := by decide +kernel
  rw [e1, e2]
theorem isNaN_f64 (b : Nat) : isNaN .f64 b = true ↔ 9218868437227405312 < b % 9223372036854775808 := by
  have := isNaN_iff .f64 b
  rw [this]
  have e1 : FloatKind.f64.format.infRung = 9218868437227405312 := by decide +kernel
  have e2 : FloatKind.f64.format.signWeight = 9223372036854775808 := by decide +kernel
  rw [e1, e2]

theorem not_nan_word (k : FloatKind) (neg : Bool) {r : Nat} (h : r ≤ k.format.infRung) : isNaN k (k.format.word neg r) = false := by
  have hp := infRung_pos k
  rw [Bool.eq_false_iff]
  intro hc
  rw [isNaN_iff] at hc
  unfold Format.word at hc
  split at hc
  · rw [Nat.add_mod_left, Nat.mod_eq_of_lt (by omega)] at hc; omega
  · rw [Nat.mod_eq_of_lt (by omega)] at hc; omega

theorem not_nan_nearest (k : FloatKind) (neg : Bool) (m : Nat) (p : Int) : isNaN k (k.format.nearest neg m p) = false := by
  unfold Format.nearest
  dsimp only
  split
  · exact not_nan_word k neg (Nat.zero_le _)
  · exact not_nan_word k neg (Nat.min_le_right ..)

theorem not_nan_write (k : FloatKind) {d : Datum} (h : d.isNaN = false) : isNaN k (k.format.write d) = false := by
  cases d with
  | number neg m p => exact not_nan_nearest k neg m p
  | infinity neg => exact not_nan_word k neg (Nat.le_refl _)
  | nan neg f => simp [Datum.isNaN] at h

theorem sum_not_nan {a b d : Datum} (h : a.sum b = some d) : d.isNaN = false := by
  cases a <;> cases b <;> simp only [Datum.sum] at h <;> first | (cases h; done) | (cases h; rfl) | (split at h <;> cases h; rfl)
theorem product_not_nan {a b d : Datum} (h : a.product b = some d) : d.isNaN = false := by
  cases a <;> cases b <;> simp only [Datum.product] at h <;> first | (cases h; done) | (cases h; rfl) | (split at h <;> cases h; rfl)
theorem quotient_not_nan {n : Nat} {a b d : Datum} (h : a.quotient n b = some d) : d.isNaN = false := by
  cases a <;> cases b <;> simp only [Datum.quotient] at h <;> first | (cases h; done) | (cases h; rfl) | (split at h <;> first | (cases h; rfl) | (split at h <;> cases h; rfl))
theorem root_not_nan {n : Nat} {a d : Datum} (h : a.root n = some d) : d.isNaN = false := by
  cases a <;> simp only [Datum.root] at h <;> first | (cases h; done) | (split at h <;> first | (cases h; rfl) | (cases h; done) | (split at h <;> first | (cases h; done) | (cases h; rfl)))

theorem isNaN_nan {k : FloatKind} {b : Nat} (h : isNaN k b = true) : ∃ s f, k.format.read b = .nan s f := by
  unfold isNaN FloatKind.decode at h
  cases hr : k.format.read b with
  | nan s f => exact ⟨s, f, rfl⟩
  | number s m e => rw [hr] at h; cases h
  | infinity s => rw [hr] at h; cases h

theorem map_write_not_nan (k : FloatKind) {o : Option Datum} (h : ∀ d, o = some d → d.isNaN = false) {r : Nat} (hr : o.map k.format.write = some r) : isNaN k r = false := by
  cases o with
  | none => cases hr
  | some d => cases hr; exact not_nan_write k (h d rfl)

theorem floatBits_not_nan {op : BinOp} {k : FloatKind} {x y r : Nat} (h : floatBits op k x y = some r) : isNaN k r = false := by
  unfold floatBits at h
  split at h
  · exact map_write_not_nan k (fun d hd => sum_not_nan hd) h
  · exact map_write_not_nan k (fun d hd => sum_not_nan hd) h
  · exact map_write_not_nan k (fun d hd => product_not_nan hd) h
  · exact map_write_not_nan k (fun d hd => quotient_not_nan hd) h
  · cases h

theorem sum_nan_left {s : Bool} {f : Nat} (d : Datum) : (Datum.nan s f).sum d = none := by cases d <;> rfl
theorem sum_nan_right {s : Bool} {f : Nat} (d : Datum) : d.sum (Datum.nan s f) = none := by cases d <;> rfl
theorem product_nan_left {s : Bool} {f : Nat} (d : Datum) : (Datum.nan s f).product d = none := by cases d <;> rfl
theorem product_nan_right {s : Bool} {f : Nat} (d : Datum) : d.product (Datum.nan s f) = none := by cases d <;> rfl
theorem quotient_nan_left {n : Nat} {s : Bool} {f : Nat} (d : Datum) : (Datum.nan s f).quotient n d = none := by cases d <;> rfl
theorem quotient_nan_right {n : Nat} {s : Bool} {f : Nat} (d : Datum) : d.quotient n (Datum.nan s f) = none := by cases d <;> rfl
theorem order_nan_left {s : Bool} {f : Nat} (d : Datum) : (Datum.nan s f).order d = none := by cases d <;> rfl
theorem order_nan_right {s : Bool} {f : Nat} (d : Datum) : d.order (Datum.nan s f) = none := by cases d <;> rfl

theorem floatBits_nan_left (op : BinOp) {k : FloatKind} {x : Nat} (y : Nat) (h : isNaN k x = true) : floatBits op k x y = none := by
  obtain ⟨s, f, hr⟩ := isNaN_nan h
  unfold floatBits Format.add Format.sub Format.mul Format.div
  split <;> simp [hr, sum_nan_left, product_nan_left, quotient_nan_left]
theorem floatBits_nan_right (op : BinOp) {k : FloatKind} (x : Nat) {y : Nat} (h : isNaN k y = true) : floatBits op k x y = none := by
  obtain ⟨s, f, hr⟩ := isNaN_nan h
  unfold floatBits Format.add Format.sub Format.mul Format.div
  split <;> simp [hr, sum_nan_right, product_nan_right, quotient_nan_right, Datum.opposite]

theorem floatBits_cn (op : BinOp) (k : FloatKind) (x y : Nat) : floatBits op k (cn k x) (cn k y) = floatBits op k x y := by
  by_cases hx : isNaN k x = true
  · rw [floatBits_nan_left op y hx, floatBits_nan_left op _ (by rw [isNaN_cn]; exact hx)]
  · rw [cn_of_not (by simpa using hx)]
    by_cases hy : isNaN k y = true
    · rw [floatBits_nan_right op x hy, floatBits_nan_right op x (by rw [isNaN_cn]; exact hy)]
    · rw [cn_of_not (by simpa using hy)]

theorem order_nan {k : FloatKind} {x y : Nat} (h : isNaN k x = true ∨ isNaN k y = true) : k.format.order x y = none := by
  unfold Format.order
  rcases h with h | h
  · obtain ⟨s, f, hr⟩ := isNaN_nan h; rw [hr, order_nan_left]
  · obtain ⟨s, f, hr⟩ := isNaN_nan h; rw [hr, order_nan_right]
theorem order_cn (k : FloatKind) (x y : Nat) : k.format.order (cn k x) (cn k y) = k.format.order x y := by
  by_cases hx : isNaN k x = true
  · rw [order_nan (.inl hx), order_nan (.inl (by rw [isNaN_cn]; exact hx))]
  · rw [cn_of_not (by simpa using hx)]
    by_cases hy : isNaN k y = true
    · rw [order_nan (.inr hy), order_nan (.inr (by rw [isNaN_cn]; exact hy))]
    · rw [cn_of_not (by simpa using hy)]

/-! ### arithmetic -/
/-- the operation on canonical words -/
def fop (op : BinOp) (k : FloatKind) (x y : Nat) : Nat := (floatBits op k x y).getD (qn k)
/-- the machine's result in a world, and how many answers it draws -/
def fres (op : BinOp) (k : FloatKind) (x y : Nat) (w : World) : Nat :=
  match floatBits op k x y with
  | some r => r
  | none => (Question.nanBits k x y).cut (w.tape w.drawn (.nanBits k x y))
def fdr (op : BinOp) (k : FloatKind) (x y : Nat) : Nat := match floatBits op k x y with | some _ => 0 | none => 1

theorem nanBits_nan (k : FloatKind) (x y t : Nat) : isNaN k ((Question.nanBits k x y).cut t) = true := by
  cases k
  · rw [isNaN_f32]; simp only [Question.cut]
    have h1 := Nat.mod_lt (t / 2) (show 2 ^ 23 - 1 > 0 by decide)
    have h2 := Nat.mod_lt t (show 2 > 0 by decide)
    have : t % 2 = 0 ∨ t % 2 = 1 := by omega
    rcases this with h | h <;> rw [h] <;> omega
  · rw [isNaN_f64]; simp only [Question.cut]
    have h1 := Nat.mod_lt (t / 2) (show 2 ^ 52 - 1 > 0 by decide)
    have : t % 2 = 0 ∨ t % 2 = 1 := by omega
    rcases this with h | h <;> rw [h] <;> omega
theorem nanConv_nan (k : FloatKind) (x t : Nat) : isNaN k ((Question.nanConv k x).cut t) = true := by
  cases k
  · exact nanBits_nan .f32 0 0 t
  · exact nanBits_nan .f64 0 0 t

theorem fop_cn (op : BinOp) (k : FloatKind) (x y : Nat) : fop op k (cn k x) (cn k y) = fop op k x y := by unfold fop; rw [floatBits_cn]
theorem cn_fop (op : BinOp) (k : FloatKind) (x y : Nat) : cn k (fop op k x y) = fop op k x y := by
  unfold fop
  cases h : floatBits op k x y with
  | none => exact cn_of_nan (isNaN_qn k)
  | some r => exact cn_of_not (floatBits_not_nan h)
theorem cn_fres (op : BinOp) (k : FloatKind) (x y : Nat) (w : World) : cn k (fres op k x y w) = fop op k (cn k x) (cn k y) := by
  rw [fop_cn]
  unfold fres fop
  split
  · rename_i r h; rw [h]; exact cn_of_not (floatBits_not_nan h)
  · rename_i h; rw [h]; exact cn_of_nan (nanBits_nan k x y _)

theorem forced_nan (k : FloatKind) (x y : Nat) : (Question.nanBits k x y).forced = false := rfl

section
variable {P : Program} (w : World) (t : TypeId) (k : FloatKind) (x y : Nat)
theorem run_float (op : BinOp) (h : op = .add ∨ op = .sub ∨ op = .mul ∨ op = .quo) :
    (binOp op t (.float k x) (.float k y)).run P w = .ok (.float k (fres op k x y w)) (w.drewN (fdr op k x y)) := by
  cases hb : floatBits op k x y with
  | some r =>
    rw [run_float_arith w op t k x y r hb]
    unfold fres fdr; rw [hb]; rfl
  | none =>
    unfold fres fdr
    rw [hb]
    rcases h with rfl | rfl | rfl | rfl <;> simp only [floatBits] at hb <;>
      simp [binOp, Op.floatArith, hb, choose, Sem.run, Question.forced, Result.andThen, World.drewN]
@[go_sem] theorem run_float_add : (binOp .add t (.float k x) (.float k y)).run P w = .ok (.float k (fres .add k x y w)) (w.drewN (fdr .add k x y)) := run_float w t k x y .add (by simp)
@[go_sem] theorem run_float_sub : (binOp .sub t (.float k x) (.float k y)).run P w = .ok (.float k (fres .sub k x y w)) (w.drewN (fdr .sub k x y)) := run_float w t k x y .sub (by simp)
@[go_sem] theorem run_float_mul : (binOp .mul t (.float k x) (.float k y)).run P w = .ok (.float k (fres .mul k x y w)) (w.drewN (fdr .mul k x y)) := run_float w t k x y .mul (by simp)
@[go_sem] theorem run_float_quo : (binOp .quo t (.float k x) (.float k y)).run P w = .ok (.float k (fres .quo k x y w)) (w.drewN (fdr .quo k x y)) := run_float w t k x y .quo (by simp)
end

/-! ### comparisons -/
theorem signed_self (s : Bool) (m n : Nat) : compare (Ieee.signed s m n) (Ieee.signed s m n) = .eq := by
  simp [compare, compareOfLessAndEq]
theorem datum_order_self {d : Datum} (h : d.isNaN = false) : d.order d = some .eq := by
  cases d with
  | number s m e => simp [Datum.order, compare, compareOfLessAndEq]
  | infinity s => cases s <;> rfl
  | nan s f => simp [Datum.isNaN] at h
theorem order_self {k : FloatKind} {x : Nat} (h : isNaN k x = false) : k.format.order x x = some .eq := datum_order_self h
@[go_sem] theorem order_self_eq (k : FloatKind) (x : Nat) : (k.format.order x x == some .eq) = !isNaN k x := by
  cases h : isNaN k x
  · rw [order_self h]; rfl
  · rw [order_nan (.inl h)]; rfl
@[go_sem] theorem order_self_ne (k : FloatKind) (x : Nat) : (k.format.order x x != some .eq) = isNaN k x := by
  cases h : isNaN k x
  · rw [order_self h]; rfl
  · rw [order_nan (.inl h)]; rfl

/-! ### conversions -/
/-- to 64 bits -/
def wid (b : Nat) : Nat := if isNaN .f32 b then qn .f64 else FloatKind.f64.encode (FloatKind.f32.decode b)
def fwid (b : Nat) (w : World) : Nat :=
  if isNaN .f32 b then (Question.nanConv .f64 b).cut (w.tape w.drawn (.nanConv .f64 b)) else FloatKind.f64.encode (FloatKind.f32.decode b)
def wdr (b : Nat) : Nat := if isNaN .f32 b then 1 else 0
/-- to 32 bits -/
def nar (b : Nat) : Nat := if isNaN .f64 b then qn .f32 else FloatKind.f32.encode (FloatKind.f64.decode b)
/-- the number is finite and too great for 32 bits -/
def ovf (b : Nat) : Bool := !(FloatKind.f64.decode b).isNaN && !(FloatKind.f64.decode b).isInfinity && (FloatKind.f32.decode (FloatKind.f32.encode (FloatKind.f64.decode b))).isInfinity
def fnar (b : Nat) (w : World) : Nat :=
  if isNaN .f64 b then (Question.nanConv .f32 b).cut (w.tape w.drawn (.nanConv .f32 b))
  else if ovf b then (Question.floatToFloat b).cut (w.tape w.drawn (.floatToFloat b)) else FloatKind.f32.encode (FloatKind.f64.decode b)
def ndr (b : Nat) : Nat := if isNaN .f64 b || ovf b then 1 else 0

theorem cn_wid (b : Nat) : cn .f64 (wid b) = wid b := by
  unfold wid; split
  · exact cn_of_nan (isNaN_qn _)
  · rename_i h; exact cn_of_not (not_nan_write .f64 (by simpa [isNaN] using h))
theorem cn_nar (b : Nat) : cn .f32 (nar b) = nar b := by
  unfold nar; split
  · exact cn_of_nan (isNaN_qn _)
  · rename_i h; exact cn_of_not (not_nan_write .f32 (by simpa [isNaN] using h))
theorem cn_fwid (b : Nat) (w : World) : cn .f64 (fwid b w) = wid (cn .f32 b) := by
  unfold fwid wid
  rw [isNaN_cn]
  split
  · exact cn_of_nan (nanConv_nan .f64 b _)
  · rename_i h; rw [cn_of_not (b := b) (by simpa using h)]; exact cn_of_not (not_nan_write .f64 (by simpa [isNaN] using h))
theorem cn_fnar (b : Nat) (w : World) (ho : ovf b = false) : cn .f32 (fnar b w) = nar (cn .f64 b) := by
  unfold fnar nar
  rw [isNaN_cn]
  split
  · exact cn_of_nan (nanConv_nan .f32 b _)
  · rename_i h; rw [ho, cn_of_not (b := b) (by simpa using h), if_neg (by simp)]; exact cn_of_not (not_nan_write .f32 (by simpa [isNaN] using h))

/-! widening never ends in infinity -/
theorem log2_lt {n k : Nat} (h : n < 2 ^ (k + 1)) : n.log2 ≤ k := by
  by_cases h0 : n = 0
  · subst h0; simp
  · have := (Nat.log2_lt h0).2 h; omega
theorem cut_zero (way : Ieee.Toward) (neg : Bool) (n : Nat) : way.cut neg n 0 = n := by
  have h1 : n % 1 = 0 := Nat.mod_one n
  cases way <;> simp [Ieee.Toward.cut, h1]
theorem f32_decode (b : Nat) : (∃ s m e, FloatKind.f32.decode b = .number s m e ∧ m < 2 ^ 24 ∧ -149 ≤ e ∧ e ≤ 104) ∨ (∃ s, FloatKind.f32.decode b = .infinity s) ∨ ∃ s f, FloatKind.f32.decode b = .nan s f := by
  have e1 : Ieee.single.binade = 8388608 := by decide +kernel
  have e2 : Ieee.single.infRung = 2139095040 := by decide +kernel
  have e3 : Ieee.single.leastPlace = -149 := by decide +kernel
  show (∃ s m e, Ieee.single.read b = .number s m e ∧ _) ∨ (∃ s, Ieee.single.read b = .infinity s) ∨ ∃ s f, Ieee.single.read b = .nan s f
  unfold Format.read
  dsimp only
  rw [e1, e2, e3]
  split
  · exact .inl ⟨_, _, _, rfl, by omega, by omega, by omega⟩
  · split
    · exact .inl ⟨_, _, _, rfl, by omega, by omega, by omega⟩
    · split
      · exact .inr (.inl ⟨_, rfl⟩)
      · exact .inr (.inr ⟨_, _, rfl⟩)
theorem word_read_inf (k : FloatKind) (neg : Bool) {r : Nat} (h : r < k.format.infRung) : (k.decode (k.format.word neg r)).isInfinity = false := by
  have hp := infRung_pos k
  have hm : k.format.word neg r % k.format.signWeight = r := by
    unfold Format.word; split
    · rw [Nat.add_mod_left, Nat.mod_eq_of_lt (by omega)]
    · exact Nat.mod_eq_of_lt (by omega)
  unfold FloatKind.decode Format.read
  dsimp only
  rw [hm]
  split
  · rfl
  · rfl
theorem rung_lt {a m l : Nat} (ha : a ≤ 1149) (hl : m.log2 = l) (h23 : l ≤ 23) : a * 4503599627370496 + m <<< (52 - l) < 9218868437227405312 := by
  subst hl
  rw [Nat.shiftLeft_eq]
  have hlt : m * 2 ^ (52 - m.log2) < 9007199254740992 := by
    have h1 : m < 2 ^ (m.log2 + 1) := Nat.lt_log2_self
    have h2 : m * 2 ^ (52 - m.log2) < 2 ^ (m.log2 + 1) * 2 ^ (52 - m.log2) := Nat.mul_lt_mul_of_pos_right h1 (Nat.two_pow_pos _)
    rw [← Nat.pow_add, show m.log2 + 1 + (52 - m.log2) = 53 from by omega] at h2
    exact h2
  omega
theorem wid_finite {s : Bool} {m : Nat} {e : Int} (hm : m < 2 ^ 24) (h1 : -149 ≤ e) (h2 : e ≤ 104) : (FloatKind.f64.decode (FloatKind.f64.encode (.number s m e))).isInfinity = false := by
  have e1 : Ieee.double.binade = 4503599627370496 := by decide +kernel
  have e2 : Ieee.double.infRung = 9218868437227405312 := by decide +kernel
  have e3 : Ieee.double.leastPlace = -1074 := by decide +kernel
  show (FloatKind.f64.decode (Ieee.double.nearest s m e)).isInfinity = false
  unfold Format.nearest
  dsimp only
  split
  · exact word_read_inf .f64 s (by show 0 < Ieee.double.infRung; rw [e2]; omega)
  · have hl : m.log2 ≤ 23 := log2_lt hm
    have hf : Ieee.double.fractionBits = 52 := rfl
    rw [e3, hf, e1, e2]
    have hmax : max (e + (m.log2 : Int) - (52 : Nat)) (-1074) = e + (m.log2 : Int) - 52 := by omega
    rw [hmax]
    have hz : (e + (m.log2 : Int) - 52 - e).toNat = 0 := by omega
    rw [hz, cut_zero]
    have hsh : (e - (e + (m.log2 : Int) - 52)).toNat = 52 - m.log2 := by omega
    rw [hsh]
    refine word_read_inf .f64 s ?_
    show _ < Ieee.double.infRung
    rw [e2]
    refine Nat.lt_of_le_of_lt (Nat.min_le_left _ _) (rung_lt ?_ rfl hl)
    omega

section
variable {P : Program} (w : World)
@[go_sem] theorem run_wid (src dst : TypeId) (b : Nat) (hs : P.underlying src = some (.float .f32)) (hd : P.underlying dst = some (.float .f64)) :
    (convert src dst (.float .f32 b)).run P w = .ok (.float .f64 (fwid b w)) (w.drewN (wdr b)) := by
  unfold fwid wdr
  rcases f32_decode b with ⟨s, m, e, he, h1, h2, h3⟩ | ⟨s, he⟩ | ⟨s, f, he⟩
  · have hn : isNaN .f32 b = false := by unfold isNaN; rw [he]; rfl
    have hi := wid_finite (s := s) h1 h2 h3
    rw [hn]
    simp [convert, run_underlying hs, run_underlying hd, Conv.floatToFloat, he, hi, World.drewN]
  · have hn : isNaN .f32 b = false := by unfold isNaN; rw [he]; rfl
    rw [hn]
    simp [convert, run_underlying hs, run_underlying hd, Conv.floatToFloat, he, FloatKind.encode, Format.write, World.drewN]
  · have hn : isNaN .f32 b = true := by unfold isNaN; rw [he]; rfl
    rw [hn]
    simp [convert, run_underlying hs, run_underlying hd, Conv.floatToFloat, he, choose, Sem.run, Question.forced, Result.andThen, World.drewN]
@[go_sem] theorem run_nar (src dst : TypeId) (b : Nat) (hs : P.underlying src = some (.float .f64)) (hd : P.underlying dst = some (.float .f32)) :
    (convert src dst (.float .f64 b)).run P w = .ok (.float .f32 (fnar b w)) (w.drewN (ndr b)) := by
  unfold fnar ndr
  cases he : FloatKind.f64.decode b with
  | nan s f =>
    have hn : isNaN .f64 b = true := by unfold isNaN; rw [he]; rfl
    rw [hn]
    simp [convert, run_underlying hs, run_underlying hd, Conv.floatToFloat, he, choose, Sem.run, Question.forced, Result.andThen, World.drewN]
  | infinity s =>
    have hn : isNaN .f64 b = false := by unfold isNaN; rw [he]; rfl
    have ho : ovf b = false := by unfold ovf; rw [he]; rfl
    rw [hn, ho]
    simp [convert, run_underlying hs, run_underlying hd, Conv.floatToFloat, he, World.drewN]
  | number s m e =>
    have hn : isNaN .f64 b = false := by unfold isNaN; rw [he]; rfl
    have ho : ovf b = (FloatKind.f32.decode (FloatKind.f32.encode (.number s m e))).isInfinity := by unfold ovf; rw [he]; simp [Datum.isNaN, Datum.isInfinity]
    rw [hn, ho]
    cases hi : (FloatKind.f32.decode (FloatKind.f32.encode (.number s m e))).isInfinity
    · simp [convert, run_underlying hs, run_underlying hd, Conv.floatToFloat, he, hi, World.drewN]
    · simp [convert, run_underlying hs, run_underlying hd, Conv.floatToFloat, he, hi, choose, Sem.run, Question.forced, Result.andThen, World.drewN]
end

theorem fres_of {op : BinOp} {k : FloatKind} {x y r : Nat} (h : floatBits op k x y = some r) (w : World) : fres op k x y w = r := by unfold fres; rw [h]
theorem fdr_of {op : BinOp} {k : FloatKind} {x y r : Nat} (h : floatBits op k x y = some r) : fdr op k x y = 0 := by unfold fdr; rw [h]
theorem fnar_nan {b : Nat} (h : isNaN .f64 b = true) (w : World) : isNaN .f32 (fnar b w) = true := by unfold fnar; rw [h]; exact nanConv_nan .f32 b _
theorem quo_one {a : Nat} (h : isNaN .f64 a = false) : ∃ r, floatBits .quo .f64 4607182418800017408 a = some r := by
  have e1 : FloatKind.f64.format.read 4607182418800017408 = .number false 4503599627370496 (-52) := by decide +kernel
  unfold floatBits Format.div
  dsimp only
  rw [e1]
  unfold isNaN FloatKind.decode at h
  cases hr : FloatKind.f64.format.read a with
  | nan s f => rw [hr] at h; cases h
  | infinity s => exact ⟨_, rfl⟩
  | number s m e =>
    by_cases hm : m = 0
    · subst hm; exact ⟨_, rfl⟩
    · simp [Datum.quotient, hm]

/-! ### the machine's results read as the canonical ones -/
section
variable (op op' : BinOp) (k : FloatKind) (x y z : Nat) (w : World)
theorem isNaN_fres : isNaN k (fres op k x y w) = isNaN k (fop op k x y) := cn_eq_nan (by rw [cn_fres, fop_cn, cn_fop])
theorem isNaN_fwid : isNaN .f64 (fwid x w) = isNaN .f64 (wid x) := cn_eq_nan (by rw [cn_fwid, cn_wid]; unfold wid; rw [isNaN_cn]; split <;> first | rfl | (rename_i h; rw [cn_of_not (by simpa using h)]))
theorem wid_cn : wid (cn .f32 x) = wid x := by
  unfold wid; rw [isNaN_cn]; split
  · rfl
  · rename_i h; rw [cn_of_not (by simpa using h)]
theorem nar_cn : nar (cn .f64 x) = nar x := by
  unfold nar; rw [isNaN_cn]; split
  · rfl
  · rename_i h; rw [cn_of_not (by simpa using h)]
theorem ovf_cn : ovf (cn .f64 x) = ovf x := by
  cases h : isNaN .f64 x
  · rw [cn_of_not h]
  · have h' : isNaN .f64 (cn .f64 x) = true := by rw [isNaN_cn]; exact h
    have g : ∀ b, isNaN .f64 b = true → ovf b = false := fun b hb => by unfold ovf; unfold isNaN at hb; rw [hb]; rfl
    rw [g _ h, g _ h']
theorem order_l {k : FloatKind} {a b : Nat} (h : cn k a = cn k b) (z : Nat) : k.format.order a z = k.format.order b z := by rw [← order_cn k a, h, order_cn]
theorem order_r {k : FloatKind} {a b : Nat} (h : cn k a = cn k b) (z : Nat) : k.format.order z a = k.format.order z b := by rw [← order_cn k z a, h, order_cn]
theorem fop_l (op : BinOp) {k : FloatKind} {a b : Nat} (h : cn k a = cn k b) (z : Nat) : fop op k a z = fop op k b z := by rw [← fop_cn op k a, h, fop_cn]
theorem fop_r (op : BinOp) {k : FloatKind} {a b : Nat} (h : cn k a = cn k b) (z : Nat) : fop op k z a = fop op k z b := by rw [← fop_cn op k z a, h, fop_cn]
theorem fres_fop : cn k (fres op k x y w) = cn k (fop op k x y) := by rw [cn_fres, fop_cn, cn_fop]
theorem fwid_wid : cn .f64 (fwid x w) = cn .f64 (wid x) := by rw [cn_fwid, cn_wid, wid_cn]
@[go_sem] theorem order_fres_l : k.format.order (fres op k x y w) z = k.format.order (fop op k x y) z := order_l (fres_fop op k x y w) z
@[go_sem] theorem order_fres_r : k.format.order z (fres op k x y w) = k.format.order z (fop op k x y) := order_r (fres_fop op k x y w) z
@[go_sem] theorem order_fwid_l : FloatKind.f64.format.order (fwid x w) z = FloatKind.f64.format.order (wid x) z := order_l (fwid_wid x w) z
@[go_sem] theorem order_fwid_r : FloatKind.f64.format.order z (fwid x w) = FloatKind.f64.format.order z (wid x) := order_r (fwid_wid x w) z
@[go_sem] theorem fop_fres_l : fop op k (fres op' k x y w) z = fop op k (fop op' k x y) z := fop_l op (fres_fop op' k x y w) z
@[go_sem] theorem fop_fres_r : fop op k z (fres op' k x y w) = fop op k z (fop op' k x y) := fop_r op (fres_fop op' k x y w) z
@[go_sem] theorem fop_fwid_l : fop op .f64 (fwid x w) z = fop op .f64 (wid x) z := fop_l op (fwid_wid x w) z
@[go_sem] theorem fop_fwid_r : fop op .f64 z (fwid x w) = fop op .f64 z (wid x) := fop_r op (fwid_wid x w) z
@[go_sem] theorem wid_fres : wid (fres op .f32 x y w) = wid (fop op .f32 x y) := by rw [← wid_cn, cn_fres, fop_cn]
@[go_sem] theorem nar_fres : nar (fres op .f64 x y w) = nar (fop op .f64 x y) := by rw [← nar_cn, cn_fres, fop_cn]
@[go_sem] theorem nar_fwid : nar (fwid x w) = nar (wid x) := by rw [← nar_cn, cn_fwid, wid_cn]
@[go_sem] theorem ovf_fres : ovf (fres op .f64 x y w) = ovf (fop op .f64 x y) := by rw [← ovf_cn, cn_fres, fop_cn]
@[go_sem] theorem ovf_fwid : ovf (fwid x w) = ovf (wid x) := by rw [← ovf_cn, cn_fwid, wid_cn]
end
end Go.Fl
