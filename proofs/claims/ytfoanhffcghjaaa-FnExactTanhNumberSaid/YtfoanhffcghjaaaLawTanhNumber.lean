/- The law FnExactTanhNumber holds for every input. No conditions. -/
import Derived.Test.YtfoanhffcghjaaaExp
import Derived.Test.YtfoanhffcghjaaaExt
import Derived.ProofKit
import Derived.OpenShut
import Derived.ChangeOld
import Derived.WalkSmall
namespace Go.Proofs.Ytfoanhffcghjaaa.tanhNumber
open Go.ChangeShapes Go.WideShapes Go.ChangeAt Go.RowKit Go.Fl Go.Reg Go.Ord
open Ieee (Datum Format)
/-- the nearest word to a number that is no less than R -/
theorem near_ge (neg : Bool) {mag : Nat} (place : Int) {R : Nat} (h0 : mag ≠ 0) (hR : R ≤ 9218868437227405312) (h : mg Ieee.double R * 2 ^ (-1074 - place).toNat ≤ mag * 2 ^ (place + 1074).toNat) : R ≤ ab (Ieee.double.nearest neg mag place) := by
  have k := (nr_both Ieee.double neg place h0 R).2
  rw [dlp] at k
  have k := k (by rw [show place - -1074 = place + 1074 by omega]; exact h)
  rw [nearest_nr _ _ _ h0, dir, ab_word _ (Nat.min_le_right _ _)]
  omega
/-- a square is none or has no sign -/
theorem sq_pos (p : Nat) : isNaN .f64 (fop .mul .f64 p p) = true ∨ fop .mul .f64 p p ≤ 9218868437227405312 := by
  unfold fop
  cases hb : floatBits .mul .f64 p p with
  | none => exact .inl (isNaN_qn .f64)
  | some r =>
    right
    have hb' : ((Ieee.double.read p).product (Ieee.double.read p)).map Ieee.double.write = some r := hb
    cases hr : Ieee.double.read p with
    | nan s f => rw [hr] at hb'; simp [Datum.product] at hb'
    | infinity s =>
      rw [hr] at hb'
      simp only [Datum.product, Bool.xor_self, Option.map_some, Option.some.injEq] at hb'
      subst hb'
      show Ieee.double.word false Ieee.double.infRung ≤ _
      decide +kernel
    | number s m e =>
      rw [hr] at hb'
      simp only [Datum.product, Bool.xor_self, Option.map_some, Option.some.injEq] at hb'
      subst hb'
      show Ieee.double.nearest false (m * m) (e + e) ≤ _
      by_cases h0 : m * m = 0
      · rw [h0, nearest_zero]; decide +kernel
      · rw [nearest_nr _ _ _ h0, dir]
        show (if false = true then _ else min _ _) ≤ _
        rw [if_neg (by simp)]
        exact Nat.min_le_right _ _
/-- one more than a number without a sign is at least one -/
theorem add_one {p C : Nat} (hp : p ≤ C) (hC : C < 9218868437227405312) : 4607182418800017408 ≤ ab (fop .add .f64 p 4607182418800017408) := by
  obtain ⟨s, m, i, e1, hi, em, lm⟩ := read_bd (b := p) (C := C) hC (Nat.le_trans (Nat.mod_le _ _) hp)
  have e2 : Ieee.double.read 4607182418800017408 = .number false 4503599627370496 (-52) := by decide +kernel
  have hs : s = false := by
    have hf : Ord.fin Ieee.double p = true := by unfold Ord.fin rung; rw [dsw, dir]; exact decide_eq_true (by omega)
    obtain ⟨m', e', hr, _, _⟩ := read_fin Ieee.double hf
    rw [e1] at hr
    injection hr with h1
    rw [h1]
    unfold Ord.neg
    rw [dsw, Nat.div_eq_of_lt (by omega)]; rfl
  subst hs
  have hfb : floatBits .add .f64 p 4607182418800017408 = ((Ieee.double.read p).sum (Ieee.double.read 4607182418800017408)).map Ieee.double.write := rfl
  unfold fop
  rw [hfb, e1, e2]
  have hb : min i (-52) ≤ -52 := Int.min_le_right _ _
  have hb2 : -1074 ≤ min i (-52) := by omega
  have ht : Ieee.signed false m (i - min i (-52)).toNat + Ieee.signed false 4503599627370496 (-52 - min i (-52)).toNat = ((m * 2 ^ (i - min i (-52)).toNat + 4503599627370496 * 2 ^ (-52 - min i (-52)).toNat : Nat) : Int) := by
    unfold Ieee.signed
    rw [if_neg (by simp), if_neg (by simp), Nat.shiftLeft_eq, Nat.shiftLeft_eq]; simp
  have hpos : 0 < 4503599627370496 * 2 ^ (-52 - min i (-52)).toNat := Nat.mul_pos (by omega) (Nat.two_pow_pos _)
  simp only [Datum.sum, Option.map_some, Option.getD_some]
  rw [ht]
  show _ ≤ ab (Ieee.double.nearest _ _ _)
  refine near_ge _ _ (by omega) (by omega) ?_
  obtain ⟨z, hz⟩ : ∃ z : Nat, z = 1022 := ⟨_, rfl⟩
  have h1 : mg Ieee.double 4607182418800017408 = 4503599627370496 * 2 ^ z := by subst hz; decide +kernel
  rw [h1, show (-1074 - min i (-52)).toNat = 0 by omega, Nat.pow_zero, Nat.mul_one, Int.natAbs_natCast, Nat.add_mul]
  have h2 : 4503599627370496 * 2 ^ (-52 - min i (-52)).toNat * 2 ^ (min i (-52) + 1074).toNat = 4503599627370496 * 2 ^ z := by
    rw [Nat.mul_assoc, ← Nat.pow_add, show (-52 - min i (-52)).toNat + (min i (-52) + 1074).toNat = z by omega]
  rw [h2]
  exact Nat.le_add_left _ _
def tw (x : Nat) : Nat := fop .mul .f64 4611686018427387904 (wid x)
def tq (x : Nat) : Nat := fop .quo .f64 (fop .sub .f64 (ex (tw x)) 4607182418800017408) (fop .add .f64 (ex (tw x)) 4607182418800017408)
/-- x lies between -20 and 20, or is none -/
theorem small_of {x : Nat} (h1 : (FloatKind.f32.format.order x 1101004800 == some .gt) = false) (h2 : (FloatKind.f32.format.order x 3248488448 == some .lt) = false) : isNaN .f32 x = true ∨ x % 2147483648 ≤ 1101004800 := by
  cases hn : isNaN .f32 x
  · right
    have hl := (nan_iff .f32 x).1 hn
    by_cases hf : x % sw .f32 < ir .f32
    · have fx : Ord.fin Ieee.single x = true := (fin_iff .f32 x).2 hf
      have f1 : Ord.fin Ieee.single 1101004800 = true := by decide +kernel
      have f2 : Ord.fin Ieee.single 3248488448 = true := by decide +kernel
      have o1 : FloatKind.f32.format.order x 1101004800 = _ := order_fin Ieee.single fx f1
      have o2 : FloatKind.f32.format.order x 3248488448 = _ := order_fin Ieee.single fx f2
      rw [o1] at h1
      rw [o2] at h2
      have t1 : toZ Ieee.single 1101004800 = (mg Ieee.single 1101004800 : Nat) := by decide +kernel
      have t2 : toZ Ieee.single 3248488448 = -(mg Ieee.single 1101004800 : Nat) := by decide +kernel
      rw [t1] at h1
      rw [t2] at h2
      generalize hM : mg Ieee.single 1101004800 = M at *
      have g1 : ¬ (M : Int) < toZ Ieee.single x := by
        intro h
        have : compare (toZ Ieee.single x) (M : Int) = .gt := Int.compare_eq_gt.2 h
        rw [this] at h1; cases h1
      have g2 : ¬ toZ Ieee.single x < -(M : Int) := by
        intro h
        have : compare (toZ Ieee.single x) (-(M : Int)) = .lt := Int.compare_eq_lt.2 h
        rw [this] at h2; cases h2
      by_cases hc : x % 2147483648 ≤ 1101004800
      · exact hc
      · exfalso
        have hm := mg_lt Ieee.single (show 1101004800 < x % 2147483648 by omega)
        rw [hM] at hm
        unfold toZ sg rung at g1 g2
        rw [ssw] at g1 g2
        split at g1 <;> rename_i hneg
        · rw [if_pos hneg] at g2; omega
        · omega
    · exfalso
      have hi : x % sw .f32 = ir .f32 := by omega
      have r1 : FloatKind.f32.format.read x = .infinity (Ord.neg FloatKind.f32.format x) := read_inf .f32 hi
      have q1 : FloatKind.f32.format.read 1101004800 = .number false 10485760 (-19) := by decide +kernel
      have q2 : FloatKind.f32.format.read 3248488448 = .number true 10485760 (-19) := by decide +kernel
      unfold Format.order at h1 h2
      rw [r1, q1] at h1
      rw [r1, q2] at h2
      cases hs : Ord.neg FloatKind.f32.format x <;> rw [hs] at h1 h2
      · simp [Datum.order] at h1
      · simp [Datum.order] at h2
  · exact .inl rfl
theorem tw_bd {x : Nat} (h : isNaN .f32 x = true ∨ x % 2147483648 ≤ 1101004800) : bd 4630826316843712512 (tw x) :=
  bd_mul (A := 4611686018427387904) (B := 4626322717216342016) (by decide +kernel) (by decide +kernel) (by decide +kernel) (by decide +kernel) (.inr (by decide +kernel)) (bd_wid (A := 1101004800) (by decide +kernel) (by decide +kernel) (by decide +kernel) h)
theorem tq_ovf {x : Nat} (h : isNaN .f32 x = true ∨ x % 2147483648 ≤ 1101004800) : ovf (tq x) = false := by
  have h1 := ex_bd (tw_bd h)
  refine ovf_bd (C := 5057542381537067008) (R := 1904214016) (by decide +kernel) (by decide +kernel) (by decide +kernel) ?_
  have hs : bd 4892641168177465190 (fop .sub .f64 (ex (tw x)) 4607182418800017408) := bd_sub (A := 4892641168177465188) (B := 4607182418800017408) (by decide +kernel) (by decide +kernel) (by decide +kernel) (by decide +kernel) h1 (.inr (by decide +kernel))
  refine bd_quo (A := 4892641168177465190) (D := 4607182418800017408) (by decide +kernel) (by decide +kernel) (by decide +kernel) (by decide +kernel) hs ?_
  have ha : bd 4892641168177465190 (fop .add .f64 (ex (tw x)) 4607182418800017408) := bd_add (A := 4892641168177465188) (B := 4607182418800017408) (by decide +kernel) (by decide +kernel) (by decide +kernel) (by decide +kernel) h1 (.inr (by decide +kernel))
  rcases sq_pos (sq (pt (tt (tw x)) 12) 7) with hp | hp
  · exact .inl (fop_nan_l _ _ hp)
  · rcases h1 with h1 | h1
    · exact .inl (fop_nan_l _ _ h1)
    · right
      have hp' : ex (tw x) ≤ 9218868437227405312 := hp
      have hlt : ex (tw x) ≤ 4892641168177465188 := by unfold ab at h1; rw [Nat.mod_eq_of_lt (by omega)] at h1; exact h1
      refine ⟨add_one hlt (by decide +kernel), ?_⟩
      rcases ha with ha | ha
      · exfalso
        have hq : isNaN .f64 (fop .add .f64 (ex (tw x)) 4607182418800017408) = false := by
          obtain ⟨s, m, i, e1, _⟩ := read_bd (b := ex (tw x)) (by decide +kernel) h1
          have e2 : Ieee.double.read 4607182418800017408 = .number false 4503599627370496 (-52) := by decide +kernel
          have hfb : floatBits .add .f64 (ex (tw x)) 4607182418800017408 = ((Ieee.double.read (ex (tw x))).sum (Ieee.double.read 4607182418800017408)).map Ieee.double.write := rfl
          unfold fop
          cases hz : floatBits .add .f64 (ex (tw x)) 4607182418800017408 with
          | some r => exact floatBits_not_nan hz
          | none => rw [hfb, e1, e2] at hz; simp [Datum.sum] at hz
        rw [hq] at ha; cases ha
      · omega
def th (x : Nat) : Nat := if (FloatKind.f32.format.order x 1101004800 == some .gt) = true then 1065353216 else if (FloatKind.f32.format.order x 3248488448 == some .lt) = true then 3212836864 else nar (tq x)
def Tv (x : Nat) (w : World) (e : Ending) (w' : World) : Prop := ∃ u m, e = .returned (.float .f32 u) ∧ w' = w.drewN m ∧ cn .f32 u = cn .f32 (th x)
theorem narS (x : Nat) (w : World) : Calls Try.prog 71 #[.float .f64 x] w fun e w' => e = .returned (.float .f32 (fnar x w)) ∧ w' = w.drewN (ndr x) := by
  go_enter Try.func71, Try.ntmps71
  go_wp2
  go_ret
  exact ⟨rfl, rfl⟩
theorem th_end {x p : Nat} (hx : isNaN .f32 x = true ∨ x % 2147483648 ≤ 1101004800) (h1 : (FloatKind.f32.format.order x 1101004800 == some .gt) = false) (h2 : (FloatKind.f32.format.order x 3248488448 == some .lt) = false) (y : Nat) (hy : cn .f64 y = cn .f64 (tw x)) (hp : cn .f64 p = cn .f64 (ex y)) (w1 w2 w3 w4 : World) :
    cn .f32 (fnar (fres .quo .f64 (fres .sub .f64 p 4607182418800017408 w1) (fres .add .f64 p 4607182418800017408 w2) w3) w4) = cn .f32 (th x) := by
  have he : cn .f64 p = cn .f64 (ex (tw x)) := by
    rw [hp]
    have ht : cn .f64 (tt y) = cn .f64 (tt (tw x)) := by unfold tt; rw [fop_l .quo hy]
    have hpt : ∀ j, cn .f64 (pt (tt y) j) = cn .f64 (pt (tt (tw x)) j) := by
      intro j
      induction j with
      | zero => rfl
      | succ j ih => show cn .f64 (fop .add .f64 4607182418800017408 (fop .quo .f64 (fop .mul .f64 (tt y) (pt (tt y) j)) (kw (12 - j)))) = cn .f64 (fop .add .f64 4607182418800017408 (fop .quo .f64 (fop .mul .f64 (tt (tw x)) (pt (tt (tw x)) j)) (kw (12 - j)))); rw [fop_l .mul ht, fop_r .mul ih]
    exact sq_cn (hpt 12) 8
  have hq : cn .f64 (fres .quo .f64 (fres .sub .f64 p 4607182418800017408 w1) (fres .add .f64 p 4607182418800017408 w2) w3) = cn .f64 (tq x) := by
    rw [fres_fop, fop_fres_l, fop_fres_r]
    unfold tq
    rw [fop_l .sub he, fop_l .add he]
  generalize fres .quo .f64 _ _ _ = q at *
  have ho : ovf q = false := by rw [← ovf_cn, hq, ovf_cn]; exact tq_ovf hx
  rw [cn_fnar _ _ ho, hq, nar_cn]
  unfold th
  rw [if_neg (by rw [h1]; simp), if_neg (by rw [h2]; simp), cn_nar]
/-- what the reference asks of 2 x -/
theorem ask {y x : Nat} (hx : isNaN .f32 x = true ∨ x % 2147483648 ≤ 1101004800) (hy : cn .f64 y = cn .f64 (tw x)) : (FloatKind.f64.format.order y 4641240890982006784 == some .gt) = false ∧ (FloatKind.f64.format.order y 13864612927836782592 == some .lt) = false := by
  rw [order_l hy, order_l hy]
  rcases tw_bd hx with hb | hb
  · rw [order_nan (.inl hb), order_nan (.inl hb)]; exact ⟨rfl, rfl⟩
  · generalize tw x = z at *
    have fz : Ord.fin Ieee.double z = true := by unfold Ord.fin rung; rw [dsw, dir]; unfold ab at hb; exact decide_eq_true (by omega)
    have o1 : FloatKind.f64.format.order z 4641240890982006784 = _ := order_fin Ieee.double fz (by decide +kernel)
    have o2 : FloatKind.f64.format.order z 13864612927836782592 = _ := order_fin Ieee.double fz (by decide +kernel)
    rw [o1, o2]
    have t1 : toZ Ieee.double 4641240890982006784 = (mg Ieee.double 4641240890982006784 : Nat) := by decide +kernel
    have t2 : toZ Ieee.double 13864612927836782592 = -(mg Ieee.double 4641240890982006784 : Nat) := by decide +kernel
    rw [t1, t2]
    have hm : mg Ieee.double (ab z) < mg Ieee.double 4641240890982006784 := mg_lt Ieee.double (by omega)
    generalize mg Ieee.double 4641240890982006784 = M at *
    have hz : toZ Ieee.double z = (mg Ieee.double (ab z) : Nat) ∨ toZ Ieee.double z = -(mg Ieee.double (ab z) : Nat) := by
      unfold toZ sg rung ab; rw [dsw]; split <;> simp
    constructor
    · have : compare (toZ Ieee.double z) (M : Int) = .lt := Int.compare_eq_lt.2 (by omega)
      rw [this]; rfl
    · have : compare (toZ Ieee.double z) (-(M : Int)) = .gt := Int.compare_eq_gt.2 (by omega)
      rw [this]; rfl
theorem implT (x : Nat) (w : World) : Calls Try.prog 33 #[.float .f32 x] w (Tv x w) := by
  cases h1 : (FloatKind.f32.format.order x 1101004800 == some .gt)
  · cases h2 : (FloatKind.f32.format.order x 3248488448 == some .lt)
    · have HS := Lib.hid (small_of h1 h2)
      have H1 := Lib.hid h1
      have H2 := Lib.hid h2
      go_enter Try.func33, Try.ntmps33
      go_wp2_with fail
      obtain ⟨y, hY⟩ : ∃ y, y = fres .mul .f64 4611686018427387904 (fwid x w) (w.drewN (wdr x)) := ⟨_, rfl⟩
      rw [← hY]
      have HY := Lib.hid (show cn .f64 y = cn .f64 (tw x) by rw [hY, fres_fop, fop_fwid_r]; rfl)
      clear hY
      refine (expI _ _).mono ?_
      rintro e w' ⟨p, m, rfl, hw, hp⟩
      have HP := Lib.hid hp
      have HW := Lib.hid hw
      clear hp hw
      go_wp2
      go_ret
      exact ⟨_, _, rfl, by rw [HW.out, drewN_drewN, drewN_drewN], th_end HS.out H1.out H2.out y HY.out HP.out _ _ _ _⟩
    · go_enter Try.func33, Try.ntmps33
      go_wp2
      go_ret
      exact ⟨_, 0, rfl, rfl, by unfold th; rw [if_neg (by rw [h1]; simp), if_pos h2]⟩
  · go_enter Try.func33, Try.ntmps33
    go_wp2
    go_ret
    exact ⟨_, 0, rfl, rfl, by unfold th; rw [if_pos h1]⟩
theorem specT (x : Nat) (w : World) : Calls Try.prog 55 #[.float .f32 x] w (Tv x w) := by
  cases h1 : (FloatKind.f32.format.order x 1101004800 == some .gt)
  · cases h2 : (FloatKind.f32.format.order x 3248488448 == some .lt)
    · have HS := Lib.hid (small_of h1 h2)
      have H1 := Lib.hid h1
      have H2 := Lib.hid h2
      go_enter Try.func55, Try.ntmps55
      go_wp2_with fail
      obtain ⟨y, hY⟩ : ∃ y, y = fres .mul .f64 4611686018427387904 (fwid x w) (w.drewN (wdr x)) := ⟨_, rfl⟩
      rw [← hY]
      have HY := Lib.hid (show cn .f64 y = cn .f64 (tw x) by rw [hY, fres_fop, fop_fwid_r]; rfl)
      clear hY
      have hE : ∀ w, Calls Try.prog 76 #[.float .f64 y] w (Ev y w) := by
        intro w
        cases hn : isNaN .f64 y
        · exact expS y w hn (ask HS.out HY.out).1 (ask HS.out HY.out).2
        · exact expN y w hn
      refine (hE _).mono ?_
      rintro e w' ⟨p, m, rfl, hw, hp⟩
      have HP := Lib.hid hp
      have HW := Lib.hid hw
      clear hp hw hE
      go_wp2_with fail
      refine (narS _ _).mono ?_
      rintro e w2 ⟨rfl, hw2⟩
      have HW2 := Lib.hid hw2
      clear hw2
      go_wp2
      go_ret
      exact ⟨_, _, rfl, by rw [HW2.out, HW.out, drewN_drewN, drewN_drewN, drewN_drewN], th_end HS.out H1.out H2.out y HY.out HP.out _ _ _ _⟩
    · go_enter Try.func55, Try.ntmps55
      go_wp2
      go_ret
      exact ⟨_, 0, rfl, rfl, by unfold th; rw [if_neg (by rw [h1]; simp), if_pos h2]⟩
  · go_enter Try.func55, Try.ntmps55
    go_wp2
    go_ret
    exact ⟨_, 0, rfl, rfl, by unfold th; rw [if_pos h1]⟩
theorem walk (x : Nat) (_hx : (Lit.float .f32 x).wf = true) (w : World) : Calls Try.prog 10 #[.float .f32 x] w fun e w' => e = .returned (.bool true) ∧ Below w.heap.size w w' := by
  go_enter Try.func10, Try.ntmps10
  go_wp2_with (first | (go_at_call 55; refine (specT _ _).mono ?_; rintro e w1 ⟨u, m, rfl, rfl, hu⟩) | (go_at_call 33; refine (implT _ _).mono ?_; rintro e w2 ⟨v, m2, rfl, rfl, hv⟩) | (go_at_call 18; refine (sameFloat _ _ _ (cnw (hv.trans hu.symm) _ _)).mono ?_; rintro e w3 ⟨rfl, rfl⟩) | go_in)
  go_ret
  exact ⟨rfl, below_drewN (Below.refl _ _) _⟩
theorem own : ownKnob Try.prog.godebug = none := by kernel_rfl
theorem laidOut : laidOutB Try.prog = true := by kernel_rfl
set_option maxRecDepth 100000 in
set_option maxHeartbeats 2000000 in
theorem lifted (os : Os) (started : os.Started) (H : Type) (enc : TypeId × Value → H) :
    ReturnsInHanded {} Try.checked os 10 .any (Rows.fnExactTanhNumberSpec.pre6 enc Try.prog Try.f10 Rows.fnExactTanhNumberRow.domain false) (Rows.fnExactTanhNumberSpec.post enc Try.prog Try.f10 false true false false) := by
  refine returnsInHanded_of_change (C := Try.checked) own started (by kernel_rfl) Try.func10
    (ChangeSpec.witness6 (enc := enc) (C := Try.checked) false ⟨#[], #[.float .f32 0], []⟩ 8 (by kernel_rfl) (by kernel_rfl) (by kernel_rfl) (by kernel_rfl)) ?_
  intro W base args ds gs before hval0 hW hcnd _
  have hval : ∀ (j : Nat) t v, Try.f10.params[j]? = some t → args[j]? = some v → Value.okWide Try.prog W .any base t v := hval0
  have hW' := hW
  obtain ⟨p, q, hA0, hV, rfl, hfz, hnd⟩ := hW
  have hA : DataW.TrodAll enc Try.prog W 0 (fun _ => true) true Try.f10.params.toList args.toList ds p := hA0
  rw [Try.params10] at hA hval
  obtain ⟨v0, vs0, d0, ds0, p0, q0, hargs, rfl, rfl, h0, r0⟩ := trodAll_cons hA
  obtain ⟨rfl, rfl, rfl⟩ := trodAll_nil r0
  obtain rfl : args = #[v0] := by cases args; simp_all
  obtain ⟨rfl, rfl⟩ := trodVars_none hV
  have k0 := h0
  have lt0 : ∀ x ∈ p0, x.block < W.heap.size := by obtain ⟨m, hm⟩ := k0; exact DataW.trod_lt m _ _ _ hm
  obtain ⟨a0, rfl, rfl, rfl, w0⟩ := open_float Try.underlying23 (hval 0 23 v0 rfl rfl) h0
  clear hA0 hval0
  refine (walk a0 w0 W).mono fun e W' ⟨he, bel⟩ => ?_
  subst he
  exact ⟨_, rfl, _, _, _, [], _, [], hW', trodAll_mk1 (shut_bool Try.underlying4 _), (trodAll_cons_mk (Below.trod laidOut (by kernel_rfl) (of_decide_eq_true (by kernel_rfl)) k0 bel lt0) trodAll_mk0), rfl, bel.frame _, fun h => by cases h⟩

theorem over : Rows.fnExactTanhNumberRow.holds Try.pinned (OpenSpec.ofChange Rows.fnExactTanhNumberSpec) :=
  OpenClaim.holds_of_wide 10 Try.f10 rfl rfl rfl rfl rfl rfl rfl ⟨rfl, rfl, rfl, rfl, rfl⟩ rfl rfl rfl rfl rfl (by kernel_rfl) Try.func10 (by kernel_rfl)
    (of_decide_eq_true (by kernel_rfl)) (by unfold Func.isWrapper; first | (rw [if_pos (by decide +kernel)]; kernel_rfl) | (rw [if_neg (by decide +kernel)]; exact ⟨rfl, rfl⟩))
    (fun os started H enc _ => lifted os started H enc)

theorem proved : Rows.FnExactTanhNumberSaid := over
end Go.Proofs.Ytfoanhffcghjaaa.tanhNumber
