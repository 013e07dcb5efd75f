/- The law FnExactLogNumber holds for every input. No conditions. -/
import Derived.Test.YtfoanhffcghjaaaLog
import Derived.Test.YtfoanhffcghjaaaExt
import Derived.Test.YtfoanhffcghjaaaSame
import Derived.ProofKit
import Derived.OpenShut
import Derived.ChangeOld
import Derived.WalkSmall
namespace Go.Proofs.Ytfoanhffcghjaaa.logNumber
open Go.ChangeShapes Go.WideShapes Go.ChangeAt Go.RowKit Go.Fl Go.Reg Go.Ord
def th (x : Nat) : Nat := if isNaN .f32 x = true then qn .f32 else if x = 0 ∨ x = 2147483648 then 4286578688 else if 2147483648 < x then qn .f32 else if x = 2139095040 then x else nar (lg (wid x))
def Tv (x : Nat) (w : World) (e : Ending) (w' : World) : Prop := ∃ u m, e = .returned (.float .f32 u) ∧ w' = w.drewN m ∧ cn .f32 u = cn .f32 (th x)
theorem th_pos {x : Nat} (h1 : 0 < x) (h2 : x < 2139095040) : th x = nar (lg (wid x)) := by
  unfold th
  rw [if_neg (by rw [not_nan (by omega)]; simp), if_neg (by omega), if_neg (by omega), if_neg (by omega)]
theorem nar_end {x r : Nat} (h1 : 0 < x) (h2 : x < 2139095040) (hr : cn .f64 r = cn .f64 (lg (wid x))) (w : World) : cn .f32 (fnar r w) = cn .f32 (th x) := by
  have hp := wid_pos h1 h2
  rw [cn_fnar _ _ (by rw [← ovf_cn, hr, ovf_cn]; exact lg_ovf hp.1 hp.2), hr, nar_cn, th_pos h1 h2, cn_nar]
set_option maxHeartbeats 1000000 in
theorem implPos (x : Nat) (w : World) (h1 : 0 < x) (h2 : x < 2139095040) : Calls Try.prog 37 #[.float .f32 x] w (Tv x w) := by
  have hn : isNaN .f32 x = false := not_nan (by omega)
  have hz := oz_gt h1 (by omega) hn
  have z1 : (FloatKind.f32.format.order x 0 == some .eq) = false := by rw [hz]; rfl
  have z2 : (FloatKind.f32.format.order x 0 == some .lt) = false := by rw [hz]; rfl
  have z3 := fin_yes (x := x) (by omega)
  have hp := wid_pos h1 h2
  obtain ⟨u, hu⟩ : ∃ u, u = wid x := ⟨_, rfl⟩
  rw [← hu] at hp
  have HU := Lib.hid hu
  have HN := Lib.hid hn
  clear hz hu
  go_enter Try.func37, Try.ntmps37
  go_wp2_with go_in
  clear z1 z2 z3 hn
  go_loopw [3, 4] (fun y e w' => ∃ (k m v E : Nat), y = .float .f64 v ∧ e = .float .f64 E ∧ Hid (v + k * 4503599627370496 = u) ∧ (k = 0 ∨ 4604930618986332160 ≤ v) ∧ Hid (E = floatOfInt .f64 (k : Int)) ∧ Hid (w' = w.drewN m)) (fun y _ _ => match y with | .float _ v => v | _ => 0)
  case atStart => exact ⟨0, _, _, _, rfl, rfl, (by show _ = _; rw [fwid_of HN.out, HU.out]; omega), .inl rfl, (by show _ = _; decide +kernel), rfl⟩
  case round =>
    obtain ⟨k, m, v, E, rfl, rfl, hv, hk, hE, hw⟩ := hrel
    have hv2 := hv.out
    by_cases hlt : 4609434218613702656 ≤ v
    · have hge := ge_yes hlt (by omega)
      go_wp2
      have e1 := halve_word (v := v) (by omega) (by omega)
      have e2 := foi_add k (by omega)
      have E1 := Lib.hid e1
      have E2 := Lib.hid e2
      clear e1 e2 hge
      go_roundw
      case rel => exact ⟨k + 1, _, v - 4503599627370496, floatOfInt .f64 ((k : Int) + 1), (by rw [fres_of E1.out]), (by rw [hE.out, fres_of E2.out]), (by show _ = _; omega), .inr (by omega), (by show _ = _; simp), (by show _ = _; rw [hw.out, drewN_drewN])⟩
      case measure => show (match Value.float FloatKind.f64 (fres .quo .f64 v 4611686018427387904 _) with | .float _ v => v | _ => 0) < v; rw [fres_of E1.out]; show v - 4503599627370496 < v; omega
    · have hge := ge_no (v := v) (c := 4609434218613702656) (by omega) (by omega)
      go_wp2
      clear hge hv2
      go_loopw [3, 4] (fun y e w' => ∃ (j m v' E : Nat), y = .float .f64 v' ∧ e = .float .f64 E ∧ Hid (v' + k * 4503599627370496 = u + j * 4503599627370496) ∧ v' < 4609434218613702656 ∧ (k = 0 ∨ 4604930618986332160 ≤ v') ∧ 4503599627370496 ≤ v' ∧ Hid (E = floatOfInt .f64 ((k : Int) - (j : Int))) ∧ Hid (w' = w.drewN m)) (fun y _ _ => match y with | .float _ v => 4609434218613702656 - v | _ => 0)
      case atStart => exact ⟨0, _, _, _, rfl, rfl, (by have := hv.out; show _ = _; omega), by omega, hk, (by have := hv.out; omega), (by show _ = _; rw [hE.out]; simp), hw⟩
      case round =>
        clear hE hw
        obtain ⟨j, m, v', E, rfl, rfl, hv', hlt', hk', hB, hE, hw⟩ := hrel
        have hv3 := hv'.out
        have hv2 := hv.out
        by_cases hlt2 : v' < 4604930618986332160
        · have hge := lt_yes hlt2 (by omega)
          go_wp2
          have e1 := double_word (v := v') (by omega) (by omega)
          have e2 := foi_sub (e := (k : Int) - (j : Int)) (by omega)
          have E1 := Lib.hid e1
          have E2 := Lib.hid e2
          clear e1 e2 hge
          go_roundw
          case rel => exact ⟨j + 1, _, v' + 4503599627370496, floatOfInt .f64 ((k : Int) - (j : Int) - 1), (by rw [fres_of E1.out]), (by rw [hE.out, fres_of E2.out]), (by show _ = _; omega), by omega, (by omega), by omega, (by show _ = _; congr 1; omega), (by show _ = _; rw [hw.out, drewN_drewN])⟩
          case measure => show (match Value.float FloatKind.f64 (fres .mul .f64 v' 4611686018427387904 _) with | .float _ v => 4609434218613702656 - v | _ => 0) < 4609434218613702656 - v'; rw [fres_of E1.out]; show 4609434218613702656 - (v' + 4503599627370496) < _; omega
        · have hge := lt_no (v := v') (c := 4604930618986332160) (by omega) (by omega)
          obtain ⟨g1, g2⟩ := vv_of (u := u) (v := v') (k := k) (j := j) hv'.out (by omega) hlt'
          have G1 := Lib.hid g1
          have G2 := Lib.hid (show E = floatOfInt .f64 (ee u) by rw [g2]; exact hE.out)
          clear g1 g2 hv3 hv2 hE hv hv' hlt hlt' hk hk' hB hlt2
          go_wp2
          clear hge
          obtain ⟨s, hs⟩ : ∃ s, s = fres .quo .f64 (fres .sub .f64 v' 4607182418800017408 wr) (fres .add .f64 v' 4607182418800017408 (wr.drewN (fdr .sub .f64 v' 4607182418800017408))) (wr.drewN (fdr .sub .f64 v' 4607182418800017408 + fdr .add .f64 v' 4607182418800017408)) := ⟨_, rfl⟩
          rw [← hs]
          have HS := Lib.hid (show cn .f64 s = cn .f64 (ls u) by rw [hs]; exact ls_end G1.out _ _ _)
          clear hs
          generalize hl : fres .mul .f64 s s _ = lu'
          have HL := Lib.hid (show cn .f64 lu' = cn .f64 (lu u) by rw [← hl]; exact lu_end HS.out _)
          clear hl
          go_loopw [7, 8] (fun q kk w' => ∃ (j m r K : Nat), j ≤ 13 ∧ q = .float .f64 r ∧ kk = .float .f64 K ∧ Hid (K = floatOfInt .f64 (25 - 2 * (j : Int))) ∧ Hid (cn .f64 r = cn .f64 (lq u j)) ∧ Hid (w' = w.drewN m)) (fun _ kk _ => msr2 kk)
          case atStart => exact ⟨0, _, _, _, Nat.zero_le _, rfl, rfl, (by show _ = _; decide +kernel), rfl, (by show _ = _; rw [hw.out, drewN_drewN])⟩
          case round =>
            clear hw
            obtain ⟨i, m, r, K, hi, rfl, rfl, hK, hr, hw⟩ := hrel
            by_cases hlt : i < 13
            · obtain ⟨o, ho, hoo⟩ : ∃ o, FloatKind.f64.format.order K 4607182418800017408 = some o ∧ (o = .gt ∨ o = .eq) := by
                rw [hK.out]
                by_cases h11 : i < 12
                · exact ⟨_, k2_gt i h11, .inl rfl⟩
                · have : i = 12 := by omega
                  subst this; exact ⟨_, k2_eq, .inr rfl⟩
              have ho2 : (FloatKind.f64.format.order K 4607182418800017408 == some .gt || FloatKind.f64.format.order K 4607182418800017408 == some .eq) = true := by rw [ho]; rcases hoo with rfl | rfl <;> rfl
              clear ho hoo
              go_wp2
              go_roundw
              case rel => exact ⟨i + 1, _, _, _, by omega, rfl, rfl, by show _ = _; rw [hK.out]; exact fres_of (k2_step i hlt) _, lq_step HL.out hr.out K hK.out _ _ _, by show _ = _; rw [hw.out, drewN_drewN]⟩
              case measure => rw [hK.out, msr2_at _ (by omega), fres_of (k2_step i hlt), msr2_at _ (by omega)]; omega
            · have e : i = 13 := by omega
              subst e
              have ho := k2_lt
              rw [← hK.out] at ho
              have ho2 : (FloatKind.f64.format.order K 4607182418800017408 == some .gt || FloatKind.f64.format.order K 4607182418800017408 == some .eq) = false := by rw [ho]; rfl
              clear ho
              go_wp2
              go_ret
              exact ⟨_, _, rfl, (by rw [hw.out, drewN_drewN]), nar_end h1 h2 (by rw [lg_end HS.out hr.out G2.out, HU.out]) _⟩
theorem eq0_no {v : Nat} (h : 0 < v) (hv : v < 9218868437227405312) : (FloatKind.f64.format.order v 0 == some .eq) = false := by
  rw [ord_pos (show v ≤ 9218868437227405312 by omega) (show 0 ≤ 9218868437227405312 by omega), Nat.compare_eq_gt.2 h]; rfl
theorem max_no {v : Nat} (hv : v < 9218868437227405312) : (FloatKind.f64.format.order v 9218868437227405311 == some .gt) = false := by
  rw [ord_pos (show v ≤ 9218868437227405312 by omega) (show 9218868437227405311 ≤ 9218868437227405312 by omega)]
  rcases Nat.lt_or_ge v 9218868437227405311 with h | h
  · rw [Nat.compare_eq_lt.2 h]; rfl
  · rw [Nat.compare_eq_eq.2 (by omega)]; rfl
def Lv (u : Nat) (w : World) (e : Ending) (w' : World) : Prop := ∃ r m, e = .returned (.float .f64 r) ∧ w' = w.drewN m ∧ cn .f64 r = cn .f64 u
set_option maxHeartbeats 1000000 in
theorem specPos (u : Nat) (w : World) (hp1 : 874 * 4503599627370496 ≤ u) (hp2 : u < 1152 * 4503599627370496) : Calls Try.prog 79 #[.float .f64 u] w (Lv (lg u) w) := by
  have hn : isNaN .f64 u = false := (nan_iff .f64 u).2 (show u % 9223372036854775808 ≤ 9218868437227405312 by omega)
  have z1 := lt_no (v := u) (c := 0) (by omega) (by omega)
  have z2 := eq0_no (v := u) (by omega) (by omega)
  have z3 := max_no (v := u) (by omega)
  go_enter Try.func79, Try.ntmps79
  go_wp2_with go_in
  clear z1 z2 z3 hn
  obtain ⟨uu, hu⟩ : ∃ uu, uu = u := ⟨_, rfl⟩
  have HU := Lib.hid hu
  clear hu
  go_loopw [0, 3] (fun y e w' => ∃ (k m v : Nat), y = .float .f64 v ∧ e = .int .i64 (k : Int) ∧ Hid (v + k * 4503599627370496 = uu) ∧ (k = 0 ∨ 4604930618986332160 ≤ v) ∧ Hid (w' = w.drewN m)) (fun y _ _ => match y with | .float _ v => v | _ => 0)
  case atStart => exact ⟨0, 0, _, rfl, rfl, (by show _ = _; rw [HU.out]; omega), .inl rfl, rfl⟩
  case round =>
    have hp1' : 874 * 4503599627370496 ≤ uu := by rw [HU.out]; exact hp1
    have hp2' : uu < 1152 * 4503599627370496 := by rw [HU.out]; exact hp2
    obtain ⟨k, m, v, rfl, rfl, hv, hk, hw⟩ := hrel
    have hv2 := hv.out
    by_cases hlt : 4609434218613702656 ≤ v
    · have hge := ge_yes hlt (by omega)
      go_wp2
      have e1 := halve_word (v := v) (by omega) (by omega)
      have E1 := Lib.hid e1
      clear e1 hge
      go_roundw
      case rel => exact ⟨k + 1, _, v - 4503599627370496, (by rw [fres_of E1.out]), by go_num, (by show _ = _; omega), .inr (by omega), (by show _ = _; rw [hw.out, drewN_drewN])⟩
      case measure => show (match Value.float FloatKind.f64 (fres .quo .f64 v 4611686018427387904 _) with | .float _ v => v | _ => 0) < v; rw [fres_of E1.out]; show v - 4503599627370496 < v; omega
    · have hge := ge_no (v := v) (c := 4609434218613702656) (by omega) (by omega)
      go_wp2
      clear hge hv2
      go_loopw [0, 3] (fun y e w' => ∃ (j m v' : Nat), y = .float .f64 v' ∧ e = .int .i64 ((k : Int) - (j : Int)) ∧ Hid (v' + k * 4503599627370496 = uu + j * 4503599627370496) ∧ v' < 4609434218613702656 ∧ (k = 0 ∨ 4604930618986332160 ≤ v') ∧ 4503599627370496 ≤ v' ∧ Hid (w' = w.drewN m)) (fun y _ _ => match y with | .float _ v => 4609434218613702656 - v | _ => 0)
      case atStart => exact ⟨0, _, _, rfl, by go_num, (by have := hv.out; show _ = _; omega), by omega, hk, (by have := hv.out; omega), hw⟩
      case round =>
        clear hw
        obtain ⟨j, m, v', rfl, rfl, hv', hlt', hk', hB, hw⟩ := hrel
        have hv3 := hv'.out
        have hv2 := hv.out
        by_cases hlt2 : v' < 4604930618986332160
        · have hge := lt_yes hlt2 (by omega)
          have hb : (k : Int) - (j : Int) ≤ 200 ∧ -200 ≤ (k : Int) - (j : Int) := by omega
          go_wp2
          have e1 := double_word (v := v') (by omega) (by omega)
          have E1 := Lib.hid e1
          clear e1 hge
          go_roundw
          case rel => exact ⟨j + 1, _, v' + 4503599627370496, (by rw [fres_of E1.out]), (by congr 1; omega), (by show _ = _; omega), by omega, (by omega), by omega, (by show _ = _; rw [hw.out, drewN_drewN])⟩
          case measure => show (match Value.float FloatKind.f64 (fres .mul .f64 v' 4611686018427387904 _) with | .float _ v => 4609434218613702656 - v | _ => 0) < 4609434218613702656 - v'; rw [fres_of E1.out]; show 4609434218613702656 - (v' + 4503599627370496) < _; omega
        · have hge := lt_no (v := v') (c := 4604930618986332160) (by omega) (by omega)
          obtain ⟨g1, g2⟩ := vv_of (u := uu) (v := v') (k := k) (j := j) hv'.out (by omega) hlt'
          rw [HU.out] at g1
          have G1 := Lib.hid g1
          obtain ⟨e, he⟩ : ∃ e : Int, e = (k : Int) - (j : Int) := ⟨_, rfl⟩
          have G2 := Lib.hid (show e = ee u by rw [he, ← g2, HU.out])
          rw [← he]
          have hb1 : e ≤ 200 := by omega
          have hb2 : -200 ≤ e := by omega
          clear g1 g2 he hv3 hv2 hv hv' hlt hlt' hk hk' hB hlt2
          go_wp2
          clear hge
          obtain ⟨s, hs⟩ : ∃ s, s = fres .quo .f64 (fres .sub .f64 v' 4607182418800017408 wr) (fres .add .f64 v' 4607182418800017408 (wr.drewN (fdr .sub .f64 v' 4607182418800017408))) (wr.drewN (fdr .sub .f64 v' 4607182418800017408 + fdr .add .f64 v' 4607182418800017408)) := ⟨_, rfl⟩
          rw [← hs]
          have HS := Lib.hid (show cn .f64 s = cn .f64 (ls u) by rw [hs]; exact ls_end G1.out _ _ _)
          clear hs
          generalize hl : fres .mul .f64 s s _ = lu'
          have HL := Lib.hid (show cn .f64 lu' = cn .f64 (lu u) by rw [← hl]; exact lu_end HS.out _)
          clear hl
          go_loopw [6, 7] (fun q kk w' => ∃ (j m r : Nat), j ≤ 13 ∧ q = .float .f64 r ∧ kk = .int .i64 (25 - 2 * (j : Int)) ∧ Hid (cn .f64 r = cn .f64 (lq u j)) ∧ Hid (w' = w.drewN m)) (fun _ kk _ => (intOf kk + 1).toNat)
          case atStart => exact ⟨0, _, _, Nat.zero_le _, rfl, rfl, rfl, (by show _ = _; rw [hw.out, drewN_drewN])⟩
          case round =>
            clear hw
            obtain ⟨i, m, r, hi, rfl, rfl, hr, hw⟩ := hrel
            obtain ⟨kk, hkk⟩ : ∃ kk : Int, kk = 25 - 2 * (i : Int) := ⟨_, rfl⟩
            have HK := Lib.hid hkk
            have hk1 : kk ≤ 25 := by omega
            have hk2 : -1 ≤ kk := by omega
            rw [← hkk]
            by_cases hlt : i < 13
            · have hk3 : 1 ≤ kk := by omega
              clear hkk
              go_wp2
              go_roundw
              case rel => exact ⟨i + 1, _, _, by omega, rfl, (by have := HK.out; congr 1; omega), lq_step HL.out hr.out _ (by rw [HK.out]) _ _ _, by show _ = _; rw [hw.out, drewN_drewN]⟩
              case measure => simp [intOf]; omega
            · have e : i = 13 := by omega
              subst e
              have hk3 : ¬ 1 ≤ kk := by omega
              clear hkk
              go_wp2
              go_ret
              exact ⟨_, _, rfl, (by rw [hw.out, drewN_drewN]), lg_end HS.out hr.out (by rw [G2.out]) _ _ _ _⟩
theorem narS (x : Nat) (w : World) : Calls Try.prog 71 #[.float .f64 x] w fun e w' => e = .returned (.float .f32 (fnar x w)) ∧ w' = w.drewN (ndr x) := by
  go_enter Try.func71, Try.ntmps71
  go_wp2
  go_ret
  exact ⟨rfl, rfl⟩
theorem specNan (u : Nat) (w : World) (h : isNaN .f64 u = true) : Calls Try.prog 79 #[.float .f64 u] w (Lv (qn .f64) w) := by
  go_enter Try.func79, Try.ntmps79
  go_wp2_with go_in
  go_ret
  exact ⟨_, 0, rfl, rfl, by decide +kernel⟩
theorem specNeg (u : Nat) (w : World) (h : isNaN .f64 u = false) (h2 : (FloatKind.f64.format.order u 0 == some .lt) = true) : Calls Try.prog 79 #[.float .f64 u] w (Lv (qn .f64) w) := by
  go_enter Try.func79, Try.ntmps79
  go_wp2_with go_in
  go_ret
  exact ⟨_, 0, rfl, rfl, by decide +kernel⟩
theorem specZero (u : Nat) (w : World) (h : isNaN .f64 u = false) (h2 : (FloatKind.f64.format.order u 0 == some .lt) = false) (h3 : (FloatKind.f64.format.order u 0 == some .eq) = true) : Calls Try.prog 79 #[.float .f64 u] w (Lv 18442240474082181120 w) := by
  go_enter Try.func79, Try.ntmps79
  go_wp2_with go_in
  go_ret
  exact ⟨_, 0, rfl, rfl, by decide +kernel⟩
theorem specInf (u : Nat) (w : World) (h : isNaN .f64 u = false) (h2 : (FloatKind.f64.format.order u 0 == some .lt) = false) (h3 : (FloatKind.f64.format.order u 0 == some .eq) = false) (h4 : (FloatKind.f64.format.order u 9218868437227405311 == some .gt) = true) : Calls Try.prog 79 #[.float .f64 u] w (Lv u w) := by
  go_enter Try.func79, Try.ntmps79
  go_wp2_with go_in
  go_ret
  exact ⟨_, 0, rfl, rfl, rfl⟩
/-- a negative number, widened -/
theorem wid_neg {x : Nat} (h1 : 2147483648 < x) (h2 : x < 4294967296) (hn : isNaN .f32 x = false) : isNaN .f64 (wid x) = false ∧ (FloatKind.f64.format.order (wid x) 0 == some .lt) = true := by
  have hl := nan_le hn
  have key : ∃ r, 0 < r ∧ r ≤ 9218868437227405312 ∧ wid x = 9223372036854775808 + r := by
    by_cases hi : x = 4286578688
    · subst hi; exact ⟨9218868437227405312, by decide, by decide, by decide +kernel⟩
    · have hf : Ord.fin Ieee.single x = true := by unfold Ord.fin rung; rw [ssw, sir]; exact decide_eq_true (by omega)
      obtain ⟨m, e, hr, he, hm⟩ := read_fin Ieee.single hf
      rw [slp] at he hm
      have hng : Ord.neg Ieee.single x = true := by
        unfold Ord.neg; rw [ssw, show x / 2147483648 = 1 by omega]; rfl
      rw [hng] at hr
      have hw : wid x = Ieee.double.nearest true m e := by unfold wid; rw [if_neg (by rw [hn]; simp), show FloatKind.f32.decode x = .number true m e from hr]; rfl
      have hm0 : m ≠ 0 := by
        rintro rfl
        rw [Nat.zero_mul] at hm
        have := mg_lt Ieee.single (show 0 < rung Ieee.single x by unfold rung; rw [ssw]; omega)
        omega
      have hge : 1 ≤ ab (Ieee.double.nearest true m e) := by
        refine near_ge _ _ hm0 (by omega) ?_
        have hg : mg Ieee.double 1 = 1 := by decide +kernel
        rw [hg, show (-1074 - e).toNat = 0 by omega, Nat.pow_zero, Nat.mul_one]
        exact Nat.mul_pos (Nat.pos_of_ne_zero hm0) (Nat.two_pow_pos _)
      rw [nearest_nr _ _ _ hm0, dir, ab_word _ (Nat.min_le_right _ _)] at hge
      refine ⟨_, hge, Nat.min_le_right _ _, ?_⟩
      rw [hw, nearest_nr _ _ _ hm0, dir]
      unfold Ieee.Format.word
      rw [if_pos rfl, dsw]
  obtain ⟨r, r1, r2, e⟩ := key
  rw [e]
  have hn2 : isNaN .f64 (9223372036854775808 + r) = false := (nan_iff .f64 _).2 (show (9223372036854775808 + r) % 9223372036854775808 ≤ 9218868437227405312 by omega)
  refine ⟨hn2, ?_⟩
  rw [order_zero (k := .f64) (show 9223372036854775808 + r < 2 * 9223372036854775808 by omega) hn2, show sw .f64 = 9223372036854775808 from rfl, if_neg (by omega), if_neg (by omega)]
  rfl
/-- the five kinds of numbers -/
theorem kinds (x : Nat) (h : x < 4294967296) : isNaN .f32 x = true ∨ (isNaN .f32 x = false ∧ ((x = 0 ∨ x = 2147483648) ∨ 2147483648 < x ∨ x = 2139095040 ∨ (0 < x ∧ x < 2139095040))) := by
  cases hn : isNaN .f32 x
  · right
    have := nan_le hn
    exact ⟨rfl, by omega⟩
  · exact .inl rfl
theorem specT (x : Nat) (hx : x < 4294967296) (w : World) : Calls Try.prog 58 #[.float .f32 x] w (Tv x w) := by
  have key : ∃ r, (∀ w w1, Calls Try.prog 79 #[.float .f64 (fwid x w)] w1 (Lv r w1)) ∧ ∀ q w, cn .f64 q = cn .f64 r → cn .f32 (fnar q w) = cn .f32 (th x) := by
    rcases kinds x hx with hn | ⟨hn, hz | hz | hz | ⟨h1, h2⟩⟩
    · refine ⟨qn .f64, fun w w1 => specNan _ _ (by rw [isNaN_fwid]; unfold wid; rw [hn]; exact isNaN_qn .f64), fun q w hq => ?_⟩
      have hq2 : isNaN .f64 q = true := by rw [cn_eq_nan hq]; exact isNaN_qn .f64
      exact nan_cn_eq (fnar_nan hq2 w) (by unfold th; rw [if_pos hn]; exact isNaN_qn .f32)
    · refine ⟨18442240474082181120, fun w w1 => ?_, fun q w hq => ?_⟩
      · rw [fwid_of hn]
        rcases hz with rfl | rfl
        · exact specZero _ _ (by decide +kernel) (by decide +kernel) (by decide +kernel)
        · exact specZero _ _ (by decide +kernel) (by decide +kernel) (by decide +kernel)
      · have h0 : isNaN .f64 18442240474082181120 = false := by decide +kernel
        have hq2 : isNaN .f64 q = false := by rw [cn_eq_nan hq]; exact h0
        rw [cn_of_not hq2, cn_of_not h0] at hq
        rw [hq, fnar_of h0 (by decide +kernel)]
        unfold th; rw [if_neg (by rw [hn]; simp), if_pos hz]; decide +kernel
    · have hw := wid_neg hz hx hn
      refine ⟨qn .f64, fun w w1 => ?_, fun q w hq => ?_⟩
      · rw [fwid_of hn]; exact specNeg _ _ hw.1 hw.2
      · have hq2 : isNaN .f64 q = true := by rw [cn_eq_nan hq]; exact isNaN_qn .f64
        exact nan_cn_eq (fnar_nan hq2 w) (by unfold th; rw [if_neg (by rw [hn]; simp), if_neg (by omega), if_pos hz]; exact isNaN_qn .f32)
    · subst hz
      refine ⟨9218868437227405312, fun w w1 => ?_, fun q w hq => ?_⟩
      · rw [fwid_of hn]; exact specInf _ _ (by decide +kernel) (by decide +kernel) (by decide +kernel) (by decide +kernel)
      · have h0 : isNaN .f64 9218868437227405312 = false := by decide +kernel
        have hq2 : isNaN .f64 q = false := by rw [cn_eq_nan hq]; exact h0
        rw [cn_of_not hq2, cn_of_not h0] at hq
        rw [hq, fnar_inf]; decide +kernel
    · have hp := wid_pos h1 h2
      exact ⟨lg (wid x), fun w w1 => by rw [fwid_of hn]; exact specPos _ _ hp.1 hp.2, fun q w hq => nar_end h1 h2 hq w⟩
  obtain ⟨r, k1, k2⟩ := key
  go_enter Try.func58, Try.ntmps58
  go_wp2_with fail
  refine (k1 _ _).mono ?_
  rintro e w1 ⟨q, m, rfl, rfl, hq⟩
  go_wp2_with fail
  refine (narS _ _).mono ?_
  rintro e w1 ⟨rfl, rfl⟩
  go_wp2
  go_ret
  exact ⟨_, _, rfl, rfl, k2 _ _ hq⟩
theorem implT (x : Nat) (hx : x < 4294967296) (w : World) : Calls Try.prog 37 #[.float .f32 x] w (Tv x w) := by
  rcases kinds x hx with hn | ⟨hn, hz | hz | hz | ⟨h1, h2⟩⟩
  · have z1 : (FloatKind.f32.format.order x 0 == some .eq) = false := by rw [order_nan (.inl hn)]; rfl
    have z2 : (FloatKind.f32.format.order x 0 == some .lt) = false := by rw [order_nan (.inl hn)]; rfl
    go_enter Try.func37, Try.ntmps37
    go_wp2_with go_in
    go_ret
    exact ⟨_, _, rfl, rfl, nan_cn_eq (fnar_nan (by decide +kernel) _) (by unfold th; rw [if_pos hn]; exact isNaN_qn .f32)⟩
  · have z1 : (FloatKind.f32.format.order x 0 == some .eq) = true := by rw [oz_eq hz]; rfl
    have hneg : ∀ (b : Nat) (w : World), (Op.unary .neg (.float .f32 b)).run Try.prog w = .ok (.float .f32 (Op.negFloat .f32 b)) w := fun _ _ => rfl
    go_enter Try.func37, Try.ntmps37
    go_wp2_with go_in
    go_ret
    exact ⟨_, _, rfl, rfl, by rw [fnar_inf]; unfold th; rw [if_neg (by rw [hn]; simp), if_pos hz]; decide +kernel⟩
  · have ho := oz_lt hz hx hn
    have z1 : (FloatKind.f32.format.order x 0 == some .eq) = false := by rw [ho]; rfl
    have z2 : (FloatKind.f32.format.order x 0 == some .lt) = true := by rw [ho]; rfl
    clear ho
    go_enter Try.func37, Try.ntmps37
    go_wp2_with go_in
    go_ret
    exact ⟨_, _, rfl, rfl, nan_cn_eq (fnar_nan (by decide +kernel) _) (by unfold th; rw [if_neg (by rw [hn]; simp), if_neg (by omega), if_pos hz]; exact isNaN_qn .f32)⟩
  · subst hz
    have z1 : (FloatKind.f32.format.order 2139095040 0 == some .eq) = false := by decide +kernel
    have z2 : (FloatKind.f32.format.order 2139095040 0 == some .lt) = false := by decide +kernel
    have z3 := fin_no (x := 2139095040) (by omega)
    go_enter Try.func37, Try.ntmps37
    go_wp2_with go_in
    go_ret
    exact ⟨_, _, rfl, rfl, by decide +kernel⟩
  · exact implPos x w h1 h2
theorem walk (x : Nat) (hx : (Lit.float .f32 x).wf = true) (w : World) : Calls Try.prog 12 #[.float .f32 x] w fun e w' => e = .returned (.bool true) ∧ Below w.heap.size w w' := by
  have hx' : x < 4294967296 := by simpa [Lit.wf] using hx
  clear hx
  go_enter Try.func12, Try.ntmps12
  go_wp2_with (first | (go_at_call 58; refine (specT _ hx' _).mono ?_; rintro e w1 ⟨u, m, rfl, rfl, hu⟩) | (go_at_call 37; refine (implT _ hx' _).mono ?_; rintro e w2 ⟨v, m2, rfl, rfl, hv⟩) | (go_at_call 18; refine (sameFloat _ _ _ (cnw (hv.trans hu.symm) _ _)).mono ?_; rintro e w3 ⟨rfl, rfl⟩) | go_in)
  go_ret
  exact ⟨rfl, below_drewN (Below.refl _ _) _⟩
theorem own : ownKnob Try.prog.godebug = none := by kernel_rfl
theorem laidOut : laidOutB Try.prog = true := by kernel_rfl
set_option maxRecDepth 100000 in
set_option maxHeartbeats 2000000 in
theorem lifted (os : Os) (started : os.Started) (H : Type) (enc : TypeId × Value → H) :
    ReturnsInHanded {} Try.checked os 12 .any (Rows.fnExactLogNumberSpec.pre6 enc Try.prog Try.f12 Rows.fnExactLogNumberRow.domain false) (Rows.fnExactLogNumberSpec.post enc Try.prog Try.f12 false true false false) := by
  refine returnsInHanded_of_change (C := Try.checked) own started (by kernel_rfl) Try.func12
    (ChangeSpec.witness6 (enc := enc) (C := Try.checked) false ⟨#[], #[.float .f32 0], []⟩ 8 (by kernel_rfl) (by kernel_rfl) (by kernel_rfl) (by kernel_rfl)) ?_
  intro W base args ds gs before hval0 hW hcnd _
  have hval : ∀ (j : Nat) t v, Try.f12.params[j]? = some t → args[j]? = some v → Value.okWide Try.prog W .any base t v := hval0
  have hW' := hW
  obtain ⟨p, q, hA0, hV, rfl, hfz, hnd⟩ := hW
  have hA : DataW.TrodAll enc Try.prog W 0 (fun _ => true) true Try.f12.params.toList args.toList ds p := hA0
  rw [Try.params12] at hA hval
  obtain ⟨v0, vs0, d0, ds0, p0, q0, hargs, rfl, rfl, h0, r0⟩ := trodAll_cons hA
  obtain ⟨rfl, rfl, rfl⟩ := trodAll_nil r0
  obtain rfl : args = #[v0] := by cases args; simp_all
  obtain ⟨rfl, rfl⟩ := trodVars_none hV
  have k0 := h0
  have lt0 : ∀ x ∈ p0, x.block < W.heap.size := by obtain ⟨m, hm⟩ := k0; exact DataW.trod_lt m _ _ _ hm
  obtain ⟨a0, rfl, rfl, rfl, w0⟩ := open_float Try.underlying23 (hval 0 23 v0 rfl rfl) h0
  clear hA0 hval0
  refine (walk a0 w0 W).mono fun e W' ⟨he, bel⟩ => ?_
  subst he
  exact ⟨_, rfl, _, _, _, [], _, [], hW', trodAll_mk1 (shut_bool Try.underlying4 _), (trodAll_cons_mk (Below.trod laidOut (by kernel_rfl) (of_decide_eq_true (by kernel_rfl)) k0 bel lt0) trodAll_mk0), rfl, bel.frame _, fun h => by cases h⟩

theorem over : Rows.fnExactLogNumberRow.holds Try.pinned (OpenSpec.ofChange Rows.fnExactLogNumberSpec) :=
  OpenClaim.holds_of_wide 12 Try.f12 rfl rfl rfl rfl rfl rfl rfl ⟨rfl, rfl, rfl, rfl, rfl⟩ rfl rfl rfl rfl rfl (by kernel_rfl) Try.func12 (by kernel_rfl)
    (of_decide_eq_true (by kernel_rfl)) (by unfold Func.isWrapper; first | (rw [if_pos (by decide +kernel)]; kernel_rfl) | (rw [if_neg (by decide +kernel)]; exact ⟨rfl, rfl⟩))
    (fun os started H enc _ => lifted os started H enc)

theorem proved : Rows.FnExactLogNumberSaid := over
end Go.Proofs.Ytfoanhffcghjaaa.logNumber
