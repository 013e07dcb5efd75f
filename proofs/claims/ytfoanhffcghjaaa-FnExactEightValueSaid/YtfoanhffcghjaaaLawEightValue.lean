/- The law FnExactEightValue holds for every input. No conditions. -/
import Derived.Test.YtfoanhffcghjaaaEight
import Derived.Test.YtfoanhffcghjaaaSame
import Derived.ProofKit
import Derived.OpenShut
import Derived.ChangeOld
import Derived.WalkSmall
namespace Go.Proofs.Ytfoanhffcghjaaa.eightValue
open Go.ChangeShapes Go.WideShapes Go.ChangeAt Go.RowKit Go.Fl Go.Reg Go.Ord
theorem neg_nan (x : Nat) : isNaN .f32 (Op.negFloat .f32 x) = isNaN .f32 x := by
  have e : (Op.negFloat .f32 x) % 2147483648 = x % 2147483648 := by
    show (x ^^^ 2 ^ 31) % 2 ^ 31 = x % 2 ^ 31
    rw [Nat.xor_mod_two_pow, Nat.mod_self, Nat.xor_zero]
  rw [Bool.eq_iff_iff, isNaN_f32, isNaN_f32, e]
theorem neg_cn {a b : Nat} (h : cn .f32 a = cn .f32 b) : cn .f32 (Op.negFloat .f32 a) = cn .f32 (Op.negFloat .f32 b) := by
  have hn := cn_eq_nan h
  cases hb : isNaN .f32 b
  · rw [hb] at hn
    rw [cn_of_not hn, cn_of_not hb] at h
    rw [h]
  · rw [hb] at hn
    exact nan_cn_eq (by rw [neg_nan]; exact hn) (by rw [neg_nan]; exact hb)
theorem rv_ok0 : ∀ r : Nat, r < 124 → isNaN .f64 (rv 4 15 (r / 4) (r % 4)) = false ∧ ovf (rv 4 15 (r / 4) (r % 4)) = false := by decide +kernel
theorem rv_ok1 : ∀ r : Nat, r < 127 → isNaN .f64 (rv 8 7 (r / 8) (r % 8)) = false ∧ ovf (rv 8 7 (r / 8) (r % 8)) = false := by decide +kernel
/-- a number, whether it is to be had; nothing was made -/
def EV (x : Nat) (ok : Bool) (w : World) (e : Ending) (w' : World) : Prop := ∃ u m, e = .returned (.tuple #[.float .f32 u, .bool ok]) ∧ w' = w.drewN m ∧ cn .f32 u = cn .f32 x
theorem narS (x : Nat) (w : World) : Calls Try.prog 71 #[.float .f64 x] w fun e w' => e = .returned (.float .f32 (fnar x w)) ∧ w' = w.drewN (ndr x) := by
  go_enter Try.func71, Try.ntmps71
  go_wp2
  go_ret
  exact ⟨rfl, rfl⟩
def qv (K r : Nat) : Nat := if K = 0 then (if r < 124 then nar (rv 4 15 (r / 4) (r % 4)) else if r = 124 then 2139095040 else 2143289344) else (if r < 127 then nar (rv 8 7 (r / 8) (r % 8)) else 2143289344)
def ev (K c : Nat) : Nat := if 128 ≤ c then Op.negFloat .f32 (qv K (c % 128)) else qv K (c % 128)
theorem restI0x (x : Int) (r V : Nat) (hV : Hid (V = rv 4 15 (r / 4) (r % 4))) (hx : x = (r : Int)) (w : World) (hr : r ≤ 126) : Calls Try.prog 67 #[.int .i64 0, .int .i64 x] w (RVp V w) := by rw [hV.out]; subst hx; exact restI0 r _ _ w (by omega) (by omega) hr
theorem restI1x (x : Int) (r V : Nat) (hV : Hid (V = rv 8 7 (r / 8) (r % 8))) (hx : x = (r : Int)) (w : World) (hr : r ≤ 126) : Calls Try.prog 67 #[.int .i64 1, .int .i64 x] w (RVp V w) := by rw [hV.out]; subst hx; exact restI1 r _ _ w (by omega) (by omega) hr
theorem restS0x (x : Int) (r V : Nat) (hV : Hid (V = rv 4 15 (r / 4) (r % 4))) (hx : x = (r : Int)) (w : World) (hr : r ≤ 126) : Calls Try.prog 82 #[.int .i64 0, .int .i64 x] w (RVp V w) := by rw [hV.out]; subst hx; exact restS0 r _ _ w (by omega) (by omega) hr
theorem restS1x (x : Int) (r V : Nat) (hV : Hid (V = rv 8 7 (r / 8) (r % 8))) (hx : x = (r : Int)) (w : World) (hr : r ≤ 126) : Calls Try.prog 82 #[.int .i64 1, .int .i64 x] w (RVp V w) := by rw [hV.out]; subst hx; exact restS1 r _ _ w (by omega) (by omega) hr
set_option maxRecDepth 100000 in
theorem impl00fin (c r : Nat) (w : World) (hc : c = r) (hr : r < 124) :
    Calls Try.prog 39 #[.int .i64 0, .int .i64 (c : Int)] w (EV (ev 0 c) true w) := by
  have hcr : c % 128 = r := by omega
  have hm : (c : Int) % 128 = (r : Int) := by omega
  have hq : qv 0 r = nar (rv 4 15 (r / 4) (r % 4)) := by unfold qv; rw [if_pos rfl, if_pos hr]
  have hev : ev 0 c = qv 0 r := by unfold ev; rw [hcr, if_neg (by omega)]
  rw [hq] at hev
  clear hq hcr
  have HEV := Lib.hid hev
  clear hev
  generalize ev 0 c = X at *
  have hrl : r < 128 := by omega
  have hle : (r : Int) ≤ 123 := by omega
  have hcc : ¬ (128 : Int) ≤ (c : Int) := by omega
  have hc0 : (0 : Int) ≤ (c : Int) := by omega
  have hc1 : (c : Int) ≤ 255 := by omega
  have hcn : c ≤ 255 := by omega
  subst hc
  clear hm
  have hneg : ∀ (b : Nat) (w : World), (Op.unary .neg (.float .f32 b)).run Try.prog w = .ok (.float .f32 (Op.negFloat .f32 b)) w := fun _ _ => rfl
  obtain ⟨V, hV⟩ : ∃ V, V = rv 4 15 (c / 4) (c % 4) := ⟨_, rfl⟩
  have HVV := Lib.hid hV
  clear hV
  go_enter Try.func39, Try.ntmps39
  go_wp2_with (first | (go_at_call 67; refine (restI0x _ c V HVV (by omega) _ (by omega)).mono ?_; rintro e w1 ⟨m, rfl, rfl⟩) | go_in)
  go_ret2
  refine ⟨_, _, rfl, rfl, ?_⟩
  rw [HEV.out]
  obtain ⟨k1, k2⟩ := rv_ok0 c (by omega)
  rw [HVV.out, fnar_of k1 k2]
theorem impl00nan (c r : Nat) (w : World) (hc : c = r) (hr : 125 ≤ r ∧ r < 128) :
    Calls Try.prog 39 #[.int .i64 0, .int .i64 (c : Int)] w (EV (ev 0 c) true w) := by
  have hcr : c % 128 = r := by omega
  have hm : (c : Int) % 128 = (r : Int) := by omega
  have hq : qv 0 r = 2143289344 := by unfold qv; rw [if_pos rfl, if_neg (by omega), if_neg (by omega)]
  have hev : ev 0 c = qv 0 r := by unfold ev; rw [hcr, if_neg (by omega)]
  rw [hq] at hev
  clear hq hcr
  have HEV := Lib.hid hev
  clear hev
  generalize ev 0 c = X at *
  have hrl : r < 128 := by omega
  have hge : ¬ (r : Int) ≤ 123 := by omega
  have hne : ¬ (r : Int) = 124 := by omega
  have hcc : ¬ (128 : Int) ≤ (c : Int) := by omega
  have hc0 : (0 : Int) ≤ (c : Int) := by omega
  have hc1 : (c : Int) ≤ 255 := by omega
  have hcn : c ≤ 255 := by omega
  subst hc
  clear hm
  have hneg : ∀ (b : Nat) (w : World), (Op.unary .neg (.float .f32 b)).run Try.prog w = .ok (.float .f32 (Op.negFloat .f32 b)) w := fun _ _ => rfl
  go_enter Try.func39, Try.ntmps39
  go_wp2_with (first | go_in)
  go_ret2
  refine ⟨_, _, rfl, rfl, ?_⟩
  rw [HEV.out]
  exact nan_cn_eq (fnar_nan (by decide +kernel) _) (by decide +kernel)
theorem impl00inf (c r : Nat) (w : World) (hc : c = r) (hr : r = 124) :
    Calls Try.prog 39 #[.int .i64 0, .int .i64 (c : Int)] w (EV (ev 0 c) true w) := by
  have hcr : c % 128 = r := by omega
  have hm : (c : Int) % 128 = (r : Int) := by omega
  have hq : qv 0 r = 2139095040 := by unfold qv; rw [if_pos rfl, if_neg (by omega), if_pos hr]
  have hev : ev 0 c = qv 0 r := by unfold ev; rw [hcr, if_neg (by omega)]
  rw [hq] at hev
  clear hq hcr
  have HEV := Lib.hid hev
  clear hev
  generalize ev 0 c = X at *
  have hrl : r < 128 := by omega
  have hge : ¬ (r : Int) ≤ 123 := by omega
  have hr124 : (r : Int) = 124 := by omega
  have hcc : ¬ (128 : Int) ≤ (c : Int) := by omega
  have hc0 : (0 : Int) ≤ (c : Int) := by omega
  have hc1 : (c : Int) ≤ 255 := by omega
  have hcn : c ≤ 255 := by omega
  subst hc
  clear hm
  clear hr
  have hneg : ∀ (b : Nat) (w : World), (Op.unary .neg (.float .f32 b)).run Try.prog w = .ok (.float .f32 (Op.negFloat .f32 b)) w := fun _ _ => rfl
  go_enter Try.func39, Try.ntmps39
  go_wp2_with (first | go_in)
  go_ret2
  refine ⟨_, _, rfl, rfl, ?_⟩
  rw [HEV.out]
  rw [fnar_inf]
theorem impl01fin (c r : Nat) (w : World) (hc : c = r + 128) (hr : r < 124) :
    Calls Try.prog 39 #[.int .i64 0, .int .i64 (c : Int)] w (EV (ev 0 c) true w) := by
  have hcr : c % 128 = r := by omega
  have hm : (c : Int) % 128 = (r : Int) := by omega
  have hq : qv 0 r = nar (rv 4 15 (r / 4) (r % 4)) := by unfold qv; rw [if_pos rfl, if_pos hr]
  have hev : ev 0 c = Op.negFloat .f32 (qv 0 r) := by unfold ev; rw [hcr, if_pos (by omega)]
  rw [hq] at hev
  clear hq hcr
  have HEV := Lib.hid hev
  clear hev
  generalize ev 0 c = X at *
  have hrl : r < 128 := by omega
  have hle : (r : Int) ≤ 123 := by omega
  have hcc : (128 : Int) ≤ (c : Int) := by omega
  have hc0 : (0 : Int) ≤ (c : Int) := by omega
  have hc1 : (c : Int) ≤ 255 := by omega
  have hcn : c ≤ 255 := by omega
  clear hc
  have hneg : ∀ (b : Nat) (w : World), (Op.unary .neg (.float .f32 b)).run Try.prog w = .ok (.float .f32 (Op.negFloat .f32 b)) w := fun _ _ => rfl
  obtain ⟨V, hV⟩ : ∃ V, V = rv 4 15 (r / 4) (r % 4) := ⟨_, rfl⟩
  have HVV := Lib.hid hV
  clear hV
  go_enter Try.func39, Try.ntmps39
  go_wp2_with (first | (go_at_call 67; refine (restI0x _ r V HVV (by omega) _ (by omega)).mono ?_; rintro e w1 ⟨m, rfl, rfl⟩) | go_in)
  go_ret2
  refine ⟨_, _, rfl, rfl, ?_⟩
  rw [HEV.out]
  obtain ⟨k1, k2⟩ := rv_ok0 r (by omega)
  rw [HVV.out, fnar_of k1 k2]
theorem impl01nan (c r : Nat) (w : World) (hc : c = r + 128) (hr : 125 ≤ r ∧ r < 128) :
    Calls Try.prog 39 #[.int .i64 0, .int .i64 (c : Int)] w (EV (ev 0 c) true w) := by
  have hcr : c % 128 = r := by omega
  have hm : (c : Int) % 128 = (r : Int) := by omega
  have hq : qv 0 r = 2143289344 := by unfold qv; rw [if_pos rfl, if_neg (by omega), if_neg (by omega)]
  have hev : ev 0 c = Op.negFloat .f32 (qv 0 r) := by unfold ev; rw [hcr, if_pos (by omega)]
  rw [hq] at hev
  clear hq hcr
  have HEV := Lib.hid hev
  clear hev
  generalize ev 0 c = X at *
  have hrl : r < 128 := by omega
  have hge : ¬ (r : Int) ≤ 123 := by omega
  have hne : ¬ (r : Int) = 124 := by omega
  have hcc : (128 : Int) ≤ (c : Int) := by omega
  have hc0 : (0 : Int) ≤ (c : Int) := by omega
  have hc1 : (c : Int) ≤ 255 := by omega
  have hcn : c ≤ 255 := by omega
  clear hc
  have hneg : ∀ (b : Nat) (w : World), (Op.unary .neg (.float .f32 b)).run Try.prog w = .ok (.float .f32 (Op.negFloat .f32 b)) w := fun _ _ => rfl
  go_enter Try.func39, Try.ntmps39
  go_wp2_with (first | go_in)
  go_ret2
  refine ⟨_, _, rfl, rfl, ?_⟩
  rw [HEV.out]
  refine neg_cn ?_
  exact nan_cn_eq (fnar_nan (by decide +kernel) _) (by decide +kernel)
theorem impl01inf (c r : Nat) (w : World) (hc : c = r + 128) (hr : r = 124) :
    Calls Try.prog 39 #[.int .i64 0, .int .i64 (c : Int)] w (EV (ev 0 c) true w) := by
  have hcr : c % 128 = r := by omega
  have hm : (c : Int) % 128 = (r : Int) := by omega
  have hq : qv 0 r = 2139095040 := by unfold qv; rw [if_pos rfl, if_neg (by omega), if_pos hr]
  have hev : ev 0 c = Op.negFloat .f32 (qv 0 r) := by unfold ev; rw [hcr, if_pos (by omega)]
  rw [hq] at hev
  clear hq hcr
  have HEV := Lib.hid hev
  clear hev
  generalize ev 0 c = X at *
  have hrl : r < 128 := by omega
  have hge : ¬ (r : Int) ≤ 123 := by omega
  have hr124 : (r : Int) = 124 := by omega
  have hcc : (128 : Int) ≤ (c : Int) := by omega
  have hc0 : (0 : Int) ≤ (c : Int) := by omega
  have hc1 : (c : Int) ≤ 255 := by omega
  have hcn : c ≤ 255 := by omega
  clear hc
  clear hr
  have hneg : ∀ (b : Nat) (w : World), (Op.unary .neg (.float .f32 b)).run Try.prog w = .ok (.float .f32 (Op.negFloat .f32 b)) w := fun _ _ => rfl
  go_enter Try.func39, Try.ntmps39
  go_wp2_with (first | go_in)
  go_ret2
  refine ⟨_, _, rfl, rfl, ?_⟩
  rw [HEV.out]
  rw [fnar_inf]
set_option maxRecDepth 100000 in
theorem impl10fin (c r : Nat) (w : World) (hc : c = r) (hr : r < 127) :
    Calls Try.prog 39 #[.int .i64 1, .int .i64 (c : Int)] w (EV (ev 1 c) true w) := by
  have hcr : c % 128 = r := by omega
  have hm : (c : Int) % 128 = (r : Int) := by omega
  have hq : qv 1 r = nar (rv 8 7 (r / 8) (r % 8)) := by unfold qv; rw [if_neg (by omega), if_pos hr]
  have hev : ev 1 c = qv 1 r := by unfold ev; rw [hcr, if_neg (by omega)]
  rw [hq] at hev
  clear hq hcr
  have HEV := Lib.hid hev
  clear hev
  generalize ev 1 c = X at *
  have hrl : r < 128 := by omega
  have hle : (r : Int) ≤ 126 := by omega
  have hcc : ¬ (128 : Int) ≤ (c : Int) := by omega
  have hc0 : (0 : Int) ≤ (c : Int) := by omega
  have hc1 : (c : Int) ≤ 255 := by omega
  have hcn : c ≤ 255 := by omega
  subst hc
  clear hm
  have hneg : ∀ (b : Nat) (w : World), (Op.unary .neg (.float .f32 b)).run Try.prog w = .ok (.float .f32 (Op.negFloat .f32 b)) w := fun _ _ => rfl
  obtain ⟨V, hV⟩ : ∃ V, V = rv 8 7 (c / 8) (c % 8) := ⟨_, rfl⟩
  have HVV := Lib.hid hV
  clear hV
  go_enter Try.func39, Try.ntmps39
  go_wp2_with (first | (go_at_call 67; refine (restI1x _ c V HVV (by omega) _ (by omega)).mono ?_; rintro e w1 ⟨m, rfl, rfl⟩) | go_in)
  go_ret2
  refine ⟨_, _, rfl, rfl, ?_⟩
  rw [HEV.out]
  obtain ⟨k1, k2⟩ := rv_ok1 c (by omega)
  rw [HVV.out, fnar_of k1 k2]
theorem impl10nan (c r : Nat) (w : World) (hc : c = r) (hr : 127 ≤ r ∧ r < 128) :
    Calls Try.prog 39 #[.int .i64 1, .int .i64 (c : Int)] w (EV (ev 1 c) true w) := by
  have hcr : c % 128 = r := by omega
  have hm : (c : Int) % 128 = (r : Int) := by omega
  have hq : qv 1 r = 2143289344 := by unfold qv; rw [if_neg (by omega), if_neg (by omega)]
  have hev : ev 1 c = qv 1 r := by unfold ev; rw [hcr, if_neg (by omega)]
  rw [hq] at hev
  clear hq hcr
  have HEV := Lib.hid hev
  clear hev
  generalize ev 1 c = X at *
  have hrl : r < 128 := by omega
  have hge : ¬ (r : Int) ≤ 126 := by omega
  have hcc : ¬ (128 : Int) ≤ (c : Int) := by omega
  have hc0 : (0 : Int) ≤ (c : Int) := by omega
  have hc1 : (c : Int) ≤ 255 := by omega
  have hcn : c ≤ 255 := by omega
  subst hc
  clear hm
  have hneg : ∀ (b : Nat) (w : World), (Op.unary .neg (.float .f32 b)).run Try.prog w = .ok (.float .f32 (Op.negFloat .f32 b)) w := fun _ _ => rfl
  go_enter Try.func39, Try.ntmps39
  go_wp2_with (first | go_in)
  go_ret2
  refine ⟨_, _, rfl, rfl, ?_⟩
  rw [HEV.out]
  exact nan_cn_eq (fnar_nan (by decide +kernel) _) (by decide +kernel)
theorem impl11fin (c r : Nat) (w : World) (hc : c = r + 128) (hr : r < 127) :
    Calls Try.prog 39 #[.int .i64 1, .int .i64 (c : Int)] w (EV (ev 1 c) true w) := by
  have hcr : c % 128 = r := by omega
  have hm : (c : Int) % 128 = (r : Int) := by omega
  have hq : qv 1 r = nar (rv 8 7 (r / 8) (r % 8)) := by unfold qv; rw [if_neg (by omega), if_pos hr]
  have hev : ev 1 c = Op.negFloat .f32 (qv 1 r) := by unfold ev; rw [hcr, if_pos (by omega)]
  rw [hq] at hev
  clear hq hcr
  have HEV := Lib.hid hev
  clear hev
  generalize ev 1 c = X at *
  have hrl : r < 128 := by omega
  have hle : (r : Int) ≤ 126 := by omega
  have hcc : (128 : Int) ≤ (c : Int) := by omega
  have hc0 : (0 : Int) ≤ (c : Int) := by omega
  have hc1 : (c : Int) ≤ 255 := by omega
  have hcn : c ≤ 255 := by omega
  clear hc
  have hneg : ∀ (b : Nat) (w : World), (Op.unary .neg (.float .f32 b)).run Try.prog w = .ok (.float .f32 (Op.negFloat .f32 b)) w := fun _ _ => rfl
  obtain ⟨V, hV⟩ : ∃ V, V = rv 8 7 (r / 8) (r % 8) := ⟨_, rfl⟩
  have HVV := Lib.hid hV
  clear hV
  go_enter Try.func39, Try.ntmps39
  go_wp2_with (first | (go_at_call 67; refine (restI1x _ r V HVV (by omega) _ (by omega)).mono ?_; rintro e w1 ⟨m, rfl, rfl⟩) | go_in)
  go_ret2
  refine ⟨_, _, rfl, rfl, ?_⟩
  rw [HEV.out]
  obtain ⟨k1, k2⟩ := rv_ok1 r (by omega)
  rw [HVV.out, fnar_of k1 k2]
theorem impl11nan (c r : Nat) (w : World) (hc : c = r + 128) (hr : 127 ≤ r ∧ r < 128) :
    Calls Try.prog 39 #[.int .i64 1, .int .i64 (c : Int)] w (EV (ev 1 c) true w) := by
  have hcr : c % 128 = r := by omega
  have hm : (c : Int) % 128 = (r : Int) := by omega
  have hq : qv 1 r = 2143289344 := by unfold qv; rw [if_neg (by omega), if_neg (by omega)]
  have hev : ev 1 c = Op.negFloat .f32 (qv 1 r) := by unfold ev; rw [hcr, if_pos (by omega)]
  rw [hq] at hev
  clear hq hcr
  have HEV := Lib.hid hev
  clear hev
  generalize ev 1 c = X at *
  have hrl : r < 128 := by omega
  have hge : ¬ (r : Int) ≤ 126 := by omega
  have hcc : (128 : Int) ≤ (c : Int) := by omega
  have hc0 : (0 : Int) ≤ (c : Int) := by omega
  have hc1 : (c : Int) ≤ 255 := by omega
  have hcn : c ≤ 255 := by omega
  clear hc
  have hneg : ∀ (b : Nat) (w : World), (Op.unary .neg (.float .f32 b)).run Try.prog w = .ok (.float .f32 (Op.negFloat .f32 b)) w := fun _ _ => rfl
  go_enter Try.func39, Try.ntmps39
  go_wp2_with (first | go_in)
  go_ret2
  refine ⟨_, _, rfl, rfl, ?_⟩
  rw [HEV.out]
  refine neg_cn ?_
  exact nan_cn_eq (fnar_nan (by decide +kernel) _) (by decide +kernel)
theorem implNok (k c : Int) (w : World) (h : ¬ (k = 0 ∨ k = 1)) : Calls Try.prog 39 #[.int .i64 k, .int .i64 c] w (EV 0 false w) := by
  have h0 : ¬ k = 0 := by omega
  have h1 : ¬ k = 1 := by omega
  clear h
  have h2 : ¬ (0 ≤ k ∧ k ≤ 1) := by omega
  go_enter Try.func39, Try.ntmps39
  go_wp2_with go_in
  go_ret2
  exact ⟨_, 0, rfl, rfl, rfl⟩
theorem implNoc (k c : Int) (w : World) (h : k = 0 ∨ k = 1) (h2 : ¬ (0 ≤ c ∧ c ≤ 255)) : Calls Try.prog 39 #[.int .i64 k, .int .i64 c] w (EV 0 false w) := by
  rcases h with rfl | rfl
  · rcases Int.lt_or_le c 0 with g | g
    · have g2 : ¬ 0 ≤ c := by omega
      skip
      go_enter Try.func39, Try.ntmps39
      go_wp2_with go_in
      go_ret2
      exact ⟨_, 0, rfl, rfl, rfl⟩
    · have g2 : ¬ c ≤ 255 := by omega
      go_enter Try.func39, Try.ntmps39
      go_wp2_with go_in
      go_ret2
      exact ⟨_, 0, rfl, rfl, rfl⟩
  · rcases Int.lt_or_le c 0 with g | g
    · have g2 : ¬ 0 ≤ c := by omega
      go_enter Try.func39, Try.ntmps39
      go_wp2_with go_in
      go_ret2
      exact ⟨_, 0, rfl, rfl, rfl⟩
    · have g2 : ¬ c ≤ 255 := by omega
      go_enter Try.func39, Try.ntmps39
      go_wp2_with go_in
      go_ret2
      exact ⟨_, 0, rfl, rfl, rfl⟩
set_option maxRecDepth 100000 in
theorem spec00fin (c r : Nat) (w : World) (hc : c = r) (hr : r < 124) :
    Calls Try.prog 38 #[.int .i64 0, .int .i64 (c : Int)] w (EV (ev 0 c) true w) := by
  have hcr : c % 128 = r := by omega
  have hm : (c : Int) % 128 = (r : Int) := by omega
  have hq : qv 0 r = nar (rv 4 15 (r / 4) (r % 4)) := by unfold qv; rw [if_pos rfl, if_pos hr]
  have hev : ev 0 c = qv 0 r := by unfold ev; rw [hcr, if_neg (by omega)]
  rw [hq] at hev
  clear hq hcr
  have HEV := Lib.hid hev
  clear hev
  generalize ev 0 c = X at *
  have hrl : r < 128 := by omega
  have hle : (r : Int) ≤ 123 := by omega
  have hcc : ¬ (128 : Int) ≤ (c : Int) := by omega
  have hc0 : (0 : Int) ≤ (c : Int) := by omega
  have hc1 : (c : Int) ≤ 255 := by omega
  have hcn : c ≤ 255 := by omega
  subst hc
  clear hm
  have hneg : ∀ (b : Nat) (w : World), (Op.unary .neg (.float .f32 b)).run Try.prog w = .ok (.float .f32 (Op.negFloat .f32 b)) w := fun _ _ => rfl
  obtain ⟨V, hV⟩ : ∃ V, V = rv 4 15 (c / 4) (c % 4) := ⟨_, rfl⟩
  have HVV := Lib.hid hV
  clear hV
  go_enter Try.func38, Try.ntmps38
  go_wp2_with (first | (go_at_call 82; refine (restS0x _ c V HVV (by omega) _ (by omega)).mono ?_; rintro e w1 ⟨m, rfl, rfl⟩) | (go_at_call 71; refine (narS _ _).mono ?_; rintro e w2 ⟨rfl, rfl⟩) | go_in)
  go_ret2
  refine ⟨_, _, rfl, rfl, ?_⟩
  rw [HEV.out]
  obtain ⟨k1, k2⟩ := rv_ok0 c (by omega)
  rw [HVV.out, fnar_of k1 k2]
theorem spec00nan (c r : Nat) (w : World) (hc : c = r) (hr : 125 ≤ r ∧ r < 128) :
    Calls Try.prog 38 #[.int .i64 0, .int .i64 (c : Int)] w (EV (ev 0 c) true w) := by
  have hcr : c % 128 = r := by omega
  have hm : (c : Int) % 128 = (r : Int) := by omega
  have hq : qv 0 r = 2143289344 := by unfold qv; rw [if_pos rfl, if_neg (by omega), if_neg (by omega)]
  have hev : ev 0 c = qv 0 r := by unfold ev; rw [hcr, if_neg (by omega)]
  rw [hq] at hev
  clear hq hcr
  have HEV := Lib.hid hev
  clear hev
  generalize ev 0 c = X at *
  have hrl : r < 128 := by omega
  have hge : ¬ (r : Int) ≤ 123 := by omega
  have hne : ¬ (r : Int) = 124 := by omega
  have hcc : ¬ (128 : Int) ≤ (c : Int) := by omega
  have hc0 : (0 : Int) ≤ (c : Int) := by omega
  have hc1 : (c : Int) ≤ 255 := by omega
  have hcn : c ≤ 255 := by omega
  subst hc
  clear hm
  have hneg : ∀ (b : Nat) (w : World), (Op.unary .neg (.float .f32 b)).run Try.prog w = .ok (.float .f32 (Op.negFloat .f32 b)) w := fun _ _ => rfl
  go_enter Try.func38, Try.ntmps38
  go_wp2_with (first | (go_at_call 71; refine (narS _ _).mono ?_; rintro e w2 ⟨rfl, rfl⟩) | go_in)
  go_ret2
  refine ⟨_, 0, rfl, rfl, ?_⟩
  rw [HEV.out]
theorem spec00inf (c r : Nat) (w : World) (hc : c = r) (hr : r = 124) :
    Calls Try.prog 38 #[.int .i64 0, .int .i64 (c : Int)] w (EV (ev 0 c) true w) := by
  have hcr : c % 128 = r := by omega
  have hm : (c : Int) % 128 = (r : Int) := by omega
  have hq : qv 0 r = 2139095040 := by unfold qv; rw [if_pos rfl, if_neg (by omega), if_pos hr]
  have hev : ev 0 c = qv 0 r := by unfold ev; rw [hcr, if_neg (by omega)]
  rw [hq] at hev
  clear hq hcr
  have HEV := Lib.hid hev
  clear hev
  generalize ev 0 c = X at *
  have hrl : r < 128 := by omega
  have hge : ¬ (r : Int) ≤ 123 := by omega
  have hr124 : (r : Int) = 124 := by omega
  have hcc : ¬ (128 : Int) ≤ (c : Int) := by omega
  have hc0 : (0 : Int) ≤ (c : Int) := by omega
  have hc1 : (c : Int) ≤ 255 := by omega
  have hcn : c ≤ 255 := by omega
  subst hc
  clear hm
  clear hr
  have hneg : ∀ (b : Nat) (w : World), (Op.unary .neg (.float .f32 b)).run Try.prog w = .ok (.float .f32 (Op.negFloat .f32 b)) w := fun _ _ => rfl
  go_enter Try.func38, Try.ntmps38
  go_wp2_with (first | (go_at_call 71; refine (narS _ _).mono ?_; rintro e w2 ⟨rfl, rfl⟩) | go_in)
  go_ret2
  refine ⟨_, 0, rfl, rfl, ?_⟩
  rw [HEV.out]
theorem spec01fin (c r : Nat) (w : World) (hc : c = r + 128) (hr : r < 124) :
    Calls Try.prog 38 #[.int .i64 0, .int .i64 (c : Int)] w (EV (ev 0 c) true w) := by
  have hcr : c % 128 = r := by omega
  have hm : (c : Int) % 128 = (r : Int) := by omega
  have hq : qv 0 r = nar (rv 4 15 (r / 4) (r % 4)) := by unfold qv; rw [if_pos rfl, if_pos hr]
  have hev : ev 0 c = Op.negFloat .f32 (qv 0 r) := by unfold ev; rw [hcr, if_pos (by omega)]
  rw [hq] at hev
  clear hq hcr
  have HEV := Lib.hid hev
  clear hev
  generalize ev 0 c = X at *
  have hrl : r < 128 := by omega
  have hle : (r : Int) ≤ 123 := by omega
  have hcc : (128 : Int) ≤ (c : Int) := by omega
  have hc0 : (0 : Int) ≤ (c : Int) := by omega
  have hc1 : (c : Int) ≤ 255 := by omega
  have hcn : c ≤ 255 := by omega
  clear hc
  have hneg : ∀ (b : Nat) (w : World), (Op.unary .neg (.float .f32 b)).run Try.prog w = .ok (.float .f32 (Op.negFloat .f32 b)) w := fun _ _ => rfl
  obtain ⟨V, hV⟩ : ∃ V, V = rv 4 15 (r / 4) (r % 4) := ⟨_, rfl⟩
  have HVV := Lib.hid hV
  clear hV
  go_enter Try.func38, Try.ntmps38
  go_wp2_with (first | (go_at_call 82; refine (restS0x _ r V HVV (by omega) _ (by omega)).mono ?_; rintro e w1 ⟨m, rfl, rfl⟩) | (go_at_call 71; refine (narS _ _).mono ?_; rintro e w2 ⟨rfl, rfl⟩) | go_in)
  go_ret2
  refine ⟨_, _, rfl, rfl, ?_⟩
  rw [HEV.out]
  obtain ⟨k1, k2⟩ := rv_ok0 r (by omega)
  rw [HVV.out, fnar_of k1 k2]
theorem spec01nan (c r : Nat) (w : World) (hc : c = r + 128) (hr : 125 ≤ r ∧ r < 128) :
    Calls Try.prog 38 #[.int .i64 0, .int .i64 (c : Int)] w (EV (ev 0 c) true w) := by
  have hcr : c % 128 = r := by omega
  have hm : (c : Int) % 128 = (r : Int) := by omega
  have hq : qv 0 r = 2143289344 := by unfold qv; rw [if_pos rfl, if_neg (by omega), if_neg (by omega)]
  have hev : ev 0 c = Op.negFloat .f32 (qv 0 r) := by unfold ev; rw [hcr, if_pos (by omega)]
  rw [hq] at hev
  clear hq hcr
  have HEV := Lib.hid hev
  clear hev
  generalize ev 0 c = X at *
  have hrl : r < 128 := by omega
  have hge : ¬ (r : Int) ≤ 123 := by omega
  have hne : ¬ (r : Int) = 124 := by omega
  have hcc : (128 : Int) ≤ (c : Int) := by omega
  have hc0 : (0 : Int) ≤ (c : Int) := by omega
  have hc1 : (c : Int) ≤ 255 := by omega
  have hcn : c ≤ 255 := by omega
  clear hc
  have hneg : ∀ (b : Nat) (w : World), (Op.unary .neg (.float .f32 b)).run Try.prog w = .ok (.float .f32 (Op.negFloat .f32 b)) w := fun _ _ => rfl
  go_enter Try.func38, Try.ntmps38
  go_wp2_with (first | (go_at_call 71; refine (narS _ _).mono ?_; rintro e w2 ⟨rfl, rfl⟩) | go_in)
  go_ret2
  refine ⟨_, 0, rfl, rfl, ?_⟩
  rw [HEV.out]
theorem spec01inf (c r : Nat) (w : World) (hc : c = r + 128) (hr : r = 124) :
    Calls Try.prog 38 #[.int .i64 0, .int .i64 (c : Int)] w (EV (ev 0 c) true w) := by
  have hcr : c % 128 = r := by omega
  have hm : (c : Int) % 128 = (r : Int) := by omega
  have hq : qv 0 r = 2139095040 := by unfold qv; rw [if_pos rfl, if_neg (by omega), if_pos hr]
  have hev : ev 0 c = Op.negFloat .f32 (qv 0 r) := by unfold ev; rw [hcr, if_pos (by omega)]
  rw [hq] at hev
  clear hq hcr
  have HEV := Lib.hid hev
  clear hev
  generalize ev 0 c = X at *
  have hrl : r < 128 := by omega
  have hge : ¬ (r : Int) ≤ 123 := by omega
  have hr124 : (r : Int) = 124 := by omega
  have hcc : (128 : Int) ≤ (c : Int) := by omega
  have hc0 : (0 : Int) ≤ (c : Int) := by omega
  have hc1 : (c : Int) ≤ 255 := by omega
  have hcn : c ≤ 255 := by omega
  clear hc
  clear hr
  have hneg : ∀ (b : Nat) (w : World), (Op.unary .neg (.float .f32 b)).run Try.prog w = .ok (.float .f32 (Op.negFloat .f32 b)) w := fun _ _ => rfl
  go_enter Try.func38, Try.ntmps38
  go_wp2_with (first | (go_at_call 71; refine (narS _ _).mono ?_; rintro e w2 ⟨rfl, rfl⟩) | go_in)
  go_ret2
  refine ⟨_, 0, rfl, rfl, ?_⟩
  rw [HEV.out]
set_option maxRecDepth 100000 in
theorem spec10fin (c r : Nat) (w : World) (hc : c = r) (hr : r < 127) :
    Calls Try.prog 38 #[.int .i64 1, .int .i64 (c : Int)] w (EV (ev 1 c) true w) := by
  have hcr : c % 128 = r := by omega
  have hm : (c : Int) % 128 = (r : Int) := by omega
  have hq : qv 1 r = nar (rv 8 7 (r / 8) (r % 8)) := by unfold qv; rw [if_neg (by omega), if_pos hr]
  have hev : ev 1 c = qv 1 r := by unfold ev; rw [hcr, if_neg (by omega)]
  rw [hq] at hev
  clear hq hcr
  have HEV := Lib.hid hev
  clear hev
  generalize ev 1 c = X at *
  have hrl : r < 128 := by omega
  have hle : (r : Int) ≤ 126 := by omega
  have hcc : ¬ (128 : Int) ≤ (c : Int) := by omega
  have hc0 : (0 : Int) ≤ (c : Int) := by omega
  have hc1 : (c : Int) ≤ 255 := by omega
  have hcn : c ≤ 255 := by omega
  subst hc
  clear hm
  have hneg : ∀ (b : Nat) (w : World), (Op.unary .neg (.float .f32 b)).run Try.prog w = .ok (.float .f32 (Op.negFloat .f32 b)) w := fun _ _ => rfl
  obtain ⟨V, hV⟩ : ∃ V, V = rv 8 7 (c / 8) (c % 8) := ⟨_, rfl⟩
  have HVV := Lib.hid hV
  clear hV
  go_enter Try.func38, Try.ntmps38
  go_wp2_with (first | (go_at_call 82; refine (restS1x _ c V HVV (by omega) _ (by omega)).mono ?_; rintro e w1 ⟨m, rfl, rfl⟩) | (go_at_call 71; refine (narS _ _).mono ?_; rintro e w2 ⟨rfl, rfl⟩) | go_in)
  go_ret2
  refine ⟨_, _, rfl, rfl, ?_⟩
  rw [HEV.out]
  obtain ⟨k1, k2⟩ := rv_ok1 c (by omega)
  rw [HVV.out, fnar_of k1 k2]
theorem spec10nan (c r : Nat) (w : World) (hc : c = r) (hr : 127 ≤ r ∧ r < 128) :
    Calls Try.prog 38 #[.int .i64 1, .int .i64 (c : Int)] w (EV (ev 1 c) true w) := by
  have hcr : c % 128 = r := by omega
  have hm : (c : Int) % 128 = (r : Int) := by omega
  have hq : qv 1 r = 2143289344 := by unfold qv; rw [if_neg (by omega), if_neg (by omega)]
  have hev : ev 1 c = qv 1 r := by unfold ev; rw [hcr, if_neg (by omega)]
  rw [hq] at hev
  clear hq hcr
  have HEV := Lib.hid hev
  clear hev
  generalize ev 1 c = X at *
  have hrl : r < 128 := by omega
  have hge : ¬ (r : Int) ≤ 126 := by omega
  have hcc : ¬ (128 : Int) ≤ (c : Int) := by omega
  have hc0 : (0 : Int) ≤ (c : Int) := by omega
  have hc1 : (c : Int) ≤ 255 := by omega
  have hcn : c ≤ 255 := by omega
  subst hc
  clear hm
  have hneg : ∀ (b : Nat) (w : World), (Op.unary .neg (.float .f32 b)).run Try.prog w = .ok (.float .f32 (Op.negFloat .f32 b)) w := fun _ _ => rfl
  go_enter Try.func38, Try.ntmps38
  go_wp2_with (first | (go_at_call 71; refine (narS _ _).mono ?_; rintro e w2 ⟨rfl, rfl⟩) | go_in)
  go_ret2
  refine ⟨_, 0, rfl, rfl, ?_⟩
  rw [HEV.out]
theorem spec11fin (c r : Nat) (w : World) (hc : c = r + 128) (hr : r < 127) :
    Calls Try.prog 38 #[.int .i64 1, .int .i64 (c : Int)] w (EV (ev 1 c) true w) := by
  have hcr : c % 128 = r := by omega
  have hm : (c : Int) % 128 = (r : Int) := by omega
  have hq : qv 1 r = nar (rv 8 7 (r / 8) (r % 8)) := by unfold qv; rw [if_neg (by omega), if_pos hr]
  have hev : ev 1 c = Op.negFloat .f32 (qv 1 r) := by unfold ev; rw [hcr, if_pos (by omega)]
  rw [hq] at hev
  clear hq hcr
  have HEV := Lib.hid hev
  clear hev
  generalize ev 1 c = X at *
  have hrl : r < 128 := by omega
  have hle : (r : Int) ≤ 126 := by omega
  have hcc : (128 : Int) ≤ (c : Int) := by omega
  have hc0 : (0 : Int) ≤ (c : Int) := by omega
  have hc1 : (c : Int) ≤ 255 := by omega
  have hcn : c ≤ 255 := by omega
  clear hc
  have hneg : ∀ (b : Nat) (w : World), (Op.unary .neg (.float .f32 b)).run Try.prog w = .ok (.float .f32 (Op.negFloat .f32 b)) w := fun _ _ => rfl
  obtain ⟨V, hV⟩ : ∃ V, V = rv 8 7 (r / 8) (r % 8) := ⟨_, rfl⟩
  have HVV := Lib.hid hV
  clear hV
  go_enter Try.func38, Try.ntmps38
  go_wp2_with (first | (go_at_call 82; refine (restS1x _ r V HVV (by omega) _ (by omega)).mono ?_; rintro e w1 ⟨m, rfl, rfl⟩) | (go_at_call 71; refine (narS _ _).mono ?_; rintro e w2 ⟨rfl, rfl⟩) | go_in)
  go_ret2
  refine ⟨_, _, rfl, rfl, ?_⟩
  rw [HEV.out]
  obtain ⟨k1, k2⟩ := rv_ok1 r (by omega)
  rw [HVV.out, fnar_of k1 k2]
theorem spec11nan (c r : Nat) (w : World) (hc : c = r + 128) (hr : 127 ≤ r ∧ r < 128) :
    Calls Try.prog 38 #[.int .i64 1, .int .i64 (c : Int)] w (EV (ev 1 c) true w) := by
  have hcr : c % 128 = r := by omega
  have hm : (c : Int) % 128 = (r : Int) := by omega
  have hq : qv 1 r = 2143289344 := by unfold qv; rw [if_neg (by omega), if_neg (by omega)]
  have hev : ev 1 c = Op.negFloat .f32 (qv 1 r) := by unfold ev; rw [hcr, if_pos (by omega)]
  rw [hq] at hev
  clear hq hcr
  have HEV := Lib.hid hev
  clear hev
  generalize ev 1 c = X at *
  have hrl : r < 128 := by omega
  have hge : ¬ (r : Int) ≤ 126 := by omega
  have hcc : (128 : Int) ≤ (c : Int) := by omega
  have hc0 : (0 : Int) ≤ (c : Int) := by omega
  have hc1 : (c : Int) ≤ 255 := by omega
  have hcn : c ≤ 255 := by omega
  clear hc
  have hneg : ∀ (b : Nat) (w : World), (Op.unary .neg (.float .f32 b)).run Try.prog w = .ok (.float .f32 (Op.negFloat .f32 b)) w := fun _ _ => rfl
  go_enter Try.func38, Try.ntmps38
  go_wp2_with (first | (go_at_call 71; refine (narS _ _).mono ?_; rintro e w2 ⟨rfl, rfl⟩) | go_in)
  go_ret2
  refine ⟨_, 0, rfl, rfl, ?_⟩
  rw [HEV.out]
theorem specNok (k c : Int) (w : World) (h : ¬ (k = 0 ∨ k = 1)) : Calls Try.prog 38 #[.int .i64 k, .int .i64 c] w (EV 0 false w) := by
  have h0 : ¬ k = 0 := by omega
  have h1 : ¬ k = 1 := by omega
  clear h
  have h2 : ¬ (0 ≤ k ∧ k ≤ 1) := by omega
  rcases Int.lt_or_le k 0 with g | g
  · skip
    have g2 : ¬ 0 ≤ k := by omega
    go_enter Try.func38, Try.ntmps38
    go_wp2_with go_in
    go_ret2
    exact ⟨_, 0, rfl, rfl, rfl⟩
  · skip
    have g2 : ¬ k ≤ 1 := by omega
    go_enter Try.func38, Try.ntmps38
    go_wp2_with go_in
    go_ret2
    exact ⟨_, 0, rfl, rfl, rfl⟩
theorem specNoc (k c : Int) (w : World) (h : k = 0 ∨ k = 1) (h2 : ¬ (0 ≤ c ∧ c ≤ 255)) : Calls Try.prog 38 #[.int .i64 k, .int .i64 c] w (EV 0 false w) := by
  rcases h with rfl | rfl
  · rcases Int.lt_or_le c 0 with g | g
    · have g2 : ¬ 0 ≤ c := by omega
      skip
      go_enter Try.func38, Try.ntmps38
      go_wp2_with go_in
      go_ret2
      exact ⟨_, 0, rfl, rfl, rfl⟩
    · have g2 : ¬ c ≤ 255 := by omega
      go_enter Try.func38, Try.ntmps38
      go_wp2_with go_in
      go_ret2
      exact ⟨_, 0, rfl, rfl, rfl⟩
  · rcases Int.lt_or_le c 0 with g | g
    · have g2 : ¬ 0 ≤ c := by omega
      go_enter Try.func38, Try.ntmps38
      go_wp2_with go_in
      go_ret2
      exact ⟨_, 0, rfl, rfl, rfl⟩
    · have g2 : ¬ c ≤ 255 := by omega
      go_enter Try.func38, Try.ntmps38
      go_wp2_with go_in
      go_ret2
      exact ⟨_, 0, rfl, rfl, rfl⟩
theorem both (k c : Int) : ∃ x ok, (∀ w, Calls Try.prog 38 #[.int .i64 k, .int .i64 c] w (EV x ok w)) ∧ (∀ w, Calls Try.prog 39 #[.int .i64 k, .int .i64 c] w (EV x ok w)) := by
  by_cases hk : k = 0 ∨ k = 1
  · by_cases hc : 0 ≤ c ∧ c ≤ 255
    · obtain ⟨C, rfl⟩ := Int.eq_ofNat_of_zero_le (a := c) hc.1
      rcases hk with rfl | rfl
      · by_cases hi : 128 ≤ C
        · rcases Nat.lt_trichotomy (C - 128) 124 with h | h | h
          · exact ⟨_, true, fun w => spec01fin C (C - 128) w (by omega) h, fun w => impl01fin C (C - 128) w (by omega) h⟩
          · exact ⟨_, true, fun w => spec01inf C (C - 128) w (by omega) h, fun w => impl01inf C (C - 128) w (by omega) h⟩
          · exact ⟨_, true, fun w => spec01nan C (C - 128) w (by omega) (by omega), fun w => impl01nan C (C - 128) w (by omega) (by omega)⟩
        · rcases Nat.lt_trichotomy C 124 with h | h | h
          · exact ⟨_, true, fun w => spec00fin C C w rfl h, fun w => impl00fin C C w rfl h⟩
          · exact ⟨_, true, fun w => spec00inf C C w rfl h, fun w => impl00inf C C w rfl h⟩
          · exact ⟨_, true, fun w => spec00nan C C w rfl (by omega), fun w => impl00nan C C w rfl (by omega)⟩
      · by_cases hi : 128 ≤ C
        · by_cases h : C - 128 < 127
          · exact ⟨_, true, fun w => spec11fin C (C - 128) w (by omega) h, fun w => impl11fin C (C - 128) w (by omega) h⟩
          · exact ⟨_, true, fun w => spec11nan C (C - 128) w (by omega) (by omega), fun w => impl11nan C (C - 128) w (by omega) (by omega)⟩
        · by_cases h : C < 127
          · exact ⟨_, true, fun w => spec10fin C C w rfl h, fun w => impl10fin C C w rfl h⟩
          · exact ⟨_, true, fun w => spec10nan C C w rfl (by omega), fun w => impl10nan C C w rfl (by omega)⟩
    · exact ⟨0, false, fun w => specNoc k c w hk hc, fun w => implNoc k c w hk hc⟩
  · exact ⟨0, false, fun w => specNok k c w hk, fun w => implNok k c w hk⟩
theorem walk (k : Int) (_hk : (Lit.int .i64 k).wf = true) (c : Int) (_hc : (Lit.int .i64 c).wf = true) (w : World) : Calls Try.prog 13 #[.int .i64 k, .int .i64 c] w fun e w' => e = .returned (.bool true) ∧ Below w.heap.size w w' := by
  obtain ⟨x, ok, hs, hi⟩ := both k c
  go_enter Try.func13, Try.ntmps13
  go_wp2_with (first | (go_at_call 38; refine (hs _).mono ?_; rintro e w1 ⟨u, m, rfl, rfl, hu⟩) | (go_at_call 39; refine (hi _).mono ?_; rintro e w2 ⟨v, m2, rfl, rfl, hv⟩) | (go_at_call 18; refine (sameFloat _ _ _ (cnw (hv.trans hu.symm) _ _)).mono ?_; rintro e w3 ⟨rfl, rfl⟩) | go_in)
  go_ret
  exact ⟨rfl, below_drewN (Below.refl _ _) _⟩
theorem own : ownKnob Try.prog.godebug = none := by kernel_rfl
theorem laidOut : laidOutB Try.prog = true := by kernel_rfl
set_option maxRecDepth 100000 in
set_option maxHeartbeats 2000000 in
theorem lifted (os : Os) (started : os.Started) (H : Type) (enc : TypeId × Value → H) :
    ReturnsInHanded {} Try.checked os 13 .any (Rows.fnExactEightValueSpec.pre6 enc Try.prog Try.f13 Rows.fnExactEightValueRow.domain false) (Rows.fnExactEightValueSpec.post enc Try.prog Try.f13 false true false false) := by
  refine returnsInHanded_of_change (C := Try.checked) own started (by kernel_rfl) Try.func13
    (ChangeSpec.witness6 (enc := enc) (C := Try.checked) false ⟨#[], #[.int .i64 0, .int .i64 0], []⟩ 8 (by kernel_rfl) (by kernel_rfl) (by kernel_rfl) (by kernel_rfl)) ?_
  intro W base args ds gs before hval0 hW hcnd _
  have hval : ∀ (j : Nat) t v, Try.f13.params[j]? = some t → args[j]? = some v → Value.okWide Try.prog W .any base t v := hval0
  have hW' := hW
  obtain ⟨p, q, hA0, hV, rfl, hfz, hnd⟩ := hW
  have hA : DataW.TrodAll enc Try.prog W 0 (fun _ => true) true Try.f13.params.toList args.toList ds p := hA0
  rw [Try.params13] at hA hval
  obtain ⟨v0, vs0, d0, ds0, p0, q0, hargs, rfl, rfl, h0, r0⟩ := trodAll_cons hA
  obtain ⟨v1, vs1, d1, ds1, p1, q1, rfl, rfl, rfl, h1, r1⟩ := trodAll_cons r0
  obtain ⟨rfl, rfl, rfl⟩ := trodAll_nil r1
  obtain rfl : args = #[v0, v1] := by cases args; simp_all
  obtain ⟨rfl, rfl⟩ := trodVars_none hV
  have k0 := h0
  have lt0 : ∀ x ∈ p0, x.block < W.heap.size := by obtain ⟨m, hm⟩ := k0; exact DataW.trod_lt m _ _ _ hm
  have k1 := h1
  have lt1 : ∀ x ∈ p1, x.block < W.heap.size := by obtain ⟨m, hm⟩ := k1; exact DataW.trod_lt m _ _ _ hm
  obtain ⟨a0, rfl, rfl, rfl, w0⟩ := open_int Try.underlying2 (hval 0 2 v0 rfl rfl) h0
  obtain ⟨a1, rfl, rfl, rfl, w1⟩ := open_int Try.underlying2 (hval 1 2 v1 rfl rfl) h1
  clear hA0 hval0
  refine (walk a0 w0 a1 w1 W).mono fun e W' ⟨he, bel⟩ => ?_
  subst he
  exact ⟨_, rfl, _, _, _, [], _, [], hW', trodAll_mk1 (shut_bool Try.underlying4 _), (trodAll_cons_mk (Below.trod laidOut (by kernel_rfl) (of_decide_eq_true (by kernel_rfl)) k0 bel lt0) (trodAll_cons_mk (Below.trod laidOut (by kernel_rfl) (of_decide_eq_true (by kernel_rfl)) k1 bel lt1) trodAll_mk0)), rfl, bel.frame _, fun h => by cases h⟩

theorem over : Rows.fnExactEightValueRow.holds Try.pinned (OpenSpec.ofChange Rows.fnExactEightValueSpec) :=
  OpenClaim.holds_of_wide 13 Try.f13 rfl rfl rfl rfl rfl rfl rfl ⟨rfl, rfl, rfl, rfl, rfl⟩ rfl rfl rfl rfl rfl (by kernel_rfl) Try.func13 (by kernel_rfl)
    (of_decide_eq_true (by kernel_rfl)) (by unfold Func.isWrapper; first | (rw [if_pos (by decide +kernel)]; kernel_rfl) | (rw [if_neg (by decide +kernel)]; exact ⟨rfl, rfl⟩))
    (fun os started H enc _ => lifted os started H enc)

theorem proved : Rows.FnExactEightValueSaid := over
end Go.Proofs.Ytfoanhffcghjaaa.eightValue
