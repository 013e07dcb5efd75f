/- The law FnExactSumCarried holds for every input. No conditions. -/
import Derived.Test.YtfoanhffcghjaaaLst
import Derived.Test.YtfoanhffcghjaaaOpen
import Derived.ProofKit
import Derived.OpenShut
import Derived.ChangeOld
import Derived.WalkSmall
namespace Go.Proofs.Ytfoanhffcghjaaa.sumCarried
open Go.ChangeShapes Go.WideShapes Go.ChangeAt Go.RowKit Go.Fl Go.Reg
/-- sum and carry behind the first k numbers -/
def car (xs : List Nat) : Nat → Nat × Nat
  | 0 => (0, 0)
  | k + 1 =>
    let y := fop .sub .f32 (xs[k]?.getD 0) (car xs k).2
    let t := fop .add .f32 (car xs k).1 y
    (t, fop .sub .f32 (fop .sub .f32 t (car xs k).1) y)
theorem car_one {xs : List Nat} {k r c : Nat} (h1 : cn .f32 r = cn .f32 (car xs k).1) (h2 : cn .f32 c = cn .f32 (car xs k).2) (w w' : World) :
    cn .f32 (fres .add .f32 r (fres .sub .f32 (xs[k]?.getD 0) c w) w') = cn .f32 (car xs (k + 1)).1 := by
  rw [fres_fop, fop_fres_r, fop_l .add h1]
  show _ = cn .f32 (fop .add .f32 (car xs k).1 (fop .sub .f32 (xs[k]?.getD 0) (car xs k).2))
  rw [fop_r .sub h2]
theorem car_two {xs : List Nat} {k r c : Nat} (h1 : cn .f32 r = cn .f32 (car xs k).1) (h2 : cn .f32 c = cn .f32 (car xs k).2) (w w' w2 w3 : World) :
    cn .f32 (fres .sub .f32 (fres .sub .f32 (fres .add .f32 r (fres .sub .f32 (xs[k]?.getD 0) c w) w') r w2) (fres .sub .f32 (xs[k]?.getD 0) c w) w3) = cn .f32 (car xs (k + 1)).2 := by
  rw [fres_fop, fop_fres_l, fop_fres_r]
  show _ = cn .f32 (fop .sub .f32 (fop .sub .f32 (car xs (k + 1)).1 (car xs k).1) (fop .sub .f32 (xs[k]?.getD 0) (car xs k).2))
  have e1 := car_one h1 h2 w w'
  have e2 : cn .f32 (fop .sub .f32 (fres .add .f32 r (fres .sub .f32 (xs[k]?.getD 0) c w) w') r) = cn .f32 (fop .sub .f32 (car xs (k + 1)).1 (car xs k).1) := by rw [fop_l .sub e1, fop_r .sub h1]
  rw [fop_l .sub e2]
  have e3 : cn .f32 (fop .sub .f32 (xs[k]?.getD 0) c) = cn .f32 (fop .sub .f32 (xs[k]?.getD 0) (car xs k).2) := by rw [fop_r .sub h2]
  rw [fop_r .sub e3]

theorem spec_yes (w : World) (a : Option Addr) (n c : Nat) (xs : List Nat) (hn : n ≤ 256) (h1 : Fs w a n c xs) : Calls Try.prog 24 #[.slice a n c] w (FB w (car xs n).1 true) := by
  have hd : decide ((n : Int) ≤ 256) = true := by simp; omega
  have HX := Lib.hid h1.cell
  clear h1
  go_enter Try.func24, Try.ntmps24
  go_wp2
  go_loopw [4, 5, 6] (fun s cc i w' => ∃ k r q m : Nat, k ≤ n ∧ i = .int .i64 k ∧ s = .float .f32 r ∧ cc = .float .f32 q ∧ cn .f32 r = cn .f32 (car xs k).1 ∧ cn .f32 q = cn .f32 (car xs k).2 ∧ w' = w.drewN m) (fun _ _ i _ => n - (intOf i).toNat)
  case atStart => exact ⟨0, 0, 0, 0, Nat.zero_le _, rfl, rfl, rfl, rfl, rfl, rfl⟩
  case round =>
    obtain ⟨k, r, q, m, hk, rfl, rfl, rfl, hr, hq, rfl⟩ := hrel
    have HR := Lib.hid hr
    have HQ := Lib.hid hq
    clear hr hq
    by_cases hlt : k < n
    · obtain ⟨b1, o1, rfl, g1⟩ := HX.out k hlt
      go_wp2
      go_roundw
      case rel => exact ⟨k + 1, _, _, _, by omega, by go_num, rfl, rfl, car_one HR.out HQ.out _ _, car_two HR.out HQ.out _ _ _ _, rfl⟩
      case measure => simp [intOf]; omega
    · go_wp2
      go_ret2
      have : k = n := by omega
      subst this
      exact ⟨_, _, rfl, rfl, HR.out⟩
theorem impl_yes (w : World) (a : Option Addr) (n c : Nat) (xs : List Nat) (hn : n ≤ 256) (h1 : Fs w a n c xs) : Calls Try.prog 25 #[.slice a n c] w (FB w (car xs n).1 true) := by
  have hd : decide (256 < (n : Int)) = false := by simp; omega
  have HX := Lib.hid h1.cell
  clear h1
  go_enter Try.func25, Try.ntmps25
  go_wp2
  go_loopw [4, 5, 15] (fun s cc i w' => ∃ k r q m : Nat, k ≤ n ∧ i = .int .i64 k ∧ s = .float .f32 r ∧ cc = .float .f32 q ∧ cn .f32 r = cn .f32 (car xs k).1 ∧ cn .f32 q = cn .f32 (car xs k).2 ∧ w' = w.drewN m) (fun _ _ i _ => n - (intOf i).toNat)
  case atStart => exact ⟨0, 0, 0, 0, Nat.zero_le _, rfl, rfl, rfl, rfl, rfl, rfl⟩
  case round =>
    obtain ⟨k, r, q, m, hk, rfl, rfl, rfl, hr, hq, rfl⟩ := hrel
    have HR := Lib.hid hr
    have HQ := Lib.hid hq
    clear hr hq
    by_cases hlt : k < n
    · obtain ⟨b1, o1, rfl, g1⟩ := HX.out k hlt
      go_wp2
      go_roundw
      case rel => exact ⟨k + 1, _, _, _, by omega, by go_num, rfl, rfl, car_one HR.out HQ.out _ _, car_two HR.out HQ.out _ _ _ _, rfl⟩
      case measure => simp [intOf]; omega
    · go_wp2
      go_ret2
      have : k = n := by omega
      subst this
      exact ⟨_, _, rfl, rfl, HR.out⟩
theorem spec_no (w : World) (a : Option Addr) (n c : Nat) (hn : 256 < n) : Calls Try.prog 24 #[.slice a n c] w (FB w 0 false) := by
  have hd : decide ((n : Int) ≤ 256) = false := by simp; omega
  go_enter Try.func24, Try.ntmps24
  go_wp2
  go_ret2
  exact ⟨0, 0, rfl, rfl, rfl⟩
theorem impl_no (w : World) (a : Option Addr) (n c : Nat) (hn : 256 < n) : Calls Try.prog 25 #[.slice a n c] w (FB w 0 false) := by
  go_enter Try.func25, Try.ntmps25
  go_wp2
  go_ret2
  exact ⟨0, 0, rfl, rfl, rfl⟩
theorem both (n : Nat) (xs : List Nat) (_hn : n ≤ 1048576) (_hl : n = xs.length) : ∃ ok s, (∀ w a c, Fs w a n c xs → Calls Try.prog 24 #[.slice a n c] w (FB w s ok)) ∧ (∀ w a c, Fs w a n c xs → Calls Try.prog 25 #[.slice a n c] w (FB w s ok)) := by
  by_cases h : n ≤ 256
  · exact ⟨true, _, fun w a c h1 => spec_yes w a n c xs h h1, fun w a c h1 => impl_yes w a n c xs h h1⟩
  · exact ⟨false, _, fun w a c _ => spec_no w a n c (by omega), fun w a c _ => impl_no w a n c (by omega)⟩
theorem walk (w : World) (a0 : Option Addr) (n0 c0 : Nat) (xs0 : List Nat) (h0 : Fs w a0 n0 c0 xs0) (_b0 : ∀ x ∈ xs0, x < 4294967296) :
    Calls Try.prog 6 #[.slice a0 n0 c0] w fun e w' => e = .returned (.bool true) ∧ Below w.heap.size w w' := by
  have m0 := h0.cap2
  have q0 := h0.cap1
  unfold maxLen at m0
  by_cases g0 : 1048576 < n0
  · go_enter Try.func6, Try.ntmps6
    go_wp2
    go_ret
    exact ⟨rfl, Below.refl _ _⟩
  have hn0 : n0 ≤ 1048576 := by omega
  obtain ⟨ok, s, hs, hi⟩ := both n0 xs0 hn0 h0.len
  go_enter Try.func6, Try.ntmps6
  have T := Below.refl w.heap.size w
  go_wp2_with fail
  refine (toF32 _ _ _ _ _ hn0 h0).mono ?_
  rintro e w1 ⟨p1, rfl, o1, e1⟩
  have f1 := Fs.own o1
  have T := T.trans (e1.mono T.size)
  have h0 := h0.below e1
  clear o1 e1
  go_wp2_with fail
  refine (hs _ _ _ f1).mono ?_
  rintro e w2 ⟨r2, k2, rfl, rfl, y2⟩
  have Y2 := Lib.hid y2
  clear y2
  have T := below_drewN T k2
  have h0 := h0.drew k2
  have f1 := f1.drew k2
  generalize w1.drewN k2 = w2 at *
  go_wp2_with fail
  refine (toF32 _ _ _ _ _ hn0 h0).mono ?_
  rintro e w3 ⟨p3, rfl, o3, e3⟩
  have f3 := Fs.own o3
  have T := T.trans (e3.mono T.size)
  have h0 := h0.below e3
  clear o3 e3
  go_wp2_with fail
  refine (hi _ _ _ f3).mono ?_
  rintro e w4 ⟨r4, k4, rfl, rfl, y4⟩
  have Y4 := Lib.hid y4
  clear y4
  have T := below_drewN T k4
  have h0 := h0.drew k4
  have f3 := f3.drew k4
  generalize w3.drewN k4 = w4 at *
  go_wp2_with fail
  refine (sameFloat _ _ _ (cnw (Y4.out.trans Y2.out.symm) _ _)).mono ?_
  rintro e w5 ⟨rfl, rfl⟩
  have T := below_drewN T (wdr r4 + wdr r2)
  have h0 := h0.drew (wdr r4 + wdr r2)
  have f3 := f3.drew (wdr r4 + wdr r2)
  generalize w4.drewN (wdr r4 + wdr r2) = w5 at *
  go_wp2_with fail
  refine (toF32 _ _ _ _ _ hn0 h0).mono ?_
  rintro e w6 ⟨p6, rfl, o6, e6⟩
  have f6 := Fs.own o6
  have T := T.trans (e6.mono T.size)
  have h0 := h0.below e6
  have f3 := f3.below e6
  clear o6 e6
  go_wp2_with fail
  refine (eqF32 _ _ _ _ _ _ _ _ hn0 f3 f6 rfl).mono ?_
  rintro e w7 ⟨k7, rfl, rfl⟩
  have T := below_drewN T k7
  have h0 := h0.drew k7
  have f3 := f3.drew k7
  generalize w6.drewN k7 = w7 at *
  go_wp2
  go_ret
  exact ⟨rfl, T⟩
theorem own : ownKnob Try.prog.godebug = none := by kernel_rfl
theorem laidOut : laidOutB Try.prog = true := by kernel_rfl
set_option maxRecDepth 100000 in
theorem lifted (os : Os) (started : os.Started) (H : Type) (enc : TypeId × Value → H) :
    ReturnsInHanded {} Try.checked os 6 .any (Rows.fnExactSumCarriedSpec.pre6 enc Try.prog Try.f6 Rows.fnExactSumCarriedRow.domain false) (Rows.fnExactSumCarriedSpec.post enc Try.prog Try.f6 false true false false) := by
  refine returnsInHanded_of_change (C := Try.checked) own started (by kernel_rfl) Try.func6
    (ChangeSpec.witness6 (enc := enc) (C := Try.checked) false ⟨#[], #[.slice none 0 0], []⟩ 8 (by kernel_rfl) (by kernel_rfl) (by kernel_rfl) (by kernel_rfl)) ?_
  intro W base args ds gs before hval0 hW hcnd _
  have hval : ∀ (j : Nat) t v, Try.f6.params[j]? = some t → args[j]? = some v → Value.okWide Try.prog W .any base t v := hval0
  have hW' := hW
  obtain ⟨p, q, hA0, hV, rfl, hfz, hnd⟩ := hW
  have hA : DataW.TrodAll enc Try.prog W 0 (fun _ => true) true Try.f6.params.toList args.toList ds p := hA0
  rw [Try.params6] at hA hval
  obtain ⟨v0, vs0, d0, ds0, p0, q0, hargs, rfl, rfl, h0, r0⟩ := trodAll_cons hA
  obtain ⟨rfl, rfl, rfl⟩ := trodAll_nil r0
  obtain rfl : args = #[v0] := by cases args; simp_all
  obtain ⟨rfl, rfl⟩ := trodVars_none hV
  have k0 := h0
  have lt0 : ∀ x ∈ p0, x.block < W.heap.size := by obtain ⟨m, hm⟩ := k0; exact DataW.trod_lt m _ _ _ hm
  obtain ⟨a0, n0, c0, z0, rfl, f0, b0⟩ := open_floats Try.underlying22 Try.underlying23 (by kernel_rfl) (hval 0 22 v0 rfl rfl) h0
  clear hA0 hval0
  refine (walk W a0 n0 c0 z0 f0 b0).mono fun e W' ⟨he, bel⟩ => ?_
  subst he
  exact ⟨_, rfl, _, _, _, [], _, [], hW', trodAll_mk1 (shut_bool Try.underlying4 _), (trodAll_cons_mk (Below.trod laidOut (by kernel_rfl) (of_decide_eq_true (by kernel_rfl)) k0 bel lt0) trodAll_mk0), rfl, bel.frame _, fun h => by cases h⟩

theorem over : Rows.fnExactSumCarriedRow.holds Try.pinned (OpenSpec.ofChange Rows.fnExactSumCarriedSpec) :=
  OpenClaim.holds_of_wide 6 Try.f6 rfl rfl rfl rfl rfl rfl rfl ⟨rfl, rfl, rfl, rfl, rfl⟩ rfl rfl rfl rfl rfl (by kernel_rfl) Try.func6 (by kernel_rfl)
    (of_decide_eq_true (by kernel_rfl)) (by unfold Func.isWrapper; first | (rw [if_pos (by decide +kernel)]; kernel_rfl) | (rw [if_neg (by decide +kernel)]; exact ⟨rfl, rfl⟩))
    (fun os started H enc _ => lifted os started H enc)

theorem proved : Rows.FnExactSumCarriedSaid := over
end Go.Proofs.Ytfoanhffcghjaaa.sumCarried
