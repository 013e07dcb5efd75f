/- The law FnExactSumNumbers holds for every input. No conditions. -/
import Derived.Test.YtfoanhffcghjaaaSums
import Derived.Test.YtfoanhffcghjaaaLst
import Derived.Test.YtfoanhffcghjaaaOpen
import Derived.ProofKit
import Derived.OpenShut
import Derived.ChangeOld
import Derived.WalkSmall
namespace Go.Proofs.Ytfoanhffcghjaaa.sumNumbers
open Go.ChangeShapes Go.WideShapes Go.ChangeAt Go.RowKit Go.Fl Go.Reg
theorem spec_yes (w : World) (a : Option Addr) (n c : Nat) (xs : List Nat) (hn : n ≤ 256) (h1 : Fs w a n c xs) : Calls Try.prog 22 #[.slice a n c] w (FB w (sumTo xs n) true) := by
  have hd : decide ((n : Int) ≤ 256) = true := by simp; omega
  go_enter Try.func22, Try.ntmps22
  go_wp2_with (first | (go_at_call 46; refine (specSum _ _ _ _ _ (by omega) h1).mono ?_; rintro e w1 ⟨r, m, rfl, rfl, hr⟩) | go_in)
  go_ret2
  exact ⟨r, m, rfl, rfl, hr⟩
theorem spec_no (w : World) (a : Option Addr) (n c : Nat) (hn : 256 < n) : Calls Try.prog 22 #[.slice a n c] w (FB w 0 false) := by
  have hd : decide ((n : Int) ≤ 256) = false := by simp; omega
  go_enter Try.func22, Try.ntmps22
  go_wp2
  go_ret2
  exact ⟨0, 0, rfl, rfl, rfl⟩
theorem impl_yes (w : World) (a : Option Addr) (n c : Nat) (xs : List Nat) (hn : n ≤ 256) (h1 : Fs w a n c xs) : Calls Try.prog 23 #[.slice a n c] w (FB w (sumTo xs n) true) := by
  have hd : decide (256 < (n : Int)) = false := by simp; omega
  go_enter Try.func23, Try.ntmps23
  go_wp2_with (first | (go_at_call 47; refine (implSum _ _ _ _ _ (by omega) h1).mono ?_; rintro e w1 ⟨r, m, rfl, rfl, hr⟩) | go_in)
  go_ret2
  exact ⟨r, m, rfl, rfl, hr⟩
theorem impl_no (w : World) (a : Option Addr) (n c : Nat) (hn : 256 < n) : Calls Try.prog 23 #[.slice a n c] w (FB w 0 false) := by
  go_enter Try.func23, Try.ntmps23
  go_wp2
  go_ret2
  exact ⟨0, 0, rfl, rfl, rfl⟩
theorem both (n : Nat) (xs : List Nat) (_hn : n ≤ 1048576) (_hl : n = xs.length) : ∃ ok s, (∀ w a c, Fs w a n c xs → Calls Try.prog 22 #[.slice a n c] w (FB w s ok)) ∧ (∀ w a c, Fs w a n c xs → Calls Try.prog 23 #[.slice a n c] w (FB w s ok)) := by
  by_cases h : n ≤ 256
  · exact ⟨true, _, fun w a c h1 => spec_yes w a n c xs h h1, fun w a c h1 => impl_yes w a n c xs h h1⟩
  · exact ⟨false, _, fun w a c _ => spec_no w a n c (by omega), fun w a c _ => impl_no w a n c (by omega)⟩
theorem walk (w : World) (a0 : Option Addr) (n0 c0 : Nat) (xs0 : List Nat) (h0 : Fs w a0 n0 c0 xs0) (_b0 : ∀ x ∈ xs0, x < 4294967296) :
    Calls Try.prog 5 #[.slice a0 n0 c0] w fun e w' => e = .returned (.bool true) ∧ Below w.heap.size w w' := by
  have m0 := h0.cap2
  have q0 := h0.cap1
  unfold maxLen at m0
  by_cases g0 : 1048576 < n0
  · go_enter Try.func5, Try.ntmps5
    go_wp2
    go_ret
    exact ⟨rfl, Below.refl _ _⟩
  have hn0 : n0 ≤ 1048576 := by omega
  obtain ⟨ok, s, hs, hi⟩ := both n0 xs0 hn0 h0.len
  go_enter Try.func5, Try.ntmps5
  have T := Below.refl w.heap.size w
  go_wp2_with fail
  refine (toF32 _ _ _ _ _ hn0 h0).mono ?_
  rintro e w1 ⟨p1, rfl, o1, e1⟩
  have f1 := Fs.own o1
  have T := T.trans (e1.mono T.size)
  have h0 := h0.below e1
  clear o1 e1
  go_wp2_with fail
  refine (hs _ _ _ f1).mono ?_
  rintro e w2 ⟨r2, k2, rfl, rfl, y2⟩
  have Y2 := Lib.hid y2
  clear y2
  have T := below_drewN T k2
  have h0 := h0.drew k2
  have f1 := f1.drew k2
  generalize w1.drewN k2 = w2 at *
  go_wp2_with fail
  refine (toF32 _ _ _ _ _ hn0 h0).mono ?_
  rintro e w3 ⟨p3, rfl, o3, e3⟩
  have f3 := Fs.own o3
  have T := T.trans (e3.mono T.size)
  have h0 := h0.below e3
  clear o3 e3
  go_wp2_with fail
  refine (hi _ _ _ f3).mono ?_
  rintro e w4 ⟨r4, k4, rfl, rfl, y4⟩
  have Y4 := Lib.hid y4
  clear y4
  have T := below_drewN T k4
  have h0 := h0.drew k4
  have f3 := f3.drew k4
  generalize w3.drewN k4 = w4 at *
  go_wp2_with fail
  refine (sameFloat _ _ _ (cnw (Y4.out.trans Y2.out.symm) _ _)).mono ?_
  rintro e w5 ⟨rfl, rfl⟩
  have T := below_drewN T (wdr r4 + wdr r2)
  have h0 := h0.drew (wdr r4 + wdr r2)
  have f3 := f3.drew (wdr r4 + wdr r2)
  generalize w4.drewN (wdr r4 + wdr r2) = w5 at *
  go_wp2_with fail
  refine (toF32 _ _ _ _ _ hn0 h0).mono ?_
  rintro e w6 ⟨p6, rfl, o6, e6⟩
  have f6 := Fs.own o6
  have T := T.trans (e6.mono T.size)
  have h0 := h0.below e6
  have f3 := f3.below e6
  clear o6 e6
  go_wp2_with fail
  refine (eqF32 _ _ _ _ _ _ _ _ hn0 f3 f6 rfl).mono ?_
  rintro e w7 ⟨k7, rfl, rfl⟩
  have T := below_drewN T k7
  have h0 := h0.drew k7
  have f3 := f3.drew k7
  generalize w6.drewN k7 = w7 at *
  go_wp2
  go_ret
  exact ⟨rfl, T⟩
theorem own : ownKnob Try.prog.godebug = none := by kernel_rfl
theorem laidOut : laidOutB Try.prog = true := by kernel_rfl
set_option maxRecDepth 100000 in
theorem lifted (os : Os) (started : os.Started) (H : Type) (enc : TypeId × Value → H) :
    ReturnsInHanded {} Try.checked os 5 .any (Rows.fnExactSumNumbersSpec.pre6 enc Try.prog Try.f5 Rows.fnExactSumNumbersRow.domain false) (Rows.fnExactSumNumbersSpec.post enc Try.prog Try.f5 false true false false) := by
  refine returnsInHanded_of_change (C := Try.checked) own started (by kernel_rfl) Try.func5
    (ChangeSpec.witness6 (enc := enc) (C := Try.checked) false ⟨#[], #[.slice none 0 0], []⟩ 8 (by kernel_rfl) (by kernel_rfl) (by kernel_rfl) (by kernel_rfl)) ?_
  intro W base args ds gs before hval0 hW hcnd _
  have hval : ∀ (j : Nat) t v, Try.f5.params[j]? = some t → args[j]? = some v → Value.okWide Try.prog W .any base t v := hval0
  have hW' := hW
  obtain ⟨p, q, hA0, hV, rfl, hfz, hnd⟩ := hW
  have hA : DataW.TrodAll enc Try.prog W 0 (fun _ => true) true Try.f5.params.toList args.toList ds p := hA0
  rw [Try.params5] at hA hval
  obtain ⟨v0, vs0, d0, ds0, p0, q0, hargs, rfl, rfl, h0, r0⟩ := trodAll_cons hA
  obtain ⟨rfl, rfl, rfl⟩ := trodAll_nil r0
  obtain rfl : args = #[v0] := by cases args; simp_all
  obtain ⟨rfl, rfl⟩ := trodVars_none hV
  have k0 := h0
  have lt0 : ∀ x ∈ p0, x.block < W.heap.size := by obtain ⟨m, hm⟩ := k0; exact DataW.trod_lt m _ _ _ hm
  obtain ⟨a0, n0, c0, z0, rfl, f0, b0⟩ := open_floats Try.underlying22 Try.underlying23 (by kernel_rfl) (hval 0 22 v0 rfl rfl) h0
  clear hA0 hval0
  refine (walk W a0 n0 c0 z0 f0 b0).mono fun e W' ⟨he, bel⟩ => ?_
  subst he
  exact ⟨_, rfl, _, _, _, [], _, [], hW', trodAll_mk1 (shut_bool Try.underlying4 _), (trodAll_cons_mk (Below.trod laidOut (by kernel_rfl) (of_decide_eq_true (by kernel_rfl)) k0 bel lt0) trodAll_mk0), rfl, bel.frame _, fun h => by cases h⟩

theorem over : Rows.fnExactSumNumbersRow.holds Try.pinned (OpenSpec.ofChange Rows.fnExactSumNumbersSpec) :=
  OpenClaim.holds_of_wide 5 Try.f5 rfl rfl rfl rfl rfl rfl rfl ⟨rfl, rfl, rfl, rfl, rfl⟩ rfl rfl rfl rfl rfl (by kernel_rfl) Try.func5 (by kernel_rfl)
    (of_decide_eq_true (by kernel_rfl)) (by unfold Func.isWrapper; first | (rw [if_pos (by decide +kernel)]; kernel_rfl) | (rw [if_neg (by decide +kernel)]; exact ⟨rfl, rfl⟩))
    (fun os started H enc _ => lifted os started H enc)

theorem proved : Rows.FnExactSumNumbersSaid := over
end Go.Proofs.Ytfoanhffcghjaaa.sumNumbers
