/- The law FnExactNextUp holds for every input. No conditions. -/
import Derived.Test.YtodjokoaheoaeaaSame
import Derived.Test.YtodjokoaheoaeaaBits
import Derived.ProofKit
import Derived.OpenShut
import Derived.ChangeOld
import Derived.WalkSmall
namespace Go.Proofs.Ytodjokoaheoaeaa.nextUp
open Go.ChangeShapes Go.WideShapes Go.ChangeAt Go.RowKit Go.Fl

theorem walk (x : Nat) (hx : (Lit.float .f32 x).wf = true) (w : World) : Calls Try.prog 14 #[.float .f32 x] w fun e w' => e = .returned (.bool true) ∧ Below w.heap.size w w' := by
  have hx' : x < 4294967296 := by simpa [Lit.wf] using hx
  clear hx
  have hinf := fnar_inf
  have hinfd := ndr_inf
  cases hn : isNaN .f32 x
  · have hr := nan_le hn
    by_cases c1 : x = 2139095040
    · subst c1
      have g1 : (FloatKind.f32.format.order 2139095040 2139095040 == some .eq) = true := by rw [order_self hn]; rfl
      go_enter Try.func14, Try.ntmps14
      go_wp2_with (first | (go_at_call 19; refine (sameFloat _ _ _ ?_).mono ?_; rotate_left; rintro e w1 ⟨rfl, rfl⟩) | go_in)
      · go_ret
        exact ⟨rfl, below_drewN (Below.refl _ _) _⟩
      · exact cnw rfl _ _
    · have g1 : (FloatKind.f32.format.order x 2139095040 == some .eq) = false := by
        rw [Bool.eq_false_iff]
        intro h
        rcases order_eq (k := .f32) hx' (b := 2139095040) (by decide) hn (by decide +kernel) (by simpa using h) with h | h
        · exact c1 h
        · have := h.2; revert this; decide
      have g2 : ((x : Int) == 2139095040) = false := by simp; omega
      by_cases c2 : x = 0 ∨ x = 2147483648
      · have hz := oz_eq c2
        have hp : (FloatKind.f32.format.order x 0 == some .eq) = true := by rw [hz]; rfl
        clear hz
        go_enter Try.func14, Try.ntmps14
        go_wp2_with (first | (go_at_call 19; refine (sameFloat _ _ _ ?_).mono ?_; rotate_left; rintro e w1 ⟨rfl, rfl⟩) | go_in)
        · go_ret
          exact ⟨rfl, below_drewN (Below.refl _ _) _⟩
        · exact cnw rfl _ _
      · by_cases c3 : x < 2147483648
        · have hz := oz_gt (by omega) c3 hn
          have hp : (FloatKind.f32.format.order x 0 == some .eq) = false := by rw [hz]; rfl
          have hq : (FloatKind.f32.format.order x 0 == some .gt) = true := by rw [hz]; rfl
          have hb : (x : Int) < 2139095040 := by omega
          clear hz
          go_enter Try.func14, Try.ntmps14
          go_wp2_with (first | (go_at_call 19; refine (sameFloat _ _ _ ?_).mono ?_; rotate_left; rintro e w1 ⟨rfl, rfl⟩) | go_in)
          · go_ret
            exact ⟨rfl, below_drewN (Below.refl _ _) _⟩
          · exact cnw (by congr 1) _ _
        · have hz := oz_lt (by omega) hx' hn
          have hp : (FloatKind.f32.format.order x 0 == some .eq) = false := by rw [hz]; rfl
          have hq : (FloatKind.f32.format.order x 0 == some .gt) = false := by rw [hz]; rfl
          have hb : (2147483648 : Int) < x := by omega
          clear hz
          go_enter Try.func14, Try.ntmps14
          go_wp2_with (first | (go_at_call 19; refine (sameFloat _ _ _ ?_).mono ?_; rotate_left; rintro e w1 ⟨rfl, rfl⟩) | go_in)
          · go_ret
            exact ⟨rfl, below_drewN (Below.refl _ _) _⟩
          · exact cnw (by congr 1) _ _
  · go_enter Try.func14, Try.ntmps14
    go_wp2_with (first | (go_at_call 19; refine (sameFloat _ _ _ ?_).mono ?_; rotate_left; rintro e w1 ⟨rfl, rfl⟩) | go_in)
    · go_ret
      exact ⟨rfl, below_drewN (Below.refl _ _) _⟩
    · exact cnw (nan_cn_eq (fnar_nan (by decide +kernel) _) hn) _ _
theorem own : ownKnob Try.prog.godebug = none := by kernel_rfl
theorem laidOut : laidOutB Try.prog = true := by kernel_rfl
set_option maxRecDepth 100000 in
theorem lifted (os : Os) (started : os.Started) (H : Type) (enc : TypeId × Value → H) :
    ReturnsInHanded {} Try.checked os 14 .any (Rows.fnExactNextUpSpec.pre6 enc Try.prog Try.f14 Rows.fnExactNextUpRow.domain false) (Rows.fnExactNextUpSpec.post enc Try.prog Try.f14 false true false false) := by
  refine returnsInHanded_of_change (C := Try.checked) own started (by kernel_rfl) Try.func14
    (ChangeSpec.witness6 (enc := enc) (C := Try.checked) false ⟨#[], #[.float .f32 0], []⟩ 8 (by kernel_rfl) (by kernel_rfl) (by kernel_rfl) (by kernel_rfl)) ?_
  intro W base args ds gs before hval0 hW hcnd _
  have hval : ∀ (j : Nat) t v, Try.f14.params[j]? = some t → args[j]? = some v → Value.okWide Try.prog W .any base t v := hval0
  have hW' := hW
  obtain ⟨p, q, hA0, hV, rfl, hfz, hnd⟩ := hW
  have hA : DataW.TrodAll enc Try.prog W 0 (fun _ => true) true Try.f14.params.toList args.toList ds p := hA0
  rw [Try.params14] at hA hval
  obtain ⟨v0, vs0, d0, ds0, p0, q0, hargs, rfl, rfl, h0, r0⟩ := trodAll_cons hA
  obtain ⟨rfl, rfl, rfl⟩ := trodAll_nil r0
  obtain rfl : args = #[v0] := by cases args; simp_all
  obtain ⟨rfl, rfl⟩ := trodVars_none hV
  have k0 := h0
  have lt0 : ∀ x ∈ p0, x.block < W.heap.size := by obtain ⟨m, hm⟩ := k0; exact DataW.trod_lt m _ _ _ hm
  obtain ⟨a0, rfl, rfl, rfl, w0⟩ := open_float Try.underlying23 (hval 0 23 v0 rfl rfl) h0
  clear hA0 hval0
  refine (walk a0 w0 W).mono fun e W' ⟨he, bel⟩ => ?_
  subst he
  exact ⟨_, rfl, _, _, _, [], _, [], hW', trodAll_mk1 (shut_bool Try.underlying4 _), (trodAll_cons_mk (Below.trod laidOut (by kernel_rfl) (of_decide_eq_true (by kernel_rfl)) k0 bel lt0) trodAll_mk0), rfl, bel.frame _, fun h => by cases h⟩

theorem over : Rows.fnExactNextUpRow.holds Try.pinned (OpenSpec.ofChange Rows.fnExactNextUpSpec) :=
  OpenClaim.holds_of_wide 14 Try.f14 rfl rfl rfl rfl rfl rfl rfl ⟨rfl, rfl, rfl, rfl, rfl⟩ rfl rfl rfl rfl rfl (by kernel_rfl) Try.func14 (by kernel_rfl)
    (of_decide_eq_true (by kernel_rfl)) (by unfold Func.isWrapper; first | (rw [if_pos (by decide +kernel)]; kernel_rfl) | (rw [if_neg (by decide +kernel)]; exact ⟨rfl, rfl⟩))
    (fun os started H enc _ => lifted os started H enc)

theorem proved : Rows.FnExactNextUpSaid := over
end Go.Proofs.Ytodjokoaheoaeaa.nextUp
