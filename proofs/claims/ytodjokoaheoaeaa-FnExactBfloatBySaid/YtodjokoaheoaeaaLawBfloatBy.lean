/- The law FnExactBfloatBy holds for every input. No conditions. -/
import Derived.Test.YtodjokoaheoaeaaSame
import Derived.Test.YtodjokoaheoaeaaBits
import Derived.ProofKit
import Derived.OpenShut
import Derived.ChangeOld
import Derived.WalkSmall
namespace Go.Proofs.Ytodjokoaheoaeaa.bfloatBy
open Go.ChangeShapes Go.WideShapes Go.ChangeAt Go.RowKit Go.Fl
theorem by_u32 (x : Nat) (c : Int) (h0 : 0 ≤ c) (h1 : c ≤ 65535) (hx : x < 4294967296) (hr : x % 2147483648 < 2139095040) : (bits BinOp.andNot IntKind.u32 ((x : Int) + c) 65535).toNat = (x + c.toNat) / 65536 * 65536 := by
  rw [u32_andNot16 _ (by omega) (by omega)]; omega
theorem by_i64 (x : Nat) (c : Int) (h0 : 0 ≤ c) (h1 : c ≤ 65535) (hx : x < 4294967296) (hr : x % 2147483648 < 2139095040) : (bits BinOp.andNot IntKind.i64 ((x : Int) + c) 65535 % 4294967296).toNat = (x + c.toNat) / 65536 * 65536 := by
  rw [i64_andNot16 _ (by omega) (by omega)]; omega

theorem walk (x : Nat) (hx : (Lit.float .f32 x).wf = true) (c : Int) (_hc : (Lit.int .i64 c).wf = true) (w : World) : Calls Try.prog 13 #[.float .f32 x, .int .i64 c] w fun e w' => e = .returned (.bool true) ∧ Below w.heap.size w w' := by
  have hx' : x < 4294967296 := by simpa [Lit.wf] using hx
  clear hx
  by_cases h0 : 0 ≤ c
  · by_cases h1 : c ≤ 65535
    · by_cases hi : x % 2147483648 < 2139095040
      · have hn : isNaN .f32 x = false := not_nan (by omega)
        have hf := fin_yes hi
        have e1 := by_u32 x c h0 h1 hx' hi
        have e2 := by_i64 x c h0 h1 hx' hi
        go_enter Try.func13, Try.ntmps13
        go_wp2_with (first | (go_at_call 19; refine (sameFloat _ _ _ ?_).mono ?_; rotate_left; rintro e w1 ⟨rfl, rfl⟩) | go_in)
        · go_ret
          exact ⟨rfl, below_drewN (Below.refl _ _) _⟩
        · exact cnw rfl _ _
      · have hf := fin_no hi
        clear hi
        go_enter Try.func13, Try.ntmps13
        go_wp2_with (first | (go_at_call 19; refine (sameFloat _ _ _ ?_).mono ?_; rotate_left; rintro e w1 ⟨rfl, rfl⟩) | go_in)
        · go_ret
          exact ⟨rfl, below_drewN (Below.refl _ _) _⟩
        · exact cnw rfl _ _
    · go_enter Try.func13, Try.ntmps13
      go_wp2_with (first | (go_at_call 19; refine (sameFloat _ _ _ (by simp only [cn_fwid])).mono ?_; rintro e w1 ⟨rfl, rfl⟩) | go_in)
      go_ret
      exact ⟨rfl, below_drewN (Below.refl _ _) _⟩
  · go_enter Try.func13, Try.ntmps13
    go_wp2_with (first | (go_at_call 19; refine (sameFloat _ _ _ (by simp only [cn_fwid])).mono ?_; rintro e w1 ⟨rfl, rfl⟩) | go_in)
    go_ret
    exact ⟨rfl, below_drewN (Below.refl _ _) _⟩
theorem own : ownKnob Try.prog.godebug = none := by kernel_rfl
theorem laidOut : laidOutB Try.prog = true := by kernel_rfl
set_option maxRecDepth 100000 in
theorem lifted (os : Os) (started : os.Started) (H : Type) (enc : TypeId × Value → H) :
    ReturnsInHanded {} Try.checked os 13 .any (Rows.fnExactBfloatBySpec.pre6 enc Try.prog Try.f13 Rows.fnExactBfloatByRow.domain false) (Rows.fnExactBfloatBySpec.post enc Try.prog Try.f13 false true false false) := by
  refine returnsInHanded_of_change (C := Try.checked) own started (by kernel_rfl) Try.func13
    (ChangeSpec.witness6 (enc := enc) (C := Try.checked) false ⟨#[], #[.float .f32 0, .int .i64 0], []⟩ 8 (by kernel_rfl) (by kernel_rfl) (by kernel_rfl) (by kernel_rfl)) ?_
  intro W base args ds gs before hval0 hW hcnd _
  have hval : ∀ (j : Nat) t v, Try.f13.params[j]? = some t → args[j]? = some v → Value.okWide Try.prog W .any base t v := hval0
  have hW' := hW
  obtain ⟨p, q, hA0, hV, rfl, hfz, hnd⟩ := hW
  have hA : DataW.TrodAll enc Try.prog W 0 (fun _ => true) true Try.f13.params.toList args.toList ds p := hA0
  rw [Try.params13] at hA hval
  obtain ⟨v0, vs0, d0, ds0, p0, q0, hargs, rfl, rfl, h0, r0⟩ := trodAll_cons hA
  obtain ⟨v1, vs1, d1, ds1, p1, q1, rfl, rfl, rfl, h1, r1⟩ := trodAll_cons r0
  obtain ⟨rfl, rfl, rfl⟩ := trodAll_nil r1
  obtain rfl : args = #[v0, v1] := by cases args; simp_all
  obtain ⟨rfl, rfl⟩ := trodVars_none hV
  have k0 := h0
  have lt0 : ∀ x ∈ p0, x.block < W.heap.size := by obtain ⟨m, hm⟩ := k0; exact DataW.trod_lt m _ _ _ hm
  have k1 := h1
  have lt1 : ∀ x ∈ p1, x.block < W.heap.size := by obtain ⟨m, hm⟩ := k1; exact DataW.trod_lt m _ _ _ hm
  obtain ⟨a0, rfl, rfl, rfl, w0⟩ := open_float Try.underlying23 (hval 0 23 v0 rfl rfl) h0
  obtain ⟨a1, rfl, rfl, rfl, w1⟩ := open_int Try.underlying2 (hval 1 2 v1 rfl rfl) h1
  clear hA0 hval0
  refine (walk a0 w0 a1 w1 W).mono fun e W' ⟨he, bel⟩ => ?_
  subst he
  exact ⟨_, rfl, _, _, _, [], _, [], hW', trodAll_mk1 (shut_bool Try.underlying4 _), (trodAll_cons_mk (Below.trod laidOut (by kernel_rfl) (of_decide_eq_true (by kernel_rfl)) k0 bel lt0) (trodAll_cons_mk (Below.trod laidOut (by kernel_rfl) (of_decide_eq_true (by kernel_rfl)) k1 bel lt1) trodAll_mk0)), rfl, bel.frame _, fun h => by cases h⟩

theorem over : Rows.fnExactBfloatByRow.holds Try.pinned (OpenSpec.ofChange Rows.fnExactBfloatBySpec) :=
  OpenClaim.holds_of_wide 13 Try.f13 rfl rfl rfl rfl rfl rfl rfl ⟨rfl, rfl, rfl, rfl, rfl⟩ rfl rfl rfl rfl rfl (by kernel_rfl) Try.func13 (by kernel_rfl)
    (of_decide_eq_true (by kernel_rfl)) (by unfold Func.isWrapper; first | (rw [if_pos (by decide +kernel)]; kernel_rfl) | (rw [if_neg (by decide +kernel)]; exact ⟨rfl, rfl⟩))
    (fun os started H enc _ => lifted os started H enc)

theorem proved : Rows.FnExactBfloatBySaid := over
end Go.Proofs.Ytodjokoaheoaeaa.bfloatBy
