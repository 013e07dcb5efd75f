/- The law FnExactSameNumber holds for every input. No conditions. -/
import Derived.Test.YtodjokoaheoaeaaSame
import Derived.Test.YtodjokoaheoaeaaBits
import Derived.ProofKit
import Derived.OpenShut
import Derived.ChangeOld
import Derived.WalkSmall
namespace Go.Proofs.Ytodjokoaheoaeaa.sameNumber
open Go.ChangeShapes Go.WideShapes Go.ChangeAt Go.RowKit Go.Fl

theorem walk (a : Nat) (ha : (Lit.float .f32 a).wf = true) (b : Nat) (hb : (Lit.float .f32 b).wf = true) (w : World) : Calls Try.prog 9 #[.float .f32 a, .float .f32 b] w fun e w' => e = .returned (.bool true) ∧ Below w.heap.size w w' := by
  have ha' : a < 4294967296 := by simpa [Lit.wf] using ha
  have hb' : b < 4294967296 := by simpa [Lit.wf] using hb
  clear ha hb
  cases na : isNaN .f32 a
  · cases nb : isNaN .f32 b
    · have h1 := fwid_of na
      have h2 := fwid_of nb
      have h3 := wdr_of na
      have h4 := wdr_of nb
      by_cases hab : a = b
      · subst hab
        have g := order_self na
        go_enter Try.func9, Try.ntmps9
        go_wp2
        go_ret
        exact ⟨rfl, below_drewN (Below.refl _ _) 0⟩
      · have g2 : ((a : Int) == b) = false := by simp; omega
        cases ho : (FloatKind.f32.format.order a b == some .eq)
        · go_enter Try.func9, Try.ntmps9
          go_wp2
          go_ret
          exact ⟨rfl, below_drewN (Below.refl _ _) 0⟩
        · rcases order_eq (k := .f32) ha' hb' na nb (by simpa using ho) with h | ⟨za, zb⟩
          · exact absurd h hab
          · have : (a = 0 ∧ b = 2147483648) ∨ (a = 2147483648 ∧ b = 0) := by
              have za' : a % 2147483648 = 0 := za
              have zb' : b % 2147483648 = 0 := zb
              omega
            rcases this with ⟨rfl, rfl⟩ | ⟨rfl, rfl⟩
            all_goals
              have e0 : wid 0 = 0 := by decide +kernel
              have e1 : wid 2147483648 = 9223372036854775808 := by decide +kernel
              have ew : wrap64 9223372036854775808 < 0 := by decide +kernel
              clear g2 hab za zb
              go_enter Try.func9, Try.ntmps9
              go_wp2
              go_ret
              exact ⟨rfl, below_drewN (Below.refl _ _) 0⟩
    · have g2 : ((a : Int) == 2143289344) = false := by
        have := nan_le na
        simp; omega
      go_enter Try.func9, Try.ntmps9
      go_wp2
      go_ret
      exact ⟨rfl, below_drewN (Below.refl _ _) 0⟩
  · cases nb : isNaN .f32 b
    · have g2 : ((2143289344 : Int) == b) = false := by
        have := nan_le nb
        simp; omega
      go_enter Try.func9, Try.ntmps9
      go_wp2
      go_ret
      exact ⟨rfl, below_drewN (Below.refl _ _) 0⟩
    · go_enter Try.func9, Try.ntmps9
      go_wp2
      go_ret
      exact ⟨rfl, below_drewN (Below.refl _ _) 0⟩
theorem own : ownKnob Try.prog.godebug = none := by kernel_rfl
theorem laidOut : laidOutB Try.prog = true := by kernel_rfl
set_option maxRecDepth 100000 in
theorem lifted (os : Os) (started : os.Started) (H : Type) (enc : TypeId × Value → H) :
    ReturnsInHanded {} Try.checked os 9 .any (Rows.fnExactSameNumberSpec.pre6 enc Try.prog Try.f9 Rows.fnExactSameNumberRow.domain false) (Rows.fnExactSameNumberSpec.post enc Try.prog Try.f9 false true false false) := by
  refine returnsInHanded_of_change (C := Try.checked) own started (by kernel_rfl) Try.func9
    (ChangeSpec.witness6 (enc := enc) (C := Try.checked) false ⟨#[], #[.float .f32 0, .float .f32 0], []⟩ 8 (by kernel_rfl) (by kernel_rfl) (by kernel_rfl) (by kernel_rfl)) ?_
  intro W base args ds gs before hval0 hW hcnd _
  have hval : ∀ (j : Nat) t v, Try.f9.params[j]? = some t → args[j]? = some v → Value.okWide Try.prog W .any base t v := hval0
  have hW' := hW
  obtain ⟨p, q, hA0, hV, rfl, hfz, hnd⟩ := hW
  have hA : DataW.TrodAll enc Try.prog W 0 (fun _ => true) true Try.f9.params.toList args.toList ds p := hA0
  rw [Try.params9] at hA hval
  obtain ⟨v0, vs0, d0, ds0, p0, q0, hargs, rfl, rfl, h0, r0⟩ := trodAll_cons hA
  obtain ⟨v1, vs1, d1, ds1, p1, q1, rfl, rfl, rfl, h1, r1⟩ := trodAll_cons r0
  obtain ⟨rfl, rfl, rfl⟩ := trodAll_nil r1
  obtain rfl : args = #[v0, v1] := by cases args; simp_all
  obtain ⟨rfl, rfl⟩ := trodVars_none hV
  have k0 := h0
  have lt0 : ∀ x ∈ p0, x.block < W.heap.size := by obtain ⟨m, hm⟩ := k0; exact DataW.trod_lt m _ _ _ hm
  have k1 := h1
  have lt1 : ∀ x ∈ p1, x.block < W.heap.size := by obtain ⟨m, hm⟩ := k1; exact DataW.trod_lt m _ _ _ hm
  obtain ⟨a0, rfl, rfl, rfl, w0⟩ := open_float Try.underlying23 (hval 0 23 v0 rfl rfl) h0
  obtain ⟨a1, rfl, rfl, rfl, w1⟩ := open_float Try.underlying23 (hval 1 23 v1 rfl rfl) h1
  clear hA0 hval0
  refine (walk a0 w0 a1 w1 W).mono fun e W' ⟨he, bel⟩ => ?_
  subst he
  exact ⟨_, rfl, _, _, _, [], _, [], hW', trodAll_mk1 (shut_bool Try.underlying4 _), (trodAll_cons_mk (Below.trod laidOut (by kernel_rfl) (of_decide_eq_true (by kernel_rfl)) k0 bel lt0) (trodAll_cons_mk (Below.trod laidOut (by kernel_rfl) (of_decide_eq_true (by kernel_rfl)) k1 bel lt1) trodAll_mk0)), rfl, bel.frame _, fun h => by cases h⟩

theorem over : Rows.fnExactSameNumberRow.holds Try.pinned (OpenSpec.ofChange Rows.fnExactSameNumberSpec) :=
  OpenClaim.holds_of_wide 9 Try.f9 rfl rfl rfl rfl rfl rfl rfl ⟨rfl, rfl, rfl, rfl, rfl⟩ rfl rfl rfl rfl rfl (by kernel_rfl) Try.func9 (by kernel_rfl)
    (of_decide_eq_true (by kernel_rfl)) (by unfold Func.isWrapper; first | (rw [if_pos (by decide +kernel)]; kernel_rfl) | (rw [if_neg (by decide +kernel)]; exact ⟨rfl, rfl⟩))
    (fun os started H enc _ => lifted os started H enc)

theorem proved : Rows.FnExactSameNumberSaid := over
end Go.Proofs.Ytodjokoaheoaeaa.sameNumber
