/- The law FnExactNextDown holds for every input. No conditions. -/
import Derived.Test.YtfoanhffcghjaaaSame
import Derived.Test.YtfoanhffcghjaaaBits
import Derived.ProofKit
import Derived.OpenShut
import Derived.ChangeOld
import Derived.WalkSmall
namespace Go.Proofs.Ytfoanhffcghjaaa.nextDown
open Go.ChangeShapes Go.WideShapes Go.ChangeAt Go.RowKit Go.Fl
/-- the next word up -/
def up (x : Nat) : Nat := if x = 2139095040 then x else if x = 0 ∨ x = 2147483648 then 1 else if x < 2147483648 then x + 1 else x - 1
theorem spec_nan (x : Nat) (w : World) (h : isNaN .f32 x = true) : Calls Try.prog 48 #[.float .f32 x] w fun e w' => e = .returned (.float .f32 x) ∧ w' = w := by
  go_enter Try.func48, Try.ntmps48
  go_wp2
  go_ret
  exact ⟨rfl, rfl⟩
theorem impl_nan (x : Nat) (w : World) (h : isNaN .f32 x = true) : Calls Try.prog 49 #[.float .f32 x] w fun e w' => ∃ r m, e = .returned (.float .f32 r) ∧ w' = w.drewN m ∧ isNaN .f32 r = true := by
  go_enter Try.func49, Try.ntmps49
  go_wp2
  go_ret
  exact ⟨_, _, rfl, rfl, fnar_nan (by decide +kernel) _⟩
theorem both_num (x : Nat) (hx : x < 4294967296) (hn : isNaN .f32 x = false) : (∀ w, Calls Try.prog 48 #[.float .f32 x] w fun e w' => e = .returned (.float .f32 (up x)) ∧ w' = w) ∧
    (∀ w, Calls Try.prog 49 #[.float .f32 x] w fun e w' => e = .returned (.float .f32 (up x)) ∧ w' = w) := by
  have hinf := fnar_inf
  have hinfd := ndr_inf
  have hr := nan_le hn
  by_cases c1 : x = 2139095040
  · subst c1
    have g1 : (FloatKind.f32.format.order 2139095040 2139095040 == some .eq) = true := by rw [order_self hn]; rfl
    have e : up 2139095040 = 2139095040 := by unfold up; rw [if_pos rfl]
    rw [e]
    clear e
    constructor
    · intro w
      go_enter Try.func48, Try.ntmps48
      go_wp2
      go_ret
      exact ⟨rfl, rfl⟩
    · intro w
      go_enter Try.func49, Try.ntmps49
      go_wp2
      go_ret
      exact ⟨rfl, rfl⟩
  · have g1 : (FloatKind.f32.format.order x 2139095040 == some .eq) = false := by
      rw [Bool.eq_false_iff]
      intro h
      rcases order_eq (k := .f32) hx (b := 2139095040) (by decide) hn (by decide +kernel) (by simpa using h) with h | h
      · exact c1 h
      · have := h.2; revert this; decide
    have g2 : ((x : Int) == 2139095040) = false := by simp; omega
    by_cases c2 : x = 0 ∨ x = 2147483648
    · have hz := oz_eq c2
      have hp : (FloatKind.f32.format.order x 0 == some .eq) = true := by rw [hz]; rfl
      have e : up x = 1 := by unfold up; rw [if_neg c1, if_pos c2]
      rw [e]
      clear hz e
      constructor
      · intro w
        go_enter Try.func48, Try.ntmps48
        go_wp2
        go_ret
        exact ⟨rfl, rfl⟩
      · intro w
        go_enter Try.func49, Try.ntmps49
        go_wp2
        go_ret
        exact ⟨rfl, rfl⟩
    · by_cases c3 : x < 2147483648
      · have hz := oz_gt (by omega) c3 hn
        have hp : (FloatKind.f32.format.order x 0 == some .eq) = false := by rw [hz]; rfl
        have hq : (FloatKind.f32.format.order x 0 == some .gt) = true := by rw [hz]; rfl
        have hb : (x : Int) < 2139095040 := by omega
        have e : up x = x + 1 := by unfold up; rw [if_neg c1, if_neg c2, if_pos c3]
        rw [e]
        clear hz e
        constructor
        · intro w
          go_enter Try.func48, Try.ntmps48
          go_wp2
          go_ret
          exact ⟨by first | rfl | (congr 2; omega), by first | rfl | simp⟩
        · intro w
          go_enter Try.func49, Try.ntmps49
          go_wp2
          go_ret
          exact ⟨by first | rfl | (congr 2; omega), by first | rfl | simp⟩
      · have hz := oz_lt (by omega) hx hn
        have hp : (FloatKind.f32.format.order x 0 == some .eq) = false := by rw [hz]; rfl
        have hq : (FloatKind.f32.format.order x 0 == some .gt) = false := by rw [hz]; rfl
        have hb : (2147483648 : Int) < x := by omega
        have e : up x = x - 1 := by unfold up; rw [if_neg c1, if_neg c2, if_neg c3]
        rw [e]
        clear hz e
        constructor
        · intro w
          go_enter Try.func48, Try.ntmps48
          go_wp2
          go_ret
          exact ⟨by first | rfl | (congr 2; omega), by first | rfl | simp⟩
        · intro w
          go_enter Try.func49, Try.ntmps49
          go_wp2
          go_ret
          exact ⟨by first | rfl | (congr 2; omega), by first | rfl | simp⟩
theorem neg_lt {x : Nat} (hx : x < 4294967296) : Op.negFloat .f32 x < 4294967296 := Nat.xor_lt_two_pow (n := 32) hx (by decide)
theorem neg_nan (x : Nat) : isNaN .f32 (Op.negFloat .f32 x) = isNaN .f32 x := by
  have e : (Op.negFloat .f32 x) % 2147483648 = x % 2147483648 := by
    show (x ^^^ 2 ^ 31) % 2 ^ 31 = x % 2 ^ 31
    rw [Nat.xor_mod_two_pow, Nat.mod_self, Nat.xor_zero]
  rw [Bool.eq_iff_iff, isNaN_f32, isNaN_f32, e]
theorem walk (x : Nat) (hx : (Lit.float .f32 x).wf = true) (w : World) : Calls Try.prog 7 #[.float .f32 x] w fun e w' => e = .returned (.bool true) ∧ Below w.heap.size w w' := by
  have hx' : x < 4294967296 := by simpa [Lit.wf] using hx
  clear hx
  have hneg : ∀ (b : Nat) (w : World), (Op.unary .neg (.float .f32 b)).run Try.prog w = .ok (.float .f32 (Op.negFloat .f32 b)) w := fun _ _ => rfl
  cases hn : isNaN .f32 x
  · obtain ⟨h1, h2⟩ := both_num (Op.negFloat .f32 x) (neg_lt hx') (by rw [neg_nan]; exact hn)
    go_enter Try.func7, Try.ntmps7
    go_wp2_with (first | (go_at_call 48; refine (h1 _).mono ?_; rintro e w1 ⟨rfl, rfl⟩) | (go_at_call 49; refine (h2 _).mono ?_; rintro e w1 ⟨rfl, rfl⟩) | (go_at_call 18; refine (sameFloat _ _ _ (cnw rfl _ _)).mono ?_; rintro e w1 ⟨rfl, rfl⟩) | go_in)
    go_ret
    exact ⟨rfl, below_drewN (Below.refl _ _) _⟩
  · have hm : isNaN .f32 (Op.negFloat .f32 x) = true := by rw [neg_nan]; exact hn
    go_enter Try.func7, Try.ntmps7
    go_wp2_with (first | (go_at_call 48; refine (spec_nan _ _ hm).mono ?_; rintro e w1 ⟨rfl, rfl⟩) | (go_at_call 49; refine (impl_nan _ _ hm).mono ?_; rintro e w1 ⟨r, m, rfl, rfl, hr⟩) | (go_at_call 18; refine (sameFloat _ _ _ (cnw (nan_cn_eq (by rw [neg_nan]; assumption) (by rw [neg_nan]; assumption)) _ _)).mono ?_; rintro e w1 ⟨rfl, rfl⟩) | go_in)
    go_ret
    exact ⟨rfl, below_drewN (Below.refl _ _) _⟩
theorem own : ownKnob Try.prog.godebug = none := by kernel_rfl
theorem laidOut : laidOutB Try.prog = true := by kernel_rfl
set_option maxRecDepth 100000 in
theorem lifted (os : Os) (started : os.Started) (H : Type) (enc : TypeId × Value → H) :
    ReturnsInHanded {} Try.checked os 7 .any (Rows.fnExactNextDownSpec.pre6 enc Try.prog Try.f7 Rows.fnExactNextDownRow.domain false) (Rows.fnExactNextDownSpec.post enc Try.prog Try.f7 false true false false) := by
  refine returnsInHanded_of_change (C := Try.checked) own started (by kernel_rfl) Try.func7
    (ChangeSpec.witness6 (enc := enc) (C := Try.checked) false ⟨#[], #[.float .f32 0], []⟩ 8 (by kernel_rfl) (by kernel_rfl) (by kernel_rfl) (by kernel_rfl)) ?_
  intro W base args ds gs before hval0 hW hcnd _
  have hval : ∀ (j : Nat) t v, Try.f7.params[j]? = some t → args[j]? = some v → Value.okWide Try.prog W .any base t v := hval0
  have hW' := hW
  obtain ⟨p, q, hA0, hV, rfl, hfz, hnd⟩ := hW
  have hA : DataW.TrodAll enc Try.prog W 0 (fun _ => true) true Try.f7.params.toList args.toList ds p := hA0
  rw [Try.params7] at hA hval
  obtain ⟨v0, vs0, d0, ds0, p0, q0, hargs, rfl, rfl, h0, r0⟩ := trodAll_cons hA
  obtain ⟨rfl, rfl, rfl⟩ := trodAll_nil r0
  obtain rfl : args = #[v0] := by cases args; simp_all
  obtain ⟨rfl, rfl⟩ := trodVars_none hV
  have k0 := h0
  have lt0 : ∀ x ∈ p0, x.block < W.heap.size := by obtain ⟨m, hm⟩ := k0; exact DataW.trod_lt m _ _ _ hm
  obtain ⟨a0, rfl, rfl, rfl, w0⟩ := open_float Try.underlying23 (hval 0 23 v0 rfl rfl) h0
  clear hA0 hval0
  refine (walk a0 w0 W).mono fun e W' ⟨he, bel⟩ => ?_
  subst he
  exact ⟨_, rfl, _, _, _, [], _, [], hW', trodAll_mk1 (shut_bool Try.underlying4 _), (trodAll_cons_mk (Below.trod laidOut (by kernel_rfl) (of_decide_eq_true (by kernel_rfl)) k0 bel lt0) trodAll_mk0), rfl, bel.frame _, fun h => by cases h⟩

theorem over : Rows.fnExactNextDownRow.holds Try.pinned (OpenSpec.ofChange Rows.fnExactNextDownSpec) :=
  OpenClaim.holds_of_wide 7 Try.f7 rfl rfl rfl rfl rfl rfl rfl ⟨rfl, rfl, rfl, rfl, rfl⟩ rfl rfl rfl rfl rfl (by kernel_rfl) Try.func7 (by kernel_rfl)
    (of_decide_eq_true (by kernel_rfl)) (by unfold Func.isWrapper; first | (rw [if_pos (by decide +kernel)]; kernel_rfl) | (rw [if_neg (by decide +kernel)]; exact ⟨rfl, rfl⟩))
    (fun os started H enc _ => lifted os started H enc)

theorem proved : Rows.FnExactNextDownSaid := over
end Go.Proofs.Ytfoanhffcghjaaa.nextDown
