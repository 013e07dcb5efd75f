/- The law FnExactDotNumbers holds for every input. No conditions. -/
import Derived.Test.YtfoanhffcghjaaaSums
import Derived.Test.YtfoanhffcghjaaaLst
import Derived.Test.YtfoanhffcghjaaaOpen
import Derived.ProofKit
import Derived.OpenShut
import Derived.ChangeOld
import Derived.WalkSmall
namespace Go.Proofs.Ytfoanhffcghjaaa.dotNumbers
open Go.ChangeShapes Go.WideShapes Go.ChangeAt Go.RowKit Go.Fl Go.Reg
theorem spec_yes (w : World) (a b : Option Addr) (n c d : Nat) (xs ys : List Nat) (hn : n ≤ 256) (h1 : Fs w a n c xs) (h2 : Fs w b n d ys) : Calls Try.prog 20 #[.slice a n c, .slice b n d] w (FB w (dotTo xs ys n) true) := by
  have hd : decide ((n : Int) ≤ 256) = true := by simp; omega
  go_enter Try.func20, Try.ntmps20
  go_wp2_with (first | (go_at_call 44; refine (specDot _ _ _ _ _ _ _ _ (by omega) h1 h2).mono ?_; rintro e w1 ⟨r, m, rfl, rfl, hr⟩) | go_in)
  go_ret2
  exact ⟨r, m, rfl, rfl, hr⟩
theorem impl_yes (w : World) (a b : Option Addr) (n c d : Nat) (xs ys : List Nat) (hn : n ≤ 256) (h1 : Fs w a n c xs) (h2 : Fs w b n d ys) : Calls Try.prog 21 #[.slice a n c, .slice b n d] w (FB w (dotTo xs ys n) true) := by
  have hd : decide (256 < (n : Int)) = false := by simp; omega
  go_enter Try.func21, Try.ntmps21
  go_wp2_with (first | (go_at_call 45; refine (implDot _ _ _ _ _ _ _ _ (by omega) h1 h2).mono ?_; rintro e w1 ⟨r, m, rfl, rfl, hr⟩) | go_in)
  go_ret2
  exact ⟨r, m, rfl, rfl, hr⟩
theorem spec_long (w : World) (a b : Option Addr) (n k c d : Nat) (hn : 256 < n) : Calls Try.prog 20 #[.slice a n c, .slice b k d] w (FB w 0 false) := by
  have hd : decide ((n : Int) ≤ 256) = false := by simp; omega
  go_enter Try.func20, Try.ntmps20
  go_wp2
  go_ret2
  exact ⟨0, 0, rfl, rfl, rfl⟩
theorem spec_other (w : World) (a b : Option Addr) (n k c d : Nat) (hn : n ≤ 256) (hk : ¬ n = k) : Calls Try.prog 20 #[.slice a n c, .slice b k d] w (FB w 0 false) := by
  have hd : decide ((n : Int) ≤ 256) = true := by simp; omega
  have hne : ((n : Int) != (k : Int)) = true := by simp; omega
  go_enter Try.func20, Try.ntmps20
  go_wp2
  go_ret2
  exact ⟨0, 0, rfl, rfl, rfl⟩
theorem impl_long (w : World) (a b : Option Addr) (n k c d : Nat) (hn : 256 < n) : Calls Try.prog 21 #[.slice a n c, .slice b k d] w (FB w 0 false) := by
  have hd : decide (256 < (n : Int)) = true := by simp; omega
  go_enter Try.func21, Try.ntmps21
  go_wp2
  go_ret2
  exact ⟨0, 0, rfl, rfl, rfl⟩
theorem impl_other (w : World) (a b : Option Addr) (n k c d : Nat) (hn : n ≤ 256) (hk : ¬ n = k) : Calls Try.prog 21 #[.slice a n c, .slice b k d] w (FB w 0 false) := by
  have hd : decide (256 < (n : Int)) = false := by simp; omega
  have hne : ((n : Int) != (k : Int)) = true := by simp; omega
  go_enter Try.func21, Try.ntmps21
  go_wp2
  go_ret2
  exact ⟨0, 0, rfl, rfl, rfl⟩
theorem both (n : Nat) (xs : List Nat) (k : Nat) (ys : List Nat) (_hn : n ≤ 1048576) (_hl : n = xs.length) (_hk : k ≤ 1048576) (_hlk : k = ys.length) : ∃ ok s, (∀ w a c b d, Fs w a n c xs → Fs w b k d ys → Calls Try.prog 20 #[.slice a n c, .slice b k d] w (FB w s ok)) ∧
    (∀ w a c b d, Fs w a n c xs → Fs w b k d ys → Calls Try.prog 21 #[.slice a n c, .slice b k d] w (FB w s ok)) := by
  by_cases h : n ≤ 256
  · by_cases hk : n = k
    · subst hk
      exact ⟨true, _, fun w a c b d h1 h2 => spec_yes w a b n c d xs ys h h1 h2, fun w a c b d h1 h2 => impl_yes w a b n c d xs ys h h1 h2⟩
    · exact ⟨false, _, fun w a c b d _ _ => spec_other w a b n k c d h hk, fun w a c b d _ _ => impl_other w a b n k c d h hk⟩
  · exact ⟨false, _, fun w a c b d _ _ => spec_long w a b n k c d (by omega), fun w a c b d _ _ => impl_long w a b n k c d (by omega)⟩
theorem walk (w : World) (a0 : Option Addr) (n0 c0 : Nat) (xs0 : List Nat) (h0 : Fs w a0 n0 c0 xs0) (_b0 : ∀ x ∈ xs0, x < 4294967296) (a1 : Option Addr) (n1 c1 : Nat) (xs1 : List Nat) (h1 : Fs w a1 n1 c1 xs1) (_b1 : ∀ x ∈ xs1, x < 4294967296) :
    Calls Try.prog 4 #[.slice a0 n0 c0, .slice a1 n1 c1] w fun e w' => e = .returned (.bool true) ∧ Below w.heap.size w w' := by
  have m0 := h0.cap2
  have q0 := h0.cap1
  have m1 := h1.cap2
  have q1 := h1.cap1
  unfold maxLen at m0 m1
  by_cases g0 : 1048576 < n0
  · go_enter Try.func4, Try.ntmps4
    go_wp2
    go_ret
    exact ⟨rfl, Below.refl _ _⟩
  have hn0 : n0 ≤ 1048576 := by omega
  by_cases g1 : 1048576 < n1
  · go_enter Try.func4, Try.ntmps4
    go_wp2
    go_ret
    exact ⟨rfl, Below.refl _ _⟩
  have hn1 : n1 ≤ 1048576 := by omega
  obtain ⟨ok, s, hs, hi⟩ := both n0 xs0 n1 xs1 hn0 h0.len hn1 h1.len
  go_enter Try.func4, Try.ntmps4
  have T := Below.refl w.heap.size w
  go_wp2_with fail
  refine (toF32 _ _ _ _ _ hn0 h0).mono ?_
  rintro e w1 ⟨p1, rfl, o1, e1⟩
  have f1 := Fs.own o1
  have T := T.trans (e1.mono T.size)
  have h0 := h0.below e1
  have h1 := h1.below e1
  clear o1 e1
  go_wp2_with fail
  refine (toF32 _ _ _ _ _ hn1 h1).mono ?_
  rintro e w2 ⟨p2, rfl, o2, e2⟩
  have f2 := Fs.own o2
  have T := T.trans (e2.mono T.size)
  have h0 := h0.below e2
  have h1 := h1.below e2
  have f1 := f1.below e2
  clear o2 e2
  go_wp2_with fail
  refine (hs _ _ _ _ _ f1 f2).mono ?_
  rintro e w3 ⟨r3, k3, rfl, rfl, y3⟩
  have Y3 := Lib.hid y3
  clear y3
  have T := below_drewN T k3
  have h0 := h0.drew k3
  have h1 := h1.drew k3
  have f1 := f1.drew k3
  have f2 := f2.drew k3
  generalize w2.drewN k3 = w3 at *
  go_wp2_with fail
  refine (toF32 _ _ _ _ _ hn0 h0).mono ?_
  rintro e w4 ⟨p4, rfl, o4, e4⟩
  have f4 := Fs.own o4
  have T := T.trans (e4.mono T.size)
  have h0 := h0.below e4
  have h1 := h1.below e4
  clear o4 e4
  go_wp2_with fail
  refine (toF32 _ _ _ _ _ hn1 h1).mono ?_
  rintro e w5 ⟨p5, rfl, o5, e5⟩
  have f5 := Fs.own o5
  have T := T.trans (e5.mono T.size)
  have h0 := h0.below e5
  have h1 := h1.below e5
  have f4 := f4.below e5
  clear o5 e5
  go_wp2_with fail
  refine (hi _ _ _ _ _ f4 f5).mono ?_
  rintro e w6 ⟨r6, k6, rfl, rfl, y6⟩
  have Y6 := Lib.hid y6
  clear y6
  have T := below_drewN T k6
  have h0 := h0.drew k6
  have h1 := h1.drew k6
  have f4 := f4.drew k6
  have f5 := f5.drew k6
  generalize w5.drewN k6 = w6 at *
  go_wp2_with fail
  refine (sameFloat _ _ _ (cnw (Y6.out.trans Y3.out.symm) _ _)).mono ?_
  rintro e w7 ⟨rfl, rfl⟩
  have T := below_drewN T (wdr r6 + wdr r3)
  have h0 := h0.drew (wdr r6 + wdr r3)
  have h1 := h1.drew (wdr r6 + wdr r3)
  have f4 := f4.drew (wdr r6 + wdr r3)
  have f5 := f5.drew (wdr r6 + wdr r3)
  generalize w6.drewN (wdr r6 + wdr r3) = w7 at *
  go_wp2_with fail
  refine (toF32 _ _ _ _ _ hn0 h0).mono ?_
  rintro e w8 ⟨p8, rfl, o8, e8⟩
  have f8 := Fs.own o8
  have T := T.trans (e8.mono T.size)
  have h0 := h0.below e8
  have h1 := h1.below e8
  have f4 := f4.below e8
  have f5 := f5.below e8
  clear o8 e8
  go_wp2_with fail
  refine (eqF32 _ _ _ _ _ _ _ _ hn0 f4 f8 rfl).mono ?_
  rintro e w9 ⟨k9, rfl, rfl⟩
  have T := below_drewN T k9
  have h0 := h0.drew k9
  have h1 := h1.drew k9
  have f4 := f4.drew k9
  have f5 := f5.drew k9
  generalize w8.drewN k9 = w9 at *
  go_wp2_with fail
  refine (toF32 _ _ _ _ _ hn1 h1).mono ?_
  rintro e w10 ⟨p10, rfl, o10, e10⟩
  have f10 := Fs.own o10
  have T := T.trans (e10.mono T.size)
  have h0 := h0.below e10
  have h1 := h1.below e10
  have f4 := f4.below e10
  have f5 := f5.below e10
  clear o10 e10
  go_wp2_with fail
  refine (eqF32 _ _ _ _ _ _ _ _ hn1 f5 f10 rfl).mono ?_
  rintro e w11 ⟨k11, rfl, rfl⟩
  have T := below_drewN T k11
  have h0 := h0.drew k11
  have h1 := h1.drew k11
  have f4 := f4.drew k11
  have f5 := f5.drew k11
  generalize w10.drewN k11 = w11 at *
  go_wp2
  go_ret
  exact ⟨rfl, T⟩
theorem own : ownKnob Try.prog.godebug = none := by kernel_rfl
theorem laidOut : laidOutB Try.prog = true := by kernel_rfl
set_option maxRecDepth 100000 in
theorem lifted (os : Os) (started : os.Started) (H : Type) (enc : TypeId × Value → H) :
    ReturnsInHanded {} Try.checked os 4 .any (Rows.fnExactDotNumbersSpec.pre6 enc Try.prog Try.f4 Rows.fnExactDotNumbersRow.domain false) (Rows.fnExactDotNumbersSpec.post enc Try.prog Try.f4 false true false false) := by
  refine returnsInHanded_of_change (C := Try.checked) own started (by kernel_rfl) Try.func4
    (ChangeSpec.witness6 (enc := enc) (C := Try.checked) false ⟨#[], #[.slice none 0 0, .slice none 0 0], []⟩ 8 (by kernel_rfl) (by kernel_rfl) (by kernel_rfl) (by kernel_rfl)) ?_
  intro W base args ds gs before hval0 hW hcnd _
  have hval : ∀ (j : Nat) t v, Try.f4.params[j]? = some t → args[j]? = some v → Value.okWide Try.prog W .any base t v := hval0
  have hW' := hW
  obtain ⟨p, q, hA0, hV, rfl, hfz, hnd⟩ := hW
  have hA : DataW.TrodAll enc Try.prog W 0 (fun _ => true) true Try.f4.params.toList args.toList ds p := hA0
  rw [Try.params4] at hA hval
  obtain ⟨v0, vs0, d0, ds0, p0, q0, hargs, rfl, rfl, h0, r0⟩ := trodAll_cons hA
  obtain ⟨v1, vs1, d1, ds1, p1, q1, rfl, rfl, rfl, h1, r1⟩ := trodAll_cons r0
  obtain ⟨rfl, rfl, rfl⟩ := trodAll_nil r1
  obtain rfl : args = #[v0, v1] := by cases args; simp_all
  obtain ⟨rfl, rfl⟩ := trodVars_none hV
  have k0 := h0
  have lt0 : ∀ x ∈ p0, x.block < W.heap.size := by obtain ⟨m, hm⟩ := k0; exact DataW.trod_lt m _ _ _ hm
  have k1 := h1
  have lt1 : ∀ x ∈ p1, x.block < W.heap.size := by obtain ⟨m, hm⟩ := k1; exact DataW.trod_lt m _ _ _ hm
  obtain ⟨a0, n0, c0, z0, rfl, f0, b0⟩ := open_floats Try.underlying22 Try.underlying23 (by kernel_rfl) (hval 0 22 v0 rfl rfl) h0
  obtain ⟨a1, n1, c1, z1, rfl, f1, b1⟩ := open_floats Try.underlying22 Try.underlying23 (by kernel_rfl) (hval 1 22 v1 rfl rfl) h1
  clear hA0 hval0
  refine (walk W a0 n0 c0 z0 f0 b0 a1 n1 c1 z1 f1 b1).mono fun e W' ⟨he, bel⟩ => ?_
  subst he
  exact ⟨_, rfl, _, _, _, [], _, [], hW', trodAll_mk1 (shut_bool Try.underlying4 _), (trodAll_cons_mk (Below.trod laidOut (by kernel_rfl) (of_decide_eq_true (by kernel_rfl)) k0 bel lt0) (trodAll_cons_mk (Below.trod laidOut (by kernel_rfl) (of_decide_eq_true (by kernel_rfl)) k1 bel lt1) trodAll_mk0)), rfl, bel.frame _, fun h => by cases h⟩

theorem over : Rows.fnExactDotNumbersRow.holds Try.pinned (OpenSpec.ofChange Rows.fnExactDotNumbersSpec) :=
  OpenClaim.holds_of_wide 4 Try.f4 rfl rfl rfl rfl rfl rfl rfl ⟨rfl, rfl, rfl, rfl, rfl⟩ rfl rfl rfl rfl rfl (by kernel_rfl) Try.func4 (by kernel_rfl)
    (of_decide_eq_true (by kernel_rfl)) (by unfold Func.isWrapper; first | (rw [if_pos (by decide +kernel)]; kernel_rfl) | (rw [if_neg (by decide +kernel)]; exact ⟨rfl, rfl⟩))
    (fun os started H enc _ => lifted os started H enc)

theorem proved : Rows.FnExactDotNumbersSaid := over
end Go.Proofs.Ytfoanhffcghjaaa.dotNumbers
