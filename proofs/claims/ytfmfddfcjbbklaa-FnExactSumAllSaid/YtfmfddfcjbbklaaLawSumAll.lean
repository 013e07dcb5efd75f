/- The law FnExactSumAll holds for every input. No conditions. -/
import Derived.Test.YtfmfddfcjbbklaaValid
import Derived.Test.YtfmfddfcjbbklaaSums
import Derived.Test.YtfmfddfcjbbklaaOpen
import Derived.ProofKit
import Derived.OpenShut
import Derived.ChangeOld
import Derived.WalkSmall
namespace Go.Proofs.Ytfmfddfcjbbklaa.sumAll
open Go.ChangeShapes Go.WideShapes Go.ChangeAt Go.RowKit Go.Fl Go.Reg
theorem specA (w : World) (r c : Int) (a : Option Addr) (n cap : Nat) (xs : List Nat) (h1 : Fs w a n cap xs) : Calls Try.prog 20 #[.agg #[.int .i64 r, .int .i64 c, .slice a n cap]] w (FN .f32 w (if vt r c n then sumTo xs n else 0) (decide (vt r c n))) := by
  have hm' : n ≤ maxLen := Nat.le_trans h1.cap1 h1.cap2
  by_cases hv : vt r c n
  · rw [if_pos hv, decide_eq_true hv]
    have hn := (vt_le hv).2
    go_enter Try.func20, Try.ntmps20
    go_wp2_with fail
    refine calls_at ?_
    intro w1 hA
    obtain ⟨Q, A, z1, z2⟩ := box_new hA
    clear hA
    refine (isT r c a n cap _ _ _ hm' Q.c0 Q.c1 Q.c2).mono ?_
    rintro e w2 ⟨rfl, m, rfl⟩
    rw [decide_eq_true hv]
    obtain ⟨q0, q1, q2, q3⟩ := Q
    go_wp2_with fail
    refine (specSum _ _ _ _ _ (by omega) ((h1.below A).drew _)).mono ?_
    rintro e w3 ⟨u, m', rfl, rfl, hu⟩
    go_wp2
    go_ret2
    exact ⟨u, rfl, hu, bdrew A _⟩
  · rw [if_neg hv, decide_eq_false hv]
    go_enter Try.func20, Try.ntmps20
    go_wp2_with fail
    refine calls_at ?_
    intro w1 hA
    obtain ⟨Q, A, z1, z2⟩ := box_new hA
    clear hA
    refine (isT r c a n cap _ _ _ hm' Q.c0 Q.c1 Q.c2).mono ?_
    rintro e w2 ⟨rfl, m, rfl⟩
    rw [decide_eq_false hv]
    go_wp2
    go_ret2
    exact ⟨0, rfl, rfl, bdrew A _⟩
theorem implA (w : World) (r c : Int) (a : Option Addr) (n cap : Nat) (xs : List Nat) (h1 : Fs w a n cap xs) : Calls Try.prog 21 #[.agg #[.int .i64 r, .int .i64 c, .slice a n cap]] w (FN .f32 w (if vt r c n then sumTo xs n else 0) (decide (vt r c n))) := by
  have hm' : n ≤ maxLen := Nat.le_trans h1.cap1 h1.cap2
  by_cases hv : vt r c n
  · rw [if_pos hv, decide_eq_true hv]
    have hn := (vt_le hv).2
    go_enter Try.func21, Try.ntmps21
    go_wp2_with fail
    refine calls_at ?_
    intro w1 hA
    obtain ⟨Q, A, z1, z2⟩ := box_new hA
    clear hA
    refine (validT r c a n cap _ hm').mono ?_
    rintro e w2 ⟨rfl, A2⟩
    rw [decide_eq_true hv]
    obtain ⟨q0, q1, q2, q3⟩ := Q.below A2
    go_wp2_with fail
    refine (implSum _ _ _ _ _ (by omega) ((h1.below A).below A2)).mono ?_
    rintro e w3 ⟨u, m', rfl, rfl, hu⟩
    go_wp2
    go_ret2
    exact ⟨u, rfl, hu, bdrew (A.trans (A2.mono A.size)) _⟩
  · rw [if_neg hv, decide_eq_false hv]
    go_enter Try.func21, Try.ntmps21
    go_wp2_with fail
    refine calls_at ?_
    intro w1 hA
    obtain ⟨Q, A, z1, z2⟩ := box_new hA
    clear hA
    refine (validT r c a n cap _ hm').mono ?_
    rintro e w2 ⟨rfl, A2⟩
    rw [decide_eq_false hv]
    go_wp2
    go_ret2
    exact ⟨0, rfl, rfl, A.trans (A2.mono A.size)⟩
theorem both (r c : Int) (n : Nat) (xs : List Nat) (_hn : n ≤ 1048576) (_hl : n = xs.length) (_wr : (Lit.int .i64 r).wf = true) (_wc : (Lit.int .i64 c).wf = true) :
    ∃ ok s, (∀ w a cap, Fs w a n cap xs → Calls Try.prog 20 #[.agg #[.int .i64 r, .int .i64 c, .slice a n cap]] w (FN .f32 w s ok)) ∧ (∀ w a cap, Fs w a n cap xs → Calls Try.prog 21 #[.agg #[.int .i64 r, .int .i64 c, .slice a n cap]] w (FN .f32 w s ok)) :=
  ⟨_, _, fun w a cap h1 => specA w r c a n cap xs h1, fun w a cap h1 => implA w r c a n cap xs h1⟩
set_option maxHeartbeats 4000000 in
theorem walk (w : World) (ro0 co0 : Int) (a0 : Option Addr) (n0 c0 : Nat) (xs0 : List Nat) (h0 : Fs w a0 n0 c0 xs0) (_wr0 : (Lit.int .i64 ro0).wf = true) (_wc0 : (Lit.int .i64 co0).wf = true) (_b0 : ∀ x ∈ xs0, x < 4294967296) :
    Calls Try.prog 4 #[.agg #[.int .i64 ro0, .int .i64 co0, .slice a0 n0 c0]] w fun e w' => e = .returned (.bool true) ∧ Below w.heap.size w w' := by
  have m0 := h0.cap2
  have q0 := h0.cap1
  unfold maxLen at m0
  by_cases g0 : 1048576 < n0
  · go_enter Try.func4, Try.ntmps4
    have T := Below.refl w.heap.size w
    go_wp2_with fail
    refine calls_at ?_
    intro w1 hA
    obtain ⟨Q, A, z1, z2⟩ := box_new hA
    clear hA
    have X0 := Lib.hid Q
    clear Q
    have T := T.trans (A.mono T.size)
    have zw1 := A.size
    clear A
    have yw1 := z1
    have xw1 := z2
    clear z1 z2
    refine (szNo _ _ _ _ _ _ _ (Nat.le_trans h0.cap1 h0.cap2) (by omega) (by omega)).mono ?_
    rintro e wz ⟨rfl, A⟩
    have T := T.trans (A.mono T.size)
    go_wp2
    go_ret
    exact ⟨rfl, T⟩
  have hn0 : n0 ≤ 1048576 := by omega
  obtain ⟨ok, v, hs, hi⟩ := both ro0 co0 n0 xs0 hn0 h0.len _wr0 _wc0
  go_enter Try.func4, Try.ntmps4
  have T := Below.refl w.heap.size w
  go_wp2_with fail
  refine calls_at ?_
  intro w1 hA
  obtain ⟨Q, A, z1, z2⟩ := box_new hA
  clear hA
  have X0 := Lib.hid Q
  clear Q
  have T := T.trans (A.mono T.size)
  have zw1 := A.size
  clear A
  have yw1 := z1
  have xw1 := z2
  clear z1 z2
  refine (szYes _ _ _ _ _ _ _ (by omega) (by omega)).mono ?_
  rintro e w2 ⟨rfl, A⟩
  have T := T.trans (A.mono T.size)
  have X0 := Lib.hid (X0.out.below A)
  have zw2 := A.size
  clear A
  obtain ⟨X00, X01, X02, X03⟩ := X0.out
  go_wp2_with fail
  clear X00 X01 X02 X03
  refine (toTens _ _ _ _ _ _ _ hn0 (h0.below T)).mono ?_
  rintro e w3 ⟨g1, rfl, R, A⟩
  have T := T.trans (A.mono T.size)
  have X0 := Lib.hid (X0.out.below A)
  have zw3 := A.size
  clear A
  have K1 := R
  clear R
  go_wp2_with fail
  refine (hs w3 _ _ K1.fs).mono ?_
  rintro e w4 ⟨u2, rfl, E2, A⟩
  have T := T.trans (A.mono T.size)
  have K1 := K1.below A
  have X0 := Lib.hid (X0.out.below A)
  have zw4 := A.size
  clear A
  have E2h := Lib.hid E2
  clear E2
  obtain ⟨X00, X01, X02, X03⟩ := X0.out
  go_wp2_with fail
  clear X00 X01 X02 X03
  refine (toTens _ _ _ _ _ _ _ hn0 (h0.below T)).mono ?_
  rintro e w5 ⟨g3, rfl, R, A⟩
  have T := T.trans (A.mono T.size)
  have K1 := K1.below A
  have X0 := Lib.hid (X0.out.below A)
  have zw5 := A.size
  clear A
  have K3 := R
  clear R
  go_wp2_with fail
  refine calls_at ?_
  intro w6 hA
  obtain ⟨Q, A, z1, z2⟩ := box_new (r := ro0) (c := co0) (a := (some ⟨g3, 0, none⟩)) (n := n0) (cap := n0) hA
  clear hA
  have Z0 := Lib.hid Q
  clear Q
  have T := T.trans (A.mono T.size)
  have K1 := K1.below A
  have K3 := K3.below A
  have X0 := Lib.hid (X0.out.below A)
  have zw6 := A.size
  clear A
  have yw6 := z1
  have xw6 := z2
  clear z1 z2
  refine (hi w6 _ _ K3.fs).mono ?_
  rintro e w7 ⟨u4, rfl, E4, A⟩
  have T := T.trans (A.mono T.size)
  have K1 := K1.below A
  have K3 := K3.below A
  have X0 := Lib.hid (X0.out.below A)
  have Z0 := Lib.hid (Z0.out.below A)
  have zw7 := A.size
  clear A
  have E4h := Lib.hid E4
  clear E4
  go_wp2_with fail
  refine calls_at ?_
  intro w8 hA
  have A : Below w7.heap.size w7 w8 := by rw [hA]; exact bdrew (Below.refl _ _) _
  clear hA
  have T := T.trans (A.mono T.size)
  have K1 := K1.below A
  have K3 := K3.below A
  have X0 := Lib.hid (X0.out.below A)
  have Z0 := Lib.hid (Z0.out.below A)
  have zw8 := A.size
  clear A
  refine (sameFloatr _ _ _ (cnw (E4h.out.trans E2h.out.symm) _ _)).mono ?_
  rintro e w9 ⟨rfl, A⟩
  have T := T.trans (A.mono T.size)
  have K1 := K1.below A
  have K3 := K3.below A
  have X0 := Lib.hid (X0.out.below A)
  have Z0 := Lib.hid (Z0.out.below A)
  have zw9 := A.size
  clear A
  go_wp2_with fail
  refine wp_bl 4 [0, 0, 2, 2, 0] (by kernel_rfl) (by kernel_rfl) ?_
  simp only [List.take_succ_cons, List.take_zero, List.drop_succ_cons, List.drop_zero]
  with_reducible refine bl_step ?_
  intro K hK
  go_simp
  refine ⟨.agg #[.int .i64 ro0, .int .i64 co0, .slice (some ⟨g3, 0, none⟩) n0 n0], fun w' hw' => ?_, hK _ _ ?_⟩
  · obtain ⟨q0, q1, q2, q3⟩ := Z0.out.below hw'
    go_simp
  clear hK K
  with_reducible refine bl_step ?_
  intro K hK
  go_simp
  refine ⟨.agg #[.int .i64 ro0, .int .i64 co0, .slice a0 n0 c0], fun w' hw' => ?_, hK _ _ ?_⟩
  · obtain ⟨q0, q1, q2, q3⟩ := X0.out.below hw'
    go_simp
  clear hK K
  with_reducible refine bl_step ?_
  intro K hK
  go_simp
  intro _
  refine (toTens _ _ _ _ _ _ _ hn0 ((h0.below T).drew _)).mono ?_
  rintro e w10 ⟨g5, rfl, R, A0⟩
  have A := (bdrew (Below.refl _ _) _).trans A0
  clear A0
  refine ⟨_, rfl, A, hK _ _ ?_⟩
  clear hK K
  have BL : Below w9.heap.size w9 w10 := A
  have T := T.trans (A.mono T.size)
  have K1 := K1.below A
  have K3 := K3.below A
  have X0 := Lib.hid (X0.out.below A)
  have Z0 := Lib.hid (Z0.out.below A)
  have zw10 := A.size
  clear A
  have K5 := R
  clear R
  with_reducible refine bl_step ?_
  intro K hK
  go_simp
  intro _
  refine (eqTens _ _ _ _ _ _ _ _ _ _ hn0 (K3.fs.drew _) (K5.fs.drew _) rfl).mono ?_
  rintro e w11 ⟨rfl, A0⟩
  have A := (bdrew (Below.refl _ _) _).trans A0
  clear A0
  refine ⟨_, rfl, BL.trans (A.mono BL.size), hK _ _ ?_⟩
  clear hK K BL
  have T := T.trans (A.mono T.size)
  have K1 := K1.below A
  have K3 := K3.below A
  have K5 := K5.below A
  have X0 := Lib.hid (X0.out.below A)
  have Z0 := Lib.hid (Z0.out.below A)
  have zw11 := A.size
  clear A
  with_reducible refine wpR_nil (fun nq => ?_)
  generalize hA : w11.drewN nq = w12
  have A := below_of_drew hA.symm
  clear hA
  have T := T.trans (A.mono T.size)
  have K1 := K1.below A
  have K3 := K3.below A
  have K5 := K5.below A
  have X0 := Lib.hid (X0.out.below A)
  have Z0 := Lib.hid (Z0.out.below A)
  have zw12 := A.size
  clear A
  go_wp2
  go_ret
  exact ⟨rfl, T⟩
theorem own : ownKnob Try.prog.godebug = none := by kernel_rfl
theorem laidOut : laidOutB Try.prog = true := by kernel_rfl
set_option maxRecDepth 100000 in
theorem lifted (os : Os) (started : os.Started) (H : Type) (enc : TypeId × Value → H) :
    ReturnsInHanded {} Try.checked os 4 .any (Rows.fnExactSumAllSpec.pre6 enc Try.prog Try.f4 Rows.fnExactSumAllRow.domain false) (Rows.fnExactSumAllSpec.post enc Try.prog Try.f4 false true false false) := by
  refine returnsInHanded_of_change (C := Try.checked) own started (by kernel_rfl) Try.func4
    (ChangeSpec.witness6 (enc := enc) (C := Try.checked) false ⟨#[], #[.agg #[.int .i64 0, .int .i64 0, .slice none 0 0]], []⟩ 8 (by kernel_rfl) (by kernel_rfl) (by kernel_rfl) (by kernel_rfl)) ?_
  intro W base args ds gs before hval0 hW hcnd _
  have hval : ∀ (j : Nat) t v, Try.f4.params[j]? = some t → args[j]? = some v → Value.okWide Try.prog W .any base t v := hval0
  have hW' := hW
  obtain ⟨p, q, hA0, hV, rfl, hfz, hnd⟩ := hW
  have hA : DataW.TrodAll enc Try.prog W 0 (fun _ => true) true Try.f4.params.toList args.toList ds p := hA0
  rw [Try.params4] at hA hval
  obtain ⟨v0, vs0, d0, ds0, p0, q0, hargs, rfl, rfl, h0, r0⟩ := trodAll_cons hA
  obtain ⟨rfl, rfl, rfl⟩ := trodAll_nil r0
  obtain rfl : args = #[v0] := by cases args; simp_all
  obtain ⟨rfl, rfl⟩ := trodVars_none hV
  have k0 := h0
  have lt0 : ∀ x ∈ p0, x.block < W.heap.size := by obtain ⟨m, hm⟩ := k0; exact DataW.trod_lt m _ _ _ hm
  obtain ⟨ro0, co0, a0, n0, c0, z0, rfl, f0, wr0, wc0, b0⟩ := open_tensor Try.underlying24 (by kernel_rfl) (by kernel_rfl) Try.underlying2 Try.underlying2 Try.underlying22 Try.underlying31 (by kernel_rfl) (hval 0 24 v0 rfl rfl) h0
  clear hA0 hval0
  refine (walk W ro0 co0 a0 n0 c0 z0 f0 wr0 wc0 b0).mono fun e W' ⟨he, bel⟩ => ?_
  subst he
  exact ⟨_, rfl, _, _, _, [], _, [], hW', trodAll_mk1 (shut_bool Try.underlying4 _), (trodAll_cons_mk (Below.trod laidOut (by kernel_rfl) (of_decide_eq_true (by kernel_rfl)) k0 bel lt0) trodAll_mk0), rfl, bel.frame _, fun h => by cases h⟩

theorem over : Rows.fnExactSumAllRow.holds Try.pinned (OpenSpec.ofChange Rows.fnExactSumAllSpec) :=
  OpenClaim.holds_of_wide 4 Try.f4 rfl rfl rfl rfl rfl rfl rfl ⟨rfl, rfl, rfl, rfl, rfl⟩ rfl rfl rfl rfl rfl (by kernel_rfl) Try.func4 (by kernel_rfl)
    (of_decide_eq_true (by kernel_rfl)) (by unfold Func.isWrapper; first | (rw [if_pos (by decide +kernel)]; kernel_rfl) | (rw [if_neg (by decide +kernel)]; exact ⟨rfl, rfl⟩))
    (fun os started H enc _ => lifted os started H enc)

theorem proved : Rows.FnExactSumAllSaid := over
end Go.Proofs.Ytfmfddfcjbbklaa.sumAll
