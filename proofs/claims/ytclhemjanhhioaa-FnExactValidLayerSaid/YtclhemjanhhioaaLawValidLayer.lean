/- The law FnExactValidLayer holds for every input. No conditions. -/
import Derived.Test.YtclhemjanhhioaaLay
import Derived.Test.YtclhemjanhhioaaLayH
import Derived.Test.YtclhemjanhhioaaOpenL
import Derived.ProofKit
import Derived.OpenShut
import Derived.ChangeOld
import Derived.WalkSmall
namespace Go.Proofs.Ytclhemjanhhioaa.validLayer
open Go.ChangeShapes Go.WideShapes Go.ChangeAt Go.RowKit Go.Fl Go.Reg
theorem specV (k i u : Int) (a : Option Addr) (n c : Nat) (a2 : Option Addr) (m d : Nat) (w : World) (hn : n ≤ maxLen) (hm : m ≤ maxLen) :
    Calls Try.prog 10 #[.agg #[.int .i64 k, .int .i64 i, .int .i64 u, .slice a n c, .slice a2 m d]] w fun e w' => e = .returned (.bool (ly k i u n m)) ∧ Below w.heap.size w w' := by
  go_enter Try.func10, Try.ntmps10
  go_wp2_with fail
  refine calls_at ?_
  intro w1 hA
  obtain ⟨Q, A, z1, z2⟩ := lb_new hA
  clear hA
  refine (layS k w.heap.size 0 i u a n c a2 m d _ hn hm ⟨Q.c0, Q.c1, Q.c2, Q.c3, Q.c4, Q.lt⟩).mono ?_
  rintro e w2 ⟨rfl, q, rfl⟩
  go_wp2
  go_ret
  exact ⟨rfl, bdrew A _⟩
set_option maxHeartbeats 1000000 in
theorem walk (w : World) (k i u : Int) (a : Option Addr) (n c : Nat) (xs : List Nat) (a2 : Option Addr) (m d : Nat) (ys : List Nat) (h1 : Fs w a n c xs) (h2 : Fs w a2 m d ys) :
    Calls Try.prog 3 #[.agg #[.int .i64 k, .int .i64 i, .int .i64 u, .slice a n c, .slice a2 m d]] w fun e w' => e = .returned (.bool true) ∧ Below w.heap.size w w' := by
  have hn := Nat.le_trans h1.cap1 h1.cap2
  have hm := Nat.le_trans h2.cap1 h2.cap2
  have HN := Lib.hid hn
  have HM := Lib.hid hm
  have H1 := Lib.hid h1
  have H2 := Lib.hid h2
  unfold maxLen at hn hm
  clear h1 h2
  by_cases hs : (1048576 : Int) < (n : Int) + (m : Int)
  · go_enter Try.func3, Try.ntmps3
    go_wp2_with fail
    refine calls_at ?_
    intro w1 hA
    obtain ⟨Q, A, z1, z2⟩ := lb_new hA
    clear hA
    refine (szLayNo _ _ _ _ _ _ _ _ _ _ _ HN.out HM.out (by omega) hs (by omega)).mono ?_
    rintro e w2 ⟨rfl, B⟩
    go_wp2
    go_ret
    exact ⟨rfl, A.trans (B.mono A.size)⟩
  · have hn2 : n ≤ 1048576 := by omega
    have hm2 : m ≤ 1048576 := by omega
    go_enter Try.func3, Try.ntmps3
    go_wp2_with fail
    refine calls_at ?_
    intro w1 hA
    obtain ⟨Q, A, z1, z2⟩ := lb_new hA
    clear hA
    have HQ := Lib.hid Q
    have T := A
    clear A Q
    refine (szLayYes _ _ _ _ _ _ _ _ _ _ _ (by omega) (by omega)).mono ?_
    rintro e w2 ⟨rfl, B⟩
    have T := T.trans (B.mono T.size)
    have HQ := Lib.hid (HQ.out.below B)
    clear B
    obtain ⟨q0, q1, q2, q3, q4, q5⟩ := HQ.out
    go_wp2_with fail
    clear q0 q1 q2 q3 q4 q5
    refine (toLay _ _ _ _ _ _ _ _ _ _ _ _ hn2 hm2 (H1.out.below T) (H2.out.below T)).mono ?_
    rintro e w3 ⟨g, g2, q, rfl, R1, R2, B⟩
    have T := T.trans (B.mono T.size)
    have HQ := Lib.hid (HQ.out.below B)
    clear B R1 R2
    go_wp2_with fail
    refine (specV _ _ _ _ _ _ _ _ _ _ HN.out HM.out).mono ?_
    rintro e w4 ⟨rfl, B⟩
    have T := T.trans (B.mono T.size)
    have HQ := Lib.hid (HQ.out.below B)
    clear B
    obtain ⟨q0, q1, q2, q3, q4, q5⟩ := HQ.out
    go_wp2_with fail
    clear q0 q1 q2 q3 q4 q5
    refine (toLay _ _ _ _ _ _ _ _ _ _ _ _ hn2 hm2 (H1.out.below T) (H2.out.below T)).mono ?_
    rintro e w5 ⟨g3, g4, q5, rfl, R3, R4, B⟩
    have T := T.trans (B.mono T.size)
    have HQ := Lib.hid (HQ.out.below B)
    clear B
    go_wp2_with fail
    refine calls_at ?_
    intro w6 hA
    obtain ⟨Z, B, z3, z4⟩ := lb_new hA
    clear hA
    have T := T.trans (B.mono T.size)
    have HQ := Lib.hid (HQ.out.below B)
    have R3 := R3.below B
    have R4 := R4.below B
    have HZ := Lib.hid Z
    clear B Z
    refine (layI _ _ _ _ _ _ _ _ _ _ HN.out HM.out).mono ?_
    rintro e w7 ⟨rfl, B⟩
    have T := T.trans (B.mono T.size)
    have HQ := Lib.hid (HQ.out.below B)
    have R3 := R3.below B
    have R4 := R4.below B
    have HZ := Lib.hid (HZ.out.below B)
    clear B
    go_wp2_with fail
    refine wp_bl 4 [0, 0, 2, 2, 0] (by kernel_rfl) (by kernel_rfl) ?_
    simp only [List.take_succ_cons, List.take_zero, List.drop_succ_cons, List.drop_zero]
    with_reducible refine bl_step ?_
    intro K hK
    go_simp
    refine ⟨.agg #[.int .i64 k, .int .i64 i, .int .i64 u, .slice (some ⟨g3, 0, none⟩) n n, .slice (some ⟨g4, 0, none⟩) m m], fun w' hw' => ?_, hK _ _ ?_⟩
    · obtain ⟨q0, q1, q2, q3, q4, q5⟩ := HZ.out.below hw'
      go_simp
    clear hK K
    with_reducible refine bl_step ?_
    intro K hK
    go_simp
    refine ⟨.agg #[.int .i64 k, .int .i64 i, .int .i64 u, .slice a n c, .slice a2 m d], fun w' hw' => ?_, hK _ _ ?_⟩
    · obtain ⟨q0, q1, q2, q3, q4, q5⟩ := HQ.out.below hw'
      go_simp
    clear hK K
    with_reducible refine bl_step ?_
    intro K hK
    go_simp
    intro _
    refine (toLay _ _ _ _ _ _ _ _ _ _ _ _ hn2 hm2 ((H1.out.below T).drew _) ((H2.out.below T).drew _)).mono ?_
    rintro e w8 ⟨g5, g6, q8, rfl, R5, R6, A0⟩
    have A := (bdrew (Below.refl _ _) _).trans A0
    clear A0
    refine ⟨_, rfl, A, hK _ _ ?_⟩
    clear hK K
    have BL : Below w7.heap.size w7 w8 := A
    have T := T.trans (A.mono T.size)
    have R3 := R3.below A
    have R4 := R4.below A
    clear A
    with_reducible refine bl_step ?_
    intro K hK
    go_simp
    intro _
    refine (eqLay _ _ _ _ _ _ _ _ _ _ _ _ _ _ _ _ _ _ hn2 hm2 (R3.fs.drew _) (R5.fs.drew _) (R4.fs.drew _) (R6.fs.drew _) rfl rfl).mono ?_
    rintro e w9 ⟨rfl, A0⟩
    have A := (bdrew (Below.refl _ _) _).trans A0
    clear A0
    refine ⟨_, rfl, BL.trans (A.mono BL.size), hK _ _ ?_⟩
    clear hK K BL
    have T := T.trans (A.mono T.size)
    clear A
    with_reducible refine wpR_nil (fun nq => ?_)
    go_wp2
    go_ret
    exact ⟨rfl, bdrew T _⟩
theorem own : ownKnob Try.prog.godebug = none := by kernel_rfl
theorem laidOut : laidOutB Try.prog = true := by kernel_rfl
set_option maxRecDepth 100000 in
set_option maxHeartbeats 2000000 in
theorem lifted (os : Os) (started : os.Started) (H : Type) (enc : TypeId × Value → H) :
    ReturnsInHanded {} Try.checked os 3 .any (Rows.fnExactValidLayerSpec.pre6 enc Try.prog Try.f3 Rows.fnExactValidLayerRow.domain false) (Rows.fnExactValidLayerSpec.post enc Try.prog Try.f3 false true false false) := by
  refine returnsInHanded_of_change (C := Try.checked) own started (by kernel_rfl) Try.func3
    (ChangeSpec.witness6 (enc := enc) (C := Try.checked) false ⟨#[], #[.agg #[.int .i64 0, .int .i64 0, .int .i64 0, .slice none 0 0, .slice none 0 0]], []⟩ 8 (by kernel_rfl) (by kernel_rfl) (by kernel_rfl) (by kernel_rfl)) ?_
  intro W base args ds gs before hval0 hW hcnd _
  have hval : ∀ (j : Nat) t v, Try.f3.params[j]? = some t → args[j]? = some v → Value.okWide Try.prog W .any base t v := hval0
  have hW' := hW
  obtain ⟨p, q, hA0, hV, rfl, hfz, hnd⟩ := hW
  have hA : DataW.TrodAll enc Try.prog W 0 (fun _ => true) true Try.f3.params.toList args.toList ds p := hA0
  rw [Try.params3] at hA hval
  obtain ⟨v0, vs0, d0, ds0, p0, q0, hargs, rfl, rfl, h0, r0⟩ := trodAll_cons hA
  obtain ⟨rfl, rfl, rfl⟩ := trodAll_nil r0
  obtain rfl : args = #[v0] := by cases args; simp_all
  obtain ⟨rfl, rfl⟩ := trodVars_none hV
  have k0 := h0
  have lt0 : ∀ x ∈ p0, x.block < W.heap.size := by obtain ⟨m, hm⟩ := k0; exact DataW.trod_lt m _ _ _ hm
  obtain ⟨kk0, ii0, uu0, a0, n0, c0, z0, a0', n0', c0', z0', rfl, f0, f0', wk0, wi0, wu0, b0, b0'⟩ := open_layer Try.underlying24 (by kernel_rfl) (by kernel_rfl) Try.underlying2 Try.underlying2 Try.underlying2 Try.underlying22 Try.underlying22 Try.underlying67 (by kernel_rfl) (hval 0 24 v0 rfl rfl) h0
  clear hA0 hval0
  refine (walk W kk0 ii0 uu0 a0 n0 c0 z0 a0' n0' c0' z0' f0 f0').mono fun e W' ⟨he, bel⟩ => ?_
  subst he
  exact ⟨_, rfl, _, _, _, [], _, [], hW', trodAll_mk1 (shut_bool Try.underlying4 _), (trodAll_cons_mk (Below.trod laidOut (by kernel_rfl) (of_decide_eq_true (by kernel_rfl)) k0 bel lt0) trodAll_mk0), rfl, bel.frame _, fun h => by cases h⟩

theorem over : Rows.fnExactValidLayerRow.holds Try.pinned (OpenSpec.ofChange Rows.fnExactValidLayerSpec) :=
  OpenClaim.holds_of_wide 3 Try.f3 rfl rfl rfl rfl rfl rfl rfl ⟨rfl, rfl, rfl, rfl, rfl⟩ rfl rfl rfl rfl rfl (by kernel_rfl) Try.func3 (by kernel_rfl)
    (of_decide_eq_true (by kernel_rfl)) (by unfold Func.isWrapper; first | (rw [if_pos (by decide +kernel)]; kernel_rfl) | (rw [if_neg (by decide +kernel)]; exact ⟨rfl, rfl⟩))
    (fun os started H enc _ => lifted os started H enc)

theorem proved : Rows.FnExactValidLayerSaid := over
end Go.Proofs.Ytclhemjanhhioaa.validLayer
