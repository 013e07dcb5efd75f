/- The law FnExactCountParams holds for every input. No conditions. -/
import Derived.Test.YtclhemjanhhioaaLayV
import Derived.Test.YtclhemjanhhioaaLayO
import Derived.Test.YtclhemjanhhioaaOpenM
import Derived.Test.YtclhemjanhhioaaLayP
import Derived.ProofKit
import Derived.OpenShut
import Derived.ChangeOld
import Derived.WalkSmall
namespace Go.Proofs.Ytclhemjanhhioaa.countParams
open Go.ChangeShapes Go.WideShapes Go.ChangeAt Go.RowKit Go.Fl Go.Reg
/-- how many parameters a valid model has -/
def cp (L : List LD) (n : Nat) : Nat := if mv L n = true then szs L n else 0
def CP (L : List LD) (n : Nat) (w : World) (e : Ending) (w' : World) : Prop := e = .returned (.tuple #[.int .i64 (cp L n : Int), .bool (mv L n)]) ∧ Below w.heap.size w w'
theorem specV (a : Option Addr) (n cap : Nat) (L : List LD) (w : World) (hs : szs L n ≤ 1048576) (h : Lz w a n cap L) :
    Calls Try.prog 19 #[.agg #[.slice a n cap]] w (CP L n w) := by
  have H := Lib.hid h
  clear h
  cases hv : mv L n
  all_goals
    have HV := Lib.hid hv
    clear hv
    go_enter Try.func19, Try.ntmps19
    go_wp2_with fail
    refine calls_at ?_
    intro w1 hA
    obtain ⟨Q, A, z1, z2⟩ := mb_new hA
    clear hA
    have HQ := Lib.hid Q
    refine (isM _ _ _ _ _ _ (H.out.below A).ls Q).mono ?_
    rintro e w2 ⟨rfl, B⟩
    have T := A.trans (B.mono A.size)
    have HQ := Lib.hid (HQ.out.below B)
    clear A B Q
    rw [HV.out]
  · go_wp2
    go_ret2
    exact ⟨by unfold cp; rw [HV.out]; rfl, T⟩
  · go_wp2_with fail
    refine (parS _ _ _ _ _ _ hs (H.out.below T) HQ.out).mono ?_
    rintro e w3 ⟨a3, cap3, rfl, O⟩
    have hl := Nat.le_trans hs (show 1048576 ≤ 1048576 from Nat.le_refl _)
    have HB := Lib.hid O.below
    clear O
    obtain ⟨z, hz⟩ : ∃ z, z = szs L n := ⟨_, rfl⟩
    have HZ := Lib.hid hz
    rw [← hz] at hl ⊢
    clear hz
    go_wp2
    go_ret2
    exact ⟨by unfold cp; rw [HV.out, ← HZ.out]; rfl, T.trans (HB.out.mono T.size)⟩
theorem implV (a : Option Addr) (n cap : Nat) (L : List LD) (w : World) (hs : szs L n ≤ 1048576) (h : Lz w a n cap L) :
    Calls Try.prog 20 #[.agg #[.slice a n cap]] w (CP L n w) := by
  have H := Lib.hid h
  clear h
  cases hv : mv L n
  all_goals
    have HV := Lib.hid hv
    clear hv
    go_enter Try.func20, Try.ntmps20
    go_wp2_with fail
    refine calls_at ?_
    intro w1 hA
    obtain ⟨Q, A, z1, z2⟩ := mb_new hA
    clear hA
    have HQ := Lib.hid Q
    refine (validM _ _ _ _ _ (H.out.below A).ls).mono ?_
    rintro e w2 ⟨rfl, B⟩
    have T := A.trans (B.mono A.size)
    have HQ := Lib.hid (HQ.out.below B)
    clear A B Q
    rw [HV.out]
  · go_wp2
    go_ret2
    exact ⟨by unfold cp; rw [HV.out]; rfl, T⟩
  · obtain ⟨q0, q1⟩ := HQ.out
    go_wp2_with fail
    refine (parI _ _ _ _ _ hs (H.out.below T)).mono ?_
    rintro e w3 ⟨a3, cap3, rfl, O⟩
    have hl := Nat.le_trans hs (show 1048576 ≤ 1048576 from Nat.le_refl _)
    have HB := Lib.hid O.below
    clear O
    obtain ⟨z, hz⟩ : ∃ z, z = szs L n := ⟨_, rfl⟩
    have HZ := Lib.hid hz
    rw [← hz] at hl ⊢
    clear hz
    go_wp2
    go_ret2
    exact ⟨by unfold cp; rw [HV.out, ← HZ.out]; rfl, T.trans (HB.out.mono T.size)⟩
set_option maxHeartbeats 1000000 in
theorem walk (w : World) (a : Option Addr) (n c : Nat) (L : List LD) (h1 : Ls w a n c L) :
    Calls Try.prog 5 #[.agg #[.slice a n c]] w fun e w' => e = .returned (.bool true) ∧ Below w.heap.size w w' := by
  have H1 := Lib.hid h1
  have HLN := Lib.hid h1.len
  clear h1
  go_enter Try.func5, Try.ntmps5
  go_wp2_with fail
  refine calls_at ?_
  intro w1 hA
  obtain ⟨Q, A, z1, z2⟩ := mb_new hA
  clear hA
  have HQ := Lib.hid Q
  have T := A
  clear A Q
  refine (szMod _ _ _ _ _ _ (by omega) (by omega) (H1.out.below T)).mono ?_
  rintro e w2 ⟨r, rfl, k1, k2, B⟩
  have T := T.trans (B.mono T.size)
  have HQ := Lib.hid (HQ.out.below B)
  clear B
  by_cases hs : (1048576 : Int) < (n : Int) + (szs L n : Int)
  · have e1 := k2 hs
    subst e1
    clear k1 k2
    go_wp2
    go_ret
    exact ⟨rfl, T⟩
  · have e1 := k1 (by omega)
    have hr : 0 ≤ r := by omega
    have hn2 : n ≤ 1048576 := by omega
    have hm2 : szs L n ≤ 1048576 := by omega
    clear k1 k2 e1 hs
    obtain ⟨q0, q1⟩ := HQ.out
    go_wp2_with fail
    clear q0 q1 hr
    refine (toMod _ _ _ _ _ hn2 hm2 (H1.out.below T)).mono ?_
    rintro e w3 ⟨g, cs, A1, A2, C1, C2, QQ, rfl, M, B⟩
    have T := T.trans (B.mono T.size)
    have HQ := Lib.hid (HQ.out.below B)
    clear B
    go_wp2_with fail
    refine (specV _ _ _ _ _ hm2 (M.lz HLN.out)).mono ?_
    rintro e w4 ⟨rfl, B⟩
    obtain ⟨cn0, hcn⟩ : ∃ cn0 : Int, cn0 = (cp L n : Int) := ⟨_, rfl⟩
    obtain ⟨ok0, hok⟩ : ∃ ok0 : Bool, ok0 = mv L n := ⟨_, rfl⟩
    rw [← hcn, ← hok]
    have HCN := Lib.hid hcn
    have HOK := Lib.hid hok
    clear hcn hok
    have T := T.trans (B.mono T.size)
    have HQ := Lib.hid (HQ.out.below B)
    clear B M
    obtain ⟨q0, q1⟩ := HQ.out
    go_wp2_with fail
    clear q0 q1
    refine (toMod _ _ _ _ _ hn2 hm2 (H1.out.below T)).mono ?_
    rintro e w5 ⟨g3, cs3, A3, A4, C3, C4, Q3, rfl, M3, B⟩
    have T := T.trans (B.mono T.size)
    have HQ := Lib.hid (HQ.out.below B)
    have HM := Lib.hid M3
    clear B M3
    go_wp2_with fail
    refine calls_at ?_
    intro w6 hA
    obtain ⟨Z, B, z3, z4⟩ := mb_new hA
    clear hA
    have T := T.trans (B.mono T.size)
    have HQ := Lib.hid (HQ.out.below B)
    have HM := Lib.hid (HM.out.below B)
    have HZ := Lib.hid Z
    clear B Z
    refine (implV _ _ _ _ _ hm2 (HM.out.lz HLN.out)).mono ?_
    rintro e w7 ⟨rfl, B⟩
    rw [← HCN.out, ← HOK.out]
    have T := T.trans (B.mono T.size)
    have HQ := Lib.hid (HQ.out.below B)
    have HM := Lib.hid (HM.out.below B)
    have HZ := Lib.hid (HZ.out.below B)
    clear B
    go_wp2_with fail
    refine wp_bl 4 [0, 0, 2, 2, 0] (by kernel_rfl) (by kernel_rfl) ?_
    simp only [List.take_succ_cons, List.take_zero, List.drop_succ_cons, List.drop_zero]
    with_reducible refine bl_step ?_
    intro K hK
    go_simp
    first
      | (refine hK _ _ ?_)
      | (refine ⟨?_, fun w' hw' => ?_, hK _ _ ?_⟩
         rotate_left
         · obtain ⟨q0, q1⟩ := HQ.out.below hw'
           obtain ⟨p0, p1⟩ := HZ.out.below hw'
           go_simp
           rfl
         go_simp)
    clear hK K
    with_reducible refine bl_step ?_
    intro K hK
    go_simp
    first
      | (refine hK _ _ ?_)
      | (refine ⟨?_, fun w' hw' => ?_, hK _ _ ?_⟩
         rotate_left
         · obtain ⟨q0, q1⟩ := HQ.out.below hw'
           obtain ⟨p0, p1⟩ := HZ.out.below hw'
           go_simp
           rfl
         go_simp)
    clear hK K
    with_reducible refine bl_step ?_
    intro K hK
    go_simp
    intro _
    refine (toMod _ _ _ _ _ hn2 hm2 ((H1.out.below T).drew _)).mono ?_
    rintro e w8 ⟨g5, cs5, A5, A6, C5, C6, Q5, rfl, M5, A0⟩
    have A8 := (bdrew (Below.refl _ _) _).trans A0
    clear A0
    have T := T.trans (A8.mono T.size)
    have HM := Lib.hid (HM.out.below A8)
    refine ⟨_, rfl, A8, hK _ _ ?_⟩
    clear hK K
    with_reducible refine bl_step ?_
    intro K hK
    go_simp
    intro _
    refine (eqMod _ _ _ _ _ _ _ _ hn2 hm2 ((HM.out.ls HLN.out).drew _) ((M5.ls HLN.out).drew _) (fun j _ => LEq.refl _)).mono ?_
    rintro e w9 ⟨rfl, A0⟩
    have A9 := (bdrew (Below.refl _ _) _).trans A0
    clear A0
    have T := T.trans (A9.mono T.size)
    refine ⟨_, rfl, A8.trans (A9.mono A8.size), hK _ _ ?_⟩
    clear hK K
    with_reducible refine wpR_nil (fun nq => ?_)
    go_wp2
    go_ret
    exact ⟨rfl, bdrew T _⟩
theorem own : ownKnob Try.prog.godebug = none := by kernel_rfl
theorem laidOut : laidOutB Try.prog = true := by kernel_rfl
set_option maxRecDepth 100000 in
set_option maxHeartbeats 2000000 in
theorem lifted (os : Os) (started : os.Started) (H : Type) (enc : TypeId × Value → H) :
    ReturnsInHanded {} Try.checked os 5 .any (Rows.fnExactCountParamsSpec.pre6 enc Try.prog Try.f5 Rows.fnExactCountParamsRow.domain false) (Rows.fnExactCountParamsSpec.post enc Try.prog Try.f5 false true false false) := by
  refine returnsInHanded_of_change (C := Try.checked) own started (by kernel_rfl) Try.func5
    (ChangeSpec.witness6 (enc := enc) (C := Try.checked) false ⟨#[], #[.agg #[.slice none 0 0]], []⟩ 8 (by kernel_rfl) (by kernel_rfl) (by kernel_rfl) (by kernel_rfl)) ?_
  intro W base args ds gs before hval0 hW hcnd _
  have hval : ∀ (j : Nat) t v, Try.f5.params[j]? = some t → args[j]? = some v → Value.okWide Try.prog W .any base t v := hval0
  have hW' := hW
  obtain ⟨p, q, hA0, hV, rfl, hfz, hnd⟩ := hW
  have hA : DataW.TrodAll enc Try.prog W 0 (fun _ => true) true Try.f5.params.toList args.toList ds p := hA0
  rw [Try.params5] at hA hval
  obtain ⟨v0, vs0, d0, ds0, p0, q0, hargs, rfl, rfl, h0, r0⟩ := trodAll_cons hA
  obtain ⟨rfl, rfl, rfl⟩ := trodAll_nil r0
  obtain rfl : args = #[v0] := by cases args; simp_all
  obtain ⟨rfl, rfl⟩ := trodVars_none hV
  have k0 := h0
  have lt0 : ∀ x ∈ p0, x.block < W.heap.size := by obtain ⟨m, hm⟩ := k0; exact DataW.trod_lt m _ _ _ hm
  obtain ⟨a0, n0, c0, L0, rfl, f0⟩ := open_model Try.underlying33 (by kernel_rfl) (by kernel_rfl) Try.underlying31 Try.underlying24 (by kernel_rfl) (by kernel_rfl) Try.underlying2 Try.underlying2 Try.underlying2 Try.underlying22 Try.underlying22 Try.underlying67 (by kernel_rfl) (hval 0 33 v0 rfl rfl) h0
  clear hA0 hval0
  refine (walk W a0 n0 c0 L0 f0).mono fun e W' ⟨he, bel⟩ => ?_
  subst he
  exact ⟨_, rfl, _, _, _, [], _, [], hW', trodAll_mk1 (shut_bool Try.underlying4 _), (trodAll_cons_mk (Below.trod laidOut (by kernel_rfl) (of_decide_eq_true (by kernel_rfl)) k0 bel lt0) trodAll_mk0), rfl, bel.frame _, fun h => by cases h⟩

theorem over : Rows.fnExactCountParamsRow.holds Try.pinned (OpenSpec.ofChange Rows.fnExactCountParamsSpec) :=
  OpenClaim.holds_of_wide 5 Try.f5 rfl rfl rfl rfl rfl rfl rfl ⟨rfl, rfl, rfl, rfl, rfl⟩ rfl rfl rfl rfl rfl (by kernel_rfl) Try.func5 (by kernel_rfl)
    (of_decide_eq_true (by kernel_rfl)) (by unfold Func.isWrapper; first | (rw [if_pos (by decide +kernel)]; kernel_rfl) | (rw [if_neg (by decide +kernel)]; exact ⟨rfl, rfl⟩))
    (fun os started H enc _ => lifted os started H enc)

theorem proved : Rows.FnExactCountParamsSaid := over
end Go.Proofs.Ytclhemjanhhioaa.countParams
