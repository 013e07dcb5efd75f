/- The law FnExactValidTape holds for every input. No conditions. -/
import Derived.Test.YtcfnhkadljlgcaaOpX
import Derived.Test.YtcfnhkadljlgcaaOpenO
import Derived.ProofKit
import Derived.OpenShut
import Derived.ChangeOld
import Derived.WalkSmall
namespace Go.Proofs.Ytcfnhkadljlgcaa.validTape
open Go.ChangeShapes Go.WideShapes Go.ChangeAt Go.RowKit Go.Fl Go.Reg
theorem l04IsS (a : Option Addr) (n cap : Nat) (L : List OD) (w : World) (hn : n ≤ 1048576) (h : Oz w a n cap L) :
    Calls Try.prog 10 #[.slice a n cap] w fun e w' => e = .returned (.bool (vld L n)) ∧ Below w.heap.size w w' := by
  have H := Lib.hid h
  clear h
  go_enter Try.func10, Try.ntmps10
  go_wp2_with fail
  refine (shapesS _ _ _ _ _ hn H.out).mono ?_
  rintro e w2 ⟨v, rfl, B⟩
  go_wp2
  go_ret
  exact ⟨rfl, B⟩
theorem specV (a : Option Addr) (n cap : Nat) (L : List OD) (w : World) (hn : n ≤ 1048576) (h : Oz w a n cap L) :
    Calls Try.prog 5 #[.slice a n cap] w fun e w' => e = .returned (.bool (vld L n)) ∧ Below w.heap.size w w' := by
  have H := Lib.hid h
  clear h
  go_enter Try.func5, Try.ntmps5
  go_wp2_with fail
  refine (l04IsS _ _ _ _ _ hn H.out).mono ?_
  rintro e w2 ⟨rfl, B⟩
  go_wp2
  go_ret
  exact ⟨rfl, B⟩
theorem implV (a : Option Addr) (n cap : Nat) (L : List OD) (w : World) (hn : n ≤ 1048576) (h : Oz w a n cap L) :
    Calls Try.prog 7 #[.slice a n cap] w fun e w' => e = .returned (.bool (vld L n)) ∧ Below w.heap.size w w' := by
  have H := Lib.hid h
  clear h
  go_enter Try.func7, Try.ntmps7
  go_wp2_with fail
  refine (shapesI _ _ _ _ _ hn H.out).mono ?_
  rintro e w2 ⟨v, rfl, B⟩
  go_wp2
  go_ret
  exact ⟨rfl, B⟩
set_option maxHeartbeats 1000000 in
theorem walk (w : World) (a : Option Addr) (n c : Nat) (L : List OD) (h1 : Os w a n c L) (hb : ∀ j, j < n → (oat L j).z < 4294967296) :
    Calls Try.prog 3 #[.slice a n c] w fun e w' => e = .returned (.bool true) ∧ Below w.heap.size w w' := by
  have H1 := Lib.hid h1
  have HLN := Lib.hid h1.len
  have HB := Lib.hid hb
  clear h1 hb
  go_enter Try.func3, Try.ntmps3
  go_wp2_with fail
  refine (szOS _ _ _ _ _ _ (by omega) (by omega) H1.out).mono ?_
  rintro e w2 ⟨r, rfl, k1, k2, B⟩
  have T := B
  clear B
  by_cases hs : (1048576 : Int) < (n : Int) + (ozs L n : Int)
  · have e1 := k2 hs
    subst e1
    clear k1 k2
    go_wp2
    go_ret
    exact ⟨rfl, T⟩
  · have e1 := k1 (by omega)
    have hr : 0 ≤ r := by omega
    have hn2 : n ≤ 1048576 := by omega
    have hm2 : ozs L n ≤ 1048576 := by omega
    clear k1 k2 e1 hs
    go_wp2_with fail
    clear hr
    refine (toOS _ _ _ _ _ hn2 hm2 (H1.out.below T)).mono ?_
    rintro e w3 ⟨g, cs, A1, C1, rfl, M, B⟩
    have T := T.trans (B.mono T.size)
    clear B
    go_wp2_with fail
    refine (specV _ _ _ _ _ hn2 (M.oz HB.out)).mono ?_
    rintro e w4 ⟨rfl, B⟩
    have T := T.trans (B.mono T.size)
    clear B M
    go_wp2_with fail
    refine (toOS _ _ _ _ _ hn2 hm2 (H1.out.below T)).mono ?_
    rintro e w5 ⟨g3, cs3, A3, C3, rfl, M3, B⟩
    have T := T.trans (B.mono T.size)
    have HM := Lib.hid M3
    clear B M3
    go_wp2_with fail
    refine (implV _ _ _ _ _ hn2 (HM.out.oz HB.out)).mono ?_
    rintro e w7 ⟨rfl, B⟩
    have T := T.trans (B.mono T.size)
    have HM := Lib.hid (HM.out.below B)
    clear B
    go_wp2_with fail
    refine (toOS _ _ _ _ _ hn2 hm2 (H1.out.below T)).mono ?_
    rintro e w8 ⟨g5, cs5, A5, C5, rfl, M5, B⟩
    have T := T.trans (B.mono T.size)
    have HM := Lib.hid (HM.out.below B)
    have HM5 := Lib.hid M5
    clear B M5
    go_wp2_with fail
    refine (eqOS _ _ _ _ _ _ _ hm2 (HM.out.os HLN.out) (HM5.out.os HLN.out)).mono ?_
    rintro e w9 ⟨rfl, B⟩
    have T := T.trans (B.mono T.size)
    clear B
    go_wp2
    go_ret
    exact ⟨rfl, T⟩
theorem own : ownKnob Try.prog.godebug = none := by kernel_rfl
theorem laidOut : laidOutB Try.prog = true := by kernel_rfl
set_option maxRecDepth 100000 in
set_option maxHeartbeats 2000000 in
theorem lifted (os : _root_.Go.Os) (started : os.Started) (H : Type) (enc : TypeId × Value → H) :
    ReturnsInHanded {} Try.checked os 3 .any (Rows.fnExactValidTapeSpec.pre6 enc Try.prog Try.f3 Rows.fnExactValidTapeRow.domain false) (Rows.fnExactValidTapeSpec.post enc Try.prog Try.f3 false true false false) := by
  refine returnsInHanded_of_change (C := Try.checked) own started (by kernel_rfl) Try.func3
    (ChangeSpec.witness6 (enc := enc) (C := Try.checked) false ⟨#[], #[.slice none 0 0], []⟩ 8 (by kernel_rfl) (by kernel_rfl) (by kernel_rfl) (by kernel_rfl)) ?_
  intro W base args ds gs before hval0 hW hcnd _
  have hval : ∀ (j : Nat) t v, Try.f3.params[j]? = some t → args[j]? = some v → Value.okWide Try.prog W .any base t v := hval0
  have hW' := hW
  obtain ⟨p, q, hA0, hV, rfl, hfz, hnd⟩ := hW
  have hA : DataW.TrodAll enc Try.prog W 0 (fun _ => true) true Try.f3.params.toList args.toList ds p := hA0
  rw [Try.params3] at hA hval
  obtain ⟨v0, vs0, d0, ds0, p0, q0, hargs, rfl, rfl, h0, r0⟩ := trodAll_cons hA
  obtain ⟨rfl, rfl, rfl⟩ := trodAll_nil r0
  obtain rfl : args = #[v0] := by cases args; simp_all
  obtain ⟨rfl, rfl⟩ := trodVars_none hV
  have k0 := h0
  have lt0 : ∀ x ∈ p0, x.block < W.heap.size := by obtain ⟨m, hm⟩ := k0; exact DataW.trod_lt m _ _ _ hm
  obtain ⟨a0, n0, c0, L0, rfl, f0, b0⟩ := open_ops Try.underlying22 Try.underlying35 (by kernel_rfl) (by kernel_rfl) (by kernel_rfl) Try.underlying2 Try.underlying2 Try.underlying2 Try.underlying30 Try.underlying33 (by kernel_rfl) Try.underlying2 Try.underlying2 Try.underlying31 Try.underlying30 (by kernel_rfl) (hval 0 22 v0 rfl rfl) h0
  clear hA0 hval0
  refine (walk W a0 n0 c0 L0 f0 b0).mono fun e W' ⟨he, bel⟩ => ?_
  subst he
  exact ⟨_, rfl, _, _, _, [], _, [], hW', trodAll_mk1 (shut_bool Try.underlying4 _), (trodAll_cons_mk (Below.trod laidOut (by kernel_rfl) (of_decide_eq_true (by kernel_rfl)) k0 bel lt0) trodAll_mk0), rfl, bel.frame _, fun h => by cases h⟩

theorem over : Rows.fnExactValidTapeRow.holds Try.pinned (OpenSpec.ofChange Rows.fnExactValidTapeSpec) :=
  OpenClaim.holds_of_wide 3 Try.f3 rfl rfl rfl rfl rfl rfl rfl ⟨rfl, rfl, rfl, rfl, rfl⟩ rfl rfl rfl rfl rfl (by kernel_rfl) Try.func3 (by kernel_rfl)
    (of_decide_eq_true (by kernel_rfl)) (by unfold Func.isWrapper; first | (rw [if_pos (by decide +kernel)]; kernel_rfl) | (rw [if_neg (by decide +kernel)]; exact ⟨rfl, rfl⟩))
    (fun os started H enc _ => lifted os started H enc)

theorem proved : Rows.FnExactValidTapeSaid := over
end Go.Proofs.Ytcfnhkadljlgcaa.validTape
