/- The law FnExactStackRows holds for every input. No conditions. -/
import Derived.Test.YtoeppdkhncllbaaTlK
import Derived.Test.YtoeppdkhncllbaaStk
import Derived.ProofKit
import Derived.OpenShut
import Derived.ChangeOld
import Derived.WalkSmall
namespace Go.Proofs.Ytoeppdkhncllbaa.stackRows
open Go.ChangeShapes Go.WideShapes Go.ChangeAt Go.RowKit Go.Fl Go.Reg
set_option maxHeartbeats 4000000 in
theorem walk (w : World) (a : Option Addr) (n c : Nat) (L : List TD) (h1 : Ts w a n c L) :
    Calls Try.prog 10 #[.slice a n c] w fun e w' => e = .returned (.bool true) ∧ Below w.heap.size w w' := by
  have H1 := Lib.hid h1
  have HLN := Lib.hid h1.len
  clear h1
  go_enter Try.func10, Try.ntmps10
  go_wp2_with fail
  have T := Below.refl w.heap.size w
  refine (szTS _ _ _ _ _ _ (by omega) (by omega) H1.out).mono ?_
  rintro e w2 ⟨r, rfl, k1, k2, B⟩
  have T := T.trans (B.mono T.size)
  have zs := B.size
  clear B
  by_cases hs : (1048576 : Int) < (n : Int) + (tzs L n : Int)
  · have e1 := k2 hs
    subst e1
    clear k1 k2
    go_wp2
    go_ret
    exact ⟨rfl, T⟩
  · have e1 := k1 (by omega)
    have hr : 0 ≤ r := by omega
    have hn2 : n ≤ 1048576 := by omega
    have hm2 : tzs L n ≤ 1048576 := by omega
    clear k1 k2 e1 hs
    have hS := sS_len L n
    obtain ⟨SS, hSS⟩ : ∃ SS, SS = sS L n := ⟨_, rfl⟩
    obtain ⟨R0, hR0⟩ : ∃ x, x = sR L n := ⟨_, rfl⟩
    obtain ⟨C0, hC0⟩ : ∃ x, x = sC L n := ⟨_, rfl⟩
    obtain ⟨ok, hok⟩ : ∃ ok, ok = sok L n := ⟨_, rfl⟩
    rw [← hSS] at hS
    have HSS := Lib.hid hSS
    have HR0 := Lib.hid hR0
    have HC0 := Lib.hid hC0
    have HOK := Lib.hid hok
    clear hSS hR0 hC0 hok
    go_wp2_with fail
    clear hr
    refine (toTS _ _ _ _ _ hn2 hm2 (H1.out.below T)).mono ?_
    rintro e w3 ⟨g1, cs1, A1, C1, Q1, rfl, M1_, A⟩
    have M1 := Lib.hid M1_
    clear M1_
    have T := T.trans (A.mono T.size)
    have zw3 := A.size
    clear A
    go_wp2_with fail
    refine (stkS _ _ _ _ _ hm2 (M1.out.tz HLN.out)).mono ?_
    rintro e w4 ⟨b1, p1, ys1, he1, R, E1_, A⟩
    rw [← HSS.out] at he1 R E1_
    rw [← HR0.out, ← HC0.out, ← HOK.out] at he1
    subst he1
    have E1 := Lib.hid E1_
    clear E1_
    have T := T.trans (A.mono T.size)
    have zw4 := A.size
    clear A
    have KW := R
    clear R
    clear M1
    go_wp2_with fail
    refine calls_at ?_
    intro w5 hA
    obtain ⟨Q_, A, yw5, xw5⟩ := box_new (r := R0) (c := C0) (a := b1) (n := SS.length) (cap := p1) hA
    clear hA
    have BW := Lib.hid Q_
    clear Q_
    have T := T.trans (A.mono T.size)
    have KW := KW.below A
    have zw5 := A.size
    clear A
    refine (toTS _ _ _ _ _ hn2 hm2 (H1.out.below T)).mono ?_
    rintro e w6 ⟨g2, cs2, A2, C2, Q2, rfl, M2_, A⟩
    have M2 := Lib.hid M2_
    clear M2_
    have T := T.trans (A.mono T.size)
    have KW := KW.below A
    have BW := Lib.hid (BW.out.below A)
    have zw6 := A.size
    clear A
    have hQ2 := M2.out.qn
    have hg2 := M2.out.glt
    go_wp2_with fail
    refine (stkI _ _ _ _ _ hm2 (M2.out.tz HLN.out)).mono ?_
    rintro e w7 ⟨b2, p2, ys2, he2, R, E2_, A⟩
    rw [← HSS.out] at he2 R E2_
    rw [← HR0.out, ← HC0.out, ← HOK.out] at he2
    subst he2
    have E2 := Lib.hid E2_
    clear E2_
    have T := T.trans (A.mono T.size)
    have KW := KW.below A
    have BW := Lib.hid (BW.out.below A)
    have M2 := Lib.hid (M2.out.below A)
    have zw7 := A.size
    clear A
    have KG := R
    clear R
    obtain ⟨BW0, BW1, BW2, BW3⟩ := BW.out
    go_wp2_with fail
    clear BW0 BW1 BW2 BW3
    refine calls_at ?_
    intro w8 hA
    obtain ⟨Q_, A, yw8, xw8⟩ := box_new (r := R0) (c := C0) (a := b2) (n := SS.length) (cap := p2) hA
    clear hA
    have BG := Lib.hid Q_
    clear Q_
    have T := T.trans (A.mono T.size)
    have KW := KW.below A
    have KG := KG.below A
    have BW := Lib.hid (BW.out.below A)
    have M2 := Lib.hid (M2.out.below A)
    have zw8 := A.size
    clear A
    refine (eqTens _ _ _ _ _ _ _ _ _ _ hS KG.fs KW.fs (E2.out.trans E1.out.symm)).mono ?_
    rintro e w9 ⟨rfl, A⟩
    have T := T.trans (A.mono T.size)
    have KW := KW.below A
    have KG := KG.below A
    have BW := Lib.hid (BW.out.below A)
    have BG := Lib.hid (BG.out.below A)
    have M2 := Lib.hid (M2.out.below A)
    have zw9 := A.size
    clear A
    go_wp2_with fail
    refine (toTS _ _ _ _ _ hn2 hm2 (H1.out.below T)).mono ?_
    rintro e w10 ⟨g3, cs3, A3, C3, Q3, rfl, M3_, A⟩
    have M3 := Lib.hid M3_
    clear M3_
    have T := T.trans (A.mono T.size)
    have KW := KW.below A
    have KG := KG.below A
    have BW := Lib.hid (BW.out.below A)
    have BG := Lib.hid (BG.out.below A)
    have M2 := Lib.hid (M2.out.below A)
    have zw10 := A.size
    clear A
    go_wp2_with fail
    refine (eqTS _ _ _ _ _ _ _ hm2 (M2.out.ts HLN.out) (M3.out.ts HLN.out)).mono ?_
    rintro e w11 ⟨rfl, A⟩
    clear M3
    have T := T.trans (A.mono T.size)
    have KW := KW.below A
    have KG := KG.below A
    have BW := Lib.hid (BW.out.below A)
    have BG := Lib.hid (BG.out.below A)
    have M2 := Lib.hid (M2.out.below A)
    have zw11 := A.size
    clear A
    go_wp2_with fail
    refine (markTS _ _ _ w5.heap.size w6.heap.size _ _ _ _ _ 1 _ hn2 hm2 (by omega) HLN.out M2.out hQ2 hg2).mono ?_
    rintro e w12 ⟨rfl, A⟩
    have zA := A.size
    have T := T.trans (A.below (by have := T.size; omega) (by have := T.size; omega))
    have KW := KW.keep A (by omega)
    have KG := KG.keep A (by omega)
    have BW := Lib.hid (BW.out.keep A (by omega))
    have BG := Lib.hid (BG.out.keep A (by omega))
    clear A M2
    have hsj : 0 ≤ tj 1 L n := by unfold tj; omega
    obtain ⟨sq, hsq⟩ : ∃ sq, sq = tj 1 L n := ⟨_, rfl⟩
    rw [← hsq] at hsj ⊢
    clear hsq
    have hsd : decide (sq < 0) = false := by simp; omega
    obtain ⟨BG0, BG1, BG2, BG3⟩ := BG.out
    obtain ⟨BW0, BW1, BW2, BW3⟩ := BW.out
    go_wp2_with fail
    clear BG0 BG1 BG2 BG3 BW0 BW1 BW2 BW3
    refine (eqTens _ _ _ _ _ _ _ _ _ _ hS KG.fs KW.fs (E2.out.trans E1.out.symm)).mono ?_
    rintro e w13 ⟨rfl, A⟩
    have T := T.trans (A.mono T.size)
    have KW := KW.below A
    have KG := KG.below A
    have BW := Lib.hid (BW.out.below A)
    have BG := Lib.hid (BG.out.below A)
    have zw13 := A.size
    clear A
    clear hsj hsd
    obtain ⟨BG0, BG1, BG2, BG3⟩ := BG.out
    go_wp2_with fail
    clear BG0 BG1 BG2 BG3
    refine (markTens _ _ _ _ _ _ _ _ 1 _ hS (by omega) KG).mono ?_
    rintro e w14 ⟨rfl, R, A⟩
    have zB := A.size
    have T := T.trans (A.below (by have := T.size; omega) (by have := T.size; omega))
    have KW := KW.keep A (by omega)
    have BW := Lib.hid (BW.out.keep A (by omega))
    have BG := Lib.hid (BG.out.keep A (by omega))
    have KG := R
    clear R A
    obtain ⟨BG0, BG1, BG2, BG3⟩ := BG.out
    go_wp2_with fail
    clear BG0 BG1 BG2 BG3
    refine (heldTens _ _ _ _ _ 1 _ hS (by omega) KG.fs).mono ?_
    rintro e w15 ⟨rfl, A⟩
    have T := T.trans (A.mono T.size)
    have KW := KW.below A
    have KG := KG.below A
    have BW := Lib.hid (BW.out.below A)
    have BG := Lib.hid (BG.out.below A)
    have zw15 := A.size
    clear A
    go_wp2_with fail
    refine (toTS _ _ _ _ _ hn2 hm2 (H1.out.below T)).mono ?_
    rintro e w16 ⟨g4, cs4, A4, C4, Q4, rfl, M4_, A⟩
    have M4 := Lib.hid M4_
    clear M4_
    have T := T.trans (A.mono T.size)
    have KW := KW.below A
    have KG := KG.below A
    have BW := Lib.hid (BW.out.below A)
    have BG := Lib.hid (BG.out.below A)
    have zw16 := A.size
    clear A
    go_wp2_with fail
    refine (stkI _ _ _ _ _ hm2 (M4.out.tz HLN.out)).mono ?_
    rintro e w17 ⟨b3, p3, ys3, he3, R, E3_, A⟩
    rw [← HSS.out] at he3 R E3_
    rw [← HR0.out, ← HC0.out, ← HOK.out] at he3
    subst he3
    have E3 := Lib.hid E3_
    clear E3_
    have T := T.trans (A.mono T.size)
    have KW := KW.below A
    have KG := KG.below A
    have BW := Lib.hid (BW.out.below A)
    have BG := Lib.hid (BG.out.below A)
    have zw17 := A.size
    clear A
    have KH := R
    clear R
    clear M4
    obtain ⟨BW0, BW1, BW2, BW3⟩ := BW.out
    go_wp2_with fail
    clear BW0 BW1 BW2 BW3
    refine calls_at ?_
    intro w18 hA
    obtain ⟨Q_, A, yw18, xw18⟩ := box_new (r := R0) (c := C0) (a := b3) (n := SS.length) (cap := p3) hA
    clear hA
    have BH := Lib.hid Q_
    clear Q_
    have T := T.trans (A.mono T.size)
    have KW := KW.below A
    have KG := KG.below A
    have KH := KH.below A
    have BW := Lib.hid (BW.out.below A)
    have BG := Lib.hid (BG.out.below A)
    have zw18 := A.size
    clear A
    refine (eqTens _ _ _ _ _ _ _ _ _ _ hS KH.fs KW.fs (E3.out.trans E1.out.symm)).mono ?_
    rintro e w19 ⟨rfl, A⟩
    have T := T.trans (A.mono T.size)
    have KW := KW.below A
    have KG := KG.below A
    have KH := KH.below A
    have BW := Lib.hid (BW.out.below A)
    have BG := Lib.hid (BG.out.below A)
    have BH := Lib.hid (BH.out.below A)
    have zw19 := A.size
    clear A
    obtain ⟨BG0, BG1, BG2, BG3⟩ := BG.out
    go_wp2_with fail
    clear BG0 BG1 BG2 BG3
    refine (heldTens _ _ _ _ _ 1 _ hS (by omega) KG.fs).mono ?_
    rintro e w20 ⟨rfl, A⟩
    have T := T.trans (A.mono T.size)
    have KW := KW.below A
    have KG := KG.below A
    have KH := KH.below A
    have BW := Lib.hid (BW.out.below A)
    have BG := Lib.hid (BG.out.below A)
    have BH := Lib.hid (BH.out.below A)
    have zw20 := A.size
    clear A
    go_wp2
    go_ret
    exact ⟨rfl, T⟩
theorem own : ownKnob Try.prog.godebug = none := by kernel_rfl
theorem laidOut : laidOutB Try.prog = true := by kernel_rfl
set_option maxRecDepth 100000 in
set_option maxHeartbeats 2000000 in
theorem lifted (os : Os) (started : os.Started) (H : Type) (enc : TypeId × Value → H) :
    ReturnsInHanded {} Try.checked os 10 .any (Rows.fnExactStackRowsSpec.pre6 enc Try.prog Try.f10 Rows.fnExactStackRowsRow.domain false) (Rows.fnExactStackRowsSpec.post enc Try.prog Try.f10 false true false false) := by
  refine returnsInHanded_of_change (C := Try.checked) own started (by kernel_rfl) Try.func10
    (ChangeSpec.witness6 (enc := enc) (C := Try.checked) false ⟨#[], #[.slice none 0 0], []⟩ 8 (by kernel_rfl) (by kernel_rfl) (by kernel_rfl) (by kernel_rfl)) ?_
  intro W base args ds gs before hval0 hW hcnd _
  have hval : ∀ (j : Nat) t v, Try.f10.params[j]? = some t → args[j]? = some v → Value.okWide Try.prog W .any base t v := hval0
  have hW' := hW
  obtain ⟨p, q, hA0, hV, rfl, hfz, hnd⟩ := hW
  have hA : DataW.TrodAll enc Try.prog W 0 (fun _ => true) true Try.f10.params.toList args.toList ds p := hA0
  rw [Try.params10] at hA hval
  obtain ⟨v0, vs0, d0, ds0, p0, q0, hargs, rfl, rfl, h0, r0⟩ := trodAll_cons hA
  obtain ⟨rfl, rfl, rfl⟩ := trodAll_nil r0
  obtain rfl : args = #[v0] := by cases args; simp_all
  obtain ⟨rfl, rfl⟩ := trodVars_none hV
  have k0 := h0
  have lt0 : ∀ x ∈ p0, x.block < W.heap.size := by obtain ⟨m, hm⟩ := k0; exact DataW.trod_lt m _ _ _ hm
  obtain ⟨a0, n0, c0, L0, rfl, f0⟩ := open_tensors Try.underlying45 Try.underlying24 (by kernel_rfl) (by kernel_rfl) Try.underlying2 Try.underlying2 Try.underlying22 Try.underlying33 (by kernel_rfl) (hval 0 45 v0 rfl rfl) h0
  clear hA0 hval0
  refine (walk W a0 n0 c0 L0 f0).mono fun e W' ⟨he, bel⟩ => ?_
  subst he
  exact ⟨_, rfl, _, _, _, [], _, [], hW', trodAll_mk1 (shut_bool Try.underlying4 _), (trodAll_cons_mk (Below.trod laidOut (by kernel_rfl) (of_decide_eq_true (by kernel_rfl)) k0 bel lt0) trodAll_mk0), rfl, bel.frame _, fun h => by cases h⟩

theorem over : Rows.fnExactStackRowsRow.holds Try.pinned (OpenSpec.ofChange Rows.fnExactStackRowsSpec) :=
  OpenClaim.holds_of_wide 10 Try.f10 rfl rfl rfl rfl rfl rfl rfl ⟨rfl, rfl, rfl, rfl, rfl⟩ rfl rfl rfl rfl rfl (by kernel_rfl) Try.func10 (by kernel_rfl)
    (of_decide_eq_true (by kernel_rfl)) (by unfold Func.isWrapper; first | (rw [if_pos (by decide +kernel)]; kernel_rfl) | (rw [if_neg (by decide +kernel)]; exact ⟨rfl, rfl⟩))
    (fun os started H enc _ => lifted os started H enc)

theorem proved : Rows.FnExactStackRowsSaid := over
end Go.Proofs.Ytoeppdkhncllbaa.stackRows
