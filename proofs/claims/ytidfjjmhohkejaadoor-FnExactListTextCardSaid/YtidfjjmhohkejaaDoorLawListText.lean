/- The law FnExactListText holds for every input. The tables of the library that the row lists are tied to the program's text. -/
import Derived.Test.YtidfjjmhohkejaaDoorLTextI
import Derived.Test.YtidfjjmhohkejaaDoorCard
import Derived.Test.YtidfjjmhohkejaaDoorOpenJ
import Derived.Test.YtidfjjmhohkejaaDoorTie
import Derived.Test.YtidfjjmhohkejaaDoorCards
import Derived.WalkSmall
namespace Go.Proofs.YtidfjjmhohkejaaDoor.listText
open Go.ChangeShapes Go.WideShapes Go.ChangeAt Go.RowKit Go.Fl Go.Reg
theorem specL (a : Option Addr) (n cap : Nat) (L : List Int) (w : World) (h : Js w a n cap L) :
    Calls Tryd.prog 16 #[.slice a n cap] w (TB (ltx L n) (lst L n) w) := by
  have HX := Lib.hid h
  clear h
  go_enter Tryd.func16, Tryd.ntmps16
  go_wp2_with fail
  refine (listS _ _ _ _ _ HX.out).mono ?_
  rintro e wx ⟨rfl, hsame⟩
  replace hsame := hsame.symm
  subst hsame
  cases hv : lst L n
  · have HW := Lib.hid (ltx_no hv)
    have HV := Lib.hid hv
    clear hv
    go_wp2
    go_ret2
    exact ⟨by rw [HW.out, HV.out]; rfl, Below.refl _ _⟩
  · have HW := Lib.hid (ltx_yes hv)
    have HK := Lib.hid (lst_yes hv)
    have HV := Lib.hid hv
    clear hv
    go_wp2_with fail
    refine (textS _ _ _ _ _ HX.out HK.out).mono ?_
    rintro e w1 ⟨rfl, A⟩
    rw [← HW.out]
    go_wp2
    go_ret2
    exact ⟨by rw [HV.out]; rfl, A⟩
theorem walk (w : World) (a : Option Addr) (n c : Nat) (L : List Int) (h : Js w a n c L) (hL : laidMet Tryd.prog Rows.fnExactListTextRow.laid w) : Calls Tryd.prog 6 #[.slice a n c] w fun e w' => e = .returned (.bool true) ∧ Below w.heap.size w w' := by
  have HT := Lib.hid (pow_of_laid (laidMet.tail (laidMet.tail hL)))
  have HG := Lib.hid (tab_lt HT.out)
  have H1 := Lib.hid h
  have hm := Nat.le_trans h.cap1 h.cap2
  unfold maxLen at hm
  clear hL h
  by_cases h0 : 1048576 < n
  · have h0i : (1048576 : Int) < (n : Int) := by omega
    go_enter Tryd.func6, Tryd.ntmps6
    go_wp2
    go_ret
    exact ⟨rfl, Below.refl _ _⟩
  · have h0i : ¬ (1048576 : Int) < (n : Int) := by omega
    have hn : n ≤ 1048576 := by omega
    clear h0
    go_enter Tryd.func6, Tryd.ntmps6
    go_wp2_with fail
    clear h0i
    refine (toI64 _ _ _ _ _ hn H1.out).mono ?_
    rintro e w1 ⟨g1, rfl, J1, A⟩
    have T := Lib.hid A
    have HJ1 := Lib.hid J1
    clear A J1
    go_wp2_with fail
    refine (specL _ _ _ _ _ HJ1.out).mono ?_
    rintro e w2 ⟨rfl, A⟩
    have T := Lib.hid (T.out.trans (A.mono T.out.size))
    clear A
    obtain ⟨tx, htx⟩ : ∃ t, t = ltx L n := ⟨_, rfl⟩
    obtain ⟨ok, hok⟩ : ∃ t, t = lst L n := ⟨_, rfl⟩
    have HTX := Lib.hid htx
    have HOK := Lib.hid hok
    rw [← htx, ← hok]
    clear htx hok
    go_wp2_with fail
    refine (toI64 _ _ _ _ _ hn (Js.below H1.out T.out)).mono ?_
    rintro e w3 ⟨g3, rfl, J3, A⟩
    have T := Lib.hid (T.out.trans (A.mono T.out.size))
    have HJ3 := Lib.hid J3
    clear A J3
    go_wp2_with fail
    refine (listI _ _ _ _ _ HJ3.out (tab_below HT.out T.out HG.out)).mono ?_
    rintro e w4 ⟨rfl, A⟩
    have T := Lib.hid (T.out.trans (A.mono T.out.size))
    have HJ3 := Lib.hid (Js.below HJ3.out A)
    clear A
    rw [← HTX.out, ← HOK.out]
    go_wp2_with fail
    refine (toI64 _ _ _ _ _ hn (Js.below H1.out T.out)).mono ?_
    rintro e w5 ⟨g5, rfl, J5, A⟩
    have T := Lib.hid (T.out.trans (A.mono T.out.size))
    have HJ3 := Lib.hid (Js.below HJ3.out A)
    have HJ5 := Lib.hid J5
    clear A J5
    go_wp2_with fail
    refine (eqI64 _ _ _ _ _ _ _ _ hn HJ3.out HJ5.out rfl).mono ?_
    rintro e w6 ⟨rfl, A⟩
    have T := Lib.hid (T.out.trans (A.mono T.out.size))
    clear A
    go_wp2
    go_ret
    exact ⟨rfl, T.out⟩
theorem own : ownKnob Tryd.prog.godebug = none := by kernel_rfl
theorem laidOut : laidOutB Tryd.prog = true := by kernel_rfl
set_option maxRecDepth 100000 in
set_option maxHeartbeats 4000000 in
theorem lifted (os : _root_.Go.Os) (started : os.Started) (H : Type) (enc : TypeId × Value → H) :
    ReturnsInHanded {} Tryd.checked os 6 .any (fun w args => (Rows.fnExactListTextSpec.pre enc Tryd.prog Tryd.f6 Rows.fnExactListTextRow.domain false w args ∧ laidMetH Tryd.prog Rows.fnExactListTextRow.laid w) ∧ sizedMet enc Tryd.prog Tryd.f6 (OpenSpec.ofChange Rows.fnExactListTextSpec) false w args)
      (Rows.fnExactListTextSpec.post enc Tryd.prog Tryd.f6 false true false false) := by
  refine returnsInHanded_of_laid (C := Tryd.checked) (X := fun w _ => laidMetH Tryd.prog Rows.fnExactListTextRow.laid w) (fun _ _ _ hh h => h.of_heap hh) own started (by kernel_rfl) Tryd.func6
    (ChangeSpec.witness_shaped (enc := enc) (C := Tryd.checked) (os := os) (X := fun w _ => laidMetH Tryd.prog Rows.fnExactListTextRow.laid w) false (World.laidAll Tryd.prog os Rows.fnExactListTextRow.laid) #[.slice none 0 0] 8 (World.laidAll_os _ _ _)
      (World.shaped_of_ZipB (by kernel_rfl) (by kernel_rfl)) (by kernel_rfl) (by kernel_rfl) (by kernel_rfl)
      (by rw [MakeChecks.laidMetH_plain _ _ _ (by kernel_rfl)]; exact laidMet_laidAll _ (by kernel_rfl) (by kernel_rfl))) ?_
  intro W base args ds gs before hval0 hW hcnd _ hL hshp _
  have hval : ∀ (j : Nat) t v, Tryd.f6.params[j]? = some t → args[j]? = some v → Value.okWide Tryd.prog W .any base t v := hval0
  have hW' := hW
  obtain ⟨p, q, hA0, hV, rfl, hfz, hnd⟩ := hW
  have hA : DataW.TrodAll enc Tryd.prog W 0 (fun _ => true) true Tryd.f6.params.toList args.toList ds p := hA0
  rw [Tryd.params6] at hA hval
  obtain ⟨v0, vs0, d0, ds0, p0, q0, hargs, rfl, rfl, h0, r0⟩ := trodAll_cons hA
  obtain ⟨rfl, rfl, rfl⟩ := trodAll_nil r0
  obtain rfl : args = #[v0] := by cases args; simp_all
  obtain ⟨rfl, rfl⟩ := trodVars_none hV
  have k0 := h0
  have lt0 : ∀ x ∈ p0, x.block < W.heap.size := by obtain ⟨m, hm⟩ := k0; exact DataW.trod_lt m _ _ _ hm
  obtain ⟨a0, n0, c0, L0, rfl, f0⟩ := open_i64s Tryd.underlying25 Tryd.underlying2 (by kernel_rfl) (hval 0 25 v0 rfl rfl) h0
  clear hA0 hval0
  rw [MakeChecks.laidMetH_plain _ _ _ (by kernel_rfl)] at hL
  refine (walk W a0 n0 c0 L0 f0 hL).mono fun e W' ⟨he, bel⟩ => ?_
  subst he
  exact ⟨_, rfl, _, _, _, [], _, [], hW', trodAll_mk1 (shut_bool Tryd.underlying4 _), (trodAll_cons_mk (Below.trod laidOut (by kernel_rfl) (of_decide_eq_true (by kernel_rfl)) k0 bel lt0) trodAll_mk0), rfl, bel.frame _, fun h => by cases h⟩

theorem over : Rows.fnExactListTextRow.holds Tryd.pinned (OpenSpec.ofChange Rows.fnExactListTextSpec) :=
  OpenClaim.holds_of_wide 6 Tryd.f6 rfl rfl rfl rfl rfl rfl rfl ⟨rfl, rfl, rfl, rfl, rfl⟩ rfl rfl rfl rfl rfl (by kernel_rfl) Tryd.func6 (by kernel_rfl)
    (of_decide_eq_true (by kernel_rfl)) (by unfold Func.isWrapper; first | (rw [if_pos (by decide +kernel)]; kernel_rfl) | (rw [if_neg (by decide +kernel)]; exact ⟨rfl, rfl⟩))
    (fun os started H enc _ => lifted os started H enc)

theorem proved : Rows.FnExactListTextCardSaid :=
  Claim7.holds_tied_plain_at .later [] [.data, .data, .data] true (true, "5d1aa9776ebe4daa6ebd05dcd4ae8ec02241903a20fc4c651897f798ed190b98") true over (fun _ h => by cases h) (by kernel_rfl) (fun _ h => by cases h) fnExactListText_row_tie rfl ⟨rfl, rfl⟩ (by kernel_rfl) rfl
    (fun g fn hf hfn => by
      obtain rfl : g = 6 := Option.some.inj ((show Tryd.prog.funcNamed "loop.example/g01157/laws.FnExactListText" = some 6 by kernel_rfl).symm.trans hf) |>.symm
      obtain rfl : fn = Tryd.f6 := (Option.some.inj (Tryd.func6.symm.trans hfn)).symm
      exact ⟨by kernel_rfl, fun j t ht => by
        rw [Tryd.params6] at ht
        have hm : t ∈ [25] := by simpa using Array.mem_of_getElem? ht
        have hall : ([25].all fun u => !Tryd.prog.wantsStandIn u) = true := by kernel_rfl
        exact (show Tryd.prog.wantsStandIn t = false by simpa using List.all_eq_true.1 hall t hm)⟩)
    (by kernel_rfl)
end Go.Proofs.YtidfjjmhohkejaaDoor.listText
