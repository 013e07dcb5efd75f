/- The law FnExactReadList holds for every input. The tables and errors of the library that the row lists are tied to the program's text. -/
import Derived.Test.YtidfjjmhohkejaaDoorRlW
import Derived.Test.YtidfjjmhohkejaaDoorCard
import Derived.Test.YtidfjjmhohkejaaDoorTie
import Derived.Test.YtidfjjmhohkejaaDoorCards
import Derived.WalkSmall
namespace Go.Proofs.YtidfjjmhohkejaaDoor.readList
open Go.ChangeShapes Go.WideShapes Go.ChangeAt Go.RowKit Go.Fl Go.Reg
set_option maxHeartbeats 4000000 in
theorem walk (w : World) (s : ByteArray) (hs : s.size ≤ maxLen) (hL : laidMet Tryd.prog Rows.fnExactReadListRow.laid w) (hsh : w.ShapedOpen Tryd.prog) : Calls Tryd.prog 4 #[.string s] w fun e w' => e = .returned (.bool true) ∧ Below w.heap.size w w' := by
  have HT := Lib.hid (show LT w from ⟨pow_of_laid (laidMet.tail (laidMet.tail hL)), syn_of_laid (laidMet.tail (laidMet.tail (laidMet.tail (laidMet.tail (laidMet.tail hL))))), rng_of_laid (laidMet.tail (laidMet.tail (laidMet.tail (laidMet.tail hL))))⟩)
  have HMX := Lib.hid (show ∃ m, w.cell? ⟨3, 0, none⟩ = some (.int .i64 m) from Go.Proofs.cell_of_shapedOpen_int (zero := #[.int .i64 0]) (t := 3) hsh (of_decide_eq_true (by kernel_rfl)) (by kernel_rfl) rfl (by kernel_rfl) (by kernel_rfl) Tryd.underlying3)
  have HM := Lib.hid hs
  unfold maxLen at hs
  clear hL hsh
  by_cases h0 : 1048576 < s.size
  · have h0i : (1048576 : Int) < (s.size : Int) := by omega
    clear h0
    go_enter Tryd.func4, Tryd.ntmps4
    go_wp2
    go_ret
    exact ⟨rfl, Below.refl _ _⟩
  · have h0i : ¬ (1048576 : Int) < (s.size : Int) := by omega
    have hz : s.size ≤ 1048576 := by omega
    have mx : ∀ w' : World, Below w.heap.size w w' → ∃ m, w'.cell? ⟨3, 0, none⟩ = some (.int .i64 m) := fun w' hb => by
      obtain ⟨m, hm⟩ := HMX.out
      exact ⟨m, (hb.cell (p := ⟨3, 0, none⟩) (World.block_lt_of_cell? w _ hm)).trans hm⟩
    have MX := Lib.hid mx
    have hle := rl_le s.data.toList
    obtain ⟨S, hS⟩ : ∃ S, S = (rl s.data.toList).getD [] := ⟨_, rfl⟩
    obtain ⟨ok, hok⟩ : ∃ ok, ok = (rl s.data.toList).isSome := ⟨_, rfl⟩
    rw [← hS] at hle
    obtain ⟨n, hn⟩ : ∃ n, n = S.length := ⟨_, rfl⟩
    rw [← hn] at hle
    have hR : ∀ e w w', RLs s w e w' → ∃ a cap, e = .returned (.tuple #[.slice a n cap, .bool ok]) ∧ Jrow w' w.heap.size w'.heap.size 2 (.slice a n cap) n S ∧ Below w.heap.size w w' := fun e w w' h => by
      obtain ⟨a, cap, xs, he, h1, h2, h3⟩ := h
      rw [← hS] at he h1 h2
      rw [← hok] at he
      rw [← hn] at he h1
      subst h2
      exact ⟨a, cap, he, h1, h3⟩
    have HR := Lib.hid hR
    have hn2 : n ≤ 1048576 := by omega
    clear hR hn hS hok mx h0
    go_enter Tryd.func4, Tryd.ntmps4
    go_wp2_with fail
    clear h0i
    refine (readLS s _ hz).mono ?_
    intro e w1 hq
    obtain ⟨a0, c0, rfl, R0, A⟩ := HR.out _ _ _ hq
    have T := Lib.hid A
    have HR0 := Lib.hid R0
    clear hq A R0
    go_wp2_with fail
    refine (listRI s _ hz (HT.out.below T.out) (MX.out _ T.out)).mono ?_
    intro e w2 hq
    obtain ⟨a1, c1, rfl, R1, A⟩ := HR.out _ _ _ hq
    have HR0 := Lib.hid (HR0.out.below A)
    have HR1 := Lib.hid R1
    have T := Lib.hid (T.out.trans (A.mono T.out.size))
    have z1 : w1.heap.size ≤ w2.heap.size := A.size
    have zw : w.heap.size ≤ w1.heap.size := by have := HR0.out.low; omega
    clear hq A R1
    go_wp2_with fail
    refine (eqI64 _ _ _ _ _ _ _ _ hn2 HR1.out.fs HR0.out.fs rfl).mono ?_
    rintro e w3 ⟨rfl, A⟩
    have HR0 := Lib.hid (HR0.out.below A)
    have HR1 := Lib.hid (HR1.out.below A)
    have T := Lib.hid (T.out.trans (A.mono T.out.size))
    have z2 := A.size
    clear A
    go_wp2_with fail
    refine (markI64 _ _ _ _ _ _ 1 _ hn2 (by omega) HR1.out).mono ?_
    rintro e w4 ⟨rfl, R, A⟩
    have T := Lib.hid (T.out.trans (A.below (by omega) (by have := T.out.size; omega)))
    have HR0 := Lib.hid (HR0.out.keep A (by omega))
    have HR1 := Lib.hid R
    have z3 := A.size
    clear A R
    go_wp2_with fail
    refine (heldI64 _ _ _ 1 _ hn2 (by omega) HR1.out.fs).mono ?_
    rintro e w5 ⟨rfl, A⟩
    have HR0 := Lib.hid (HR0.out.below A)
    have HR1 := Lib.hid (HR1.out.below A)
    have T := Lib.hid (T.out.trans (A.mono T.out.size))
    have z4 := A.size
    clear A
    go_wp2_with fail
    refine (listRI s _ hz (HT.out.below T.out) (MX.out _ T.out)).mono ?_
    intro e w6 hq
    obtain ⟨a2, c2, rfl, R2, A⟩ := HR.out _ _ _ hq
    have HR0 := Lib.hid (HR0.out.below A)
    have HR1 := Lib.hid (HR1.out.below A)
    have HR2 := Lib.hid R2
    have T := Lib.hid (T.out.trans (A.mono T.out.size))
    clear hq A R2
    go_wp2_with fail
    refine (eqI64 _ _ _ _ _ _ _ _ hn2 HR2.out.fs HR0.out.fs rfl).mono ?_
    rintro e w7 ⟨rfl, A⟩
    have HR1 := Lib.hid (HR1.out.below A)
    have T := Lib.hid (T.out.trans (A.mono T.out.size))
    clear A
    go_wp2_with fail
    refine (heldI64 _ _ _ 1 _ hn2 (by omega) HR1.out.fs).mono ?_
    rintro e w8 ⟨rfl, A⟩
    have T := Lib.hid (T.out.trans (A.mono T.out.size))
    clear A
    go_wp2
    go_ret
    exact ⟨rfl, T.out⟩
theorem own : ownKnob Tryd.prog.godebug = none := by kernel_rfl
theorem laidOut : laidOutB Tryd.prog = true := by kernel_rfl
set_option maxRecDepth 100000 in
set_option maxHeartbeats 4000000 in
theorem lifted (os : _root_.Go.Os) (started : os.Started) (H : Type) (enc : TypeId × Value → H) :
    ReturnsInHanded {} Tryd.checked os 4 .any (fun w args => (Rows.fnExactReadListSpec.pre enc Tryd.prog Tryd.f4 Rows.fnExactReadListRow.domain false w args ∧ laidMetH Tryd.prog Rows.fnExactReadListRow.laid w) ∧ sizedMet enc Tryd.prog Tryd.f4 (OpenSpec.ofChange Rows.fnExactReadListSpec) false w args)
      (Rows.fnExactReadListSpec.post enc Tryd.prog Tryd.f4 false true false false) := by
  refine returnsInHanded_of_laid (C := Tryd.checked) (X := fun w _ => laidMetH Tryd.prog Rows.fnExactReadListRow.laid w) (fun _ _ _ hh h => h.of_heap hh) own started (by kernel_rfl) Tryd.func4
    (ChangeSpec.witness_shaped (enc := enc) (C := Tryd.checked) (os := os) (X := fun w _ => laidMetH Tryd.prog Rows.fnExactReadListRow.laid w) false (World.laidAll Tryd.prog os Rows.fnExactReadListRow.laid) #[.string ByteArray.empty] 8 (World.laidAll_os _ _ _)
      (World.shaped_of_ZipB (by kernel_rfl) (by kernel_rfl)) (by kernel_rfl) (by kernel_rfl) (by kernel_rfl)
      (by rw [MakeChecks.laidMetH_plain _ _ _ (by kernel_rfl)]; exact laidMet_laidAll _ (by kernel_rfl) (by kernel_rfl))) ?_
  intro W base args ds gs before hval0 hW hcnd _ hL hshp _
  have hval : ∀ (j : Nat) t v, Tryd.f4.params[j]? = some t → args[j]? = some v → Value.okWide Tryd.prog W .any base t v := hval0
  have hW' := hW
  obtain ⟨p, q, hA0, hV, rfl, hfz, hnd⟩ := hW
  have hA : DataW.TrodAll enc Tryd.prog W 0 (fun _ => true) true Tryd.f4.params.toList args.toList ds p := hA0
  rw [Tryd.params4] at hA hval
  obtain ⟨v0, vs0, d0, ds0, p0, q0, hargs, rfl, rfl, h0, r0⟩ := trodAll_cons hA
  obtain ⟨rfl, rfl, rfl⟩ := trodAll_nil r0
  obtain rfl : args = #[v0] := by cases args; simp_all
  obtain ⟨rfl, rfl⟩ := trodVars_none hV
  have k0 := h0
  have lt0 : ∀ x ∈ p0, x.block < W.heap.size := by obtain ⟨m, hm⟩ := k0; exact DataW.trod_lt m _ _ _ hm
  obtain ⟨a0, rfl, rfl, rfl, w0⟩ := Go.ChangeMaps.open_string Tryd.underlying9 (hval 0 9 v0 rfl rfl) h0
  clear hA0 hval0
  rw [MakeChecks.laidMetH_plain _ _ _ (by kernel_rfl)] at hL
  refine (walk W a0 w0 hL hshp).mono fun e W' ⟨he, bel⟩ => ?_
  subst he
  exact ⟨_, rfl, _, _, _, [], _, [], hW', trodAll_mk1 (shut_bool Tryd.underlying4 _), (trodAll_cons_mk (Below.trod laidOut (by kernel_rfl) (of_decide_eq_true (by kernel_rfl)) k0 bel lt0) trodAll_mk0), rfl, bel.frame _, fun h => by cases h⟩

theorem over : Rows.fnExactReadListRow.holds Tryd.pinned (OpenSpec.ofChange Rows.fnExactReadListSpec) :=
  OpenClaim.holds_of_wide 4 Tryd.f4 rfl rfl rfl rfl rfl rfl rfl ⟨rfl, rfl, rfl, rfl, rfl⟩ rfl rfl rfl rfl rfl (by kernel_rfl) Tryd.func4 (by kernel_rfl)
    (of_decide_eq_true (by kernel_rfl)) (by unfold Func.isWrapper; first | (rw [if_pos (by decide +kernel)]; kernel_rfl) | (rw [if_neg (by decide +kernel)]; exact ⟨rfl, rfl⟩))
    (fun os started H enc _ => lifted os started H enc)

theorem proved : Rows.FnExactReadListCardSaid :=
  Claim7.holds_tied_plain_at .later [] [.data, .data, .data, .data, .sentinel, .sentinel, .pinned] true (true, "5d1aa9776ebe4daa6ebd05dcd4ae8ec02241903a20fc4c651897f798ed190b98") true over (fun _ h => by cases h) (by kernel_rfl) (fun _ h => by cases h) fnExactReadList_row_tie rfl ⟨rfl, rfl⟩ (by kernel_rfl) rfl
    (fun g fn hf hfn => by
      obtain rfl : g = 4 := Option.some.inj ((show Tryd.prog.funcNamed "loop.example/g01157/laws.FnExactReadList" = some 4 by kernel_rfl).symm.trans hf) |>.symm
      obtain rfl : fn = Tryd.f4 := (Option.some.inj (Tryd.func4.symm.trans hfn)).symm
      exact ⟨by kernel_rfl, fun j t ht => by
        rw [Tryd.params4] at ht
        have hm : t ∈ [9] := by simpa using Array.mem_of_getElem? ht
        have hall : ([9].all fun u => !Tryd.prog.wantsStandIn u) = true := by kernel_rfl
        exact (show Tryd.prog.wantsStandIn t = false by simpa using List.all_eq_true.1 hall t hm)⟩)
    (by kernel_rfl)
end Go.Proofs.YtidfjjmhohkejaaDoor.readList
