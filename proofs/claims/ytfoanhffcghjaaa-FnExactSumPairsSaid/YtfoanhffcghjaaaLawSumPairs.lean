/- The law FnExactSumPairs holds for every input. No conditions. -/
import Derived.Test.YtfoanhffcghjaaaLst
import Derived.Test.YtfoanhffcghjaaaOpen
import Derived.ProofKit
import Derived.OpenShut
import Derived.ChangeOld
import Derived.WalkSmall
namespace Go.Proofs.Ytfoanhffcghjaaa.sumPairs
open Go.ChangeShapes Go.WideShapes Go.ChangeAt Go.RowKit Go.Fl Go.Reg
/-- the sum of both halves -/
def pr : Nat → List Nat → Nat
  | 0, _ => 0
  | f + 1, xs => if xs.length = 0 then 0 else if xs.length = 1 then xs[0]?.getD 0 else fop .add .f32 (pr f (xs.take ((xs.length + 1) / 2))) (pr f (xs.drop ((xs.length + 1) / 2)))
theorem pr_zero (f : Nat) (xs : List Nat) (h : xs.length = 0) : pr (f + 1) xs = 0 := by rw [pr, if_pos h]
theorem pr_one (f : Nat) (xs : List Nat) (h : xs.length = 1) : pr (f + 1) xs = xs[0]?.getD 0 := by rw [pr, if_neg (by omega), if_pos h]
theorem pr_many (f : Nat) (xs : List Nat) (n k : Nat) (hl : n = xs.length) (hk : k = (n + 1) / 2) (h : 2 ≤ n) (r s : Nat) (w : World) (h1 : cn .f32 r = cn .f32 (pr f (xs.take k))) (h2 : cn .f32 s = cn .f32 (pr f (xs.drop k))) :
    cn .f32 (fres .add .f32 r s w) = cn .f32 (pr (f + 1) xs) := by
  subst hk; subst hl
  rw [pr, if_neg (by omega), if_neg (by omega), fres_fop, fop_l .add h1, fop_r .add h2]

theorem spec_any (f : Nat) : ∀ (w : World) (a : Option Addr) (n c : Nat) (xs : List Nat), n ≤ f → n ≤ 256 → Fs w a n c xs → Calls Try.prog 50 #[.slice a n c] w (F1 w (pr f xs)) := by
  induction f with
  | zero =>
    intro w a n c xs h0 h1 hf
    obtain rfl : n = 0 := by omega
    go_enter Try.func50, Try.ntmps50
    go_wp2_with fail
    go_ret
    exact ⟨0, 0, rfl, rfl, rfl⟩
  | succ f ih =>
    intro w a n c xs h0 h1 hf
    have hl := hf.len
    by_cases hz : n = 0
    · subst hz
      go_enter Try.func50, Try.ntmps50
      go_wp2_with fail
      go_ret
      exact ⟨0, 0, rfl, rfl, by rw [pr_zero f xs hl.symm]⟩
    · by_cases h2 : n = 1
      · subst h2
        obtain ⟨b, o, rfl, hc⟩ := hf.cell 0 (by omega)
        rw [Nat.add_zero] at hc
        have H1 := Lib.hid (pr_one f xs hl.symm)
        clear hl hf ih
        go_enter Try.func50, Try.ntmps50
        go_wp2_with fail
        go_ret
        exact ⟨_, 0, rfl, rfl, by rw [H1.out]⟩
      · obtain ⟨b, o, rfl, _⟩ := hf.cell 0 (by omega)
        obtain ⟨k, hk⟩ : ∃ k, k = (n + 1) / 2 := ⟨_, rfl⟩
        have e1 : ((n : Int) + 1) / 2 = (k : Int) := by omega
        have k1 : k < n := by omega
        have k2 : 0 < k := by omega
        have k3 := hf.cap1
        have k4 : ¬ c = k := by omega
        have k5 : k ≤ c := by omega
        have k6 : k ≤ n := by omega
        have s1 := hf.sub (i := 0) (j := k) (Nat.zero_le _) (by omega) c rfl
        have s2 := hf.sub (i := k) (j := n) (by omega) (Nat.le_refl _) (c - k) rfl
        simp only [Nat.add_zero, Nat.sub_zero, List.drop_zero] at s1
        have t2 : (xs.drop k).take (n - k) = xs.drop k := List.take_of_length_le (by simp; omega)
        rw [t2] at s2
        have PM := Lib.hid (pr_many f xs n k hl hk (by omega))
        have z1 : ((n : Int) == 0) = false := by simp; omega
        have z2 : ((n : Int) == 1) = false := by simp; omega
        have H1 := Lib.hid (fun m => ih (w.drewN m) (some ⟨b, o, none⟩) k c (xs.take k) (by omega) (by omega) (s1.drew m))
        have H2 := Lib.hid (fun m => ih (w.drewN m) (some ⟨b, o + k, none⟩) (n - k) (c - k) (xs.drop k) (by omega) (by omega) (s2.drew m))
        clear ih hf s1 s2 t2 hl hk
        go_enter Try.func50, Try.ntmps50
        go_wp2_with fail
        refine wp_dr 9 [0, 0, 0, 2, 0, 0, 0, 2, 1, 0] (by kernel_rfl) (by kernel_rfl) ?_
        simp only [List.take_succ_cons, List.take_zero, List.drop_succ_cons, List.drop_zero]
        iterate 3 (refine dr_step (fun K hK => ?_); go_simp; (try intro _); refine hK _ _ ?_; clear hK K)
        refine dr_step (fun K hK => ?_)
        go_simp
        intro _
        refine (H1.out _).mono ?_
        rintro e w1 ⟨r1, m1, rfl, rfl, y1⟩
        refine ⟨_, rfl, (by first | exact ⟨_, rfl⟩ | (simp only [World.drewN_drewN]; exact ⟨_, rfl⟩)), hK _ _ ?_⟩
        have Y1 := Lib.hid y1
        clear hK K y1
        iterate 3 (refine dr_step (fun K hK => ?_); go_simp; (try intro _); refine hK _ _ ?_; clear hK K)
        refine dr_step (fun K hK => ?_)
        go_simp
        intro _
        refine (H2.out _).mono ?_
        rintro e w1 ⟨r2, m2, rfl, rfl, y2⟩
        refine ⟨_, rfl, (by first | exact ⟨_, rfl⟩ | (simp only [World.drewN_drewN]; exact ⟨_, rfl⟩)), hK _ _ ?_⟩
        have Y2 := Lib.hid y2
        clear hK K y2
        iterate 1 (refine dr_step (fun K hK => ?_); go_simp; (try intro _); refine hK _ _ ?_; clear hK K)
        refine wpR_nil (fun nq => ?_)
        go_wp2_with fail
        go_ret
        exact ⟨_, _, rfl, World.drewN_drewN _ _ _, PM.out _ _ _ Y1.out Y2.out⟩
theorem impl_any (f : Nat) : ∀ (w : World) (a : Option Addr) (n c : Nat) (xs : List Nat), n ≤ f → n ≤ 256 → Fs w a n c xs → Calls Try.prog 51 #[.slice a n c] w (F1 w (pr f xs)) := by
  induction f with
  | zero =>
    intro w a n c xs h0 h1 hf
    obtain rfl : n = 0 := by omega
    go_enter Try.func51, Try.ntmps51
    go_wp2_with fail
    go_ret
    exact ⟨0, 0, rfl, rfl, rfl⟩
  | succ f ih =>
    intro w a n c xs h0 h1 hf
    have hl := hf.len
    by_cases hz : n = 0
    · subst hz
      go_enter Try.func51, Try.ntmps51
      go_wp2_with fail
      go_ret
      exact ⟨0, 0, rfl, rfl, by rw [pr_zero f xs hl.symm]⟩
    · by_cases h2 : n = 1
      · subst h2
        obtain ⟨b, o, rfl, hc⟩ := hf.cell 0 (by omega)
        rw [Nat.add_zero] at hc
        have H1 := Lib.hid (pr_one f xs hl.symm)
        clear hl hf ih
        go_enter Try.func51, Try.ntmps51
        go_wp2_with fail
        go_ret
        exact ⟨_, 0, rfl, rfl, by rw [H1.out]⟩
      · obtain ⟨b, o, rfl, _⟩ := hf.cell 0 (by omega)
        obtain ⟨k, hk⟩ : ∃ k, k = (n + 1) / 2 := ⟨_, rfl⟩
        have e1 : ((n : Int) + 1) / 2 = (k : Int) := by omega
        have k1 : k < n := by omega
        have k2 : 0 < k := by omega
        have k3 := hf.cap1
        have k4 : ¬ c = k := by omega
        have k5 : k ≤ c := by omega
        have k6 : k ≤ n := by omega
        have s1 := hf.sub (i := 0) (j := k) (Nat.zero_le _) (by omega) c rfl
        have s2 := hf.sub (i := k) (j := n) (by omega) (Nat.le_refl _) (c - k) rfl
        simp only [Nat.add_zero, Nat.sub_zero, List.drop_zero] at s1
        have t2 : (xs.drop k).take (n - k) = xs.drop k := List.take_of_length_le (by simp; omega)
        rw [t2] at s2
        have PM := Lib.hid (pr_many f xs n k hl hk (by omega))
        have z1 : ((n : Int) == 0) = false := by simp; omega
        have z2 : ((n : Int) == 1) = false := by simp; omega
        have H1 := Lib.hid (fun m => ih (w.drewN m) (some ⟨b, o, none⟩) k c (xs.take k) (by omega) (by omega) (s1.drew m))
        have H2 := Lib.hid (fun m => ih (w.drewN m) (some ⟨b, o + k, none⟩) (n - k) (c - k) (xs.drop k) (by omega) (by omega) (s2.drew m))
        clear ih hf s1 s2 t2 hl hk
        go_enter Try.func51, Try.ntmps51
        go_wp2_with fail
        refine wp_dr 9 [0, 0, 0, 2, 0, 0, 0, 2, 1, 0] (by kernel_rfl) (by kernel_rfl) ?_
        simp only [List.take_succ_cons, List.take_zero, List.drop_succ_cons, List.drop_zero]
        iterate 3 (refine dr_step (fun K hK => ?_); go_simp; (try intro _); refine hK _ _ ?_; clear hK K)
        refine dr_step (fun K hK => ?_)
        go_simp
        intro _
        refine (H1.out _).mono ?_
        rintro e w1 ⟨r1, m1, rfl, rfl, y1⟩
        refine ⟨_, rfl, (by first | exact ⟨_, rfl⟩ | (simp only [World.drewN_drewN]; exact ⟨_, rfl⟩)), hK _ _ ?_⟩
        have Y1 := Lib.hid y1
        clear hK K y1
        iterate 3 (refine dr_step (fun K hK => ?_); go_simp; (try intro _); refine hK _ _ ?_; clear hK K)
        refine dr_step (fun K hK => ?_)
        go_simp
        intro _
        refine (H2.out _).mono ?_
        rintro e w1 ⟨r2, m2, rfl, rfl, y2⟩
        refine ⟨_, rfl, (by first | exact ⟨_, rfl⟩ | (simp only [World.drewN_drewN]; exact ⟨_, rfl⟩)), hK _ _ ?_⟩
        have Y2 := Lib.hid y2
        clear hK K y2
        iterate 1 (refine dr_step (fun K hK => ?_); go_simp; (try intro _); refine hK _ _ ?_; clear hK K)
        refine wpR_nil (fun nq => ?_)
        go_wp2_with fail
        go_ret
        exact ⟨_, _, rfl, World.drewN_drewN _ _ _, PM.out _ _ _ Y1.out Y2.out⟩
theorem spec_yes (w : World) (a : Option Addr) (n c : Nat) (xs : List Nat) (hn : n ≤ 256) (h1 : Fs w a n c xs) : Calls Try.prog 28 #[.slice a n c] w (FB w (pr 256 xs) true) := by
  have hd : decide ((n : Int) ≤ 256) = true := by simp; omega
  go_enter Try.func28, Try.ntmps28
  go_wp2_with (first | (go_at_call 50; refine (spec_any 256 _ _ _ _ _ hn hn h1).mono ?_; rintro e w1 ⟨r, m, rfl, rfl, hr⟩) | go_in)
  go_ret2
  exact ⟨r, m, rfl, rfl, hr⟩
theorem spec_no (w : World) (a : Option Addr) (n c : Nat) (hn : 256 < n) : Calls Try.prog 28 #[.slice a n c] w (FB w 0 false) := by
  have hd : decide ((n : Int) ≤ 256) = false := by simp; omega
  go_enter Try.func28, Try.ntmps28
  go_wp2
  go_ret2
  exact ⟨0, 0, rfl, rfl, rfl⟩
theorem impl_yes (w : World) (a : Option Addr) (n c : Nat) (xs : List Nat) (hn : n ≤ 256) (h1 : Fs w a n c xs) : Calls Try.prog 29 #[.slice a n c] w (FB w (pr 256 xs) true) := by
  have hd : decide (256 < (n : Int)) = false := by simp; omega
  go_enter Try.func29, Try.ntmps29
  go_wp2_with (first | (go_at_call 51; refine (impl_any 256 _ _ _ _ _ hn hn h1).mono ?_; rintro e w1 ⟨r, m, rfl, rfl, hr⟩) | go_in)
  go_ret2
  exact ⟨r, m, rfl, rfl, hr⟩
theorem impl_no (w : World) (a : Option Addr) (n c : Nat) (hn : 256 < n) : Calls Try.prog 29 #[.slice a n c] w (FB w 0 false) := by
  go_enter Try.func29, Try.ntmps29
  go_wp2
  go_ret2
  exact ⟨0, 0, rfl, rfl, rfl⟩
theorem both (n : Nat) (xs : List Nat) (_hn : n ≤ 1048576) (_hl : n = xs.length) : ∃ ok s, (∀ w a c, Fs w a n c xs → Calls Try.prog 28 #[.slice a n c] w (FB w s ok)) ∧ (∀ w a c, Fs w a n c xs → Calls Try.prog 29 #[.slice a n c] w (FB w s ok)) := by
  by_cases h : n ≤ 256
  · exact ⟨true, _, fun w a c h1 => spec_yes w a n c xs h h1, fun w a c h1 => impl_yes w a n c xs h h1⟩
  · exact ⟨false, _, fun w a c _ => spec_no w a n c (by omega), fun w a c _ => impl_no w a n c (by omega)⟩
theorem walk (w : World) (a0 : Option Addr) (n0 c0 : Nat) (xs0 : List Nat) (h0 : Fs w a0 n0 c0 xs0) (_b0 : ∀ x ∈ xs0, x < 4294967296) :
    Calls Try.prog 8 #[.slice a0 n0 c0] w fun e w' => e = .returned (.bool true) ∧ Below w.heap.size w w' := by
  have m0 := h0.cap2
  have q0 := h0.cap1
  unfold maxLen at m0
  by_cases g0 : 1048576 < n0
  · go_enter Try.func8, Try.ntmps8
    go_wp2
    go_ret
    exact ⟨rfl, Below.refl _ _⟩
  have hn0 : n0 ≤ 1048576 := by omega
  obtain ⟨ok, s, hs, hi⟩ := both n0 xs0 hn0 h0.len
  go_enter Try.func8, Try.ntmps8
  have T := Below.refl w.heap.size w
  go_wp2_with fail
  refine (toF32 _ _ _ _ _ hn0 h0).mono ?_
  rintro e w1 ⟨p1, rfl, o1, e1⟩
  have f1 := Fs.own o1
  have T := T.trans (e1.mono T.size)
  have h0 := h0.below e1
  clear o1 e1
  go_wp2_with fail
  refine (hs _ _ _ f1).mono ?_
  rintro e w2 ⟨r2, k2, rfl, rfl, y2⟩
  have Y2 := Lib.hid y2
  clear y2
  have T := below_drewN T k2
  have h0 := h0.drew k2
  have f1 := f1.drew k2
  generalize w1.drewN k2 = w2 at *
  go_wp2_with fail
  refine (toF32 _ _ _ _ _ hn0 h0).mono ?_
  rintro e w3 ⟨p3, rfl, o3, e3⟩
  have f3 := Fs.own o3
  have T := T.trans (e3.mono T.size)
  have h0 := h0.below e3
  clear o3 e3
  go_wp2_with fail
  refine (hi _ _ _ f3).mono ?_
  rintro e w4 ⟨r4, k4, rfl, rfl, y4⟩
  have Y4 := Lib.hid y4
  clear y4
  have T := below_drewN T k4
  have h0 := h0.drew k4
  have f3 := f3.drew k4
  generalize w3.drewN k4 = w4 at *
  go_wp2_with fail
  refine (sameFloat _ _ _ (cnw (Y4.out.trans Y2.out.symm) _ _)).mono ?_
  rintro e w5 ⟨rfl, rfl⟩
  have T := below_drewN T (wdr r4 + wdr r2)
  have h0 := h0.drew (wdr r4 + wdr r2)
  have f3 := f3.drew (wdr r4 + wdr r2)
  generalize w4.drewN (wdr r4 + wdr r2) = w5 at *
  go_wp2_with fail
  refine (toF32 _ _ _ _ _ hn0 h0).mono ?_
  rintro e w6 ⟨p6, rfl, o6, e6⟩
  have f6 := Fs.own o6
  have T := T.trans (e6.mono T.size)
  have h0 := h0.below e6
  have f3 := f3.below e6
  clear o6 e6
  go_wp2_with fail
  refine (eqF32 _ _ _ _ _ _ _ _ hn0 f3 f6 rfl).mono ?_
  rintro e w7 ⟨k7, rfl, rfl⟩
  have T := below_drewN T k7
  have h0 := h0.drew k7
  have f3 := f3.drew k7
  generalize w6.drewN k7 = w7 at *
  go_wp2
  go_ret
  exact ⟨rfl, T⟩
theorem own : ownKnob Try.prog.godebug = none := by kernel_rfl
theorem laidOut : laidOutB Try.prog = true := by kernel_rfl
set_option maxRecDepth 100000 in
theorem lifted (os : Os) (started : os.Started) (H : Type) (enc : TypeId × Value → H) :
    ReturnsInHanded {} Try.checked os 8 .any (Rows.fnExactSumPairsSpec.pre6 enc Try.prog Try.f8 Rows.fnExactSumPairsRow.domain false) (Rows.fnExactSumPairsSpec.post enc Try.prog Try.f8 false true false false) := by
  refine returnsInHanded_of_change (C := Try.checked) own started (by kernel_rfl) Try.func8
    (ChangeSpec.witness6 (enc := enc) (C := Try.checked) false ⟨#[], #[.slice none 0 0], []⟩ 8 (by kernel_rfl) (by kernel_rfl) (by kernel_rfl) (by kernel_rfl)) ?_
  intro W base args ds gs before hval0 hW hcnd _
  have hval : ∀ (j : Nat) t v, Try.f8.params[j]? = some t → args[j]? = some v → Value.okWide Try.prog W .any base t v := hval0
  have hW' := hW
  obtain ⟨p, q, hA0, hV, rfl, hfz, hnd⟩ := hW
  have hA : DataW.TrodAll enc Try.prog W 0 (fun _ => true) true Try.f8.params.toList args.toList ds p := hA0
  rw [Try.params8] at hA hval
  obtain ⟨v0, vs0, d0, ds0, p0, q0, hargs, rfl, rfl, h0, r0⟩ := trodAll_cons hA
  obtain ⟨rfl, rfl, rfl⟩ := trodAll_nil r0
  obtain rfl : args = #[v0] := by cases args; simp_all
  obtain ⟨rfl, rfl⟩ := trodVars_none hV
  have k0 := h0
  have lt0 : ∀ x ∈ p0, x.block < W.heap.size := by obtain ⟨m, hm⟩ := k0; exact DataW.trod_lt m _ _ _ hm
  obtain ⟨a0, n0, c0, z0, rfl, f0, b0⟩ := open_floats Try.underlying22 Try.underlying23 (by kernel_rfl) (hval 0 22 v0 rfl rfl) h0
  clear hA0 hval0
  refine (walk W a0 n0 c0 z0 f0 b0).mono fun e W' ⟨he, bel⟩ => ?_
  subst he
  exact ⟨_, rfl, _, _, _, [], _, [], hW', trodAll_mk1 (shut_bool Try.underlying4 _), (trodAll_cons_mk (Below.trod laidOut (by kernel_rfl) (of_decide_eq_true (by kernel_rfl)) k0 bel lt0) trodAll_mk0), rfl, bel.frame _, fun h => by cases h⟩

theorem over : Rows.fnExactSumPairsRow.holds Try.pinned (OpenSpec.ofChange Rows.fnExactSumPairsSpec) :=
  OpenClaim.holds_of_wide 8 Try.f8 rfl rfl rfl rfl rfl rfl rfl ⟨rfl, rfl, rfl, rfl, rfl⟩ rfl rfl rfl rfl rfl (by kernel_rfl) Try.func8 (by kernel_rfl)
    (of_decide_eq_true (by kernel_rfl)) (by unfold Func.isWrapper; first | (rw [if_pos (by decide +kernel)]; kernel_rfl) | (rw [if_neg (by decide +kernel)]; exact ⟨rfl, rfl⟩))
    (fun os started H enc _ => lifted os started H enc)

theorem proved : Rows.FnExactSumPairsSaid := over
end Go.Proofs.Ytfoanhffcghjaaa.sumPairs
