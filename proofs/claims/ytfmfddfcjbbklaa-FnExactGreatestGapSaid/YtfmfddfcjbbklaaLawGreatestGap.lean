/- The law FnExactGreatestGap holds for every input. No conditions. -/
import Derived.Test.YtfmfddfcjbbklaaValid
import Derived.Test.YtfmfddfcjbbklaaLike
import Derived.Test.YtfmfddfcjbbklaaFin
import Derived.Test.YtfmfddfcjbbklaaPos
import Derived.Deep.CutRange
import Derived.Test.YtfmfddfcjbbklaaOpen
import Derived.ProofKit
import Derived.OpenShut
import Derived.ChangeOld
import Derived.WalkSmall
namespace Go.Proofs.Ytfmfddfcjbbklaa.greatestGap
open Go.ChangeShapes Go.WideShapes Go.ChangeAt Go.RowKit Go.Fl Go.Reg
/-- the difference of two numbers, its size -/
def dd (x y : Nat) : Nat := ab (fop .sub .f64 (wid x) (wid y))
theorem dd_cn {x y a : Nat} (h : cn .f64 a = cn .f64 (fop .sub .f64 (wid x) (wid y))) : isNaN .f64 (ab a) = isNaN .f64 (dd x y) ∧ (isNaN .f64 (dd x y) = false → ab a = dd x y) := by
  have e := cn_eq_nan h
  unfold dd
  rw [ab_nan, ab_nan, e]
  refine ⟨rfl, fun hn => ?_⟩
  rw [cn_of_not (by rw [e]; exact hn), cn_of_not hn] at h
  rw [h]
theorem conv_cn {x y u v : Nat} (hu : cn .f64 u = cn .f64 (wid x)) (hv : cn .f64 v = cn .f64 (wid y)) (w : World) : cn .f64 (fres .sub .f64 u v w) = cn .f64 (fop .sub .f64 (wid x) (wid y)) := by rw [fres_fop, fop_l .sub hu, fop_r .sub hv]
/-- the greatest of the first k -/
def bst (xs ys : List Nat) : Nat → Nat
  | 0 => 0
  | k + 1 => max (bst xs ys k) (dd (xs[k]?.getD 0) (ys[k]?.getD 0))
/-- one of the first n differences is none -/
def bad (xs ys : List Nat) (n : Nat) : Bool := (List.range n).any fun j => isNaN .f64 (dd (xs[j]?.getD 0) (ys[j]?.getD 0))
def gp (xs ys : List Nat) (n : Nat) : Nat := if bad xs ys n then qn .f64 else bst xs ys n
theorem gp_bad {xs ys : List Nat} {n k r : Nat} (hk : k < n) (h : isNaN .f64 (dd (xs[k]?.getD 0) (ys[k]?.getD 0)) = true) (hr : isNaN .f64 r = true) : cn .f64 r = cn .f64 (gp xs ys n) := by
  have : bad xs ys n = true := by unfold bad; rw [List.any_eq_true]; exact ⟨k, List.mem_range.2 hk, h⟩
  unfold gp; rw [this, cn_of_nan hr]; simp [cn_of_nan (isNaN_qn .f64)]
theorem gp_good {xs ys : List Nat} {n : Nat} (h : ∀ j, j < n → isNaN .f64 (dd (xs[j]?.getD 0) (ys[j]?.getD 0)) = false) : gp xs ys n = bst xs ys n := by
  have : bad xs ys n = false := by unfold bad; rw [List.any_eq_false]; exact fun j hj => by rw [h j (List.mem_range.1 hj)]; simp
  unfold gp; rw [this]; rfl
theorem bst_le {xs ys : List Nat} : ∀ {n : Nat}, (∀ j, j < n → isNaN .f64 (dd (xs[j]?.getD 0) (ys[j]?.getD 0)) = false) → bst xs ys n ≤ ir .f64
  | 0, _ => Nat.zero_le _
  | n + 1, h => Nat.max_le.2 ⟨bst_le (fun j hj => h j (by omega)), by have := h n (by omega); unfold dd at this ⊢; rw [ab_nan] at this; exact ab_le this⟩
theorem absW (b : Nat) (w : World) : Calls Try.prog 55 #[.float .f64 b] w fun e w' => e = .returned (.float .f64 (ab b)) ∧ w' = w := by
  have e : (bits .andNot .u64 (b : Int) 9223372036854775808).toNat = ab b := by rw [u64_andNot63]; rfl
  have HE := Lib.hid e
  clear e
  go_enter Try.func55, Try.ntmps55
  go_wp2
  go_ret
  exact ⟨by rw [← HE.out]; rfl, rfl⟩
def AbsD (x y : Nat) (w : World) (e : Ending) (w' : World) : Prop := ∃ a, e = .returned (.float .f64 a) ∧ isNaN .f64 a = isNaN .f64 (dd x y) ∧ (isNaN .f64 (dd x y) = false → a = dd x y) ∧ w = w'
theorem absD {x y b : Nat} (h : cn .f64 b = cn .f64 (fop .sub .f64 (wid x) (wid y))) (w : World) : Calls Try.prog 55 #[.float .f64 b] w (AbsD x y w) := by
  refine (absW b w).mono ?_
  rintro e w' ⟨rfl, rfl⟩
  exact ⟨_, rfl, (dd_cn h).1, (dd_cn h).2, rfl⟩
theorem nanW (w : World) : Calls Try.prog 57 #[] w fun e w' => e = .returned (.float .f64 9221120237041090561) ∧ w' = w := by
  go_enter Try.func57, Try.ntmps57
  go_wp2
  go_ret
  exact ⟨rfl, rfl⟩
theorem nan1 : isNaN .f64 9221120237041090561 = true := by decide +kernel
theorem max_lt {m d : Nat} (hm : m ≤ ir .f64) (hd : d ≤ ir .f64) (h : m < d) : FloatKind.f64.format.order d m = some .gt ∧ FloatKind.f64.format.order m d = some .lt ∧ max m d = d := ⟨by rw [ord_pos hd hm, Nat.compare_eq_gt.2 h], by rw [ord_pos hm hd, Nat.compare_eq_lt.2 h], by omega⟩
theorem max_gt {m d : Nat} (hm : m ≤ ir .f64) (hd : d ≤ ir .f64) (h : d < m) : FloatKind.f64.format.order d m = some .lt ∧ FloatKind.f64.format.order m d = some .gt ∧ max m d = m := ⟨by rw [ord_pos hd hm, Nat.compare_eq_lt.2 h], by rw [ord_pos hm hd, Nat.compare_eq_gt.2 h], by omega⟩
theorem max_eq {m : Nat} (hm : m ≤ ir .f64) : FloatKind.f64.format.order m m = some .eq ∧ max m m = m := ⟨by rw [ord_pos hm hm, Nat.compare_eq_eq.2 rfl], by omega⟩
theorem dd_le {x y : Nat} (h : isNaN .f64 (dd x y) = false) : dd x y ≤ ir .f64 := by unfold dd at h ⊢; rw [ab_nan] at h; exact ab_le h
section
variable {P : Program} {t s u : TypeId} {m d : Nat} {w : World}
theorem max_run_lt (h : FloatKind.f64.format.order m d = some .lt) : (Builtin.max_ #[t, s] u #[.float .f64 m, .float .f64 d]).run P w = .ok (.float .f64 d) w := by
  simp [Builtin.max_, Builtin.max2, h]
theorem max_run_gt (h : FloatKind.f64.format.order m d = some .gt) : (Builtin.max_ #[t, s] u #[.float .f64 m, .float .f64 d]).run P w = .ok (.float .f64 m) w := by
  simp [Builtin.max_, Builtin.max2, h]
theorem max_run_eq (h : FloatKind.f64.format.order m m = some .eq) : (Builtin.max_ #[t, s] u #[.float .f64 m, .float .f64 m]).run P w = .ok (.float .f64 m) w := by
  simp [Builtin.max_, Builtin.max2, h]
end
set_option maxHeartbeats 1000000 in
theorem specS (r c : Int) (a : Option Addr) (n cap : Nat) (xs : List Nat) (r2 c2 : Int) (x2 : Option Addr) (n2 cap2 : Nat) (zs : List Nat) (w : World) (h1 : Fs w a n cap xs) (h2 : Fs w x2 n2 cap2 zs) :
    Calls Try.prog 23 #[.agg #[.int .i64 r, .int .i64 c, .slice a n cap], .agg #[.int .i64 r2, .int .i64 c2, .slice x2 n2 cap2]] w (FN .f64 w (if lk r c n r2 c2 n2 = true then gp xs zs n else 0) (lk r c n r2 c2 n2)) := by
  have HM := Lib.hid (Nat.le_trans h1.cap1 h1.cap2)
  have HM2 := Lib.hid (Nat.le_trans h2.cap1 h2.cap2)
  have H1 := Lib.hid h1
  have H2 := Lib.hid h2
  clear h1 h2
  cases hv : lk r c n r2 c2 n2
  · rw [if_neg (by simp)]
    have HV := Lib.hid hv
    clear hv
    go_enter Try.func23, Try.ntmps23
    go_wp2_with fail
    refine calls_at ?_
    intro w1 hA
    have A : Below w.heap.size w w1 := by rw [hA]; exact ((Below.refl _ _).alloc (Nat.le_refl _) _).alloc (by simp <;> omega) _
    have zw1 : w1.heap.size = w.heap.size + 1 + 1 := by rw [hA]; simp
    have Q_ : Box w1 (w.heap.size) r c a n cap := by rw [hA]; exact ⟨by simp [go_sem], by simp [go_sem], by simp [go_sem], by simp <;> omega⟩
    have P_ : Box w1 (w.heap.size + 1) r2 c2 x2 n2 cap2 := by rw [hA]; exact ⟨by simp [go_sem], by simp [go_sem], by simp [go_sem], by simp <;> omega⟩
    clear hA
    have zw1a := Nat.le_of_eq zw1
    have zw1b := Nat.le_of_eq zw1.symm
    clear zw1
    have T := A
    clear A
    have Q := Lib.hid Q_
    clear Q_
    have P := Lib.hid P_
    clear P_
    refine (likeS r c a n cap _ r2 c2 x2 n2 cap2 _ _ HM.out HM2.out Q.out P.out).mono ?_
    rintro e w2 ⟨rfl, mm, hw⟩
    have A := below_of_drew hw
    clear hw
    have T := T.trans (A.mono T.size)
    have Q := Lib.hid (Q.out.below A)
    have P := Lib.hid (P.out.below A)
    have zw2 := A.size
    clear A
    rw [HV.out]
    go_wp2
    go_ret2
    exact ⟨0, rfl, rfl, T⟩
  · rw [if_pos rfl]
    obtain ⟨v1, e1, e2, e3⟩ := lk_yes hv
    have e1 := e1.symm
    have e2 := e2.symm
    have e3 := e3.symm
    subst e1 e2 e3
    have hn := (vt_le v1).2
    have hk1 := H1.out.cap1
    have hk2 := H2.out.cap1
    have HV := Lib.hid hv
    clear hv v1
    go_enter Try.func23, Try.ntmps23
    go_wp2_with fail
    refine calls_at ?_
    intro w1 hA
    have A : Below w.heap.size w w1 := by rw [hA]; exact ((Below.refl _ _).alloc (Nat.le_refl _) _).alloc (by simp <;> omega) _
    have zw1 : w1.heap.size = w.heap.size + 1 + 1 := by rw [hA]; simp
    have Q_ : Box w1 (w.heap.size) r c a n cap := by rw [hA]; exact ⟨by simp [go_sem], by simp [go_sem], by simp [go_sem], by simp <;> omega⟩
    have P_ : Box w1 (w.heap.size + 1) r c x2 n cap2 := by rw [hA]; exact ⟨by simp [go_sem], by simp [go_sem], by simp [go_sem], by simp <;> omega⟩
    clear hA
    have zw1a := Nat.le_of_eq zw1
    have zw1b := Nat.le_of_eq zw1.symm
    clear zw1
    have T := A
    clear A
    have Q := Lib.hid Q_
    clear Q_
    have P := Lib.hid P_
    clear P_
    refine (likeS r c a n cap _ r c x2 n cap2 _ _ HM.out HM2.out Q.out P.out).mono ?_
    rintro e w2 ⟨rfl, mm, hw⟩
    have A := below_of_drew hw
    clear hw
    have T := T.trans (A.mono T.size)
    have Q := Lib.hid (Q.out.below A)
    have P := Lib.hid (P.out.below A)
    have zw2 := A.size
    clear A
    rw [HV.out]
    obtain ⟨Q0, Q1, Q2, Q3⟩ := Q.out
    obtain ⟨P0, P1, P2, P3⟩ := P.out
    go_wp2_with fail
    clear Q0 Q1 Q2 Q3 P0 P1 P2 P3
    go_loopw [6, 7] (fun mm i w' => ∃ k : Nat, k ≤ n ∧ i = .int .i64 k ∧ mm = .float .f64 (bst xs zs k) ∧ Hid (∀ j, j < k → isNaN .f64 (dd (xs[j]?.getD 0) (zs[j]?.getD 0)) = false) ∧ Below w2.heap.size w2 w') (fun _ i _ => n - (intOf i).toNat)
    case atStart => exact ⟨0, Nat.zero_le _, rfl, rfl, fun j hj => absurd hj (Nat.not_lt_zero _), Below.refl _ _⟩
    case round =>
      obtain ⟨k, hk, rfl, rfl, hall, BW⟩ := hrel
      have BT := T.trans (BW.mono T.size)
      by_cases hlt : k < n
      · obtain ⟨ba, oa, rfl, hca⟩ := H1.out.cell k hlt
        obtain ⟨bb, ob, rfl, hcb⟩ := H2.out.cell k hlt
        have ca := (BT.cell (p := ⟨ba, oa + k, none⟩) (World.block_lt_of_cell? w _ hca)).trans hca
        have cb := (BT.cell (p := ⟨bb, ob + k, none⟩) (World.block_lt_of_cell? w _ hcb)).trans hcb
        clear hca hcb
        obtain ⟨q0, q1, q2, q3⟩ := Q.out.below BW
        obtain ⟨p0, p1, p2, p3⟩ := P.out.below BW
        have FACT : ∀ w', Bl wr w' → w'.cell? ⟨w.heap.size, 2, none⟩ = some (.slice (some ⟨ba, oa, none⟩) n cap) ∧ w'.cell? ⟨w.heap.size + 1, 2, none⟩ = some (.slice (some ⟨bb, ob, none⟩) n cap2) ∧ w'.cell? ⟨ba, oa + k, none⟩ = some (.float .f32 (xs[k]?.getD 0)) ∧ w'.cell? ⟨bb, ob + k, none⟩ = some (.float .f32 (zs[k]?.getD 0)) := fun w' hb => ⟨(hb.cell (p := ⟨w.heap.size, 2, none⟩) q3).trans q2, (hb.cell (p := ⟨w.heap.size + 1, 2, none⟩) p3).trans p2, (hb.cell (p := ⟨ba, oa + k, none⟩) (World.block_lt_of_cell? wr _ ca)).trans ca, (hb.cell (p := ⟨bb, ob + k, none⟩) (World.block_lt_of_cell? wr _ cb)).trans cb⟩
        have FA := Lib.hid FACT
        clear FACT
        go_wp2_with fail
        clear q0 q1 q2 q3 p0 p1 p2 p3 ca cb
        refine wp_plan 14 [0, 0, 0, 0, 0, 1, 0, 0, 0, 0, 0, 1, 1, 2, 0] (.go 0 (.go 1 (.go 2 (.go 3 (.go 4 (.go 6 (.go 7 (.go 8 (.go 9 (.go 10 (.either 5 11 (.only 11 (.only 12 (.only 13 .fin))) (.only 5 (.only 12 (.only 13 .fin)))))))))))))) (Bl wr) (by kernel_rfl) (by kernel_rfl) (Bl.refl _) Bl.drew ?_
        simp only [List.drop_succ_cons, List.drop_zero]
        refine plan_go (pl0 (v := ?_) (by rfl) rfl rfl (fun w' hw' => ?_) (fun K hK => ?_))
        rotate_left
        · obtain ⟨q0, q1, q2, q3⟩ := FA.out w' hw'
          go_simp
          rfl
        go_simp
        refine hK _ _ ?_
        clear hK K
        refine plan_go (pl0 (v := ?_) (by rfl) rfl rfl (fun w' hw' => ?_) (fun K hK => ?_))
        rotate_left
        · obtain ⟨q0, q1, q2, q3⟩ := FA.out w' hw'
          go_simp
          rfl
        go_simp
        refine hK _ _ ?_
        clear hK K
        refine plan_go (pl0 (v := ?_) (by rfl) rfl rfl (fun w' hw' => ?_) (fun K hK => ?_))
        rotate_left
        · obtain ⟨q0, q1, q2, q3⟩ := FA.out w' hw'
          go_simp
          rfl
        go_simp
        refine hK _ _ ?_
        clear hK K
        refine plan_go (pl0 (v := ?_) (by rfl) rfl rfl (fun w' hw' => ?_) (fun K hK => ?_))
        rotate_left
        · obtain ⟨q0, q1, q2, q3⟩ := FA.out w' hw'
          go_simp
          rfl
        go_simp
        refine hK _ _ ?_
        clear hK K
        refine plan_go (pl0 (v := ?_) (by rfl) rfl rfl (fun w' hw' => ?_) (fun K hK => ?_))
        rotate_left
        · obtain ⟨q0, q1, q2, q3⟩ := FA.out w' hw'
          go_simp
          rfl
        go_simp
        refine hK _ _ ?_
        clear hK K
        refine plan_go (pl0 (v := ?_) (by rfl) rfl rfl (fun w' hw' => ?_) (fun K hK => ?_))
        rotate_left
        · obtain ⟨q0, q1, q2, q3⟩ := FA.out w' hw'
          go_simp
          rfl
        go_simp
        refine hK _ _ ?_
        clear hK K
        refine plan_go (pl0 (v := ?_) (by rfl) rfl rfl (fun w' hw' => ?_) (fun K hK => ?_))
        rotate_left
        · obtain ⟨q0, q1, q2, q3⟩ := FA.out w' hw'
          go_simp
          rfl
        go_simp
        refine hK _ _ ?_
        clear hK K
        refine plan_go (pl0 (v := ?_) (by rfl) rfl rfl (fun w' hw' => ?_) (fun K hK => ?_))
        rotate_left
        · obtain ⟨q0, q1, q2, q3⟩ := FA.out w' hw'
          go_simp
          rfl
        go_simp
        refine hK _ _ ?_
        clear hK K
        refine plan_go (pl0 (v := ?_) (by rfl) rfl rfl (fun w' hw' => ?_) (fun K hK => ?_))
        rotate_left
        · obtain ⟨q0, q1, q2, q3⟩ := FA.out w' hw'
          go_simp
          rfl
        go_simp
        refine hK _ _ ?_
        clear hK K
        refine plan_go (pl0 (v := ?_) (by rfl) rfl rfl (fun w' hw' => ?_) (fun K hK => ?_))
        rotate_left
        · obtain ⟨q0, q1, q2, q3⟩ := FA.out w' hw'
          go_simp
          rfl
        go_simp
        refine hK _ _ ?_
        clear hK K
        refine plan_either ?_ ?_
        · skip
          refine pl1 (by rfl) rfl rfl (fun K hK => ?_)
          go_simp
          intro w' _
          refine hK _ _ ?_
          clear hK K
          have Hu1 := Lib.hid ((fwid_wid _ _ : cn .f64 (fwid (xs[k]?.getD 0) w') = cn .f64 (wid (xs[k]?.getD 0))))
          generalize fwid (xs[k]?.getD 0) w' = u1 at *
          refine plan_only (pl1 (by rfl) rfl rfl (fun K hK => ?_))
          go_simp
          intro w' _
          refine hK _ _ ?_
          clear hK K
          have Hu2 := Lib.hid ((fwid_wid _ _ : cn .f64 (fwid (zs[k]?.getD 0) w') = cn .f64 (wid (zs[k]?.getD 0))))
          generalize fwid (zs[k]?.getD 0) w' = u2 at *
          refine plan_only (pl1 (by rfl) rfl rfl (fun K hK => ?_))
          go_simp
          intro w' _
          refine hK _ _ ?_
          clear hK K
          have Hu := Lib.hid (conv_cn Hu1.out Hu2.out w')
          generalize fres .sub .f64 u1 u2 w' = u at *
          refine plan_only (pl2 (by rfl) rfl rfl (fun K hK => ?_))
          go_simp
          intro m13
          refine (absD (x := xs[k]?.getD 0) (y := zs[k]?.getD 0) Hu.out _).mono ?_
          rintro e w9 ⟨u3, rfl, g1, g2, rfl⟩
          have G0 := Lib.hid (And.intro g1 g2)
          clear g1 g2
          refine ⟨_, rfl, bdrew (Below.refl _ _) _, hK _ _ ?_⟩
          clear hK K
          refine plan_fin (fun nF => ?_)
          have TB := Lib.hid BW
          clear Hu Hu1 Hu2
          have g1 := G0.out.1
          have g2 := G0.out.2
          clear G0
          cases hd : isNaN .f64 (dd (xs[k]?.getD 0) (zs[k]?.getD 0))
          · have g2 := g2 hd
            rw [hd] at g1
            have hle : dd (xs[k]?.getD 0) (zs[k]?.getD 0) ≤ ir .f64 := dd_le hd
            have hbl := bst_le hall.out
            have HALL : Hid (∀ j, j < k + 1 → isNaN .f64 (dd (xs[j]?.getD 0) (zs[j]?.getD 0)) = false) := fun j hj => by rcases Nat.lt_succ_iff_lt_or_eq.1 hj with h | h; exact hall.out j h; subst h; exact hd
            have hB : Hid (bst xs zs (k + 1) = max (bst xs zs k) (dd (xs[k]?.getD 0) (zs[k]?.getD 0))) := rfl
            subst g2
            clear hd hall
            rcases Nat.lt_trichotomy (bst xs zs k) (dd (xs[k]?.getD 0) (zs[k]?.getD 0)) with h | h | h
            · skip
              obtain ⟨o1, o2, hmx⟩ := max_lt hbl hle h
              have HMX := Lib.hid hmx
              clear hmx h
              go_wp2
              go_roundw
              case rel => exact ⟨k + 1, by omega, by go_num, by rw [hB.out, HMX.out], HALL, bdrew TB.out _⟩
              case measure => simp [intOf]; omega
            · skip
              rw [← h] at hle hB g1 ⊢
              obtain ⟨o1, hmx⟩ := max_eq hbl
              have HMX := Lib.hid hmx
              clear hmx h
              go_wp2
              go_roundw
              case rel => exact ⟨k + 1, by omega, by go_num, by rw [hB.out, HMX.out], HALL, bdrew TB.out _⟩
              case measure => simp [intOf]; omega
            · skip
              obtain ⟨o1, o2, hmx⟩ := max_gt hbl hle h
              have HMX := Lib.hid hmx
              clear hmx h
              go_wp2
              go_roundw
              case rel => exact ⟨k + 1, by omega, by go_num, by rw [hB.out, HMX.out], HALL, bdrew TB.out _⟩
              case measure => simp [intOf]; omega
          · rw [hd] at g1
            have HD := Lib.hid hd
            have G1 := Lib.hid g1
            clear g2 hd
            go_wp2
            go_ret2
            exact ⟨_, rfl, gp_bad hlt HD.out G1.out, bdrew (T.trans (TB.out.mono T.size)) _⟩
        · skip
          refine pl1 (by rfl) rfl rfl (fun K hK => ?_)
          go_simp
          intro w' _
          refine hK _ _ ?_
          clear hK K
          have Hu2 := Lib.hid ((fwid_wid _ _ : cn .f64 (fwid (zs[k]?.getD 0) w') = cn .f64 (wid (zs[k]?.getD 0))))
          generalize fwid (zs[k]?.getD 0) w' = u2 at *
          refine plan_only (pl1 (by rfl) rfl rfl (fun K hK => ?_))
          go_simp
          intro w' _
          refine hK _ _ ?_
          clear hK K
          have Hu1 := Lib.hid ((fwid_wid _ _ : cn .f64 (fwid (xs[k]?.getD 0) w') = cn .f64 (wid (xs[k]?.getD 0))))
          generalize fwid (xs[k]?.getD 0) w' = u1 at *
          refine plan_only (pl1 (by rfl) rfl rfl (fun K hK => ?_))
          go_simp
          intro w' _
          refine hK _ _ ?_
          clear hK K
          have Hu := Lib.hid (conv_cn Hu1.out Hu2.out w')
          generalize fres .sub .f64 u1 u2 w' = u at *
          refine plan_only (pl2 (by rfl) rfl rfl (fun K hK => ?_))
          go_simp
          intro m13
          refine (absD (x := xs[k]?.getD 0) (y := zs[k]?.getD 0) Hu.out _).mono ?_
          rintro e w9 ⟨u3, rfl, g1, g2, rfl⟩
          have G0 := Lib.hid (And.intro g1 g2)
          clear g1 g2
          refine ⟨_, rfl, bdrew (Below.refl _ _) _, hK _ _ ?_⟩
          clear hK K
          refine plan_fin (fun nF => ?_)
          have TB := Lib.hid BW
          clear Hu Hu1 Hu2
          have g1 := G0.out.1
          have g2 := G0.out.2
          clear G0
          cases hd : isNaN .f64 (dd (xs[k]?.getD 0) (zs[k]?.getD 0))
          · have g2 := g2 hd
            rw [hd] at g1
            have hle : dd (xs[k]?.getD 0) (zs[k]?.getD 0) ≤ ir .f64 := dd_le hd
            have hbl := bst_le hall.out
            have HALL : Hid (∀ j, j < k + 1 → isNaN .f64 (dd (xs[j]?.getD 0) (zs[j]?.getD 0)) = false) := fun j hj => by rcases Nat.lt_succ_iff_lt_or_eq.1 hj with h | h; exact hall.out j h; subst h; exact hd
            have hB : Hid (bst xs zs (k + 1) = max (bst xs zs k) (dd (xs[k]?.getD 0) (zs[k]?.getD 0))) := rfl
            subst g2
            clear hd hall
            rcases Nat.lt_trichotomy (bst xs zs k) (dd (xs[k]?.getD 0) (zs[k]?.getD 0)) with h | h | h
            · skip
              obtain ⟨o1, o2, hmx⟩ := max_lt hbl hle h
              have HMX := Lib.hid hmx
              clear hmx h
              go_wp2
              go_roundw
              case rel => exact ⟨k + 1, by omega, by go_num, by rw [hB.out, HMX.out], HALL, bdrew TB.out _⟩
              case measure => simp [intOf]; omega
            · skip
              rw [← h] at hle hB g1 ⊢
              obtain ⟨o1, hmx⟩ := max_eq hbl
              have HMX := Lib.hid hmx
              clear hmx h
              go_wp2
              go_roundw
              case rel => exact ⟨k + 1, by omega, by go_num, by rw [hB.out, HMX.out], HALL, bdrew TB.out _⟩
              case measure => simp [intOf]; omega
            · skip
              obtain ⟨o1, o2, hmx⟩ := max_gt hbl hle h
              have HMX := Lib.hid hmx
              clear hmx h
              go_wp2
              go_roundw
              case rel => exact ⟨k + 1, by omega, by go_num, by rw [hB.out, HMX.out], HALL, bdrew TB.out _⟩
              case measure => simp [intOf]; omega
          · rw [hd] at g1
            have HD := Lib.hid hd
            have G1 := Lib.hid g1
            clear g2 hd
            go_wp2
            go_ret2
            exact ⟨_, rfl, gp_bad hlt HD.out G1.out, bdrew (T.trans (TB.out.mono T.size)) _⟩
      · have e : k = n := by omega
        subst e
        obtain ⟨q0, q1, q2, q3⟩ := Q.out.below BW
        go_wp2
        go_ret2
        exact ⟨_, rfl, by rw [gp_good hall.out], BT⟩
set_option maxHeartbeats 1000000 in
theorem implS (r c : Int) (a : Option Addr) (n cap : Nat) (xs : List Nat) (r2 c2 : Int) (x2 : Option Addr) (n2 cap2 : Nat) (zs : List Nat) (w : World) (h1 : Fs w a n cap xs) (h2 : Fs w x2 n2 cap2 zs) :
    Calls Try.prog 24 #[.agg #[.int .i64 r, .int .i64 c, .slice a n cap], .agg #[.int .i64 r2, .int .i64 c2, .slice x2 n2 cap2]] w (FN .f64 w (if lk r c n r2 c2 n2 = true then gp xs zs n else 0) (lk r c n r2 c2 n2)) := by
  have HM := Lib.hid (Nat.le_trans h1.cap1 h1.cap2)
  have HM2 := Lib.hid (Nat.le_trans h2.cap1 h2.cap2)
  have H1 := Lib.hid h1
  have H2 := Lib.hid h2
  clear h1 h2
  cases hv : lk r c n r2 c2 n2
  · rw [if_neg (by simp)]
    have HV := Lib.hid hv
    clear hv
    go_enter Try.func24, Try.ntmps24
    go_wp2_with fail
    refine calls_at ?_
    intro w1 hA
    have A : Below w.heap.size w w1 := by rw [hA]; exact ((Below.refl _ _).alloc (Nat.le_refl _) _).alloc (by simp <;> omega) _
    have zw1 : w1.heap.size = w.heap.size + 1 + 1 := by rw [hA]; simp
    have Q_ : Box w1 (w.heap.size) r c a n cap := by rw [hA]; exact ⟨by simp [go_sem], by simp [go_sem], by simp [go_sem], by simp <;> omega⟩
    have P_ : Box w1 (w.heap.size + 1) r2 c2 x2 n2 cap2 := by rw [hA]; exact ⟨by simp [go_sem], by simp [go_sem], by simp [go_sem], by simp <;> omega⟩
    clear hA
    have zw1a := Nat.le_of_eq zw1
    have zw1b := Nat.le_of_eq zw1.symm
    clear zw1
    have T := A
    clear A
    have Q := Lib.hid Q_
    clear Q_
    have P := Lib.hid P_
    clear P_
    refine (likeI r c a n cap r2 c2 x2 n2 cap2 _ HM.out HM2.out).mono ?_
    rintro e w2 ⟨rfl, A⟩
    have T := T.trans (A.mono T.size)
    have Q := Lib.hid (Q.out.below A)
    have P := Lib.hid (P.out.below A)
    have zw2 := A.size
    clear A
    rw [HV.out]
    go_wp2
    go_ret2
    exact ⟨0, rfl, rfl, T⟩
  · rw [if_pos rfl]
    obtain ⟨v1, e1, e2, e3⟩ := lk_yes hv
    have e1 := e1.symm
    have e2 := e2.symm
    have e3 := e3.symm
    subst e1 e2 e3
    have hn := (vt_le v1).2
    have hk1 := H1.out.cap1
    have hk2 := H2.out.cap1
    have HV := Lib.hid hv
    clear hv v1
    go_enter Try.func24, Try.ntmps24
    go_wp2_with fail
    refine calls_at ?_
    intro w1 hA
    have A : Below w.heap.size w w1 := by rw [hA]; exact ((Below.refl _ _).alloc (Nat.le_refl _) _).alloc (by simp <;> omega) _
    have zw1 : w1.heap.size = w.heap.size + 1 + 1 := by rw [hA]; simp
    have Q_ : Box w1 (w.heap.size) r c a n cap := by rw [hA]; exact ⟨by simp [go_sem], by simp [go_sem], by simp [go_sem], by simp <;> omega⟩
    have P_ : Box w1 (w.heap.size + 1) r c x2 n cap2 := by rw [hA]; exact ⟨by simp [go_sem], by simp [go_sem], by simp [go_sem], by simp <;> omega⟩
    clear hA
    have zw1a := Nat.le_of_eq zw1
    have zw1b := Nat.le_of_eq zw1.symm
    clear zw1
    have T := A
    clear A
    have Q := Lib.hid Q_
    clear Q_
    have P := Lib.hid P_
    clear P_
    refine (likeI r c a n cap r c x2 n cap2 _ HM.out HM2.out).mono ?_
    rintro e w2 ⟨rfl, A⟩
    have T := T.trans (A.mono T.size)
    have Q := Lib.hid (Q.out.below A)
    have P := Lib.hid (P.out.below A)
    have zw2 := A.size
    clear A
    rw [HV.out]
    obtain ⟨Q0, Q1, Q2, Q3⟩ := Q.out
    obtain ⟨P0, P1, P2, P3⟩ := P.out
    go_wp2_with fail
    clear Q0 Q1 Q2 Q3 P0 P1 P2 P3
    go_loopw [6, 17] (fun mm i w' => ∃ k : Nat, k ≤ n ∧ i = .int .i64 k ∧ mm = .float .f64 (bst xs zs k) ∧ Hid (∀ j, j < k → isNaN .f64 (dd (xs[j]?.getD 0) (zs[j]?.getD 0)) = false) ∧ Below w2.heap.size w2 w') (fun _ i _ => n - (intOf i).toNat)
    case atStart => exact ⟨0, Nat.zero_le _, rfl, rfl, fun j hj => absurd hj (Nat.not_lt_zero _), Below.refl _ _⟩
    case round =>
      obtain ⟨k, hk, rfl, rfl, hall, BW⟩ := hrel
      have BT := T.trans (BW.mono T.size)
      by_cases hlt : k < n
      · obtain ⟨ba, oa, rfl, hca⟩ := H1.out.cell k hlt
        obtain ⟨bb, ob, rfl, hcb⟩ := H2.out.cell k hlt
        have ca := (BT.cell (p := ⟨ba, oa + k, none⟩) (World.block_lt_of_cell? w _ hca)).trans hca
        have cb := (BT.cell (p := ⟨bb, ob + k, none⟩) (World.block_lt_of_cell? w _ hcb)).trans hcb
        clear hca hcb
        obtain ⟨q0, q1, q2, q3⟩ := Q.out.below BW
        obtain ⟨p0, p1, p2, p3⟩ := P.out.below BW
        go_wp2_with fail
        clear q0 q1 q2 q3 p0 p1 p2 p3 ca cb
        refine (absD (x := xs[k]?.getD 0) (y := zs[k]?.getD 0) (conv_cn (fwid_wid (xs[k]?.getD 0) _) (fwid_wid (zs[k]?.getD 0) _) _) _).mono ?_
        rintro e w9 ⟨u3, rfl, g1, g2, hw9⟩
        have G0 := Lib.hid (And.intro g1 g2)
        clear g1 g2
        have A : Below wr.heap.size wr w9 := by rw [← hw9]; exact bdrew (Below.refl _ _) _
        have TB := Lib.hid (BW.trans (A.mono BW.size))
        clear A hw9
        have g1 := G0.out.1
        have g2 := G0.out.2
        clear G0
        cases hd : isNaN .f64 (dd (xs[k]?.getD 0) (zs[k]?.getD 0))
        · have g2 := g2 hd
          rw [hd] at g1
          have hle : dd (xs[k]?.getD 0) (zs[k]?.getD 0) ≤ ir .f64 := dd_le hd
          have hbl := bst_le hall.out
          have HALL : Hid (∀ j, j < k + 1 → isNaN .f64 (dd (xs[j]?.getD 0) (zs[j]?.getD 0)) = false) := fun j hj => by rcases Nat.lt_succ_iff_lt_or_eq.1 hj with h | h; exact hall.out j h; subst h; exact hd
          have hB : Hid (bst xs zs (k + 1) = max (bst xs zs k) (dd (xs[k]?.getD 0) (zs[k]?.getD 0))) := rfl
          subst g2
          clear hd hall
          rcases Nat.lt_trichotomy (bst xs zs k) (dd (xs[k]?.getD 0) (zs[k]?.getD 0)) with h | h | h
          · skip
            obtain ⟨o1, o2, hmx⟩ := max_lt hbl hle h
            have HMX := Lib.hid hmx
            clear hmx h
            have hmax : ∀ w, (Builtin.max_ #[35, 35] 35 #[.float .f64 (bst xs zs k), .float .f64 (dd (xs[k]?.getD 0) (zs[k]?.getD 0))]).run Try.prog w = .ok (.float .f64 (dd (xs[k]?.getD 0) (zs[k]?.getD 0))) w := fun w => max_run_lt o2
            go_wp2
            go_roundw
            case rel => exact ⟨k + 1, by omega, by go_num, by rw [hB.out, HMX.out], HALL, TB.out⟩
            case measure => simp [intOf]; omega
          · skip
            rw [← h] at hle hB g1 ⊢
            obtain ⟨o1, hmx⟩ := max_eq hbl
            have HMX := Lib.hid hmx
            clear hmx h
            have hmax : ∀ w, (Builtin.max_ #[35, 35] 35 #[.float .f64 (bst xs zs k), .float .f64 (bst xs zs k)]).run Try.prog w = .ok (.float .f64 (bst xs zs k)) w := fun w => max_run_eq o1
            go_wp2
            go_roundw
            case rel => exact ⟨k + 1, by omega, by go_num, by rw [hB.out, HMX.out], HALL, TB.out⟩
            case measure => simp [intOf]; omega
          · skip
            obtain ⟨o1, o2, hmx⟩ := max_gt hbl hle h
            have HMX := Lib.hid hmx
            clear hmx h
            have hmax : ∀ w, (Builtin.max_ #[35, 35] 35 #[.float .f64 (bst xs zs k), .float .f64 (dd (xs[k]?.getD 0) (zs[k]?.getD 0))]).run Try.prog w = .ok (.float .f64 (bst xs zs k)) w := fun w => max_run_gt o2
            go_wp2
            go_roundw
            case rel => exact ⟨k + 1, by omega, by go_num, by rw [hB.out, HMX.out], HALL, TB.out⟩
            case measure => simp [intOf]; omega
        · rw [hd] at g1
          have HD := Lib.hid hd
          have G1 := Lib.hid g1
          clear g2 hd
          go_wp2_with fail
          refine (nanW _).mono ?_
          rintro e w9 ⟨rfl, rfl⟩
          go_wp2
          go_ret2
          exact ⟨_, rfl, gp_bad hlt HD.out nan1, T.trans (TB.out.mono T.size)⟩
      · have e : k = n := by omega
        subst e
        obtain ⟨q0, q1, q2, q3⟩ := Q.out.below BW
        go_wp2
        go_ret2
        exact ⟨_, rfl, by rw [gp_good hall.out], BT⟩
theorem both (r c : Int) (n : Nat) (xs : List Nat) (r2 c2 : Int) (n2 : Nat) (zs : List Nat) (_hn : n ≤ 1048576) (_hl : n = xs.length) (_wr : (Lit.int .i64 r).wf = true) (_wc : (Lit.int .i64 c).wf = true) (_hn2 : n2 ≤ 1048576) (_hl2 : n2 = zs.length) (_wr2 : (Lit.int .i64 r2).wf = true) (_wc2 : (Lit.int .i64 c2).wf = true) :
    ∃ ok s, (∀ w a cap x2 cap2, Fs w a n cap xs → Fs w x2 n2 cap2 zs → Calls Try.prog 23 #[.agg #[.int .i64 r, .int .i64 c, .slice a n cap], .agg #[.int .i64 r2, .int .i64 c2, .slice x2 n2 cap2]] w (FN .f64 w s ok)) ∧ (∀ w a cap x2 cap2, Fs w a n cap xs → Fs w x2 n2 cap2 zs → Calls Try.prog 24 #[.agg #[.int .i64 r, .int .i64 c, .slice a n cap], .agg #[.int .i64 r2, .int .i64 c2, .slice x2 n2 cap2]] w (FN .f64 w s ok)) :=
  ⟨_, _, fun w a cap x2 cap2 h1 h2 => specS r c a n cap xs r2 c2 x2 n2 cap2 zs w h1 h2, fun w a cap x2 cap2 h1 h2 => implS r c a n cap xs r2 c2 x2 n2 cap2 zs w h1 h2⟩
set_option maxHeartbeats 4000000 in
theorem walk (w : World) (ro0 co0 : Int) (a0 : Option Addr) (n0 c0 : Nat) (xs0 : List Nat) (h0 : Fs w a0 n0 c0 xs0) (_wr0 : (Lit.int .i64 ro0).wf = true) (_wc0 : (Lit.int .i64 co0).wf = true) (_b0 : ∀ x ∈ xs0, x < 4294967296) (ro1 co1 : Int) (a1 : Option Addr) (n1 c1 : Nat) (xs1 : List Nat) (h1 : Fs w a1 n1 c1 xs1) (_wr1 : (Lit.int .i64 ro1).wf = true) (_wc1 : (Lit.int .i64 co1).wf = true) (_b1 : ∀ x ∈ xs1, x < 4294967296) :
    Calls Try.prog 5 #[.agg #[.int .i64 ro0, .int .i64 co0, .slice a0 n0 c0], .agg #[.int .i64 ro1, .int .i64 co1, .slice a1 n1 c1]] w fun e w' => e = .returned (.bool true) ∧ Below w.heap.size w w' := by
  have m0 := h0.cap2
  have q0 := h0.cap1
  have m1 := h1.cap2
  have q1 := h1.cap1
  unfold maxLen at m0 m1
  by_cases g0 : 1048576 < n0
  · go_enter Try.func5, Try.ntmps5
    have T := Below.refl w.heap.size w
    go_wp2_with fail
    refine calls_at ?_
    intro w2 hA
    obtain ⟨w1, hB⟩ : ∃ v, v = w.alloc (.cells #[.int .i64 ro0, .int .i64 co0, .slice a0 n0 c0] 24) := ⟨_, rfl⟩
    rw [← hB] at hA
    obtain ⟨Q, A, z1, z2⟩ := box_new hB
    clear hB
    have X0 := Lib.hid Q
    clear Q
    have T := T.trans (A.mono T.size)
    have zw1 := A.size
    clear A
    have yw1 := z1
    have xw1 := z2
    clear z1 z2
    obtain ⟨Q, A, z1, z2⟩ := box_new hA
    clear hA
    have eb : w1.heap.size = w.heap.size + 1 := by omega
    rw [eb] at Q
    clear eb
    have X1 := Lib.hid Q
    clear Q
    have T := T.trans (A.mono T.size)
    have X0 := Lib.hid (X0.out.below A)
    have zw2 := A.size
    clear A
    have yw2 := z1
    have xw2 := z2
    clear z1 z2
    refine (szNo _ _ _ _ _ _ _ (Nat.le_trans h0.cap1 h0.cap2) (by omega) (by omega)).mono ?_
    rintro e wz ⟨rfl, A⟩
    have T := T.trans (A.mono T.size)
    go_wp2
    go_ret
    exact ⟨rfl, T⟩
  by_cases g1 : 1048576 < n0 + n1
  · go_enter Try.func5, Try.ntmps5
    have T := Below.refl w.heap.size w
    go_wp2_with fail
    refine calls_at ?_
    intro w2 hA
    obtain ⟨w1, hB⟩ : ∃ v, v = w.alloc (.cells #[.int .i64 ro0, .int .i64 co0, .slice a0 n0 c0] 24) := ⟨_, rfl⟩
    rw [← hB] at hA
    obtain ⟨Q, A, z1, z2⟩ := box_new hB
    clear hB
    have X0 := Lib.hid Q
    clear Q
    have T := T.trans (A.mono T.size)
    have zw1 := A.size
    clear A
    have yw1 := z1
    have xw1 := z2
    clear z1 z2
    obtain ⟨Q, A, z1, z2⟩ := box_new hA
    clear hA
    have eb : w1.heap.size = w.heap.size + 1 := by omega
    rw [eb] at Q
    clear eb
    have X1 := Lib.hid Q
    clear Q
    have T := T.trans (A.mono T.size)
    have X0 := Lib.hid (X0.out.below A)
    have zw2 := A.size
    clear A
    have yw2 := z1
    have xw2 := z2
    clear z1 z2
    refine (szYes _ _ _ _ _ _ _ (by omega) (by omega)).mono ?_
    rintro e w3 ⟨rfl, A⟩
    have T := T.trans (A.mono T.size)
    have X0 := Lib.hid (X0.out.below A)
    have X1 := Lib.hid (X1.out.below A)
    have zw3 := A.size
    clear A
    obtain ⟨X10, X11, X12, X13⟩ := X1.out
    go_wp2_with fail
    clear X10 X11 X12 X13
    refine (szNo _ _ _ _ _ _ _ (Nat.le_trans h1.cap1 h1.cap2) (by omega) (by omega)).mono ?_
    rintro e wz ⟨rfl, A⟩
    have T := T.trans (A.mono T.size)
    go_wp2
    go_ret
    exact ⟨rfl, T⟩
  have hn0 : n0 ≤ 1048576 := by omega
  have hn1 : n1 ≤ 1048576 := by omega
  obtain ⟨ok, v, hs, hi⟩ := both ro0 co0 n0 xs0 ro1 co1 n1 xs1 hn0 h0.len _wr0 _wc0 hn1 h1.len _wr1 _wc1
  go_enter Try.func5, Try.ntmps5
  have T := Below.refl w.heap.size w
  go_wp2_with fail
  refine calls_at ?_
  intro w2 hA
  obtain ⟨w1, hB⟩ : ∃ v, v = w.alloc (.cells #[.int .i64 ro0, .int .i64 co0, .slice a0 n0 c0] 24) := ⟨_, rfl⟩
  rw [← hB] at hA
  obtain ⟨Q, A, z1, z2⟩ := box_new hB
  clear hB
  have X0 := Lib.hid Q
  clear Q
  have T := T.trans (A.mono T.size)
  have zw1 := A.size
  clear A
  have yw1 := z1
  have xw1 := z2
  clear z1 z2
  obtain ⟨Q, A, z1, z2⟩ := box_new hA
  clear hA
  have eb : w1.heap.size = w.heap.size + 1 := by omega
  rw [eb] at Q
  clear eb
  have X1 := Lib.hid Q
  clear Q
  have T := T.trans (A.mono T.size)
  have X0 := Lib.hid (X0.out.below A)
  have zw2 := A.size
  clear A
  have yw2 := z1
  have xw2 := z2
  clear z1 z2
  refine (szYes _ _ _ _ _ _ _ (by omega) (by omega)).mono ?_
  rintro e w3 ⟨rfl, A⟩
  have T := T.trans (A.mono T.size)
  have X0 := Lib.hid (X0.out.below A)
  have X1 := Lib.hid (X1.out.below A)
  have zw3 := A.size
  clear A
  obtain ⟨X10, X11, X12, X13⟩ := X1.out
  go_wp2_with fail
  clear X10 X11 X12 X13
  refine (szYes _ _ _ _ _ _ _ (by omega) (by omega)).mono ?_
  rintro e w4 ⟨rfl, A⟩
  have T := T.trans (A.mono T.size)
  have X0 := Lib.hid (X0.out.below A)
  have X1 := Lib.hid (X1.out.below A)
  have zw4 := A.size
  clear A
  go_wp2_with fail
  refine wp_plan 9 [0, 2, 0, 2, 2, 0, 0, 0, 0, 0] (.go 0 (.go 2 (.only 1 (.only 3 (.only 4 (.go 5 (.go 6 (.go 7 (.only 8 .fin))))))))) (Bl w4) (by kernel_rfl) (by kernel_rfl) (Bl.refl _) Bl.drew ?_
  simp only [List.drop_succ_cons, List.drop_zero]
  refine plan_go (pl0 (v := ?_) (by rfl) rfl rfl (fun w' hw' => ?_) (fun K hK => ?_))
  rotate_left
  · obtain ⟨q0, q1, q2, q3⟩ := X0.out.below hw'
    go_simp
    rfl
  go_simp
  refine hK _ _ ?_
  clear hK K
  refine plan_go (pl0 (v := ?_) (by rfl) rfl rfl (fun w' hw' => ?_) (fun K hK => ?_))
  rotate_left
  · obtain ⟨q0, q1, q2, q3⟩ := X1.out.below hw'
    go_simp
    rfl
  go_simp
  refine hK _ _ ?_
  clear hK K
  have C1_0 : Below w4.heap.size w4 w4 := Below.refl _ _
  refine plan_only (pl2 (by rfl) rfl rfl (fun K hK => ?_))
  go_simp
  intro nA
  refine (toTens _ _ _ _ _ _ _ hn0 ((h0.below T).drew _)).mono ?_
  rintro e v1_1 ⟨g1_1, rfl, R, A0⟩
  have A : Below w4.heap.size w4 v1_1 := (bdrew (Below.refl _ _) _).trans A0
  clear A0
  refine ⟨_, rfl, C1_0.trans (A.mono C1_0.size), hK _ _ ?_⟩
  clear hK K
  have C1_1 := C1_0.trans (A.mono C1_0.size)
  have T1_1 := T.trans (A.mono T.size)
  have zz1_1 := A.size
  clear A
  have K1_1 : Row v1_1 w4.heap.size v1_1.heap.size 31 _ _ _ := R
  clear R
  refine plan_only (pl2 (by rfl) rfl rfl (fun K hK => ?_))
  go_simp
  intro nA
  refine (toTens _ _ _ _ _ _ _ hn1 ((h1.below T1_1).drew _)).mono ?_
  rintro e v1_2 ⟨g1_2, rfl, R, A0⟩
  have A : Below v1_1.heap.size v1_1 v1_2 := (bdrew (Below.refl _ _) _).trans A0
  clear A0
  refine ⟨_, rfl, C1_1.trans (A.mono C1_1.size), hK _ _ ?_⟩
  clear hK K
  have C1_2 := C1_1.trans (A.mono C1_1.size)
  have T1_2 := T1_1.trans (A.mono T1_1.size)
  have K1_1 := K1_1.below A
  have zz1_2 := A.size
  clear A
  have K1_2 : Row v1_2 v1_1.heap.size v1_2.heap.size 31 _ _ _ := R
  clear R
  refine plan_only (pl2 (by rfl) rfl rfl (fun K hK => ?_))
  go_simp
  intro nA
  refine (hs _ _ _ _ _ (K1_1.fs.drew _) (K1_2.fs.drew _)).mono ?_
  rintro e v1_3 ⟨u1, rfl, E0, A0⟩
  have E1h := Lib.hid E0
  clear E0
  have A : Below v1_2.heap.size v1_2 v1_3 := (bdrew (Below.refl _ _) _).trans A0
  clear A0
  refine ⟨_, rfl, C1_2.trans (A.mono C1_2.size), hK _ _ ?_⟩
  clear hK K
  have C1_3 := C1_2.trans (A.mono C1_2.size)
  have T1_3 := T1_2.trans (A.mono T1_2.size)
  have K1_1 := K1_1.below A
  have K1_2 := K1_2.below A
  have zz1_3 := A.size
  clear A
  refine plan_go (pl0 (v := ?_) (by rfl) rfl rfl (fun w' hw' => ?_) (fun K hK => ?_))
  rotate_left
  · go_simp
    rfl
  go_simp
  refine hK _ _ ?_
  clear hK K
  refine plan_go (pl0 (v := ?_) (by rfl) rfl rfl (fun w' hw' => ?_) (fun K hK => ?_))
  rotate_left
  · go_simp
    rfl
  go_simp
  refine hK _ _ ?_
  clear hK K
  refine plan_go (pl0 (v := ?_) (by rfl) rfl rfl (fun w' hw' => ?_) (fun K hK => ?_))
  rotate_left
  · go_simp
    rfl
  go_simp
  refine hK _ _ ?_
  clear hK K
  refine plan_only (pl0 (v := ?_) (by rfl) rfl rfl (fun w' hw' => ?_) (fun K hK => ?_))
  rotate_left
  · go_simp
    rfl
  go_simp
  refine hK _ _ ?_
  clear hK K
  refine plan_fin (fun nF => ?_)
  generalize hA : v1_3.drewN nF = w5
  have A0 := below_of_drew hA.symm
  clear hA
  have A : Below w4.heap.size w4 w5 := C1_3.trans (A0.mono C1_3.size)
  clear A0
  have T := T.trans (A.mono T.size)
  have X0 := Lib.hid (X0.out.below A)
  have X1 := Lib.hid (X1.out.below A)
  have zw5 := A.size
  clear A
  obtain ⟨X00, X01, X02, X03⟩ := X0.out
  go_wp2_with fail
  clear X00 X01 X02 X03
  refine (toTens _ _ _ _ _ _ _ hn0 (h0.below T)).mono ?_
  rintro e w6 ⟨g2, rfl, R, A⟩
  have T := T.trans (A.mono T.size)
  have X0 := Lib.hid (X0.out.below A)
  have X1 := Lib.hid (X1.out.below A)
  have zw6 := A.size
  clear A
  have K2 := R
  clear R
  obtain ⟨X10, X11, X12, X13⟩ := X1.out
  go_wp2_with fail
  clear X10 X11 X12 X13
  refine calls_at ?_
  intro w7 hA
  obtain ⟨Q, A, z1, z2⟩ := box_new (r := ro0) (c := co0) (a := (some ⟨g2, 0, none⟩)) (n := n0) (cap := n0) hA
  clear hA
  have Z0 := Lib.hid Q
  clear Q
  have T := T.trans (A.mono T.size)
  have K2 := K2.below A
  have X0 := Lib.hid (X0.out.below A)
  have X1 := Lib.hid (X1.out.below A)
  have zw7 := A.size
  clear A
  have yw7 := z1
  have xw7 := z2
  clear z1 z2
  refine (toTens _ _ _ _ _ _ _ hn1 (h1.below T)).mono ?_
  rintro e w8 ⟨g3, rfl, R, A⟩
  have T := T.trans (A.mono T.size)
  have K2 := K2.below A
  have X0 := Lib.hid (X0.out.below A)
  have X1 := Lib.hid (X1.out.below A)
  have Z0 := Lib.hid (Z0.out.below A)
  have zw8 := A.size
  clear A
  have K3 := R
  clear R
  obtain ⟨Z00, Z01, Z02, Z03⟩ := Z0.out
  go_wp2_with fail
  clear Z00 Z01 Z02 Z03
  refine calls_at ?_
  intro w9 hA
  obtain ⟨Q, A, z1, z2⟩ := box_new (r := ro1) (c := co1) (a := (some ⟨g3, 0, none⟩)) (n := n1) (cap := n1) hA
  clear hA
  have Z1 := Lib.hid Q
  clear Q
  have T := T.trans (A.mono T.size)
  have K2 := K2.below A
  have K3 := K3.below A
  have X0 := Lib.hid (X0.out.below A)
  have X1 := Lib.hid (X1.out.below A)
  have Z0 := Lib.hid (Z0.out.below A)
  have zw9 := A.size
  clear A
  have yw9 := z1
  have xw9 := z2
  clear z1 z2
  refine (hi w9 _ _ _ _ K2.fs K3.fs).mono ?_
  rintro e w10 ⟨u4, rfl, E4, A⟩
  have T := T.trans (A.mono T.size)
  have K2 := K2.below A
  have K3 := K3.below A
  have X0 := Lib.hid (X0.out.below A)
  have X1 := Lib.hid (X1.out.below A)
  have Z0 := Lib.hid (Z0.out.below A)
  have Z1 := Lib.hid (Z1.out.below A)
  have zw10 := A.size
  clear A
  have E4h := Lib.hid E4
  clear E4
  go_wp2_with fail
  refine calls_at ?_
  intro w11 hA
  have A : Below w10.heap.size w10 w11 := by rw [hA]; exact Below.refl _ _
  clear hA
  have T := T.trans (A.mono T.size)
  have K2 := K2.below A
  have K3 := K3.below A
  have X0 := Lib.hid (X0.out.below A)
  have X1 := Lib.hid (X1.out.below A)
  have Z0 := Lib.hid (Z0.out.below A)
  have Z1 := Lib.hid (Z1.out.below A)
  have zw11 := A.size
  clear A
  refine (sameFloatr _ _ _ (E4h.out.trans E1h.out.symm)).mono ?_
  rintro e w12 ⟨rfl, A⟩
  have T := T.trans (A.mono T.size)
  have K2 := K2.below A
  have K3 := K3.below A
  have X0 := Lib.hid (X0.out.below A)
  have X1 := Lib.hid (X1.out.below A)
  have Z0 := Lib.hid (Z0.out.below A)
  have Z1 := Lib.hid (Z1.out.below A)
  have zw12 := A.size
  clear A
  go_wp2_with fail
  refine wp_bl 4 [0, 0, 2, 2, 0] (by kernel_rfl) (by kernel_rfl) ?_
  simp only [List.take_succ_cons, List.take_zero, List.drop_succ_cons, List.drop_zero]
  with_reducible refine bl_step ?_
  intro K hK
  go_simp
  refine ⟨.agg #[.int .i64 ro0, .int .i64 co0, .slice (some ⟨g2, 0, none⟩) n0 n0], fun w' hw' => ?_, hK _ _ ?_⟩
  · obtain ⟨q0, q1, q2, q3⟩ := Z0.out.below hw'
    go_simp
  clear hK K
  with_reducible refine bl_step ?_
  intro K hK
  go_simp
  refine ⟨.agg #[.int .i64 ro0, .int .i64 co0, .slice a0 n0 c0], fun w' hw' => ?_, hK _ _ ?_⟩
  · obtain ⟨q0, q1, q2, q3⟩ := X0.out.below hw'
    go_simp
  clear hK K
  with_reducible refine bl_step ?_
  intro K hK
  go_simp
  intro _
  refine (toTens _ _ _ _ _ _ _ hn0 ((h0.below T).drew _)).mono ?_
  rintro e w13 ⟨g5, rfl, R, A0⟩
  have A := (bdrew (Below.refl _ _) _).trans A0
  clear A0
  refine ⟨_, rfl, A, hK _ _ ?_⟩
  clear hK K
  have BL : Below w12.heap.size w12 w13 := A
  have T := T.trans (A.mono T.size)
  have K2 := K2.below A
  have K3 := K3.below A
  have X0 := Lib.hid (X0.out.below A)
  have X1 := Lib.hid (X1.out.below A)
  have Z0 := Lib.hid (Z0.out.below A)
  have Z1 := Lib.hid (Z1.out.below A)
  have zw13 := A.size
  clear A
  have K5 := R
  clear R
  with_reducible refine bl_step ?_
  intro K hK
  go_simp
  intro _
  refine (eqTens _ _ _ _ _ _ _ _ _ _ hn0 (K2.fs.drew _) (K5.fs.drew _) rfl).mono ?_
  rintro e w14 ⟨rfl, A0⟩
  have A := (bdrew (Below.refl _ _) _).trans A0
  clear A0
  refine ⟨_, rfl, BL.trans (A.mono BL.size), hK _ _ ?_⟩
  clear hK K BL
  have T := T.trans (A.mono T.size)
  have K2 := K2.below A
  have K3 := K3.below A
  have K5 := K5.below A
  have X0 := Lib.hid (X0.out.below A)
  have X1 := Lib.hid (X1.out.below A)
  have Z0 := Lib.hid (Z0.out.below A)
  have Z1 := Lib.hid (Z1.out.below A)
  have zw14 := A.size
  clear A
  with_reducible refine wpR_nil (fun nq => ?_)
  generalize hA : w14.drewN nq = w15
  have A := below_of_drew hA.symm
  clear hA
  have T := T.trans (A.mono T.size)
  have K2 := K2.below A
  have K3 := K3.below A
  have K5 := K5.below A
  have X0 := Lib.hid (X0.out.below A)
  have X1 := Lib.hid (X1.out.below A)
  have Z0 := Lib.hid (Z0.out.below A)
  have Z1 := Lib.hid (Z1.out.below A)
  have zw15 := A.size
  clear A
  go_wp2_with fail
  refine wp_bl 4 [0, 0, 2, 2, 0] (by kernel_rfl) (by kernel_rfl) ?_
  simp only [List.take_succ_cons, List.take_zero, List.drop_succ_cons, List.drop_zero]
  with_reducible refine bl_step ?_
  intro K hK
  go_simp
  refine ⟨.agg #[.int .i64 ro1, .int .i64 co1, .slice (some ⟨g3, 0, none⟩) n1 n1], fun w' hw' => ?_, hK _ _ ?_⟩
  · obtain ⟨q0, q1, q2, q3⟩ := Z1.out.below hw'
    go_simp
  clear hK K
  with_reducible refine bl_step ?_
  intro K hK
  go_simp
  refine ⟨.agg #[.int .i64 ro1, .int .i64 co1, .slice a1 n1 c1], fun w' hw' => ?_, hK _ _ ?_⟩
  · obtain ⟨q0, q1, q2, q3⟩ := X1.out.below hw'
    go_simp
  clear hK K
  with_reducible refine bl_step ?_
  intro K hK
  go_simp
  intro _
  refine (toTens _ _ _ _ _ _ _ hn1 ((h1.below T).drew _)).mono ?_
  rintro e w16 ⟨g6, rfl, R, A0⟩
  have A := (bdrew (Below.refl _ _) _).trans A0
  clear A0
  refine ⟨_, rfl, A, hK _ _ ?_⟩
  clear hK K
  have BL : Below w15.heap.size w15 w16 := A
  have T := T.trans (A.mono T.size)
  have K2 := K2.below A
  have K3 := K3.below A
  have K5 := K5.below A
  have X0 := Lib.hid (X0.out.below A)
  have X1 := Lib.hid (X1.out.below A)
  have Z0 := Lib.hid (Z0.out.below A)
  have Z1 := Lib.hid (Z1.out.below A)
  have zw16 := A.size
  clear A
  have K6 := R
  clear R
  with_reducible refine bl_step ?_
  intro K hK
  go_simp
  intro _
  refine (eqTens _ _ _ _ _ _ _ _ _ _ hn1 (K3.fs.drew _) (K6.fs.drew _) rfl).mono ?_
  rintro e w17 ⟨rfl, A0⟩
  have A := (bdrew (Below.refl _ _) _).trans A0
  clear A0
  refine ⟨_, rfl, BL.trans (A.mono BL.size), hK _ _ ?_⟩
  clear hK K BL
  have T := T.trans (A.mono T.size)
  have K2 := K2.below A
  have K3 := K3.below A
  have K5 := K5.below A
  have K6 := K6.below A
  have X0 := Lib.hid (X0.out.below A)
  have X1 := Lib.hid (X1.out.below A)
  have Z0 := Lib.hid (Z0.out.below A)
  have Z1 := Lib.hid (Z1.out.below A)
  have zw17 := A.size
  clear A
  with_reducible refine wpR_nil (fun nq => ?_)
  generalize hA : w17.drewN nq = w18
  have A := below_of_drew hA.symm
  clear hA
  have T := T.trans (A.mono T.size)
  have K2 := K2.below A
  have K3 := K3.below A
  have K5 := K5.below A
  have K6 := K6.below A
  have X0 := Lib.hid (X0.out.below A)
  have X1 := Lib.hid (X1.out.below A)
  have Z0 := Lib.hid (Z0.out.below A)
  have Z1 := Lib.hid (Z1.out.below A)
  have zw18 := A.size
  clear A
  go_wp2
  go_ret
  exact ⟨rfl, T⟩
theorem own : ownKnob Try.prog.godebug = none := by kernel_rfl
theorem laidOut : laidOutB Try.prog = true := by kernel_rfl
set_option maxRecDepth 100000 in
theorem lifted (os : Os) (started : os.Started) (H : Type) (enc : TypeId × Value → H) :
    ReturnsInHanded {} Try.checked os 5 .any (Rows.fnExactGreatestGapSpec.pre6 enc Try.prog Try.f5 Rows.fnExactGreatestGapRow.domain false) (Rows.fnExactGreatestGapSpec.post enc Try.prog Try.f5 false true false false) := by
  refine returnsInHanded_of_change (C := Try.checked) own started (by kernel_rfl) Try.func5
    (ChangeSpec.witness6 (enc := enc) (C := Try.checked) false ⟨#[], #[.agg #[.int .i64 0, .int .i64 0, .slice none 0 0], .agg #[.int .i64 0, .int .i64 0, .slice none 0 0]], []⟩ 8 (by kernel_rfl) (by kernel_rfl) (by kernel_rfl) (by kernel_rfl)) ?_
  intro W base args ds gs before hval0 hW hcnd _
  have hval : ∀ (j : Nat) t v, Try.f5.params[j]? = some t → args[j]? = some v → Value.okWide Try.prog W .any base t v := hval0
  have hW' := hW
  obtain ⟨p, q, hA0, hV, rfl, hfz, hnd⟩ := hW
  have hA : DataW.TrodAll enc Try.prog W 0 (fun _ => true) true Try.f5.params.toList args.toList ds p := hA0
  rw [Try.params5] at hA hval
  obtain ⟨v0, vs0, d0, ds0, p0, q0, hargs, rfl, rfl, h0, r0⟩ := trodAll_cons hA
  obtain ⟨v1, vs1, d1, ds1, p1, q1, rfl, rfl, rfl, h1, r1⟩ := trodAll_cons r0
  obtain ⟨rfl, rfl, rfl⟩ := trodAll_nil r1
  obtain rfl : args = #[v0, v1] := by cases args; simp_all
  obtain ⟨rfl, rfl⟩ := trodVars_none hV
  have k0 := h0
  have lt0 : ∀ x ∈ p0, x.block < W.heap.size := by obtain ⟨m, hm⟩ := k0; exact DataW.trod_lt m _ _ _ hm
  have k1 := h1
  have lt1 : ∀ x ∈ p1, x.block < W.heap.size := by obtain ⟨m, hm⟩ := k1; exact DataW.trod_lt m _ _ _ hm
  obtain ⟨ro0, co0, a0, n0, c0, z0, rfl, f0, wr0, wc0, b0⟩ := open_tensor Try.underlying24 (by kernel_rfl) (by kernel_rfl) Try.underlying2 Try.underlying2 Try.underlying22 Try.underlying31 (by kernel_rfl) (hval 0 24 v0 rfl rfl) h0
  obtain ⟨ro1, co1, a1, n1, c1, z1, rfl, f1, wr1, wc1, b1⟩ := open_tensor Try.underlying24 (by kernel_rfl) (by kernel_rfl) Try.underlying2 Try.underlying2 Try.underlying22 Try.underlying31 (by kernel_rfl) (hval 1 24 v1 rfl rfl) h1
  clear hA0 hval0
  refine (walk W ro0 co0 a0 n0 c0 z0 f0 wr0 wc0 b0 ro1 co1 a1 n1 c1 z1 f1 wr1 wc1 b1).mono fun e W' ⟨he, bel⟩ => ?_
  subst he
  exact ⟨_, rfl, _, _, _, [], _, [], hW', trodAll_mk1 (shut_bool Try.underlying4 _), (trodAll_cons_mk (Below.trod laidOut (by kernel_rfl) (of_decide_eq_true (by kernel_rfl)) k0 bel lt0) (trodAll_cons_mk (Below.trod laidOut (by kernel_rfl) (of_decide_eq_true (by kernel_rfl)) k1 bel lt1) trodAll_mk0)), rfl, bel.frame _, fun h => by cases h⟩

theorem over : Rows.fnExactGreatestGapRow.holds Try.pinned (OpenSpec.ofChange Rows.fnExactGreatestGapSpec) :=
  OpenClaim.holds_of_wide 5 Try.f5 rfl rfl rfl rfl rfl rfl rfl ⟨rfl, rfl, rfl, rfl, rfl⟩ rfl rfl rfl rfl rfl (by kernel_rfl) Try.func5 (by kernel_rfl)
    (of_decide_eq_true (by kernel_rfl)) (by unfold Func.isWrapper; first | (rw [if_pos (by decide +kernel)]; kernel_rfl) | (rw [if_neg (by decide +kernel)]; exact ⟨rfl, rfl⟩))
    (fun os started H enc _ => lifted os started H enc)

theorem proved : Rows.FnExactGreatestGapSaid := over
end Go.Proofs.Ytfmfddfcjbbklaa.greatestGap
