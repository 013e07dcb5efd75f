/- The law FnExactSumRows holds for every input. No conditions. -/
import Derived.Test.YtfmfddfcjbbklaaValid
import Derived.Test.YtfmfddfcjbbklaaFin
import Derived.Test.YtfmfddfcjbbklaaRowT
import Derived.Test.YtfmfddfcjbbklaaClone
import Derived.Deep.CutRange
import Derived.Test.YtfmfddfcjbbklaaOpen
import Derived.ProofKit
import Derived.OpenShut
import Derived.ChangeOld
import Derived.WalkSmall
namespace Go.Proofs.Ytfmfddfcjbbklaa.sumRows
open Go.ChangeShapes Go.WideShapes Go.ChangeAt Go.RowKit Go.Fl Go.Reg
/-- the columns' sums when k numbers are added -/
def cs (xs : List Nat) (C : Nat) : Nat → List Nat
  | 0 => List.replicate C 0
  | k + 1 => (cs xs C k).set (k % C) (fop .add .f32 ((cs xs C k)[k % C]?.getD 0) (xs[k]?.getD 0))
theorem cs_len (xs : List Nat) (C k : Nat) : (cs xs C k).length = C := by induction k with | zero => simp [cs] | succ k ih => simp [cs, ih]
theorem get_cn {ys zs : List Nat} (h : ys.map (cn .f32) = zs.map (cn .f32)) (j : Nat) : cn .f32 (ys[j]?.getD 0) = cn .f32 (zs[j]?.getD 0) := by
  have := congrArg (fun l => l[j]?) h
  simp only [List.getElem?_map] at this
  cases h1 : ys[j]? <;> cases h2 : zs[j]? <;> rw [h1, h2] at this <;> simp at this ⊢
  exact this
theorem cs_step {xs ys : List Nat} {C k u : Nat} (h : ys.map (cn .f32) = (cs xs C k).map (cn .f32)) (hu : cn .f32 u = cn .f32 (fop .add .f32 (ys[k % C]?.getD 0) (xs[k]?.getD 0))) : (ys.set (k % C) u).map (cn .f32) = (cs xs C (k + 1)).map (cn .f32) := by
  rw [show cs xs C (k + 1) = (cs xs C k).set (k % C) (fop .add .f32 ((cs xs C k)[k % C]?.getD 0) (xs[k]?.getD 0)) from rfl, List.map_set, List.map_set, h, hu, fop_l .add (get_cn h (k % C))]
theorem tmod_nat (k m : Nat) : Int.tmod (k : Int) (m : Int) = (k : Int) % (m : Int) := Int.tmod_eq_emod_of_nonneg (by omega)
theorem row_cell {w : World} {lo hi : Nat} {t : TypeId} {g n cap : Nat} {ys : List Nat} (R : Row w lo hi t (.slice (some ⟨g, 0, none⟩) n cap) n ys) {j : Nat} (hj : j < n) : w.cell? ⟨g, j, none⟩ = some (.float .f32 (ys[j]?.getD 0)) := by
  obtain ⟨b, o, e, hc⟩ := R.fs.cell j hj
  injection e with e; injection e with e1 e2 e3
  subst e1; subst e2
  rwa [Nat.zero_add] at hc
/-- a number of the row is written -/
theorem row_put {w : World} {lo : Nat} {t : TypeId} {g n cap : Nat} {ys : List Nat} (R : Row w lo w.heap.size t (.slice (some ⟨g, 0, none⟩) n cap) n ys) (j u : Nat) : Row (w.setCell ⟨g, j, none⟩ (.float .f32 u)) lo (w.setCell ⟨g, j, none⟩ (.float .f32 u)).heap.size t (.slice (some ⟨g, 0, none⟩) n cap) n (ys.set j u) := by
  have h := (R.own.stored j (.float .f32 u)).1
  rw [fl_set] at h
  exact Row.of h (by simpa [World.setCell] using R.low)
theorem row_lo {w : World} {lo hi : Nat} {t : TypeId} {g n cap : Nat} {ys : List Nat} (R : Row w lo hi t (.slice (some ⟨g, 0, none⟩) n cap) n ys) : lo ≤ g := (R.own.lt g rfl).1
theorem row_fz {w : World} {lo hi : Nat} {t : TypeId} {g n cap : Nat} {ys : List Nat} (R : Row w lo hi t (.slice (some ⟨g, 0, none⟩) n cap) n ys) (j : Nat) : w.frozen? ⟨g, j, none⟩ = false := R.own.frozenAt j
def Post (t : TypeId) (w : World) (n : Nat) (S : List Nat) (e : Ending) (w' : World) : Prop :=
  ∃ a cap ys, e = .returned (.slice (some a) n cap) ∧ Row w' w.heap.size w'.heap.size t (.slice (some a) n cap) n ys ∧ ys.map (cn .f32) = S.map (cn .f32) ∧ Below w.heap.size w w'
theorem specInner (R C : Nat) (a : Option Addr) (n cap b0 : Nat) (xs : List Nat) (w : World) (_hR : 0 < R ∧ R ≤ 16) (hC : 0 < C ∧ C ≤ 16) (hn : n ≤ 256) (h1 : Fs w a n cap xs) (Q : Box w b0 (R : Int) (C : Int) a n cap) :
    Calls Try.prog 63 #[.pointer (some ⟨b0, 0, none⟩)] w (Post 31 w C (cs xs C n)) := by
  obtain ⟨i0, hi, hz0, hz1, hz2⟩ := info_parts infoF32
  have HC := Lib.hid h1.cell
  have hcap := h1.cap1
  have hcap2 := h1.cap2
  unfold maxLen at hcap2
  clear h1
  have HQ := Lib.hid Q
  obtain ⟨Q0, Q1, Q2, Q3⟩ := Q
  clear Q0 Q2
  go_enter Try.func63, Try.ntmps63
  go_wp2_with (at_make; refine wpList_make_full _ rfl _ _ 22 rfl w.heap.size 31 i0 (.float .f32 0) 1 Try.underlying22 hi hz0 hz1 _ _ _ _ C rfl rfl rfl rfl (by rw [hz2]; omega) (by unfold maxLen; omega) (Nat.le_refl _) ?_)
  intro w1 hown hgr
  rw [zeros_fl] at hown
  have T := bel_grown hgr
  have R0 := Row.of hown T.size
  have HR := Lib.hid R0
  clear hown hgr R0 Q1 hi hz0 hz1 hz2
  have c2 : w1.cell? ⟨b0, 2, none⟩ = some (.slice a n cap) := (T.cell (p := ⟨b0, 2, none⟩) Q3).trans HQ.out.c2
  go_wp2
  clear c2
  go_loopw [4] (fun i w' => ∃ (k : Nat) (ys : List Nat), k ≤ n ∧ i = .int .i64 k ∧ Row w' w.heap.size w'.heap.size 31 (.slice (some ⟨w.heap.size, 0, none⟩) C C) C ys ∧ ys.map (cn .f32) = (cs xs C k).map (cn .f32) ∧ Below w.heap.size w w') (fun i _ => n - (intOf i).toNat)
  case atStart => exact ⟨0, _, Nat.zero_le _, rfl, HR.out, rfl, T⟩
  case round =>
    obtain ⟨k, ys, hk, rfl, R1, hys, BW⟩ := hrel
    have c1 : wr.cell? ⟨b0, 1, none⟩ = some (.int .i64 (C : Int)) := (BW.cell (p := ⟨b0, 1, none⟩) Q3).trans HQ.out.c1
    have c2 : wr.cell? ⟨b0, 2, none⟩ = some (.slice a n cap) := (BW.cell (p := ⟨b0, 2, none⟩) Q3).trans HQ.out.c2
    by_cases hlt : k < n
    · obtain ⟨ba, oa, rfl, hca⟩ := HC.out k hlt
      have hba : ba < w.heap.size := World.block_lt_of_cell? w _ hca
      have ca : wr.cell? ⟨ba, oa + k, none⟩ = some (.float .f32 (xs[k]?.getD 0)) := (BW.cell (p := ⟨ba, oa + k, none⟩) hba).trans hca
      have hkm : k % C < C := Nat.mod_lt _ hC.1
      have co := row_cell R1 hkm
      have fo := row_fz R1 (k % C)
      have hm0 : ¬ C = 0 := by omega
      have et := tmod_nat k C
      have em1 : (0 : Int) ≤ (k : Int) % (C : Int) := by omega
      have em2 : (k : Int) % (C : Int) < (C : Int) := by omega
      have em3 : ((k : Int) % (C : Int)).toNat = k % C := by omega
      have HR1 := Lib.hid R1
      have HY := Lib.hid hys
      have HB := Lib.hid BW
      clear hca R1 hys BW
      go_wp2_with fail
      refine wp_dr 17 [0, 0, 0, 0, 0, 0, 0, 0, 0, 0, 0, 0, 0, 0, 0, 0, 1, 0, 0] (by kernel_rfl) (by kernel_rfl) ?_
      simp only [List.take_succ_cons, List.take_zero, List.drop_succ_cons, List.drop_zero]
      iterate 17 (with_reducible refine dr_step ?_; intro K hK; go_simp; (try intro _); refine hK _ _ ?_; clear hK K)
      refine wpR_nil (fun nq => ?_)
      go_wp2
      go_roundw
      case rel => exact ⟨k + 1, _, by omega, by go_num, (row_put HR1.out (k % C) _).drew _, cs_step HY.out (fres_fop ..), bdrew (HB.out.setCell (by simp) _) _⟩
      case measure => simp [intOf]; omega
    · have e : k = n := by omega
      subst e
      go_wp2
      go_ret
      exact ⟨_, _, ys, rfl, R1, hys, BW⟩
theorem implInner (R C : Nat) (a : Option Addr) (n cap : Nat) (xs : List Nat) (w : World) (_hR : 0 < R ∧ R ≤ 16) (hC : 0 < C ∧ C ≤ 16) (hn : n ≤ 256) (h1 : Fs w a n cap xs) :
    Calls Try.prog 64 #[.agg #[.int .i64 (R : Int), .int .i64 (C : Int), .slice a n cap]] w (Post 31 w C (cs xs C n)) := by
  obtain ⟨i0, hi, hz0, hz1, hz2⟩ := info_parts infoF32
  have HC := Lib.hid h1.cell
  have hcap := h1.cap1
  have hcap2 := h1.cap2
  unfold maxLen at hcap2
  clear h1
  go_enter Try.func64, Try.ntmps64
  go_wp2_with (at_make; refine wpList_make_full _ rfl _ _ 22 rfl (w.heap.size + 1) 31 i0 (.float .f32 0) 1 Try.underlying22 hi hz0 hz1 _ _ _ _ C rfl rfl rfl rfl (by rw [hz2]; omega) (by unfold maxLen; omega) (by simp) ?_)
  intro w1 hown hgr
  rw [zeros_fl] at hown
  have T0 := bel_grown hgr
  have Q : Box (w.alloc (.cells #[.int .i64 (R : Int), .int .i64 (C : Int), .slice a n cap] 27)) w.heap.size (R : Int) (C : Int) a n cap := (box_new rfl).1
  have HQ := Lib.hid (Q.below T0)
  have T := ((Below.refl w.heap.size w).alloc (Nat.le_refl _) (.cells #[.int .i64 (R : Int), .int .i64 (C : Int), .slice a n cap] 27)).trans (T0.mono (by simp))
  have zw : w.heap.size + 1 ≤ w1.heap.size := by have := T0.size; simpa using this
  clear T0 Q
  have R0 := Row.of hown zw
  have HR := Lib.hid R0
  clear hown hgr R0 hi hz0 hz1 hz2
  obtain ⟨q0, q1, q2, q3⟩ := HQ.out
  go_wp2
  clear q0 q1 q2 q3
  go_loopw [13] (fun i w' => ∃ (k : Nat) (ys : List Nat), k ≤ n ∧ i = .int .i64 k ∧ Row w' (w.heap.size + 1) w'.heap.size 31 (.slice (some ⟨w.heap.size + 1, 0, none⟩) C C) C ys ∧ ys.map (cn .f32) = (cs xs C k).map (cn .f32) ∧ Below (w.heap.size + 1) w1 w') (fun i _ => n - (intOf i).toNat)
  case atStart => exact ⟨0, _, Nat.zero_le _, rfl, HR.out, rfl, Below.refl _ _⟩
  case round =>
    obtain ⟨k, ys, hk, rfl, R1, hys, BW⟩ := hrel
    have BW2 : Below w.heap.size w wr := T.trans (BW.mono (by omega))
    by_cases hlt : k < n
    · obtain ⟨q0, q1, q2, q3⟩ := HQ.out.upto BW (by omega)
      obtain ⟨ba, oa, rfl, hca⟩ := HC.out k hlt
      have hba : ba < w.heap.size := World.block_lt_of_cell? w _ hca
      have ca : wr.cell? ⟨ba, oa + k, none⟩ = some (.float .f32 (xs[k]?.getD 0)) := (BW2.cell (p := ⟨ba, oa + k, none⟩) hba).trans hca
      have hkm : k % C < C := Nat.mod_lt _ hC.1
      have co := row_cell R1 hkm
      have fo := row_fz R1 (k % C)
      have hm0 : ¬ C = 0 := by omega
      have et := tmod_nat k C
      have em1 : (0 : Int) ≤ (k : Int) % (C : Int) := by omega
      have em2 : (k : Int) % (C : Int) < (C : Int) := by omega
      have em3 : ((k : Int) % (C : Int)).toNat = k % C := by omega
      have HR1 := Lib.hid R1
      have HY := Lib.hid hys
      have HB := Lib.hid BW
      clear hca R1 hys BW BW2
      go_wp2
      go_roundw
      case rel => exact ⟨k + 1, _, by omega, by go_num, (row_put HR1.out (k % C) _).drew _, cs_step HY.out (fres_fop ..), bdrew (HB.out.setCell (by simp) _) _⟩
      case measure => simp [intOf]; omega
    · have e : k = n := by omega
      subst e
      go_wp2
      go_ret
      exact ⟨_, _, ys, rfl, R1.down (by omega), hys, BW2⟩
def S (r c : Int) (n : Nat) (xs : List Nat) : List Nat := if vt r c n then cs xs c.toNat n else []
theorem S_no {r c : Int} {n : Nat} (xs : List Nat) (h : ¬ vt r c n) : S r c n xs = [] := if_neg h
theorem S_yes {R C : Nat} {n : Nat} (xs : List Nat) (h : vt (R : Int) (C : Int) n) : S (R : Int) (C : Int) n xs = cs xs C n := if_pos h
theorem S_len (r c : Int) (n : Nat) (xs : List Nat) : (S r c n xs).length ≤ 1048576 := by
  unfold S; split
  · rename_i h
    have := h.2.2.2.1
    rw [cs_len]; omega
  · simp
theorem RL_end {t : TypeId} {w wr : World} {n lo : Nat} {S ys : List Nat} {a : Addr} {cap : Nat} (hS : S.length = n) (R : Row wr lo wr.heap.size t (.slice (some a) n cap) n ys) (hy : ys.map (cn .f32) = S.map (cn .f32)) (hl : w.heap.size ≤ lo) (B : Below w.heap.size w wr) : RL t w S true (.returned (.tuple #[.slice (some a) n cap, .bool true])) wr := by
  subst hS
  exact ⟨_, _, ys, rfl, R.down hl, hy, B⟩
theorem RL_no {t : TypeId} {w wr : World} (B : Below w.heap.size w wr) : RL t w [] false (.returned (.tuple #[.slice none 0 0, .bool false])) wr := ⟨none, 0, [], rfl, Row.nil _ _ _ B.size, rfl, B⟩
theorem specS (r c : Int) (a : Option Addr) (n cap : Nat) (xs : List Nat) (w : World) (h1 : Fs w a n cap xs) :
    Calls Try.prog 31 #[.agg #[.int .i64 r, .int .i64 c, .slice a n cap]] w (RL 31 w (S r c n xs) (decide (vt r c n))) := by
  have HM : Hid (n ≤ maxLen) := Nat.le_trans h1.cap1 h1.cap2
  have H1 := Lib.hid h1
  clear h1
  cases hv : decide (vt r c n)
  · rw [S_no xs (of_decide_eq_false hv)]
    have HV := Lib.hid hv
    clear hv
    go_enter Try.func31, Try.ntmps31
    go_wp2_with fail
    refine calls_at ?_
    intro w1 hA
    have A : Below w.heap.size w w1 := by rw [hA]; exact (Below.refl _ _).alloc (Nat.le_refl _) _
    have zw1 : w1.heap.size = w.heap.size + 1 := by rw [hA]; simp
    have Q_ : Box w1 (w.heap.size) r c a n cap := by rw [hA]; exact ⟨by simp [go_sem], by simp [go_sem], by simp [go_sem], by simp <;> omega⟩
    clear hA
    have zw1a := Nat.le_of_eq zw1
    have zw1b := Nat.le_of_eq zw1.symm
    clear zw1
    have T := A
    clear A
    have Q := Lib.hid Q_
    clear Q_
    refine (isT r c a _ cap _ _ _ HM.out Q.out.c0 Q.out.c1 Q.out.c2).mono ?_
    rintro e w2 ⟨rfl, mm, hw⟩
    have A := below_of_drew hw
    clear hw
    have T := T.trans (A.mono T.size)
    have Q := Lib.hid (Q.out.below A)
    have zw2 := A.size
    clear A
    rw [HV.out]
    go_wp2
    go_ret2
    exact RL_no T
  · have hv' := of_decide_eq_true hv
    have hn := (vt_le hv').2
    obtain ⟨R, C, rfl, rfl, hR, hC, hRC⟩ := nat_of hv'
    rw [S_yes xs hv']
    have HV := Lib.hid hv
    clear hv hv' hRC
    go_enter Try.func31, Try.ntmps31
    go_wp2_with fail
    refine calls_at ?_
    intro w1 hA
    have A : Below w.heap.size w w1 := by rw [hA]; exact (Below.refl _ _).alloc (Nat.le_refl _) _
    have zw1 : w1.heap.size = w.heap.size + 1 := by rw [hA]; simp
    have Q_ : Box w1 (w.heap.size) ↑R ↑C a n cap := by rw [hA]; exact ⟨by simp [go_sem], by simp [go_sem], by simp [go_sem], by simp <;> omega⟩
    clear hA
    have zw1a := Nat.le_of_eq zw1
    have zw1b := Nat.le_of_eq zw1.symm
    clear zw1
    have T := A
    clear A
    have Q := Lib.hid Q_
    clear Q_
    refine (isT ↑R ↑C a _ cap _ _ _ HM.out Q.out.c0 Q.out.c1 Q.out.c2).mono ?_
    rintro e w2 ⟨rfl, mm, hw⟩
    have A := below_of_drew hw
    clear hw
    have T := T.trans (A.mono T.size)
    have Q := Lib.hid (Q.out.below A)
    have zw2 := A.size
    clear A
    rw [HV.out]
    obtain ⟨Q0, Q1, Q2, Q3⟩ := Q.out
    go_wp2_with fail
    clear Q0 Q1 Q2 Q3
    refine (specInner R C a _ cap _ xs _ hR hC hn (H1.out.below T) Q.out).mono ?_
    rintro e w3 ⟨a2, cap2, ys, rfl, RR, hy, A⟩
    have T := T.trans (A.mono T.size)
    have Q := Lib.hid (Q.out.below A)
    have zw3 := A.size
    clear A
    have HR := Lib.hid RR
    have HY := Lib.hid hy
    clear RR hy
    go_wp2
    go_ret2
    exact RL_end (cs_len _ _ _) HR.out HY.out (by omega) T
theorem implS (r c : Int) (a : Option Addr) (n cap : Nat) (xs : List Nat) (w : World) (h1 : Fs w a n cap xs) :
    Calls Try.prog 32 #[.agg #[.int .i64 r, .int .i64 c, .slice a n cap]] w (RL 31 w (S r c n xs) (decide (vt r c n))) := by
  have HM : Hid (n ≤ maxLen) := Nat.le_trans h1.cap1 h1.cap2
  have H1 := Lib.hid h1
  clear h1
  cases hv : decide (vt r c n)
  · rw [S_no xs (of_decide_eq_false hv)]
    have HV := Lib.hid hv
    clear hv
    go_enter Try.func32, Try.ntmps32
    go_wp2_with fail
    refine calls_at ?_
    intro w1 hA
    have A : Below w.heap.size w w1 := by rw [hA]; exact (Below.refl _ _).alloc (Nat.le_refl _) _
    have zw1 : w1.heap.size = w.heap.size + 1 := by rw [hA]; simp
    have Q_ : Box w1 (w.heap.size) r c a n cap := by rw [hA]; exact ⟨by simp [go_sem], by simp [go_sem], by simp [go_sem], by simp <;> omega⟩
    clear hA
    have zw1a := Nat.le_of_eq zw1
    have zw1b := Nat.le_of_eq zw1.symm
    clear zw1
    have T := A
    clear A
    have Q := Lib.hid Q_
    clear Q_
    refine (validT r c a _ cap _ HM.out).mono ?_
    rintro e w2 ⟨rfl, A⟩
    have T := T.trans (A.mono T.size)
    have Q := Lib.hid (Q.out.below A)
    have zw2 := A.size
    clear A
    rw [HV.out]
    go_wp2
    go_ret2
    exact RL_no T
  · have hv' := of_decide_eq_true hv
    have hn := (vt_le hv').2
    obtain ⟨R, C, rfl, rfl, hR, hC, hRC⟩ := nat_of hv'
    rw [S_yes xs hv']
    have HV := Lib.hid hv
    clear hv hv' hRC
    go_enter Try.func32, Try.ntmps32
    go_wp2_with fail
    refine calls_at ?_
    intro w1 hA
    have A : Below w.heap.size w w1 := by rw [hA]; exact (Below.refl _ _).alloc (Nat.le_refl _) _
    have zw1 : w1.heap.size = w.heap.size + 1 := by rw [hA]; simp
    have Q_ : Box w1 (w.heap.size) ↑R ↑C a n cap := by rw [hA]; exact ⟨by simp [go_sem], by simp [go_sem], by simp [go_sem], by simp <;> omega⟩
    clear hA
    have zw1a := Nat.le_of_eq zw1
    have zw1b := Nat.le_of_eq zw1.symm
    clear zw1
    have T := A
    clear A
    have Q := Lib.hid Q_
    clear Q_
    refine (validT ↑R ↑C a _ cap _ HM.out).mono ?_
    rintro e w2 ⟨rfl, A⟩
    have T := T.trans (A.mono T.size)
    have Q := Lib.hid (Q.out.below A)
    have zw2 := A.size
    clear A
    rw [HV.out]
    obtain ⟨Q0, Q1, Q2, Q3⟩ := Q.out
    go_wp2_with fail
    clear Q0 Q1 Q2 Q3
    refine (implInner R C a _ cap xs _ hR hC hn (H1.out.below T)).mono ?_
    rintro e w3 ⟨a2, cap2, ys, rfl, RR, hy, A⟩
    have T := T.trans (A.mono T.size)
    have Q := Lib.hid (Q.out.below A)
    have zw3 := A.size
    clear A
    have HR := Lib.hid RR
    have HY := Lib.hid hy
    clear RR hy
    go_wp2
    go_ret2
    exact RL_end (cs_len _ _ _) HR.out HY.out (by omega) T
theorem both (r c : Int) (n : Nat) (xs : List Nat) (_hn : n ≤ 1048576) (_hl : n = xs.length) (_wr : (Lit.int .i64 r).wf = true) (_wc : (Lit.int .i64 c).wf = true) :
    ∃ ok S, S.length ≤ 1048576 ∧ (∀ w a cap, Fs w a n cap xs → Calls Try.prog 31 #[.agg #[.int .i64 r, .int .i64 c, .slice a n cap]] w (RL 31 w S ok)) ∧ (∀ w a cap, Fs w a n cap xs → Calls Try.prog 32 #[.agg #[.int .i64 r, .int .i64 c, .slice a n cap]] w (RL 31 w S ok)) :=
  ⟨_, _, S_len r c n xs, fun w a cap h1 => specS r c a n cap xs w h1, fun w a cap h1 => implS r c a n cap xs w h1⟩
set_option maxHeartbeats 4000000 in
theorem walk (w : World) (ro0 co0 : Int) (a0 : Option Addr) (n0 c0 : Nat) (xs0 : List Nat) (h0 : Fs w a0 n0 c0 xs0) (_wr0 : (Lit.int .i64 ro0).wf = true) (_wc0 : (Lit.int .i64 co0).wf = true) (_b0 : ∀ x ∈ xs0, x < 4294967296) :
    Calls Try.prog 7 #[.agg #[.int .i64 ro0, .int .i64 co0, .slice a0 n0 c0]] w fun e w' => e = .returned (.bool true) ∧ Below w.heap.size w w' := by
  have m0 := h0.cap2
  have q0 := h0.cap1
  unfold maxLen at m0
  by_cases g0 : 1048576 < n0
  · go_enter Try.func7, Try.ntmps7
    have T := Below.refl w.heap.size w
    go_wp2_with fail
    refine calls_at ?_
    intro w1 hA
    obtain ⟨Q, A, z1, z2⟩ := box_new hA
    clear hA
    have X0 := Lib.hid Q
    clear Q
    have T := T.trans (A.mono T.size)
    have zw1 := A.size
    clear A
    have yw1 := z1
    have xw1 := z2
    clear z1 z2
    refine (szNo _ _ _ _ _ _ _ (Nat.le_trans h0.cap1 h0.cap2) (by omega) (by omega)).mono ?_
    rintro e wz ⟨rfl, A⟩
    have T := T.trans (A.mono T.size)
    go_wp2
    go_ret
    exact ⟨rfl, T⟩
  have hn0 : n0 ≤ 1048576 := by omega
  obtain ⟨ok, S, hS, hs, hi⟩ := both ro0 co0 n0 xs0 hn0 h0.len _wr0 _wc0
  go_enter Try.func7, Try.ntmps7
  have T := Below.refl w.heap.size w
  go_wp2_with fail
  refine calls_at ?_
  intro w1 hA
  obtain ⟨Q, A, z1, z2⟩ := box_new hA
  clear hA
  have X0 := Lib.hid Q
  clear Q
  have T := T.trans (A.mono T.size)
  have zw1 := A.size
  clear A
  have yw1 := z1
  have xw1 := z2
  clear z1 z2
  refine (szYes _ _ _ _ _ _ _ (by omega) (by omega)).mono ?_
  rintro e w2 ⟨rfl, A⟩
  have T := T.trans (A.mono T.size)
  have X0 := Lib.hid (X0.out.below A)
  have zw2 := A.size
  clear A
  obtain ⟨X00, X01, X02, X03⟩ := X0.out
  go_wp2_with fail
  clear X00 X01 X02 X03
  refine (toTens _ _ _ _ _ _ _ hn0 (h0.below T)).mono ?_
  rintro e w3 ⟨g1, rfl, R, A⟩
  have T := T.trans (A.mono T.size)
  have X0 := Lib.hid (X0.out.below A)
  have zw3 := A.size
  clear A
  have K1 := R
  clear R
  go_wp2_with fail
  refine (hs w3 _ _ K1.fs).mono ?_
  rintro e w4 ⟨b2, p2, ys2, rfl, R, E2, A⟩
  have T := T.trans (A.mono T.size)
  have K1 := K1.below A
  have X0 := Lib.hid (X0.out.below A)
  have zw4 := A.size
  clear A
  have K2 := R
  clear R
  have E2h := Lib.hid E2
  clear E2
  obtain ⟨X00, X01, X02, X03⟩ := X0.out
  go_wp2_with fail
  clear X00 X01 X02 X03
  refine (toTens _ _ _ _ _ _ _ hn0 (h0.below T)).mono ?_
  rintro e w5 ⟨g3, rfl, R, A⟩
  have T := T.trans (A.mono T.size)
  have K1 := K1.below A
  have K2 := K2.below A
  have X0 := Lib.hid (X0.out.below A)
  have zw5 := A.size
  clear A
  have K3 := R
  clear R
  go_wp2_with fail
  refine calls_at ?_
  intro w6 hA
  obtain ⟨Q, A, z1, z2⟩ := box_new (r := ro0) (c := co0) (a := (some ⟨g3, 0, none⟩)) (n := n0) (cap := n0) hA
  clear hA
  have Z0 := Lib.hid Q
  clear Q
  have T := T.trans (A.mono T.size)
  have K1 := K1.below A
  have K2 := K2.below A
  have K3 := K3.below A
  have X0 := Lib.hid (X0.out.below A)
  have zw6 := A.size
  clear A
  have yw6 := z1
  have xw6 := z2
  clear z1 z2
  refine (hi w6 _ _ K3.fs).mono ?_
  rintro e w7 ⟨b4, p4, ys4, rfl, R, E4, A⟩
  have T := T.trans (A.mono T.size)
  have K1 := K1.below A
  have K2 := K2.below A
  have K3 := K3.below A
  have X0 := Lib.hid (X0.out.below A)
  have Z0 := Lib.hid (Z0.out.below A)
  have zw7 := A.size
  clear A
  have K4 := R
  clear R
  have E4h := Lib.hid E4
  clear E4
  go_wp2_with fail
  refine (eqF32r _ _ _ _ _ _ _ _ hS K4.fs K2.fs (E4h.out.trans E2h.out.symm)).mono ?_
  rintro e w8 ⟨rfl, A⟩
  have T := T.trans (A.mono T.size)
  have K1 := K1.below A
  have K2 := K2.below A
  have K3 := K3.below A
  have K4 := K4.below A
  have X0 := Lib.hid (X0.out.below A)
  have Z0 := Lib.hid (Z0.out.below A)
  have zw8 := A.size
  clear A
  go_wp2_with fail
  refine wp_bl 4 [0, 0, 2, 2, 0] (by kernel_rfl) (by kernel_rfl) ?_
  simp only [List.take_succ_cons, List.take_zero, List.drop_succ_cons, List.drop_zero]
  with_reducible refine bl_step ?_
  intro K hK
  go_simp
  refine ⟨.agg #[.int .i64 ro0, .int .i64 co0, .slice (some ⟨g3, 0, none⟩) n0 n0], fun w' hw' => ?_, hK _ _ ?_⟩
  · obtain ⟨q0, q1, q2, q3⟩ := Z0.out.below hw'
    go_simp
  clear hK K
  with_reducible refine bl_step ?_
  intro K hK
  go_simp
  refine ⟨.agg #[.int .i64 ro0, .int .i64 co0, .slice a0 n0 c0], fun w' hw' => ?_, hK _ _ ?_⟩
  · obtain ⟨q0, q1, q2, q3⟩ := X0.out.below hw'
    go_simp
  clear hK K
  with_reducible refine bl_step ?_
  intro K hK
  go_simp
  intro _
  refine (toTens _ _ _ _ _ _ _ hn0 ((h0.below T).drew _)).mono ?_
  rintro e w9 ⟨g5, rfl, R, A0⟩
  have A := (bdrew (Below.refl _ _) _).trans A0
  clear A0
  refine ⟨_, rfl, A, hK _ _ ?_⟩
  clear hK K
  have BL : Below w8.heap.size w8 w9 := A
  have T := T.trans (A.mono T.size)
  have K1 := K1.below A
  have K2 := K2.below A
  have K3 := K3.below A
  have K4 := K4.below A
  have X0 := Lib.hid (X0.out.below A)
  have Z0 := Lib.hid (Z0.out.below A)
  have zw9 := A.size
  clear A
  have K5 := R
  clear R
  with_reducible refine bl_step ?_
  intro K hK
  go_simp
  intro _
  refine (eqTens _ _ _ _ _ _ _ _ _ _ hn0 (K3.fs.drew _) (K5.fs.drew _) rfl).mono ?_
  rintro e w10 ⟨rfl, A0⟩
  have A := (bdrew (Below.refl _ _) _).trans A0
  clear A0
  refine ⟨_, rfl, BL.trans (A.mono BL.size), hK _ _ ?_⟩
  clear hK K BL
  have T := T.trans (A.mono T.size)
  have K1 := K1.below A
  have K2 := K2.below A
  have K3 := K3.below A
  have K4 := K4.below A
  have K5 := K5.below A
  have X0 := Lib.hid (X0.out.below A)
  have Z0 := Lib.hid (Z0.out.below A)
  have zw10 := A.size
  clear A
  with_reducible refine wpR_nil (fun nq => ?_)
  generalize hA : w10.drewN nq = w11
  have A := below_of_drew hA.symm
  clear hA
  have T := T.trans (A.mono T.size)
  have K1 := K1.below A
  have K2 := K2.below A
  have K3 := K3.below A
  have K4 := K4.below A
  have K5 := K5.below A
  have X0 := Lib.hid (X0.out.below A)
  have Z0 := Lib.hid (Z0.out.below A)
  have zw11 := A.size
  clear A
  clear K1 K5
  obtain ⟨Z00, Z01, Z02, Z03⟩ := Z0.out
  go_wp2_with fail
  clear Z00 Z01 Z02 Z03
  refine (markTens _ _ _ _ _ _ _ _ (1) _ hn0 (by omega) K3).mono ?_
  rintro e w12 ⟨rfl, R, A⟩
  have z := A.size
  have t := T.size
  have T := T.trans (A.below (by omega) (by omega))
  have K2 := K2.keep A (by omega)
  have K4 := K4.keep A (by omega)
  have X0 := Lib.hid (X0.out.keep A (by omega))
  have Z0 := Lib.hid (Z0.out.keep A (by omega))
  have K3 := R
  have zw12 := z
  clear A R z t
  go_wp2_with fail
  refine (eqF32r _ _ _ _ _ _ _ _ hS K4.fs K2.fs (E4h.out.trans E2h.out.symm)).mono ?_
  rintro e w13 ⟨rfl, A⟩
  have T := T.trans (A.mono T.size)
  have K2 := K2.below A
  have K3 := K3.below A
  have K4 := K4.below A
  have X0 := Lib.hid (X0.out.below A)
  have Z0 := Lib.hid (Z0.out.below A)
  have zw13 := A.size
  clear A
  go_wp2_with fail
  refine (markF32 _ _ _ _ _ _ 1 _ hS (by omega) K4).mono ?_
  rintro e w14 ⟨rfl, R, A⟩
  have z := A.size
  have t := T.size
  have T := T.trans (A.below (by omega) (by omega))
  have K2 := K2.keep A (by omega)
  have K3 := K3.keep A (by omega)
  have X0 := Lib.hid (X0.out.keep A (by omega))
  have Z0 := Lib.hid (Z0.out.keep A (by omega))
  have K4 := R
  have zw14 := z
  clear A R z t
  go_wp2_with fail
  refine (heldF32r _ _ _ 1 _ hS (by omega) K4.fs).mono ?_
  rintro e w15 ⟨rfl, A⟩
  have T := T.trans (A.mono T.size)
  have K2 := K2.below A
  have K3 := K3.below A
  have K4 := K4.below A
  have X0 := Lib.hid (X0.out.below A)
  have Z0 := Lib.hid (Z0.out.below A)
  have zw15 := A.size
  clear A
  obtain ⟨X00, X01, X02, X03⟩ := X0.out
  go_wp2_with fail
  clear X00 X01 X02 X03
  refine (toTens _ _ _ _ _ _ _ hn0 (h0.below T)).mono ?_
  rintro e w16 ⟨g6, rfl, R, A⟩
  have T := T.trans (A.mono T.size)
  have K2 := K2.below A
  have K3 := K3.below A
  have K4 := K4.below A
  have X0 := Lib.hid (X0.out.below A)
  have Z0 := Lib.hid (Z0.out.below A)
  have zw16 := A.size
  clear A
  have K6 := R
  clear R
  go_wp2_with fail
  refine (hi w16 _ _ K6.fs).mono ?_
  rintro e w17 ⟨b7, p7, ys7, rfl, R, E7, A⟩
  have T := T.trans (A.mono T.size)
  have K2 := K2.below A
  have K3 := K3.below A
  have K4 := K4.below A
  have K6 := K6.below A
  have X0 := Lib.hid (X0.out.below A)
  have Z0 := Lib.hid (Z0.out.below A)
  have zw17 := A.size
  clear A
  have K7 := R
  clear R
  have E7h := Lib.hid E7
  clear E7
  go_wp2_with fail
  refine (eqF32r _ _ _ _ _ _ _ _ hS K7.fs K2.fs (E7h.out.trans E2h.out.symm)).mono ?_
  rintro e w18 ⟨rfl, A⟩
  have T := T.trans (A.mono T.size)
  have K2 := K2.below A
  have K3 := K3.below A
  have K4 := K4.below A
  have K6 := K6.below A
  have K7 := K7.below A
  have X0 := Lib.hid (X0.out.below A)
  have Z0 := Lib.hid (Z0.out.below A)
  have zw18 := A.size
  clear A
  go_wp2_with fail
  refine (heldF32r _ _ _ 1 _ hS (by omega) K4.fs).mono ?_
  rintro e w19 ⟨rfl, A⟩
  have T := T.trans (A.mono T.size)
  have K2 := K2.below A
  have K3 := K3.below A
  have K4 := K4.below A
  have K6 := K6.below A
  have K7 := K7.below A
  have X0 := Lib.hid (X0.out.below A)
  have Z0 := Lib.hid (Z0.out.below A)
  have zw19 := A.size
  clear A
  go_wp2
  go_ret
  exact ⟨rfl, T⟩
theorem own : ownKnob Try.prog.godebug = none := by kernel_rfl
theorem laidOut : laidOutB Try.prog = true := by kernel_rfl
set_option maxRecDepth 100000 in
theorem lifted (os : Os) (started : os.Started) (H : Type) (enc : TypeId × Value → H) :
    ReturnsInHanded {} Try.checked os 7 .any (Rows.fnExactSumRowsSpec.pre6 enc Try.prog Try.f7 Rows.fnExactSumRowsRow.domain false) (Rows.fnExactSumRowsSpec.post enc Try.prog Try.f7 false true false false) := by
  refine returnsInHanded_of_change (C := Try.checked) own started (by kernel_rfl) Try.func7
    (ChangeSpec.witness6 (enc := enc) (C := Try.checked) false ⟨#[], #[.agg #[.int .i64 0, .int .i64 0, .slice none 0 0]], []⟩ 8 (by kernel_rfl) (by kernel_rfl) (by kernel_rfl) (by kernel_rfl)) ?_
  intro W base args ds gs before hval0 hW hcnd _
  have hval : ∀ (j : Nat) t v, Try.f7.params[j]? = some t → args[j]? = some v → Value.okWide Try.prog W .any base t v := hval0
  have hW' := hW
  obtain ⟨p, q, hA0, hV, rfl, hfz, hnd⟩ := hW
  have hA : DataW.TrodAll enc Try.prog W 0 (fun _ => true) true Try.f7.params.toList args.toList ds p := hA0
  rw [Try.params7] at hA hval
  obtain ⟨v0, vs0, d0, ds0, p0, q0, hargs, rfl, rfl, h0, r0⟩ := trodAll_cons hA
  obtain ⟨rfl, rfl, rfl⟩ := trodAll_nil r0
  obtain rfl : args = #[v0] := by cases args; simp_all
  obtain ⟨rfl, rfl⟩ := trodVars_none hV
  have k0 := h0
  have lt0 : ∀ x ∈ p0, x.block < W.heap.size := by obtain ⟨m, hm⟩ := k0; exact DataW.trod_lt m _ _ _ hm
  obtain ⟨ro0, co0, a0, n0, c0, z0, rfl, f0, wr0, wc0, b0⟩ := open_tensor Try.underlying24 (by kernel_rfl) (by kernel_rfl) Try.underlying2 Try.underlying2 Try.underlying22 Try.underlying31 (by kernel_rfl) (hval 0 24 v0 rfl rfl) h0
  clear hA0 hval0
  refine (walk W ro0 co0 a0 n0 c0 z0 f0 wr0 wc0 b0).mono fun e W' ⟨he, bel⟩ => ?_
  subst he
  exact ⟨_, rfl, _, _, _, [], _, [], hW', trodAll_mk1 (shut_bool Try.underlying4 _), (trodAll_cons_mk (Below.trod laidOut (by kernel_rfl) (of_decide_eq_true (by kernel_rfl)) k0 bel lt0) trodAll_mk0), rfl, bel.frame _, fun h => by cases h⟩

theorem over : Rows.fnExactSumRowsRow.holds Try.pinned (OpenSpec.ofChange Rows.fnExactSumRowsSpec) :=
  OpenClaim.holds_of_wide 7 Try.f7 rfl rfl rfl rfl rfl rfl rfl ⟨rfl, rfl, rfl, rfl, rfl⟩ rfl rfl rfl rfl rfl (by kernel_rfl) Try.func7 (by kernel_rfl)
    (of_decide_eq_true (by kernel_rfl)) (by unfold Func.isWrapper; first | (rw [if_pos (by decide +kernel)]; kernel_rfl) | (rw [if_neg (by decide +kernel)]; exact ⟨rfl, rfl⟩))
    (fun os started H enc _ => lifted os started H enc)

theorem proved : Rows.FnExactSumRowsSaid := over
end Go.Proofs.Ytfmfddfcjbbklaa.sumRows
