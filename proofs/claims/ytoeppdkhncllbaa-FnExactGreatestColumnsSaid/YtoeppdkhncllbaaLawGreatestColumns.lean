/- The law FnExactGreatestColumns holds for every input. No conditions. -/
import Derived.Test.YtoeppdkhncllbaaValid
import Derived.Test.YtoeppdkhncllbaaRowT
import Derived.Test.YtoeppdkhncllbaaInts
import Derived.Test.YtoeppdkhncllbaaCmp
import Derived.Deep.CutRange
import Derived.Test.YtoeppdkhncllbaaOpen
import Derived.ProofKit
import Derived.OpenShut
import Derived.ChangeOld
import Derived.WalkSmall
namespace Go.Proofs.Ytoeppdkhncllbaa.greatestColumns
open Go.ChangeShapes Go.WideShapes Go.ChangeAt Go.RowKit Go.Fl Go.Reg
/-- where the greatest of F 0 .. F k lies, as the program finds it -/
def gi (F : Nat → Nat) : Nat → Nat
  | 0 => 0
  | k + 1 => if FloatKind.f32.format.order (F (k + 1)) (F (gi F k)) == some .gt then k + 1 else gi F k
theorem gi_gt {F : Nat → Nat} {k : Nat} (h : (FloatKind.f32.format.order (F (k + 1)) (F (gi F k)) == some .gt) = true) : gi F (k + 1) = k + 1 := by show (if _ then _ else _) = _; rw [if_pos h]
theorem gi_le {F : Nat → Nat} {k : Nat} (h : (FloatKind.f32.format.order (F (k + 1)) (F (gi F k)) == some .gt) = false) : gi F (k + 1) = gi F k := by show (if _ then _ else _) = _; rw [if_neg (by rw [h]; simp)]
theorem gi_lt (F : Nat → Nat) : ∀ k, gi F k ≤ k
  | 0 => Nat.le_refl _
  | k + 1 => by
    have := gi_lt F k
    show (if _ then _ else _) ≤ _
    split
    · exact Nat.le_refl _
    · exact Nat.le_succ_of_le this
def rowF (xs : List Nat) (C i : Nat) (j : Nat) : Nat := xs[i * C + j]?.getD 0
def S (r c : Int) (n : Nat) (xs : List Nat) : List Int := if vt r c n then (List.range r.toNat).map (fun i => ((gi (rowF xs c.toNat i) (c.toNat - 1) : Nat) : Int)) else []
theorem S_no {r c : Int} {n : Nat} (xs : List Nat) (h : ¬ vt r c n) : S r c n xs = [] := if_neg h
def SN (R C : Nat) (xs : List Nat) : List Int := (List.range R).map (fun i => ((gi (rowF xs C i) (C - 1) : Nat) : Int))
theorem S_yes {R C n : Nat} (xs : List Nat) (h : vt (R : Int) (C : Int) n) : S (R : Int) (C : Int) n xs = SN R C xs := if_pos h
theorem SN_len (R C : Nat) (xs : List Nat) : (SN R C xs).length = R := by simp [SN]
theorem SN_step (i C : Nat) (xs : List Nat) : SN i C xs ++ [((gi (rowF xs C i) (C - 1) : Nat) : Int)] = SN (i + 1) C xs := by simp [SN, List.range_succ]
theorem S_len (r c : Int) (n : Nat) (xs : List Nat) : (S r c n xs).length ≤ 1048576 := by
  unfold S; split
  · rename_i h
    have := h.2.1
    simp; omega
  · simp
theorem greatJ (a : Option Addr) (n cap : Nat) (zs : List Nat) (w : World) (hn : 0 < n ∧ n ≤ 256) (h1 : Fs w a n cap zs) :
    Calls Try.prog 54 #[.slice a n cap] w fun e w' => e = .returned (.int .i64 ((gi (fun j => zs[j]?.getD 0) (n - 1) : Nat) : Int)) ∧ w' = w := by
  obtain ⟨F, hF⟩ : ∃ F : Nat → Nat, F = fun j => zs[j]?.getD 0 := ⟨_, rfl⟩
  have HC := Lib.hid h1.cell
  have hcap := h1.cap1
  have hcap2 := h1.cap2
  unfold maxLen at hcap2
  have HF := Lib.hid hF
  clear h1 hF
  rw [← HF.out]
  go_enter Try.func54, Try.ntmps54
  go_wp2
  go_loop [3, 8] (fun bb i => ∃ (k b : Nat), k ≤ n ∧ b < n ∧ i = .int .i64 k ∧ bb = .int .i64 b ∧ Hid (b = gi F (k - 1))) (fun _ i => n - (intOf i).toNat)
  case atStart => exact ⟨0, 0, Nat.zero_le _, hn.1, rfl, rfl, rfl⟩
  case round =>
    obtain ⟨k, b, hk, hb, rfl, rfl, hg⟩ := hrel
    by_cases hlt : k < n
    · obtain ⟨ba, oa, rfl, hca⟩ := HC.out k hlt
      obtain ⟨ba', oa', ea, hcb⟩ := HC.out b hb
      injection ea with ea; injection ea with ea1 ea2 ea3
      subst ea1; subst ea2
      rw [show zs[k]?.getD 0 = F k from by rw [HF.out]] at hca
      rw [show zs[b]?.getD 0 = F b from by rw [HF.out]] at hcb
      cases ho : (FloatKind.f32.format.order (F k) (F b) == some .gt)
      · have HO := Lib.hid ho
        go_wp2
        go_round
        case rel =>
          refine ⟨k + 1, b, by omega, hb, by go_num, rfl, ?_⟩
          show b = gi F k
          cases k with
          | zero => exact hg.out
          | succ k =>
            have h2 : b = gi F k := hg.out
            rw [gi_le (by rw [← h2]; exact HO.out)]; exact h2
        case measure => simp [intOf]; omega
      · have HO := Lib.hid ho
        go_wp2
        go_round
        case rel =>
          refine ⟨k + 1, k, by omega, hlt, by go_num, rfl, ?_⟩
          show k = gi F k
          cases k with
          | zero => rfl
          | succ k =>
            have h2 : b = gi F k := hg.out
            rw [gi_gt (by rw [← h2]; exact HO.out)]
        case measure => simp [intOf]; omega
    · have e : k = n := by omega
      have hgn : b = gi F (n - 1) := by rw [← e]; exact hg.out
      have HG := Lib.hid hgn
      clear hg hgn e
      go_wp2
      go_ret
      exact ⟨by rw [← HG.out]; rfl, rfl⟩
theorem drop_row (xs : List Nat) {R C i : Nat} (_hx : R * C = xs.length) (_hi : i < R) (hC : 0 < C) : gi (fun j => (((xs.drop (i * C)).take C)[j]?.getD 0)) (C - 1) = gi (rowF xs C i) (C - 1) := by
  have key : ∀ k, k ≤ C - 1 → gi (fun j => (((xs.drop (i * C)).take C)[j]?.getD 0)) k = gi (rowF xs C i) k := by
    have hv : ∀ j, j < C → (((xs.drop (i * C)).take C)[j]?.getD 0) = rowF xs C i j := by
      intro j hj
      unfold rowF
      rw [List.getElem?_take, if_pos hj, List.getElem?_drop]
    intro k
    induction k with
    | zero => intro _; rfl
    | succ k ih =>
      intro hk
      have e := ih (by omega)
      have l := gi_lt (rowF xs C i) k
      show (if _ then _ else _) = (if _ then _ else _)
      rw [e]
      simp only [hv (k + 1) (by omega), hv (gi (rowF xs C i) k) (by omega)]
  exact key _ (Nat.le_refl _)
set_option maxHeartbeats 1000000 in
theorem implS (r c : Int) (a : Option Addr) (n cap : Nat) (xs : List Nat) (w : World) (h1 : Fs w a n cap xs) :
    Calls Try.prog 23 #[.agg #[.int .i64 r, .int .i64 c, .slice a n cap]] w (RJ 2 w (S r c n xs) (decide (vt r c n))) := by
  have HM : Hid (n ≤ maxLen) := Nat.le_trans h1.cap1 h1.cap2
  have H1 := Lib.hid h1
  clear h1
  cases hv : decide (vt r c n)
  · rw [S_no xs (of_decide_eq_false hv)]
    have HV := Lib.hid hv
    clear hv
    go_enter Try.func23, Try.ntmps23
    go_wp2_with fail
    refine calls_at ?_
    intro w1 hA
    have A : Below w.heap.size w w1 := by rw [hA]; exact (Below.refl _ _).alloc (Nat.le_refl _) _
    have zw1 : w1.heap.size = w.heap.size + 1 := by rw [hA]; simp
    have Q_ : Box w1 (w.heap.size) r c a n cap := by rw [hA]; exact ⟨by simp [go_sem], by simp [go_sem], by simp [go_sem], by simp <;> omega⟩
    clear hA
    have zw1a := Nat.le_of_eq zw1
    have zw1b := Nat.le_of_eq zw1.symm
    clear zw1
    have T := A
    clear A
    have Q := Lib.hid Q_
    clear Q_
    refine (validT r c a n cap _ HM.out).mono ?_
    rintro e w2 ⟨rfl, A⟩
    have T := T.trans (A.mono T.size)
    have Q := Lib.hid (Q.out.below A)
    have zw2 := A.size
    clear A
    rw [HV.out]
    go_wp2
    go_ret2
    exact RJ_no T
  · have hv' := of_decide_eq_true hv
    have hn := (vt_le hv').2
    obtain ⟨R, C, rfl, rfl, hR, hC, hRC⟩ := nat_of hv'
    rw [S_yes xs hv']
    have HV := Lib.hid hv
    have HRC := Lib.hid hRC
    clear hv hv' hRC
    obtain ⟨i0, hi, hz0, hz1, hz2⟩ := info_parts infoI64
    have HI := Lib.hid hi
    have HZ0 := Lib.hid hz0
    have HZ1 := Lib.hid hz1
    have HZ2 := Lib.hid hz2
    clear hi hz0 hz1 hz2
    obtain ⟨b1, o1, ea, _⟩ := H1.out.cell 0 (by have := HRC.out; have := Nat.mul_pos hR.1 hC.1; omega)
    subst ea
    have hc1 := H1.out.cap1
    have hc2 := H1.out.cap2
    go_enter Try.func23, Try.ntmps23
    go_wp2_with fail
    refine calls_at ?_
    intro w1 hA
    have A : Below w.heap.size w w1 := by rw [hA]; exact (Below.refl _ _).alloc (Nat.le_refl _) _
    have zw1 : w1.heap.size = w.heap.size + 1 := by rw [hA]; simp
    have Q_ : Box w1 (w.heap.size) ↑R ↑C (some ⟨b1, o1, none⟩) n cap := by rw [hA]; exact ⟨by simp [go_sem], by simp [go_sem], by simp [go_sem], by simp <;> omega⟩
    clear hA
    have zw1a := Nat.le_of_eq zw1
    have zw1b := Nat.le_of_eq zw1.symm
    clear zw1
    have T := A
    clear A
    have Q := Lib.hid Q_
    clear Q_
    refine (validT ↑R ↑C _ n cap _ HM.out).mono ?_
    rintro e w2 ⟨rfl, A⟩
    have T := T.trans (A.mono T.size)
    have Q := Lib.hid (Q.out.below A)
    have zw2 := A.size
    clear A
    rw [HV.out]
    obtain ⟨Q0, Q1, Q2, Q3⟩ := Q.out
    go_wp2
    clear Q0 Q1 Q2 Q3
    obtain ⟨wo, hwo⟩ : ∃ wo : World, wo = w2 := ⟨_, rfl⟩
    have ST := Lib.hid (ownJ_start w2 2)
    go_loopw [4, 12] (fun v i w' => ∃ (k : Nat) (a' : Option Addr) (cap' : Nat) (ys : List Int), k ≤ R ∧ i = .int .i64 k ∧ v = .slice a' k cap' ∧ OwnJ w2.heap.size 2 w2 w' k a' cap' ys ∧ ys = SN k C xs) (fun _ i _ => R - (intOf i).toNat)
    case atStart => exact ⟨0, _, _, _, Nat.zero_le _, rfl, rfl, ST.out, rfl⟩
    case round =>
      obtain ⟨k, a', cap', ys, hk, rfl, rfl, own, hys⟩ := hrel
      have O := Lib.hid own
      have HY := Lib.hid hys
      clear own hys
      by_cases hlt : k < R
      · skip
        have QJ := Lib.hid (Q.out.below O.out.below)
        obtain ⟨q0, q1, q2, q3⟩ := QJ.out
        go_wp2_with fail
        clear q0 q1 q2 q3
        refine (rowI R C k b1 o1 n cap _ HRC.out hlt hR.2 hC.2 hC.1 hc1 hc2).mono ?_
        rintro e wk ⟨rfl, A⟩
        have O1 := Lib.hid (O.out.next A)
        clear A
        go_wp2_with fail
        have hre := row_end (C := C) hlt
        have e3 : k * C + C - k * C = C := by omega
        have SP := Lib.hid (((H1.out.below T).below (O1.out.below.mono (Nat.le_refl _))).sub (i := k * C) (j := k * C + C) (by omega) (by have := HRC.out; omega) (cap - k * C) rfl)
        rw [e3] at SP
        clear e3
        refine (greatJ _ C _ _ _ (by omega) SP.out).mono ?_
        rintro e wk2 ⟨rfl, hsame⟩
        replace hsame := hsame.symm
        subst hsame
        rw [drop_row xs (by rw [← HRC.out, H1.out.len]) hlt hC.1]
        obtain ⟨gk, hgk⟩ : ∃ gk : Nat, gk = gi (rowF xs C k) (C - 1) := ⟨_, rfl⟩
        rw [← hgk]
        have HG := Lib.hid hgk
        clear hgk SP
        go_wp2_with (at_builtin; refine wpList_append_own _ rfl (.tmp 15) (.tmp 20) 36 rfl w2.heap.size 2 i0 (.int .i64 0) 1 8 Try.underlying36 HI.out HZ0.out HZ1.out HZ2.out rfl (by decide) (.slice a' k cap') k (il ys) rfl (O1.out.alloc _).own ⟨wk.heap.size, 0, none⟩ 1 1 [.int .i64 (gk : Int)] rfl rfl ?c1 ?c2 ?c3 ?c4 ?c5 ?_)
        case c1 =>
          intro j v hj
          match j, hj with
          | 0, hj => simp at hj; subst hj; exact cell_new _ _ _
        case c2 => intro v hv; simp at hv; subst hv; rfl
        case c3 => unfold maxLen; omega
        case c4 => omega
        case c5 => have := O1.out.le; simp; omega
        intro v' w2 hown hgr _
        obtain ⟨a2, cap2', rfl, O2_⟩ := OwnJ.app (us := [(gk : Int)]) O1.out hown hgr
        have O2 := Lib.hid O2_
        clear O2_ hown hgr
        go_wp2
        go_roundw
        case rel => exact ⟨k + 1, a2, cap2', ys ++ [(gk : Int)], by omega, by go_num, rfl, O2.out, by rw [HY.out, HG.out]; exact SN_step _ _ _⟩
        case measure => simp [intOf]; omega
      · have e : k = R := by omega
        subst e
        go_wp2
        go_ret2
        have OO := O.out
        exact RJ_own (SN_len _ _ _) ⟨T.trans (OO.below.mono T.size), own_base OO.own T.size, Nat.le_trans T.size OO.le⟩ HY.out
set_option maxHeartbeats 1000000 in
theorem specS (r c : Int) (a : Option Addr) (n cap : Nat) (xs : List Nat) (w : World) (h1 : Fs w a n cap xs) :
    Calls Try.prog 22 #[.agg #[.int .i64 r, .int .i64 c, .slice a n cap]] w (RJ 2 w (S r c n xs) (decide (vt r c n))) := by
  have HM : Hid (n ≤ maxLen) := Nat.le_trans h1.cap1 h1.cap2
  have H1 := Lib.hid h1
  clear h1
  cases hv : decide (vt r c n)
  · rw [S_no xs (of_decide_eq_false hv)]
    have HV := Lib.hid hv
    clear hv
    go_enter Try.func22, Try.ntmps22
    go_wp2_with fail
    refine calls_at ?_
    intro w1 hA
    have A : Below w.heap.size w w1 := by rw [hA]; exact (Below.refl _ _).alloc (Nat.le_refl _) _
    have zw1 : w1.heap.size = w.heap.size + 1 := by rw [hA]; simp
    have Q_ : Box w1 (w.heap.size) r c a n cap := by rw [hA]; exact ⟨by simp [go_sem], by simp [go_sem], by simp [go_sem], by simp <;> omega⟩
    clear hA
    have zw1a := Nat.le_of_eq zw1
    have zw1b := Nat.le_of_eq zw1.symm
    clear zw1
    have T := A
    clear A
    have Q := Lib.hid Q_
    clear Q_
    refine (isT r c a n cap _ _ _ HM.out Q.out.c0 Q.out.c1 Q.out.c2).mono ?_
    rintro e w2 ⟨rfl, mm, hw⟩
    have A := below_of_drew hw
    clear hw
    have T := T.trans (A.mono T.size)
    have Q := Lib.hid (Q.out.below A)
    have zw2 := A.size
    clear A
    rw [HV.out]
    go_wp2
    go_ret2
    exact RJ_no T
  · have hv' := of_decide_eq_true hv
    have hn := (vt_le hv').2
    obtain ⟨R, C, rfl, rfl, hR, hC, hRC⟩ := nat_of hv'
    rw [S_yes xs hv']
    have HV := Lib.hid hv
    have HRC := Lib.hid hRC
    clear hv hv' hRC
    obtain ⟨i0, hi, hz0, hz1, hz2⟩ := info_parts infoI64
    have HI := Lib.hid hi
    have HZ0 := Lib.hid hz0
    have HZ1 := Lib.hid hz1
    have HZ2 := Lib.hid hz2
    clear hi hz0 hz1 hz2
    have HC := Lib.hid H1.out.cell
    have hc1 := H1.out.cap1
    have hc2 := H1.out.cap2
    unfold maxLen at hc2
    go_enter Try.func22, Try.ntmps22
    go_wp2_with fail
    refine calls_at ?_
    intro w1 hA
    have A : Below w.heap.size w w1 := by rw [hA]; exact (Below.refl _ _).alloc (Nat.le_refl _) _
    have zw1 : w1.heap.size = w.heap.size + 1 := by rw [hA]; simp
    have Q_ : Box w1 (w.heap.size) ↑R ↑C a n cap := by rw [hA]; exact ⟨by simp [go_sem], by simp [go_sem], by simp [go_sem], by simp <;> omega⟩
    clear hA
    have zw1a := Nat.le_of_eq zw1
    have zw1b := Nat.le_of_eq zw1.symm
    clear zw1
    have T := A
    clear A
    have Q := Lib.hid Q_
    clear Q_
    refine (isT ↑R ↑C a n cap _ _ _ HM.out Q.out.c0 Q.out.c1 Q.out.c2).mono ?_
    rintro e w2 ⟨rfl, mm, hw⟩
    have A := below_of_drew hw
    clear hw
    have T := T.trans (A.mono T.size)
    have Q := Lib.hid (Q.out.below A)
    have zw2 := A.size
    clear A
    rw [HV.out]
    obtain ⟨Q0, Q1, Q2, Q3⟩ := Q.out
    go_wp2
    clear Q0 Q1 Q2 Q3
    have ST := Lib.hid (ownJ_start w2 2)
    go_loopw [4, 5] (fun v i w' => ∃ (k : Nat) (a' : Option Addr) (cap' : Nat) (ys : List Int), k ≤ R ∧ i = .int .i64 k ∧ v = .slice a' k cap' ∧ OwnJ w2.heap.size 2 w2 w' k a' cap' ys ∧ ys = SN k C xs) (fun _ i _ => R - (intOf i).toNat)
    case atStart => exact ⟨0, _, _, _, Nat.zero_le _, rfl, rfl, ST.out, rfl⟩
    case round =>
      obtain ⟨k, a', cap', ys, hk, rfl, rfl, own, hys⟩ := hrel
      have O := Lib.hid own
      have HY := Lib.hid hys
      clear own hys
      have QJ := Lib.hid (Q.out.below O.out.below)
      obtain ⟨q0, q1, q2, q3⟩ := QJ.out
      by_cases hlt : k < R
      · skip
        go_wp2
        obtain ⟨wj, hwj⟩ : ∃ wj : World, wj = wr := ⟨_, rfl⟩
        have OJ := Lib.hid (show OwnJ w2.heap.size 2 w2 wj k a' cap' ys by rw [hwj]; exact O.out)
        have HWJ := Lib.hid hwj
        clear hwj
        obtain ⟨F, hF⟩ : ∃ F : Nat → Nat, F = rowF xs C k := ⟨_, rfl⟩
        have HF := Lib.hid hF
        clear hF
        clear q0 q1 q2 q3
        go_loopw [6, 7] (fun b j w' => ∃ (jn bn mm : Nat), 1 ≤ jn ∧ jn ≤ C ∧ bn < jn ∧ j = .int .i64 jn ∧ b = .int .i64 bn ∧ Hid (w' = wj.drewN mm) ∧ Hid (bn = gi F (jn - 1))) (fun _ j _ => C - (intOf j).toNat)
        case atStart => exact ⟨1, 0, 0, Nat.le_refl _, hC.1, by omega, rfl, rfl, HWJ.out.symm, rfl⟩
        case round =>
          clear O QJ
          obtain ⟨jn, bn, mm, hj1, hjC, hbn, rfl, rfl, hwm, hg⟩ := hrel
          have OD := Lib.hid (show OwnJ w2.heap.size 2 w2 wr k a' cap' ys by rw [hwm.out]; exact OJ.out.drew mm)
          have QD := Lib.hid (Q.out.below OD.out.below)
          obtain ⟨q0, q1, q2, q3⟩ := QD.out
          by_cases hjl : jn < C
          · skip
            have hin1 := in_row (C := C) hlt hjl
            have hin2 := in_row (C := C) hlt (show bn < C by omega)
            have hRC2 := HRC.out
            obtain ⟨ba, oa, ea, hca⟩ := HC.out (k * C + jn) (by omega)
            subst ea
            obtain ⟨ba', oa', ea, hcb⟩ := HC.out (k * C + bn) (by omega)
            injection ea with ea; injection ea with ea1 ea2 ea3
            subst ea1; subst ea2
            rw [show xs[k * C + jn]?.getD 0 = F jn by rw [HF.out]; rfl] at hca
            rw [show xs[k * C + bn]?.getD 0 = F bn by rw [HF.out]; rfl] at hcb
            have hba : ba < w.heap.size := World.block_lt_of_cell? w _ hca
            have BB : Below w.heap.size w wr := T.trans (OD.out.below.mono T.size)
            have ca := (BB.cell (p := ⟨ba, oa + (k * C + jn), none⟩) hba).trans hca
            have cb := (BB.cell (p := ⟨ba, oa + (k * C + bn), none⟩) hba).trans hcb
            clear hca hcb BB
            have e2 : k * C ≤ 16 * 16 := Nat.mul_le_mul (by omega) hC.2
            have E1 : ((k : Int) * (C : Int)) = ((k * C : Nat) : Int) := by simp
            have p1 : (0 : Int) ≤ (k : Int) * (C : Int) := by rw [E1]; omega
            have p2 : (k : Int) * (C : Int) ≤ 256 := by rw [E1]; omega
            have t1 : ((k : Int) * (C : Int) + (jn : Int)).toNat = k * C + jn := by rw [E1]; omega
            have t2 : ((k : Int) * (C : Int) + (bn : Int)).toNat = k * C + bn := by rw [E1]; omega
            have l1 : (k : Int) * (C : Int) + (jn : Int) < (n : Int) := by rw [E1]; omega
            have l2 : (k : Int) * (C : Int) + (bn : Int) < (n : Int) := by rw [E1]; omega
            have g1 : (0 : Int) ≤ (k : Int) * (C : Int) + (jn : Int) := by omega
            have g2 : (0 : Int) ≤ (k : Int) * (C : Int) + (bn : Int) := by omega
            have u1 : IntKind.i64.wrap ((k : Int) * (C : Int)) = (k : Int) * (C : Int) := IntWalk.i64_in _ (by omega)
            have u2 : IntKind.i64.wrap ((k : Int) * (C : Int) + (jn : Int)) = (k : Int) * (C : Int) + (jn : Int) := IntWalk.i64_in _ (by omega)
            have u3 : IntKind.i64.wrap ((k : Int) * (C : Int) + (bn : Int)) = (k : Int) * (C : Int) + (bn : Int) := IntWalk.i64_in _ (by omega)
            clear E1 e2 hin1 hin2 hRC2
            cases ho : (FloatKind.f32.format.order (F jn) (F bn) == some .gt)
            · have HO := Lib.hid ho
              go_wp2_with fail
              refine wp_dr 20 [0, 0, 0, 0, 0, 0, 0, 0, 0, 0, 0, 0, 0, 0, 0, 0, 0, 0, 0, 0, 0] (by kernel_rfl) (by kernel_rfl) ?_
              simp only [List.take_succ_cons, List.take_zero, List.drop_succ_cons, List.drop_zero]
              iterate 20 (with_reducible refine dr_step ?_; intro K hK; go_simp; (try intro _); refine hK _ _ ?_; clear hK K)
              refine wpR_nil (fun nq => ?_)
              go_wp2
              go_roundw
              case rel =>
                refine ⟨jn + 1, bn, mm + (1 + nq), by omega, by omega, by omega, by go_num, rfl, by show _ = _; rw [hwm.out]; simp [World.drewN, Nat.add_assoc], ?_⟩
                show bn = gi F jn
                cases jn with
                | zero => omega
                | succ jn =>
                  have h2 : bn = gi F jn := hg.out
                  rw [gi_le (by rw [← h2]; exact HO.out)]; exact h2
              case measure => simp [intOf]; omega
            · have HO := Lib.hid ho
              go_wp2_with fail
              refine wp_dr 20 [0, 0, 0, 0, 0, 0, 0, 0, 0, 0, 0, 0, 0, 0, 0, 0, 0, 0, 0, 0, 0] (by kernel_rfl) (by kernel_rfl) ?_
              simp only [List.take_succ_cons, List.take_zero, List.drop_succ_cons, List.drop_zero]
              iterate 20 (with_reducible refine dr_step ?_; intro K hK; go_simp; (try intro _); refine hK _ _ ?_; clear hK K)
              refine wpR_nil (fun nq => ?_)
              go_wp2
              go_roundw
              case rel =>
                refine ⟨jn + 1, jn, mm + (1 + nq), by omega, by omega, by omega, by go_num, rfl, by show _ = _; rw [hwm.out]; simp [World.drewN, Nat.add_assoc], ?_⟩
                show jn = gi F jn
                cases jn with
                | zero => omega
                | succ jn =>
                  have h2 : bn = gi F jn := hg.out
                  rw [gi_gt (by rw [← h2]; exact HO.out)]
              case measure => simp [intOf]; omega
          · have e : jn = C := by omega
            have HG := Lib.hid (show bn = gi (rowF xs C k) (C - 1) by rw [← HF.out, ← e]; exact hg.out)
            clear hg e
            go_wp2_with (at_builtin; refine wpList_append_own _ rfl (.tmp 45) (.tmp 47) 36 rfl w2.heap.size 2 i0 (.int .i64 0) 1 8 Try.underlying36 HI.out HZ0.out HZ1.out HZ2.out rfl (by decide) (.slice a' k cap') k (il ys) rfl (OD.out.alloc _).own ⟨wr.heap.size, 0, none⟩ 1 1 [.int .i64 (bn : Int)] rfl rfl ?c1 ?c2 ?c3 ?c4 ?c5 ?_)
            case c1 =>
              intro j v hj
              match j, hj with
              | 0, hj => simp at hj; subst hj; exact cell_new _ _ _
            case c2 => intro v hv; simp at hv; subst hv; rfl
            case c3 => unfold maxLen; omega
            case c4 => omega
            case c5 => have := OD.out.le; simp at this ⊢; omega
            intro v' w2 hown hgr _
            obtain ⟨a2, cap2', rfl, O2_⟩ := OwnJ.app (us := [(bn : Int)]) OD.out hown hgr
            have O2 := Lib.hid O2_
            clear O2_ hown hgr q0 q1 q2 q3
            go_wp2
            go_roundw
            case rel => exact ⟨k + 1, a2, cap2', ys ++ [(bn : Int)], by omega, by go_num, rfl, O2.out, by rw [HY.out, HG.out]; exact SN_step _ _ _⟩
            case measure => simp [intOf]; omega
      · have e : k = R := by omega
        subst e
        go_wp2
        go_ret2
        have OO := O.out
        exact RJ_own (SN_len _ _ _) ⟨T.trans (OO.below.mono T.size), own_base OO.own T.size, Nat.le_trans T.size OO.le⟩ HY.out
theorem both (r c : Int) (n : Nat) (xs : List Nat) (_hn : n ≤ 1048576) (_hl : n = xs.length) (_wr : (Lit.int .i64 r).wf = true) (_wc : (Lit.int .i64 c).wf = true) :
    ∃ ok S, S.length ≤ 1048576 ∧ (∀ w a cap, Fs w a n cap xs → Calls Try.prog 22 #[.agg #[.int .i64 r, .int .i64 c, .slice a n cap]] w (RJ 2 w S ok)) ∧ (∀ w a cap, Fs w a n cap xs → Calls Try.prog 23 #[.agg #[.int .i64 r, .int .i64 c, .slice a n cap]] w (RJ 2 w S ok)) :=
  ⟨_, _, S_len r c n xs, fun w a cap h1 => specS r c a n cap xs w h1, fun w a cap h1 => implS r c a n cap xs w h1⟩
set_option maxHeartbeats 4000000 in
theorem walk (w : World) (ro0 co0 : Int) (a0 : Option Addr) (n0 c0 : Nat) (xs0 : List Nat) (h0 : Fs w a0 n0 c0 xs0) (_wr0 : (Lit.int .i64 ro0).wf = true) (_wc0 : (Lit.int .i64 co0).wf = true) (_b0 : ∀ x ∈ xs0, x < 4294967296) :
    Calls Try.prog 6 #[.agg #[.int .i64 ro0, .int .i64 co0, .slice a0 n0 c0]] w fun e w' => e = .returned (.bool true) ∧ Below w.heap.size w w' := by
  have m0 := h0.cap2
  have q0 := h0.cap1
  unfold maxLen at m0
  by_cases g0 : 1048576 < n0
  · go_enter Try.func6, Try.ntmps6
    have T := Below.refl w.heap.size w
    go_wp2_with fail
    refine calls_at ?_
    intro w1 hA
    obtain ⟨Q, A, z1, z2⟩ := box_new hA
    clear hA
    have X0 := Lib.hid Q
    clear Q
    have T := T.trans (A.mono T.size)
    have zw1 := A.size
    clear A
    have yw1 := z1
    have xw1 := z2
    clear z1 z2
    refine (szNo _ _ _ _ _ _ _ (Nat.le_trans h0.cap1 h0.cap2) (by omega) (by omega)).mono ?_
    rintro e wz ⟨rfl, A⟩
    have T := T.trans (A.mono T.size)
    go_wp2
    go_ret
    exact ⟨rfl, T⟩
  have hn0 : n0 ≤ 1048576 := by omega
  obtain ⟨ok, S, hS, hs, hi⟩ := both ro0 co0 n0 xs0 hn0 h0.len _wr0 _wc0
  go_enter Try.func6, Try.ntmps6
  have T := Below.refl w.heap.size w
  go_wp2_with fail
  refine calls_at ?_
  intro w1 hA
  obtain ⟨Q, A, z1, z2⟩ := box_new hA
  clear hA
  have X0 := Lib.hid Q
  clear Q
  have T := T.trans (A.mono T.size)
  have zw1 := A.size
  clear A
  have yw1 := z1
  have xw1 := z2
  clear z1 z2
  refine (szYes _ _ _ _ _ _ _ (by omega) (by omega)).mono ?_
  rintro e w2 ⟨rfl, A⟩
  have T := T.trans (A.mono T.size)
  have X0 := Lib.hid (X0.out.below A)
  have zw2 := A.size
  clear A
  obtain ⟨X00, X01, X02, X03⟩ := X0.out
  go_wp2_with fail
  clear X00 X01 X02 X03
  refine (toTens _ _ _ _ _ _ _ hn0 (h0.below T)).mono ?_
  rintro e w3 ⟨g1, rfl, R, A⟩
  have T := T.trans (A.mono T.size)
  have X0 := Lib.hid (X0.out.below A)
  have zw3 := A.size
  clear A
  have K1 := R
  clear R
  go_wp2_with fail
  refine (hs w3 _ _ K1.fs).mono ?_
  rintro e w4 ⟨b2, p2, ys2, rfl, R, E2, A⟩
  have T := T.trans (A.mono T.size)
  have K1 := K1.below A
  have X0 := Lib.hid (X0.out.below A)
  have zw4 := A.size
  clear A
  have K2 := R
  clear R
  have E2h := Lib.hid E2
  clear E2
  obtain ⟨X00, X01, X02, X03⟩ := X0.out
  go_wp2_with fail
  clear X00 X01 X02 X03
  refine (toTens _ _ _ _ _ _ _ hn0 (h0.below T)).mono ?_
  rintro e w5 ⟨g3, rfl, R, A⟩
  have T := T.trans (A.mono T.size)
  have K1 := K1.below A
  have K2 := K2.below A
  have X0 := Lib.hid (X0.out.below A)
  have zw5 := A.size
  clear A
  have K3 := R
  clear R
  go_wp2_with fail
  refine calls_at ?_
  intro w6 hA
  obtain ⟨Q, A, z1, z2⟩ := box_new (r := ro0) (c := co0) (a := (some ⟨g3, 0, none⟩)) (n := n0) (cap := n0) hA
  clear hA
  have Z0 := Lib.hid Q
  clear Q
  have T := T.trans (A.mono T.size)
  have K1 := K1.below A
  have K2 := K2.below A
  have K3 := K3.below A
  have X0 := Lib.hid (X0.out.below A)
  have zw6 := A.size
  clear A
  have yw6 := z1
  have xw6 := z2
  clear z1 z2
  refine (hi w6 _ _ K3.fs).mono ?_
  rintro e w7 ⟨b4, p4, ys4, rfl, R, E4, A⟩
  have T := T.trans (A.mono T.size)
  have K1 := K1.below A
  have K2 := K2.below A
  have K3 := K3.below A
  have X0 := Lib.hid (X0.out.below A)
  have Z0 := Lib.hid (Z0.out.below A)
  have zw7 := A.size
  clear A
  have K4 := R
  clear R
  have E4h := Lib.hid E4
  clear E4
  go_wp2_with fail
  refine (eqI64 _ _ _ _ _ _ _ _ hS K4.fs K2.fs (E4h.out.trans E2h.out.symm)).mono ?_
  rintro e w8 ⟨rfl, A⟩
  have T := T.trans (A.mono T.size)
  have K1 := K1.below A
  have K2 := K2.below A
  have K3 := K3.below A
  have K4 := K4.below A
  have X0 := Lib.hid (X0.out.below A)
  have Z0 := Lib.hid (Z0.out.below A)
  have zw8 := A.size
  clear A
  go_wp2_with fail
  refine wp_bl 4 [0, 0, 2, 2, 0] (by kernel_rfl) (by kernel_rfl) ?_
  simp only [List.take_succ_cons, List.take_zero, List.drop_succ_cons, List.drop_zero]
  with_reducible refine bl_step ?_
  intro K hK
  go_simp
  refine ⟨.agg #[.int .i64 ro0, .int .i64 co0, .slice (some ⟨g3, 0, none⟩) n0 n0], fun w' hw' => ?_, hK _ _ ?_⟩
  · obtain ⟨q0, q1, q2, q3⟩ := Z0.out.below hw'
    go_simp
  clear hK K
  with_reducible refine bl_step ?_
  intro K hK
  go_simp
  refine ⟨.agg #[.int .i64 ro0, .int .i64 co0, .slice a0 n0 c0], fun w' hw' => ?_, hK _ _ ?_⟩
  · obtain ⟨q0, q1, q2, q3⟩ := X0.out.below hw'
    go_simp
  clear hK K
  with_reducible refine bl_step ?_
  intro K hK
  go_simp
  intro _
  refine (toTens _ _ _ _ _ _ _ hn0 ((h0.below T).drew _)).mono ?_
  rintro e w9 ⟨g5, rfl, R, A0⟩
  have A := (bdrew (Below.refl _ _) _).trans A0
  clear A0
  refine ⟨_, rfl, A, hK _ _ ?_⟩
  clear hK K
  have BL : Below w8.heap.size w8 w9 := A
  have T := T.trans (A.mono T.size)
  have K1 := K1.below A
  have K2 := K2.below A
  have K3 := K3.below A
  have K4 := K4.below A
  have X0 := Lib.hid (X0.out.below A)
  have Z0 := Lib.hid (Z0.out.below A)
  have zw9 := A.size
  clear A
  have K5 := R
  clear R
  with_reducible refine bl_step ?_
  intro K hK
  go_simp
  intro _
  refine (eqTens _ _ _ _ _ _ _ _ _ _ hn0 (K3.fs.drew _) (K5.fs.drew _) rfl).mono ?_
  rintro e w10 ⟨rfl, A0⟩
  have A := (bdrew (Below.refl _ _) _).trans A0
  clear A0
  refine ⟨_, rfl, BL.trans (A.mono BL.size), hK _ _ ?_⟩
  clear hK K BL
  have T := T.trans (A.mono T.size)
  have K1 := K1.below A
  have K2 := K2.below A
  have K3 := K3.below A
  have K4 := K4.below A
  have K5 := K5.below A
  have X0 := Lib.hid (X0.out.below A)
  have Z0 := Lib.hid (Z0.out.below A)
  have zw10 := A.size
  clear A
  with_reducible refine wpR_nil (fun nq => ?_)
  generalize hA : w10.drewN nq = w11
  have A := below_of_drew hA.symm
  clear hA
  have T := T.trans (A.mono T.size)
  have K1 := K1.below A
  have K2 := K2.below A
  have K3 := K3.below A
  have K4 := K4.below A
  have K5 := K5.below A
  have X0 := Lib.hid (X0.out.below A)
  have Z0 := Lib.hid (Z0.out.below A)
  have zw11 := A.size
  clear A
  clear K1 K5
  obtain ⟨Z00, Z01, Z02, Z03⟩ := Z0.out
  go_wp2_with fail
  clear Z00 Z01 Z02 Z03
  refine (markTens _ _ _ _ _ _ _ _ (1) _ hn0 (by omega) K3).mono ?_
  rintro e w12 ⟨rfl, R, A⟩
  have z := A.size
  have t := T.size
  have T := T.trans (A.below (by omega) (by omega))
  have K2 := K2.keep A (by omega)
  have K4 := K4.keep A (by omega)
  have X0 := Lib.hid (X0.out.keep A (by omega))
  have Z0 := Lib.hid (Z0.out.keep A (by omega))
  have K3 := R
  have zw12 := z
  clear A R z t
  go_wp2_with fail
  refine (eqI64 _ _ _ _ _ _ _ _ hS K4.fs K2.fs (E4h.out.trans E2h.out.symm)).mono ?_
  rintro e w13 ⟨rfl, A⟩
  have T := T.trans (A.mono T.size)
  have K2 := K2.below A
  have K3 := K3.below A
  have K4 := K4.below A
  have X0 := Lib.hid (X0.out.below A)
  have Z0 := Lib.hid (Z0.out.below A)
  have zw13 := A.size
  clear A
  go_wp2_with fail
  refine (markI64 _ _ _ _ _ _ 1 _ hS (by omega) K4).mono ?_
  rintro e w14 ⟨rfl, R, A⟩
  have z := A.size
  have t := T.size
  have T := T.trans (A.below (by omega) (by omega))
  have K2 := K2.keep A (by omega)
  have K3 := K3.keep A (by omega)
  have X0 := Lib.hid (X0.out.keep A (by omega))
  have Z0 := Lib.hid (Z0.out.keep A (by omega))
  have K4 := R
  have zw14 := z
  clear A R z t
  go_wp2_with fail
  refine (heldI64 _ _ _ 1 _ hS (by omega) K4.fs).mono ?_
  rintro e w15 ⟨rfl, A⟩
  have T := T.trans (A.mono T.size)
  have K2 := K2.below A
  have K3 := K3.below A
  have K4 := K4.below A
  have X0 := Lib.hid (X0.out.below A)
  have Z0 := Lib.hid (Z0.out.below A)
  have zw15 := A.size
  clear A
  obtain ⟨X00, X01, X02, X03⟩ := X0.out
  go_wp2_with fail
  clear X00 X01 X02 X03
  refine (toTens _ _ _ _ _ _ _ hn0 (h0.below T)).mono ?_
  rintro e w16 ⟨g6, rfl, R, A⟩
  have T := T.trans (A.mono T.size)
  have K2 := K2.below A
  have K3 := K3.below A
  have K4 := K4.below A
  have X0 := Lib.hid (X0.out.below A)
  have Z0 := Lib.hid (Z0.out.below A)
  have zw16 := A.size
  clear A
  have K6 := R
  clear R
  go_wp2_with fail
  refine (hi w16 _ _ K6.fs).mono ?_
  rintro e w17 ⟨b7, p7, ys7, rfl, R, E7, A⟩
  have T := T.trans (A.mono T.size)
  have K2 := K2.below A
  have K3 := K3.below A
  have K4 := K4.below A
  have K6 := K6.below A
  have X0 := Lib.hid (X0.out.below A)
  have Z0 := Lib.hid (Z0.out.below A)
  have zw17 := A.size
  clear A
  have K7 := R
  clear R
  have E7h := Lib.hid E7
  clear E7
  go_wp2_with fail
  refine (eqI64 _ _ _ _ _ _ _ _ hS K7.fs K2.fs (E7h.out.trans E2h.out.symm)).mono ?_
  rintro e w18 ⟨rfl, A⟩
  have T := T.trans (A.mono T.size)
  have K2 := K2.below A
  have K3 := K3.below A
  have K4 := K4.below A
  have K6 := K6.below A
  have K7 := K7.below A
  have X0 := Lib.hid (X0.out.below A)
  have Z0 := Lib.hid (Z0.out.below A)
  have zw18 := A.size
  clear A
  go_wp2_with fail
  refine (heldI64 _ _ _ 1 _ hS (by omega) K4.fs).mono ?_
  rintro e w19 ⟨rfl, A⟩
  have T := T.trans (A.mono T.size)
  have K2 := K2.below A
  have K3 := K3.below A
  have K4 := K4.below A
  have K6 := K6.below A
  have K7 := K7.below A
  have X0 := Lib.hid (X0.out.below A)
  have Z0 := Lib.hid (Z0.out.below A)
  have zw19 := A.size
  clear A
  go_wp2
  go_ret
  exact ⟨rfl, T⟩
theorem own : ownKnob Try.prog.godebug = none := by kernel_rfl
theorem laidOut : laidOutB Try.prog = true := by kernel_rfl
set_option maxRecDepth 100000 in
set_option maxHeartbeats 2000000 in
theorem lifted (os : Os) (started : os.Started) (H : Type) (enc : TypeId × Value → H) :
    ReturnsInHanded {} Try.checked os 6 .any (Rows.fnExactGreatestColumnsSpec.pre6 enc Try.prog Try.f6 Rows.fnExactGreatestColumnsRow.domain false) (Rows.fnExactGreatestColumnsSpec.post enc Try.prog Try.f6 false true false false) := by
  refine returnsInHanded_of_change (C := Try.checked) own started (by kernel_rfl) Try.func6
    (ChangeSpec.witness6 (enc := enc) (C := Try.checked) false ⟨#[], #[.agg #[.int .i64 0, .int .i64 0, .slice none 0 0]], []⟩ 8 (by kernel_rfl) (by kernel_rfl) (by kernel_rfl) (by kernel_rfl)) ?_
  intro W base args ds gs before hval0 hW hcnd _
  have hval : ∀ (j : Nat) t v, Try.f6.params[j]? = some t → args[j]? = some v → Value.okWide Try.prog W .any base t v := hval0
  have hW' := hW
  obtain ⟨p, q, hA0, hV, rfl, hfz, hnd⟩ := hW
  have hA : DataW.TrodAll enc Try.prog W 0 (fun _ => true) true Try.f6.params.toList args.toList ds p := hA0
  rw [Try.params6] at hA hval
  obtain ⟨v0, vs0, d0, ds0, p0, q0, hargs, rfl, rfl, h0, r0⟩ := trodAll_cons hA
  obtain ⟨rfl, rfl, rfl⟩ := trodAll_nil r0
  obtain rfl : args = #[v0] := by cases args; simp_all
  obtain ⟨rfl, rfl⟩ := trodVars_none hV
  have k0 := h0
  have lt0 : ∀ x ∈ p0, x.block < W.heap.size := by obtain ⟨m, hm⟩ := k0; exact DataW.trod_lt m _ _ _ hm
  obtain ⟨ro0, co0, a0, n0, c0, z0, rfl, f0, wr0, wc0, b0⟩ := open_tensor Try.underlying24 (by kernel_rfl) (by kernel_rfl) Try.underlying2 Try.underlying2 Try.underlying22 Try.underlying33 (by kernel_rfl) (hval 0 24 v0 rfl rfl) h0
  clear hA0 hval0
  refine (walk W ro0 co0 a0 n0 c0 z0 f0 wr0 wc0 b0).mono fun e W' ⟨he, bel⟩ => ?_
  subst he
  exact ⟨_, rfl, _, _, _, [], _, [], hW', trodAll_mk1 (shut_bool Try.underlying4 _), (trodAll_cons_mk (Below.trod laidOut (by kernel_rfl) (of_decide_eq_true (by kernel_rfl)) k0 bel lt0) trodAll_mk0), rfl, bel.frame _, fun h => by cases h⟩

theorem over : Rows.fnExactGreatestColumnsRow.holds Try.pinned (OpenSpec.ofChange Rows.fnExactGreatestColumnsSpec) :=
  OpenClaim.holds_of_wide 6 Try.f6 rfl rfl rfl rfl rfl rfl rfl ⟨rfl, rfl, rfl, rfl, rfl⟩ rfl rfl rfl rfl rfl (by kernel_rfl) Try.func6 (by kernel_rfl)
    (of_decide_eq_true (by kernel_rfl)) (by unfold Func.isWrapper; first | (rw [if_pos (by decide +kernel)]; kernel_rfl) | (rw [if_neg (by decide +kernel)]; exact ⟨rfl, rfl⟩))
    (fun os started H enc _ => lifted os started H enc)

theorem proved : Rows.FnExactGreatestColumnsSaid := over
end Go.Proofs.Ytoeppdkhncllbaa.greatestColumns
