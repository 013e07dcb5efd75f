/- The law FnExactConvolveRow holds for every input. No conditions. -/
import Derived.Test.YtfgmpodmbbnijaaValid
import Derived.Test.YtfgmpodmbbnijaaSums
import Derived.Test.YtfgmpodmbbnijaaOwnS
import Derived.Deep.CutRange
import Derived.Test.YtfgmpodmbbnijaaOpen
import Derived.ProofKit
import Derived.OpenShut
import Derived.ChangeOld
import Derived.WalkSmall
namespace Go.Proofs.Ytfgmpodmbbnijaa.convolveRow
open Go.ChangeShapes Go.WideShapes Go.ChangeAt Go.RowKit Go.Fl Go.Reg
def F (xs ks : List Nat) (m s : Nat) (j : Nat) : Nat := dotTo ks ((xs.drop (j * s)).take m) m
theorem cnt {j q s N : Nat} (hq : q = j * s) (h1 : N < q) (h2 : q ≤ N + s) : j = (N + s) / s := by
  subst hq
  symm
  apply Nat.div_eq_of_lt_le h2
  rw [Nat.succ_mul]; omega
def ok (n m : Nat) (k : Int) : Bool := (inr (n : Int) 1 8 && (inr (m : Int) 1 8 && decide (m ≤ n))) && inr k 1 8
def S (n m : Nat) (k : Int) (xs ks : List Nat) : List Nat := if ok n m k = true then upto (F xs ks m k.toNat) ((n - m + k.toNat) / k.toNat) else []
theorem S_no {n m : Nat} {k : Int} (xs ks : List Nat) (h : ok n m k = false) : S n m k xs ks = [] := by unfold S; rw [h]; rfl
theorem S_yes {n m s : Nat} (xs ks : List Nat) (h : ok n m (s : Int) = true) : S n m (s : Int) xs ks = upto (F xs ks m s) ((n - m + s) / s) := by unfold S; rw [if_pos h]; rfl
theorem S_len (n m : Nat) (k : Int) (xs ks : List Nat) : (S n m k xs ks).length ≤ 1048576 := by
  unfold S; split
  · rename_i h
    unfold ok inr at h
    simp at h
    rw [upto_length]
    have := Nat.div_le_self (n - m + k.toNat) k.toNat
    omega
  · simp
theorem RL_no {t : TypeId} {w wr : World} (B : Below w.heap.size w wr) : RL t w [] false (.returned (.tuple #[.slice none 0 0, .bool false])) wr := ⟨none, 0, [], rfl, Row.nil _ _ _ B.size, rfl, B⟩
theorem RL_own {t : TypeId} {w wr : World} {S ys : List Nat} {a : Option Addr} {n cap : Nat} (hS : S.length = n) (O : OwnS w.heap.size t w wr n a cap ys) (hy : ys.map (cn .f32) = S.map (cn .f32)) : RL t w S true (.returned (.tuple #[.slice a n cap, .bool true])) wr := by
  subst hS
  exact ⟨_, _, ys, rfl, O.row, hy, O.below⟩
theorem shortS (a : Option Addr) (n c : Nat) (w : World) (_hm : n ≤ 9223372036854775807) : Calls Try.prog 27 #[.slice a n c] w fun e w' => e = .returned (.bool (inr (n : Int) 1 8)) ∧ w' = w := by
  by_cases h1 : (1 : Int) ≤ n
  · have e : inr (n : Int) 1 8 = decide ((n : Int) ≤ 8) := by unfold inr; simp [h1]
    rw [e]
    clear e
    go_enter Try.func27, Try.ntmps27
    go_wp2
    go_ret
    exact ⟨rfl, rfl⟩
  · have e : inr (n : Int) 1 8 = false := by unfold inr; simp [h1]
    rw [e]
    clear e
    go_enter Try.func27, Try.ntmps27
    go_wp2
    go_ret
    exact ⟨rfl, rfl⟩
theorem kernI (x : Int) (w : World) : Calls Try.prog 30 #[.int .i64 x] w fun e w' => e = .returned (.bool (inr x 1 8)) ∧ w' = w := by
  go_enter Try.func30, Try.ntmps30
  go_wp2_with fail
  refine (inI _ _ _ _).mono ?_
  rintro e w1 ⟨rfl, rfl⟩
  go_wp2
  go_ret
  exact ⟨rfl, rfl⟩
set_option maxHeartbeats 1000000 in
theorem specS (a : Option Addr) (n cap : Nat) (xs : List Nat) (x2 : Option Addr) (m cap2 : Nat) (ks : List Nat) (k : Int) (w : World) (h1 : Fs w a n cap xs) (h2 : Fs w x2 m cap2 ks) :
    Calls Try.prog 8 #[.slice a n cap, .slice x2 m cap2, .int .i64 k] w (RL 45 w (S n m k xs ks) (ok n m k)) := by
  have hc1 := h1.cap1
  have hc2 := h1.cap2
  have hd1 := h2.cap1
  have hd2 := h2.cap2
  unfold maxLen at hc2 hd2
  have H1 := Lib.hid h1
  have H2 := Lib.hid h2
  clear h1 h2
  cases ha : inr (n : Int) 1 8
  · have ho : ok n m k = false := by unfold ok; rw [ha]; simp
    rw [S_no xs ks ho, ho]
    have HA := Lib.hid ha
    clear ho ha
    go_enter Try.func8, Try.ntmps8
    go_wp2_with fail
    refine (shortS _ _ _ _ (by omega)).mono ?_
    rintro e wx0 ⟨rfl, hsame⟩
    replace hsame := hsame.symm
    subst hsame
    rw [HA.out]
    go_wp2
    go_ret2
    exact RL_no (Below.refl _ _)
  · cases hb : inr (m : Int) 1 8
    · have ho : ok n m k = false := by unfold ok; rw [hb]; simp
      rw [S_no xs ks ho, ho]
      have HA := Lib.hid ha
      have HB := Lib.hid hb
      clear ho ha hb
      go_enter Try.func8, Try.ntmps8
      go_wp2_with fail
      refine (shortS _ _ _ _ (by omega)).mono ?_
      rintro e wx0 ⟨rfl, hsame⟩
      replace hsame := hsame.symm
      subst hsame
      rw [HA.out]
      go_wp2_with fail
      refine (shortS _ _ _ _ (by omega)).mono ?_
      rintro e wx1 ⟨rfl, hsame⟩
      replace hsame := hsame.symm
      subst hsame
      rw [HB.out]
      go_wp2
      go_ret2
      exact RL_no (Below.refl _ _)
    · by_cases hmn : m ≤ n
      · cases hd : inr k 1 8
        · have ho : ok n m k = false := by unfold ok; rw [hd]; simp
          rw [S_no xs ks ho, ho]
          have HA := Lib.hid ha
          have HB := Lib.hid hb
          have HD := Lib.hid hd
          clear ho ha hb hd
          go_enter Try.func8, Try.ntmps8
          go_wp2_with fail
          refine (shortS _ _ _ _ (by omega)).mono ?_
          rintro e wx0 ⟨rfl, hsame⟩
          replace hsame := hsame.symm
          subst hsame
          rw [HA.out]
          go_wp2_with fail
          refine (shortS _ _ _ _ (by omega)).mono ?_
          rintro e wx1 ⟨rfl, hsame⟩
          replace hsame := hsame.symm
          subst hsame
          rw [HB.out]
          go_wp2_with fail
          refine (inS _ _ _ _).mono ?_
          rintro e wx2 ⟨rfl, hsame⟩
          replace hsame := hsame.symm
          subst hsame
          rw [HD.out]
          go_wp2
          go_ret2
          exact RL_no (Below.refl _ _)
        · have ho : ok n m k = true := by unfold ok; rw [ha, hb, hd, decide_eq_true hmn]; rfl
          have hk : 1 ≤ k ∧ k ≤ 8 := by unfold inr at hd; simp at hd; omega
          obtain ⟨s, rfl⟩ := Int.eq_ofNat_of_zero_le (a := k) (by omega)
          have hn : 1 ≤ n ∧ n ≤ 8 := by unfold inr at ha; simp at ha; omega
          have hm : 1 ≤ m ∧ m ≤ 8 := by unfold inr at hb; simp at hb; omega
          have hs : 1 ≤ s ∧ s ≤ 8 := by omega
          clear hk
          rw [S_yes xs ks ho, ho]
          have HA := Lib.hid ha
          have HB := Lib.hid hb
          have HD := Lib.hid hd
          clear ha hb hd ho
          obtain ⟨b1, o1, ea, _⟩ := H1.out.cell 0 (by omega)
          subst ea
          obtain ⟨i0, hi, hz0, hz1, hz2⟩ := info_parts infoF32
          have HI := Lib.hid hi
          have HZ0 := Lib.hid hz0
          have HZ1 := Lib.hid hz1
          have HZ2 := Lib.hid hz2
          clear hi hz0 hz1 hz2
          have hmd : decide (n < m) = false := by simp; omega
          go_enter Try.func8, Try.ntmps8
          go_wp2_with fail
          refine (shortS _ _ _ _ (by omega)).mono ?_
          rintro e wx0 ⟨rfl, hsame⟩
          replace hsame := hsame.symm
          subst hsame
          rw [HA.out]
          go_wp2_with fail
          refine (shortS _ _ _ _ (by omega)).mono ?_
          rintro e wx1 ⟨rfl, hsame⟩
          replace hsame := hsame.symm
          subst hsame
          rw [HB.out]
          go_wp2_with fail
          refine (inS _ _ _ _).mono ?_
          rintro e wx2 ⟨rfl, hsame⟩
          replace hsame := hsame.symm
          subst hsame
          rw [HD.out]
          go_wp2
          clear hmd
          have ST := Lib.hid (own_start w 45)
          go_loopw [8, 9] (fun v i w' => ∃ (j q : Nat) (a' : Option Addr) (cap' : Nat) (ys : List Nat), q ≤ n - m + s ∧ Hid (q = j * s) ∧ i = .int .i64 q ∧ v = .slice a' j cap' ∧ OwnS w.heap.size 45 w w' j a' cap' ys ∧ ys.map (cn .f32) = (upto (F xs ks m s) j).map (cn .f32)) (fun _ i _ => n - m + s + 1 - (intOf i).toNat)
          case atStart => exact ⟨0, 0, _, _, _, by omega, (Nat.zero_mul _).symm, rfl, rfl, ST.out, rfl⟩
          case round =>
            obtain ⟨j, q, a', cap', ys, hq1, hq, rfl, rfl, own, hys⟩ := hrel
            have O := Lib.hid own
            have HY := Lib.hid hys
            clear own hys
            by_cases hlt : q + m ≤ n
            · have hjq : j ≤ q := by have := hq.out; rw [this]; exact Nat.le_mul_of_pos_right _ (by omega)
              have hx1 : ¬ cap = q := by omega
              have e3 : q + m - q = m := by omega
              have SB := Lib.hid ((H1.out.below O.out.below).sub (i := q) (j := q + m) (by omega) (by omega) (cap - q) rfl)
              rw [e3] at SB
              go_wp2_with fail
              clear hx1 e3
              refine (specDot _ _ m _ _ ks ((xs.drop q).take m) _ (by omega) (H2.out.below O.out.below) SB.out).mono ?_
              rintro e w1 ⟨u, mm, rfl, hw1, hu⟩
              have O1 := Lib.hid (show OwnS w.heap.size 45 w w1 j a' cap' ys by rw [hw1]; exact O.out.drew mm)
              have HU := Lib.hid (show cn .f32 u = cn .f32 (F xs ks m s j) by unfold F; rw [← hq.out]; exact hu)
              clear hw1 hu O
              go_wp2_with (at_builtin; refine wpList_append_own _ rfl (.tmp 41) (.tmp 51) 22 rfl w.heap.size 45 i0 (.float .f32 0) 1 4 Try.underlying22 HI.out HZ0.out HZ1.out HZ2.out rfl (by decide) (.slice a' j cap') j (fl ys) rfl (O1.out.alloc _).own ⟨w1.heap.size, 0, none⟩ 1 1 [.float .f32 u] rfl rfl ?c1 ?c2 ?c3 ?c4 ?c5 ?_)
              case c1 =>
                intro j v hj
                match j, hj with
                | 0, hj => simp at hj; subst hj; exact cell_new _ _ _
              case c2 => intro v hv; simp at hv; subst hv; rfl
              case c3 => unfold maxLen; omega
              case c4 => omega
              case c5 => have := O1.out.le; simp; omega
              intro v' w2 hown hgr _
              obtain ⟨a2, cap2', rfl, O2_⟩ := OwnS.app (us := [u]) O1.out hown hgr
              have O2 := Lib.hid O2_
              clear O2_ hown hgr
              go_wp2
              go_roundw
              case rel => exact ⟨j + 1, q + s, a2, cap2', ys ++ [u], by omega, (by have := hq.out; show q + s = _; rw [Nat.succ_mul]; omega), by go_num, rfl, O2.out, upto_step HY.out HU.out⟩
              case measure => simp [intOf]; omega
            · have hj := cnt (N := n - m) hq.out (by omega) hq1
              have HJ := Lib.hid hj
              clear hj
              go_wp2
              go_ret2
              exact RL_own (by rw [upto_length]; exact HJ.out.symm) O.out (by rw [← HJ.out]; exact HY.out)
      · have ho : ok n m k = false := by unfold ok; rw [decide_eq_false hmn]; simp
        rw [S_no xs ks ho, ho]
        have HA := Lib.hid ha
        have HB := Lib.hid hb
        clear ho ha hb
        go_enter Try.func8, Try.ntmps8
        go_wp2_with fail
        refine (shortS _ _ _ _ (by omega)).mono ?_
        rintro e wx0 ⟨rfl, hsame⟩
        replace hsame := hsame.symm
        subst hsame
        rw [HA.out]
        go_wp2_with fail
        refine (shortS _ _ _ _ (by omega)).mono ?_
        rintro e wx1 ⟨rfl, hsame⟩
        replace hsame := hsame.symm
        subst hsame
        rw [HB.out]
        go_wp2
        go_ret2
        exact RL_no (Below.refl _ _)
set_option maxHeartbeats 1000000 in
theorem implS (a : Option Addr) (n cap : Nat) (xs : List Nat) (x2 : Option Addr) (m cap2 : Nat) (ks : List Nat) (k : Int) (w : World) (h1 : Fs w a n cap xs) (h2 : Fs w x2 m cap2 ks) :
    Calls Try.prog 10 #[.slice a n cap, .slice x2 m cap2, .int .i64 k] w (RL 45 w (S n m k xs ks) (ok n m k)) := by
  have hc1 := h1.cap1
  have hc2 := h1.cap2
  have hd1 := h2.cap1
  have hd2 := h2.cap2
  unfold maxLen at hc2 hd2
  have H1 := Lib.hid h1
  have H2 := Lib.hid h2
  clear h1 h2
  cases ha : inr (n : Int) 1 8
  · have ho : ok n m k = false := by unfold ok; rw [ha]; simp
    rw [S_no xs ks ho, ho]
    have HA := Lib.hid ha
    clear ho ha
    go_enter Try.func10, Try.ntmps10
    go_wp2_with fail
    refine (kernI _ _).mono ?_
    rintro e wx0 ⟨rfl, hsame⟩
    replace hsame := hsame.symm
    subst hsame
    rw [HA.out]
    go_wp2
    go_ret2
    exact RL_no (Below.refl _ _)
  · cases hb : inr (m : Int) 1 8
    · have ho : ok n m k = false := by unfold ok; rw [hb]; simp
      rw [S_no xs ks ho, ho]
      have HA := Lib.hid ha
      have HB := Lib.hid hb
      clear ho ha hb
      go_enter Try.func10, Try.ntmps10
      go_wp2_with fail
      refine (kernI _ _).mono ?_
      rintro e wx0 ⟨rfl, hsame⟩
      replace hsame := hsame.symm
      subst hsame
      rw [HA.out]
      go_wp2_with fail
      refine (kernI _ _).mono ?_
      rintro e wx1 ⟨rfl, hsame⟩
      replace hsame := hsame.symm
      subst hsame
      rw [HB.out]
      go_wp2
      go_ret2
      exact RL_no (Below.refl _ _)
    · by_cases hmn : m ≤ n
      · cases hd : inr k 1 8
        · have ho : ok n m k = false := by unfold ok; rw [hd]; simp
          rw [S_no xs ks ho, ho]
          have HA := Lib.hid ha
          have HB := Lib.hid hb
          have HD := Lib.hid hd
          clear ho ha hb hd
          go_enter Try.func10, Try.ntmps10
          go_wp2_with fail
          refine (kernI _ _).mono ?_
          rintro e wx0 ⟨rfl, hsame⟩
          replace hsame := hsame.symm
          subst hsame
          rw [HA.out]
          go_wp2_with fail
          refine (kernI _ _).mono ?_
          rintro e wx1 ⟨rfl, hsame⟩
          replace hsame := hsame.symm
          subst hsame
          rw [HB.out]
          go_wp2_with fail
          refine (kernI _ _).mono ?_
          rintro e wx2 ⟨rfl, hsame⟩
          replace hsame := hsame.symm
          subst hsame
          rw [HD.out]
          go_wp2
          go_ret2
          exact RL_no (Below.refl _ _)
        · have ho : ok n m k = true := by unfold ok; rw [ha, hb, hd, decide_eq_true hmn]; rfl
          have hk : 1 ≤ k ∧ k ≤ 8 := by unfold inr at hd; simp at hd; omega
          obtain ⟨s, rfl⟩ := Int.eq_ofNat_of_zero_le (a := k) (by omega)
          have hn : 1 ≤ n ∧ n ≤ 8 := by unfold inr at ha; simp at ha; omega
          have hm : 1 ≤ m ∧ m ≤ 8 := by unfold inr at hb; simp at hb; omega
          have hs : 1 ≤ s ∧ s ≤ 8 := by omega
          clear hk
          rw [S_yes xs ks ho, ho]
          have HA := Lib.hid ha
          have HB := Lib.hid hb
          have HD := Lib.hid hd
          clear ha hb hd ho
          obtain ⟨b1, o1, ea, _⟩ := H1.out.cell 0 (by omega)
          subst ea
          obtain ⟨i0, hi, hz0, hz1, hz2⟩ := info_parts infoF32
          have HI := Lib.hid hi
          have HZ0 := Lib.hid hz0
          have HZ1 := Lib.hid hz1
          have HZ2 := Lib.hid hz2
          clear hi hz0 hz1 hz2
          have hmd : decide (n < m) = false := by simp; omega
          go_enter Try.func10, Try.ntmps10
          go_wp2_with fail
          refine (kernI _ _).mono ?_
          rintro e wx0 ⟨rfl, hsame⟩
          replace hsame := hsame.symm
          subst hsame
          rw [HA.out]
          go_wp2_with fail
          refine (kernI _ _).mono ?_
          rintro e wx1 ⟨rfl, hsame⟩
          replace hsame := hsame.symm
          subst hsame
          rw [HB.out]
          go_wp2_with fail
          refine (kernI _ _).mono ?_
          rintro e wx2 ⟨rfl, hsame⟩
          replace hsame := hsame.symm
          subst hsame
          rw [HD.out]
          go_wp2
          clear hmd
          have ST := Lib.hid (own_start w 45)
          go_loopw [8, 9] (fun v i w' => ∃ (j q : Nat) (a' : Option Addr) (cap' : Nat) (ys : List Nat), q ≤ n - m + s ∧ Hid (q = j * s) ∧ i = .int .i64 q ∧ v = .slice a' j cap' ∧ OwnS w.heap.size 45 w w' j a' cap' ys ∧ ys.map (cn .f32) = (upto (F xs ks m s) j).map (cn .f32)) (fun _ i _ => n - m + s + 1 - (intOf i).toNat)
          case atStart => exact ⟨0, 0, _, _, _, by omega, (Nat.zero_mul _).symm, rfl, rfl, ST.out, rfl⟩
          case round =>
            obtain ⟨j, q, a', cap', ys, hq1, hq, rfl, rfl, own, hys⟩ := hrel
            have O := Lib.hid own
            have HY := Lib.hid hys
            clear own hys
            by_cases hlt : q + m ≤ n
            · have hjq : j ≤ q := by have := hq.out; rw [this]; exact Nat.le_mul_of_pos_right _ (by omega)
              have hx1 : ¬ cap = q := by omega
              have e3 : q + m - q = m := by omega
              have SB := Lib.hid ((H1.out.below O.out.below).sub (i := q) (j := q + m) (by omega) (by omega) (cap - q) rfl)
              rw [e3] at SB
              go_wp2_with fail
              clear hx1 e3
              refine (implDot _ _ m _ _ ks ((xs.drop q).take m) _ (by omega) (H2.out.below O.out.below) SB.out).mono ?_
              rintro e w1 ⟨u, mm, rfl, hw1, hu⟩
              have O1 := Lib.hid (show OwnS w.heap.size 45 w w1 j a' cap' ys by rw [hw1]; exact O.out.drew mm)
              have HU := Lib.hid (show cn .f32 u = cn .f32 (F xs ks m s j) by unfold F; rw [← hq.out]; exact hu)
              clear hw1 hu O
              go_wp2_with (at_builtin; refine wpList_append_own _ rfl (.tmp 43) (.tmp 53) 22 rfl w.heap.size 45 i0 (.float .f32 0) 1 4 Try.underlying22 HI.out HZ0.out HZ1.out HZ2.out rfl (by decide) (.slice a' j cap') j (fl ys) rfl (O1.out.alloc _).own ⟨w1.heap.size, 0, none⟩ 1 1 [.float .f32 u] rfl rfl ?c1 ?c2 ?c3 ?c4 ?c5 ?_)
              case c1 =>
                intro j v hj
                match j, hj with
                | 0, hj => simp at hj; subst hj; exact cell_new _ _ _
              case c2 => intro v hv; simp at hv; subst hv; rfl
              case c3 => unfold maxLen; omega
              case c4 => omega
              case c5 => have := O1.out.le; simp; omega
              intro v' w2 hown hgr _
              obtain ⟨a2, cap2', rfl, O2_⟩ := OwnS.app (us := [u]) O1.out hown hgr
              have O2 := Lib.hid O2_
              clear O2_ hown hgr
              go_wp2
              go_roundw
              case rel => exact ⟨j + 1, q + s, a2, cap2', ys ++ [u], by omega, (by have := hq.out; show q + s = _; rw [Nat.succ_mul]; omega), by go_num, rfl, O2.out, upto_step HY.out HU.out⟩
              case measure => simp [intOf]; omega
            · have hj := cnt (N := n - m) hq.out (by omega) hq1
              have HJ := Lib.hid hj
              clear hj
              go_wp2
              go_ret2
              exact RL_own (by rw [upto_length]; exact HJ.out.symm) O.out (by rw [← HJ.out]; exact HY.out)
      · have ho : ok n m k = false := by unfold ok; rw [decide_eq_false hmn]; simp
        rw [S_no xs ks ho, ho]
        have HA := Lib.hid ha
        have HB := Lib.hid hb
        clear ho ha hb
        go_enter Try.func10, Try.ntmps10
        go_wp2_with fail
        refine (kernI _ _).mono ?_
        rintro e wx0 ⟨rfl, hsame⟩
        replace hsame := hsame.symm
        subst hsame
        rw [HA.out]
        go_wp2_with fail
        refine (kernI _ _).mono ?_
        rintro e wx1 ⟨rfl, hsame⟩
        replace hsame := hsame.symm
        subst hsame
        rw [HB.out]
        go_wp2
        go_ret2
        exact RL_no (Below.refl _ _)
theorem both (n : Nat) (xs : List Nat) (m : Nat) (ks : List Nat) (k : Int) (_hn : n ≤ 1048576) (_hl : n = xs.length) (_hm : m ≤ 1048576) (_hl2 : m = ks.length) (_wk : (Lit.int .i64 k).wf = true) :
    ∃ ok S, S.length ≤ 1048576 ∧ (∀ w a cap x2 cap2, Fs w a n cap xs → Fs w x2 m cap2 ks → Calls Try.prog 8 #[.slice a n cap, .slice x2 m cap2, .int .i64 k] w (RL 45 w S ok)) ∧ (∀ w a cap x2 cap2, Fs w a n cap xs → Fs w x2 m cap2 ks → Calls Try.prog 10 #[.slice a n cap, .slice x2 m cap2, .int .i64 k] w (RL 45 w S ok)) :=
  ⟨_, _, S_len n m k xs ks, fun w a cap x2 cap2 h1 h2 => specS a n cap xs x2 m cap2 ks k w h1 h2, fun w a cap x2 cap2 h1 h2 => implS a n cap xs x2 m cap2 ks k w h1 h2⟩
set_option maxHeartbeats 4000000 in
theorem walk (w : World) (a0 : Option Addr) (n0 c0 : Nat) (xs0 : List Nat) (h0 : Fs w a0 n0 c0 xs0) (_b0 : ∀ x ∈ xs0, x < 4294967296) (a1 : Option Addr) (n1 c1 : Nat) (xs1 : List Nat) (h1 : Fs w a1 n1 c1 xs1) (_b1 : ∀ x ∈ xs1, x < 4294967296) (a2 : Int) (_w2 : (Lit.int .i64 a2).wf = true) :
    Calls Try.prog 3 #[.slice a0 n0 c0, .slice a1 n1 c1, .int .i64 a2] w fun e w' => e = .returned (.bool true) ∧ Below w.heap.size w w' := by
  have m0 := h0.cap2
  have q0 := h0.cap1
  have m1 := h1.cap2
  have q1 := h1.cap1
  unfold maxLen at m0 m1
  by_cases g0 : 1048576 < n0
  · go_enter Try.func3, Try.ntmps3
    go_wp2
    go_ret
    exact ⟨rfl, Below.refl _ _⟩
  have hn0 : n0 ≤ 1048576 := by omega
  by_cases g1 : 1048576 < n1
  · go_enter Try.func3, Try.ntmps3
    go_wp2
    go_ret
    exact ⟨rfl, Below.refl _ _⟩
  have hn1 : n1 ≤ 1048576 := by omega
  obtain ⟨ok, S, hS, hs, hi⟩ := both n0 xs0 n1 xs1 a2 hn0 h0.len hn1 h1.len _w2
  go_enter Try.func3, Try.ntmps3
  have T := Below.refl w.heap.size w
  go_wp2_with fail
  refine (toF32r _ _ _ _ _ hn0 (h0.below T)).mono ?_
  rintro e w1 ⟨g1, rfl, R, A⟩
  have T := T.trans (A.mono T.size)
  have zw1 := A.size
  clear A
  have K1 := R
  clear R
  go_wp2_with fail
  refine (toF32r _ _ _ _ _ hn1 (h1.below T)).mono ?_
  rintro e w2 ⟨g2, rfl, R, A⟩
  have T := T.trans (A.mono T.size)
  have K1 := K1.below A
  have zw2 := A.size
  clear A
  have K2 := R
  clear R
  go_wp2_with fail
  refine (hs w2 _ _ _ _ K1.fs K2.fs).mono ?_
  rintro e w3 ⟨b3, p3, ys3, rfl, R, E3, A⟩
  have T := T.trans (A.mono T.size)
  have K1 := K1.below A
  have K2 := K2.below A
  have zw3 := A.size
  clear A
  have K3 := R
  clear R
  have E3h := Lib.hid E3
  clear E3
  go_wp2_with fail
  refine (toF32r _ _ _ _ _ hn0 (h0.below T)).mono ?_
  rintro e w4 ⟨g4, rfl, R, A⟩
  have T := T.trans (A.mono T.size)
  have K1 := K1.below A
  have K2 := K2.below A
  have K3 := K3.below A
  have zw4 := A.size
  clear A
  have K4 := R
  clear R
  go_wp2_with fail
  refine (toF32r _ _ _ _ _ hn1 (h1.below T)).mono ?_
  rintro e w5 ⟨g5, rfl, R, A⟩
  have T := T.trans (A.mono T.size)
  have K1 := K1.below A
  have K2 := K2.below A
  have K3 := K3.below A
  have K4 := K4.below A
  have zw5 := A.size
  clear A
  have K5 := R
  clear R
  go_wp2_with fail
  refine (hi w5 _ _ _ _ K4.fs K5.fs).mono ?_
  rintro e w6 ⟨b6, p6, ys6, rfl, R, E6, A⟩
  have T := T.trans (A.mono T.size)
  have K1 := K1.below A
  have K2 := K2.below A
  have K3 := K3.below A
  have K4 := K4.below A
  have K5 := K5.below A
  have zw6 := A.size
  clear A
  have K6 := R
  clear R
  have E6h := Lib.hid E6
  clear E6
  go_wp2_with fail
  refine (eqF32r _ _ _ _ _ _ _ _ hS K6.fs K3.fs (E6h.out.trans E3h.out.symm)).mono ?_
  rintro e w7 ⟨rfl, A⟩
  have T := T.trans (A.mono T.size)
  have K1 := K1.below A
  have K2 := K2.below A
  have K3 := K3.below A
  have K4 := K4.below A
  have K5 := K5.below A
  have K6 := K6.below A
  have zw7 := A.size
  clear A
  go_wp2_with fail
  refine (toF32r _ _ _ _ _ hn0 (h0.below T)).mono ?_
  rintro e w8 ⟨g7, rfl, R, A⟩
  have T := T.trans (A.mono T.size)
  have K1 := K1.below A
  have K2 := K2.below A
  have K3 := K3.below A
  have K4 := K4.below A
  have K5 := K5.below A
  have K6 := K6.below A
  have zw8 := A.size
  clear A
  have K7 := R
  clear R
  go_wp2_with fail
  refine (eqF32r _ _ _ _ _ _ _ _ hn0 K4.fs K7.fs rfl).mono ?_
  rintro e w9 ⟨rfl, A⟩
  have T := T.trans (A.mono T.size)
  have K1 := K1.below A
  have K2 := K2.below A
  have K3 := K3.below A
  have K4 := K4.below A
  have K5 := K5.below A
  have K6 := K6.below A
  have K7 := K7.below A
  have zw9 := A.size
  clear A
  go_wp2_with fail
  refine (toF32r _ _ _ _ _ hn1 (h1.below T)).mono ?_
  rintro e w10 ⟨g8, rfl, R, A⟩
  have T := T.trans (A.mono T.size)
  have K1 := K1.below A
  have K2 := K2.below A
  have K3 := K3.below A
  have K4 := K4.below A
  have K5 := K5.below A
  have K6 := K6.below A
  have K7 := K7.below A
  have zw10 := A.size
  clear A
  have K8 := R
  clear R
  go_wp2_with fail
  refine (eqF32r _ _ _ _ _ _ _ _ hn1 K5.fs K8.fs rfl).mono ?_
  rintro e w11 ⟨rfl, A⟩
  have T := T.trans (A.mono T.size)
  have K1 := K1.below A
  have K2 := K2.below A
  have K3 := K3.below A
  have K4 := K4.below A
  have K5 := K5.below A
  have K6 := K6.below A
  have K7 := K7.below A
  have K8 := K8.below A
  have zw11 := A.size
  clear A
  clear K1 K2 K7 K8
  go_wp2_with fail
  refine (markF32 _ _ _ _ _ _ (1) _ hn0 (by omega) K4).mono ?_
  rintro e w12 ⟨rfl, R, A⟩
  have z := A.size
  have t := T.size
  have T := T.trans (A.below (by omega) (by omega))
  have K3 := K3.keep A (by omega)
  have K5 := K5.keep A (by omega)
  have K6 := K6.keep A (by omega)
  have K4 := R
  have zw12 := z
  clear A R z t
  go_wp2_with fail
  refine (markF32 _ _ _ _ _ _ (1 + (n0 : Int)) _ hn1 (by omega) K5).mono ?_
  rintro e w13 ⟨rfl, R, A⟩
  have z := A.size
  have t := T.size
  have T := T.trans (A.below (by omega) (by omega))
  have K3 := K3.keep A (by omega)
  have K4 := K4.keep A (by omega)
  have K6 := K6.keep A (by omega)
  have K5 := R
  have zw13 := z
  clear A R z t
  go_wp2_with fail
  refine (eqF32r _ _ _ _ _ _ _ _ hS K6.fs K3.fs (E6h.out.trans E3h.out.symm)).mono ?_
  rintro e w14 ⟨rfl, A⟩
  have T := T.trans (A.mono T.size)
  have K3 := K3.below A
  have K4 := K4.below A
  have K5 := K5.below A
  have K6 := K6.below A
  have zw14 := A.size
  clear A
  go_wp2_with fail
  refine (markF32 _ _ _ _ _ _ 1 _ hS (by omega) K6).mono ?_
  rintro e w15 ⟨rfl, R, A⟩
  have z := A.size
  have t := T.size
  have T := T.trans (A.below (by omega) (by omega))
  have K3 := K3.keep A (by omega)
  have K4 := K4.keep A (by omega)
  have K5 := K5.keep A (by omega)
  have K6 := R
  have zw15 := z
  clear A R z t
  go_wp2_with fail
  refine (heldF32r _ _ _ 1 _ hS (by omega) K6.fs).mono ?_
  rintro e w16 ⟨rfl, A⟩
  have T := T.trans (A.mono T.size)
  have K3 := K3.below A
  have K4 := K4.below A
  have K5 := K5.below A
  have K6 := K6.below A
  have zw16 := A.size
  clear A
  go_wp2_with fail
  refine (toF32r _ _ _ _ _ hn0 (h0.below T)).mono ?_
  rintro e w17 ⟨g9, rfl, R, A⟩
  have T := T.trans (A.mono T.size)
  have K3 := K3.below A
  have K4 := K4.below A
  have K5 := K5.below A
  have K6 := K6.below A
  have zw17 := A.size
  clear A
  have K9 := R
  clear R
  go_wp2_with fail
  refine (toF32r _ _ _ _ _ hn1 (h1.below T)).mono ?_
  rintro e w18 ⟨g10, rfl, R, A⟩
  have T := T.trans (A.mono T.size)
  have K3 := K3.below A
  have K4 := K4.below A
  have K5 := K5.below A
  have K6 := K6.below A
  have K9 := K9.below A
  have zw18 := A.size
  clear A
  have K10 := R
  clear R
  go_wp2_with fail
  refine (hi w18 _ _ _ _ K9.fs K10.fs).mono ?_
  rintro e w19 ⟨b11, p11, ys11, rfl, R, E11, A⟩
  have T := T.trans (A.mono T.size)
  have K3 := K3.below A
  have K4 := K4.below A
  have K5 := K5.below A
  have K6 := K6.below A
  have K9 := K9.below A
  have K10 := K10.below A
  have zw19 := A.size
  clear A
  have K11 := R
  clear R
  have E11h := Lib.hid E11
  clear E11
  go_wp2_with fail
  refine (eqF32r _ _ _ _ _ _ _ _ hS K11.fs K3.fs (E11h.out.trans E3h.out.symm)).mono ?_
  rintro e w20 ⟨rfl, A⟩
  have T := T.trans (A.mono T.size)
  have K3 := K3.below A
  have K4 := K4.below A
  have K5 := K5.below A
  have K6 := K6.below A
  have K9 := K9.below A
  have K10 := K10.below A
  have K11 := K11.below A
  have zw20 := A.size
  clear A
  go_wp2_with fail
  refine (heldF32r _ _ _ 1 _ hS (by omega) K6.fs).mono ?_
  rintro e w21 ⟨rfl, A⟩
  have T := T.trans (A.mono T.size)
  have K3 := K3.below A
  have K4 := K4.below A
  have K5 := K5.below A
  have K6 := K6.below A
  have K9 := K9.below A
  have K10 := K10.below A
  have K11 := K11.below A
  have zw21 := A.size
  clear A
  go_wp2
  go_ret
  exact ⟨rfl, T⟩
theorem own : ownKnob Try.prog.godebug = none := by kernel_rfl
theorem laidOut : laidOutB Try.prog = true := by kernel_rfl
set_option maxRecDepth 100000 in
theorem lifted (os : Os) (started : os.Started) (H : Type) (enc : TypeId × Value → H) :
    ReturnsInHanded {} Try.checked os 3 .any (Rows.fnExactConvolveRowSpec.pre6 enc Try.prog Try.f3 Rows.fnExactConvolveRowRow.domain false) (Rows.fnExactConvolveRowSpec.post enc Try.prog Try.f3 false true false false) := by
  refine returnsInHanded_of_change (C := Try.checked) own started (by kernel_rfl) Try.func3
    (ChangeSpec.witness6 (enc := enc) (C := Try.checked) false ⟨#[], #[.slice none 0 0, .slice none 0 0, .int .i64 0], []⟩ 8 (by kernel_rfl) (by kernel_rfl) (by kernel_rfl) (by kernel_rfl)) ?_
  intro W base args ds gs before hval0 hW hcnd _
  have hval : ∀ (j : Nat) t v, Try.f3.params[j]? = some t → args[j]? = some v → Value.okWide Try.prog W .any base t v := hval0
  have hW' := hW
  obtain ⟨p, q, hA0, hV, rfl, hfz, hnd⟩ := hW
  have hA : DataW.TrodAll enc Try.prog W 0 (fun _ => true) true Try.f3.params.toList args.toList ds p := hA0
  rw [Try.params3] at hA hval
  obtain ⟨v0, vs0, d0, ds0, p0, q0, hargs, rfl, rfl, h0, r0⟩ := trodAll_cons hA
  obtain ⟨v1, vs1, d1, ds1, p1, q1, rfl, rfl, rfl, h1, r1⟩ := trodAll_cons r0
  obtain ⟨v2, vs2, d2, ds2, p2, q2, rfl, rfl, rfl, h2, r2⟩ := trodAll_cons r1
  obtain ⟨rfl, rfl, rfl⟩ := trodAll_nil r2
  obtain rfl : args = #[v0, v1, v2] := by cases args; simp_all
  obtain ⟨rfl, rfl⟩ := trodVars_none hV
  have k0 := h0
  have lt0 : ∀ x ∈ p0, x.block < W.heap.size := by obtain ⟨m, hm⟩ := k0; exact DataW.trod_lt m _ _ _ hm
  have k1 := h1
  have lt1 : ∀ x ∈ p1, x.block < W.heap.size := by obtain ⟨m, hm⟩ := k1; exact DataW.trod_lt m _ _ _ hm
  have k2 := h2
  have lt2 : ∀ x ∈ p2, x.block < W.heap.size := by obtain ⟨m, hm⟩ := k2; exact DataW.trod_lt m _ _ _ hm
  obtain ⟨a0, n0, c0, z0, rfl, f0, b0⟩ := open_floats Try.underlying22 Try.underlying45 (by kernel_rfl) (hval 0 22 v0 rfl rfl) h0
  obtain ⟨a1, n1, c1, z1, rfl, f1, b1⟩ := open_floats Try.underlying22 Try.underlying45 (by kernel_rfl) (hval 1 22 v1 rfl rfl) h1
  obtain ⟨a2, rfl, rfl, rfl, w2⟩ := open_int Try.underlying2 (hval 2 2 v2 rfl rfl) h2
  clear hA0 hval0
  refine (walk W a0 n0 c0 z0 f0 b0 a1 n1 c1 z1 f1 b1 a2 w2).mono fun e W' ⟨he, bel⟩ => ?_
  subst he
  exact ⟨_, rfl, _, _, _, [], _, [], hW', trodAll_mk1 (shut_bool Try.underlying4 _), (trodAll_cons_mk (Below.trod laidOut (by kernel_rfl) (of_decide_eq_true (by kernel_rfl)) k0 bel lt0) (trodAll_cons_mk (Below.trod laidOut (by kernel_rfl) (of_decide_eq_true (by kernel_rfl)) k1 bel lt1) (trodAll_cons_mk (Below.trod laidOut (by kernel_rfl) (of_decide_eq_true (by kernel_rfl)) k2 bel lt2) trodAll_mk0))), rfl, bel.frame _, fun h => by cases h⟩

theorem over : Rows.fnExactConvolveRowRow.holds Try.pinned (OpenSpec.ofChange Rows.fnExactConvolveRowSpec) :=
  OpenClaim.holds_of_wide 3 Try.f3 rfl rfl rfl rfl rfl rfl rfl ⟨rfl, rfl, rfl, rfl, rfl⟩ rfl rfl rfl rfl rfl (by kernel_rfl) Try.func3 (by kernel_rfl)
    (of_decide_eq_true (by kernel_rfl)) (by unfold Func.isWrapper; first | (rw [if_pos (by decide +kernel)]; kernel_rfl) | (rw [if_neg (by decide +kernel)]; exact ⟨rfl, rfl⟩))
    (fun os started H enc _ => lifted os started H enc)

theorem proved : Rows.FnExactConvolveRowSaid := over
end Go.Proofs.Ytfgmpodmbbnijaa.convolveRow
