/- The program's (Tensor).transposed: rows and columns exchanged. -/
import Derived.Test.YtoeppdkhncllbaaValid
import Derived.Test.YtoeppdkhncllbaaFin
import Derived.Test.YtoeppdkhncllbaaRowT
import Derived.Deep.CutRange
namespace Go.Proofs.Ytoeppdkhncllbaa.turn
open Go.RowKit Go.Fl Go.Reg
def F (xs : List Nat) (R C : Nat) (j : Nat) : Nat := xs[(j % R) * C + j / R]?.getD 0
theorem F_at (xs : List Nat) {R C i k : Nat} (hk : k < R) : F xs R C (i * R + k) = xs[k * C + i]?.getD 0 := by
  unfold F
  rw [Nat.mul_comm i R, Nat.mul_add_mod, Nat.mod_eq_of_lt hk, Nat.mul_add_div (by omega), Nat.div_eq_of_lt hk, Nat.add_zero]
set_option maxHeartbeats 1000000 in
theorem implInner (R C : Nat) (a : Option Addr) (n cap : Nat) (xs : List Nat) (w : World) (hR : 0 < R ∧ R ≤ 16) (hC : 0 < C ∧ C ≤ 16) (hn : n = R * C) (h1 : Fs w a n cap xs) :
    Calls Try.prog 44 #[.agg #[.int .i64 (R : Int), .int .i64 (C : Int), .slice a n cap]] w (RT1 33 w (C : Int) (R : Int) (upto (F xs R C) (C * R))) := by
  have HC := Lib.hid h1.cell
  have hcap := h1.cap1
  have hcap2 := h1.cap2
  have HM := Lib.hid hcap2
  unfold maxLen at hcap2
  clear h1
  have hRC : R * C ≤ 16 * 16 := Nat.mul_le_mul hR.2 hC.2
  have HN := Lib.hid hn
  have hn1 := Nat.le_of_eq hn
  have hn2 := Nat.le_of_eq hn.symm
  clear hn
  go_enter Try.func44, Try.ntmps44
  go_wp2_with fail
  refine reg_at ?_
  intro w1 hA
  have A : Below w.heap.size w w1 := by rw [hA]; exact (((Below.refl _ _).alloc (Nat.le_refl _) _).alloc (by simp <;> omega) _).alloc (by simp <;> omega) _
  have zw1 : w1.heap.size = w.heap.size + 1 + 1 + 1 := by rw [hA]; simp
  have Q_ : Box w1 (w.heap.size) ↑R ↑C a n cap := by rw [hA]; exact ⟨by simp [go_sem], by simp [go_sem], by simp [go_sem], by simp <;> omega⟩
  have ZR_ : Zbox w1 (w.heap.size + 1) := by rw [hA]; exact ⟨⟨by simp [go_sem], by simp [go_sem], by simp [go_sem], by simp <;> omega⟩, by simp [go_sem], by simp [go_sem], by simp [go_sem]⟩
  have ACC := accHere 33 (show Box w1 (w.heap.size + 1 + 1) ↑C ↑R none 0 0 by rw [hA]; exact ⟨by simp [go_sem], by simp [go_sem], by simp [go_sem], by simp <;> omega⟩) (by rw [hA]; simp [go_sem])
  have HACC := Lib.hid ACC
  clear ACC
  clear hA
  have zw1a := Nat.le_of_eq zw1
  have zw1b := Nat.le_of_eq zw1.symm
  clear zw1
  have T := A
  clear A
  have Q := Lib.hid Q_
  clear Q_
  have ZR := Lib.hid ZR_
  clear ZR_
  obtain ⟨i0, hi, hz0, hz1, hz2⟩ := info_parts infoF32
  have HI := Lib.hid hi
  have HZ0 := Lib.hid hz0
  have HZ1 := Lib.hid hz1
  have HZ2 := Lib.hid hz2
  clear hi hz0 hz1 hz2
  go_loopw [13] (fun i w' => ∃ (i' m : Nat) (a' : Option Addr) (cap' : Nat) (ys : List Nat), i' ≤ C ∧ i = .int .i64 i' ∧ Hid (m = i' * R) ∧ Acc (w.heap.size + 1 + 1) (w.heap.size + 1 + 1) 33 (C : Int) (R : Int) w1 w' m a' cap' ys ∧ ys.map (cn .f32) = (upto (F xs R C) m).map (cn .f32)) (fun i _ => C - (intOf i).toNat)
  case atStart => exact ⟨0, 0, _, _, _, Nat.zero_le _, rfl, (Nat.zero_mul _).symm, HACC.out, rfl⟩
  case round =>
    obtain ⟨i, m, a', cap', ys, hi, rfl, hm, acc, hys⟩ := hrel
    have BW : Below w.heap.size w wr := T.trans (acc.below.mono (by omega))
    by_cases hlt : i < C
    · obtain ⟨c0, c1, c2, c3⟩ := Q.out.upto acc.below (by omega)
      have HA := Lib.hid acc
      have HY := Lib.hid hys
      clear acc hys
      go_wp2
      clear c0 c1 c2 c3
      obtain ⟨wo, rfl⟩ : ∃ wo : World, wo = wr := ⟨_, rfl⟩
      go_loopw [18] (fun i2 w' => ∃ (k m' : Nat) (a' : Option Addr) (cap' : Nat) (ys : List Nat), k ≤ R ∧ i2 = .int .i64 k ∧ Hid (m' = i * R + k) ∧ Acc (w.heap.size + 1 + 1) (w.heap.size + 1 + 1) 33 (C : Int) (R : Int) w1 w' m' a' cap' ys ∧ ys.map (cn .f32) = (upto (F xs R C) m').map (cn .f32)) (fun i2 _ => R - (intOf i2).toNat)
      case atStart => exact ⟨0, m, _, _, _, Nat.zero_le _, rfl, hm, HA.out, HY.out⟩
      case round =>
        clear HA HY hm
        obtain ⟨k, m, a', cap', ys, hk, rfl, hm, acc, hys⟩ := hrel
        have BW : Below w.heap.size w wr := T.trans (acc.below.mono (by omega))
        by_cases hkR : k < R
        · have hin := in_row (R := R) hkR hlt
          have hme := row_end (C := R) (R := C) hlt
          have hml : m ≤ 256 := by have := hm.out; rw [Nat.mul_comm C R] at hme; omega
          obtain ⟨ba, oa, rfl, hca⟩ := HC.out (k * C + i) (by omega)
          have hba : ba < w.heap.size := World.block_lt_of_cell? w _ hca
          have ca : wr.cell? ⟨ba, oa + k * C + i, none⟩ = some (.float .f32 (xs[k * C + i]?.getD 0)) := by rw [Nat.add_assoc]; exact (BW.cell (p := ⟨ba, oa + (k * C + i), none⟩) hba).trans hca
          have hFk : Hid (F xs R C m = xs[k * C + i]?.getD 0) := by have := hm.out; subst this; exact F_at xs hkR
          have QW := Lib.hid (Q.out.upto acc.below (by omega))
          obtain ⟨b, hb⟩ : ∃ b, b = w.heap.size + 1 + 1 := ⟨_, rfl⟩
          have hb1 := Nat.le_of_eq hb
          have hb2 := Nat.le_of_eq hb.symm
          rw [← hb] at acc ⊢
          clear hb
          have FACT : ∀ w', Cl (b) b wr w' → w'.cell? ⟨b, 2, none⟩ = some (.slice a' m cap') ∧ w'.cell? ⟨w.heap.size, 0, none⟩ = some (.int .i64 (R : Int)) ∧ w'.cell? ⟨w.heap.size, 1, none⟩ = some (.int .i64 (C : Int)) ∧ w'.cell? ⟨w.heap.size, 2, none⟩ = some (.slice (some ⟨ba, oa, none⟩) n cap) ∧ w'.cell? ⟨ba, oa + k * C + i, none⟩ = some (.float .f32 (xs[k * C + i]?.getD 0)) := fun w' h => ⟨h.cell (.inr rfl) acc.box.c2, h.cell (.inl (by simp; omega)) QW.out.c0, h.cell (.inl (by simp; omega)) QW.out.c1, h.cell (.inl (by simp; omega)) QW.out.c2, h.cell (.inl (by simp; omega)) ca⟩
          have FA := Lib.hid FACT
          have AC := Lib.hid acc
          have HY := Lib.hid hys
          clear FACT acc hys ca hca
          go_wp2_with fail
          have zb := AC.out.box.lt
          have zB := AC.out.below.size
          refine wp_plan 10 [0, 0, 0, 0, 2, 0, 0, 0, 2, 2, 0, 2] (.go 0 (.go 1 (.go 2 (.go 3 (.go 5 (.only 4 (.go 6 (.go 7 (.only 8 (.only 9 .fin)))))))))) (Cl (b) b wr) (by kernel_rfl) (by kernel_rfl) (Cl.refl _ _ _) Cl.drew ?_
          simp only [List.drop_succ_cons, List.drop_zero]
          refine plan_go (pl0 (v := ?_) (by rfl) rfl rfl (fun w' hw' => ?_) (fun K hK => ?_))
          rotate_left
          · obtain ⟨q0, q1, q2, q3, q4⟩ := FA.out w' hw'
            go_simp
            rfl
          go_simp
          refine hK _ _ ?_
          clear hK K
          refine plan_go (pl0 (v := ?_) (by rfl) rfl rfl (fun w' hw' => ?_) (fun K hK => ?_))
          rotate_left
          · obtain ⟨q0, q1, q2, q3, q4⟩ := FA.out w' hw'
            go_simp
            rfl
          go_simp
          refine hK _ _ ?_
          clear hK K
          refine plan_go (pl0 (v := ?_) (by rfl) rfl rfl (fun w' hw' => ?_) (fun K hK => ?_))
          rotate_left
          · obtain ⟨q0, q1, q2, q3, q4⟩ := FA.out w' hw'
            go_simp
            rfl
          go_simp
          refine hK _ _ ?_
          clear hK K
          refine plan_go (pl0 (v := ?_) (by rfl) rfl rfl (fun w' hw' => ?_) (fun K hK => ?_))
          rotate_left
          · obtain ⟨q0, q1, q2, q3, q4⟩ := FA.out w' hw'
            go_simp
            rfl
          go_simp
          refine hK _ _ ?_
          clear hK K
          refine plan_go (pl0 (v := ?_) (by rfl) rfl rfl (fun w' hw' => ?_) (fun K hK => ?_))
          rotate_left
          · obtain ⟨q0, q1, q2, q3, q4⟩ := FA.out w' hw'
            go_simp
            rfl
          go_simp
          refine hK _ _ ?_
          clear hK K
          refine plan_only (pl2 (by rfl) rfl rfl (fun K hK => ?_))
          go_simp
          intro m4
          refine (rowI R C k ba oa n cap (wr.drewN _) HN.out hkR hR.2 hC.2 hC.1 hcap HM.out).mono ?_
          rintro e v4 ⟨rfl, A0⟩
          have A : Below wr.heap.size wr v4 := (bdrew (Below.refl _ _) _).trans A0
          clear A0
          have AC4 := Lib.hid (AC.out.next A (by omega))
          have z4 := A.size
          have C4 := Lib.hid (show Cl (b) b wr v4 from (Cl.refl _ _ _).trans ⟨A.mono (by omega), A.block _ (by omega)⟩)
          refine ⟨_, rfl, C4.out, hK _ _ ?_⟩
          clear hK K A
          refine plan_go (pl0 (v := ?_) (by rfl) rfl rfl (fun w' hw' => ?_) (fun K hK => ?_))
          rotate_left
          · obtain ⟨q0, q1, q2, q3, q4⟩ := FA.out w' hw'
            go_simp
            rfl
          go_simp
          refine hK _ _ ?_
          clear hK K
          refine plan_go (pl0 (v := ?_) (by rfl) rfl rfl (fun w' hw' => ?_) (fun K hK => ?_))
          rotate_left
          · obtain ⟨q0, q1, q2, q3, q4⟩ := FA.out w' hw'
            go_simp
            rfl
          go_simp
          refine hK _ _ ?_
          clear hK K
          refine plan_only (pl2 (by rfl) rfl rfl (fun K hK => ?_))
          go_simp
          intro n1
          refine ⟨(Cl.drew _ _ C4.out).alloc (by simp <;> omega) (by simp <;> omega) _, hK _ _ ?_⟩
          clear hK K
          refine plan_only (pl2 (by rfl) rfl rfl (fun K hK n2 => ?_))
          refine uponV_append (.tmp 22) (.tmp 29) 22 rfl (b) 33 i0 (.float .f32 0) 1 4 Try.underlying22 HI.out HZ0.out HZ1.out HZ2.out rfl (by decide) (.slice a' m cap') (m) (fl ys) rfl (((AC4.out.drew (n1)).alloc (by simp <;> omega) _).drew n2).own ⟨v4.heap.size, 0, none⟩ 1 1 [.float .f32 (xs[k * C + i]?.getD 0)] rfl rfl ?c1 ?c2 ?c3 ?c4 ?c5 ?_
          case c1 =>
            intro j v hj
            match j, hj with
            | 0, hj => simp at hj; subst hj; exact cell_new (v4.drewN (n1)) _ _
          case c2 => intro v hv; simp at hv; subst hv; rfl
          case c3 => unfold maxLen; omega
          case c4 => omega
          case c5 => simp <;> omega
          intro v' w2 hown hgr
          obtain ⟨a2, cap2, rfl, bx, fr, cl, acc2⟩ := Acc.app (by first | omega | (simp; omega)) (AC4.out.drew (n1)) hown ⟨hgr.os, hgr.tape, hgr.output, hgr.size, hgr.block⟩
          refine ⟨C4.out.trans ⟨⟨cl.below.os, cl.below.tape, cl.below.output, cl.below.size, cl.below.block⟩, cl.box⟩, ?_⟩
          go_simp
          refine hK _ _ ?_
          clear hK K hown hgr cl
          have AC2 := Lib.hid acc2
          clear acc2
          refine plan_fin (fun n3 => ?_)
          obtain ⟨b0', b1', b2', b3'⟩ := bx
          go_wp2
          go_roundw
          case rel => exact ⟨k + 1, m + 1, a2, cap2, ys ++ [_], by omega, by go_num, (by have := hm.out; show m + 1 = _; omega), AC2.out.drew n3, upto_step HY.out (by rw [hFk.out])⟩
          case measure => simp [intOf]; omega
        · have HA := Lib.hid acc
          have HY := Lib.hid hys
          clear acc hys
          go_wp2
          go_roundw
          case rel => exact ⟨i + 1, m, a', cap', ys, by omega, by go_num, (by have := hm.out; have e : k = R := (by omega); subst e; show m = _; rw [Nat.succ_mul]; exact this), HA.out, HY.out⟩
          case measure => simp [intOf]; omega
    · have e : i = C := by omega
      have hme : m = C * R := by rw [← e]; exact hm
      clear hm
      subst hme
      have ZR := Lib.hid (ZR.out.upto acc.below (by omega))
      obtain ⟨b0', b1', b2', b3'⟩ := acc.box
      have AC := Lib.hid acc
      have HY := Lib.hid hys
      clear acc hys
      have zz := AC.out.below.size
      obtain ⟨⟨ZR0, ZR1, ZR2, ZR3⟩, ZR4, ZR5, ZR6⟩ := ZR.out
      go_wp2
      refine bodyPost_ret (v := .agg #[.int .i64 (C : Int), .int .i64 (R : Int), .slice a' (C * R) cap']) (by simp [results, Try.results44, go_sem, ZR0, ZR1, ZR2]) rfl ?_
      exact RT1_end BW (by omega) (AC.out.row (by omega)) (by omega) HY.out (upto_length _ _)
end Go.Proofs.Ytoeppdkhncllbaa.turn
