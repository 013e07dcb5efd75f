/- The law FnExactTransposeTensor holds for every input. No conditions. -/
import Derived.Test.YtoeppdkhncllbaaValid
import Derived.Test.YtoeppdkhncllbaaFin
import Derived.Test.YtoeppdkhncllbaaRowT
import Derived.Deep.CutRange
import Derived.Test.YtoeppdkhncllbaaOpen
import Derived.ProofKit
import Derived.OpenShut
import Derived.ChangeOld
import Derived.WalkSmall
namespace Go.Proofs.Ytoeppdkhncllbaa.transposeTensor
open Go.ChangeShapes Go.WideShapes Go.ChangeAt Go.RowKit Go.Fl Go.Reg
def F (xs : List Nat) (R C : Nat) (j : Nat) : Nat := xs[(j % R) * C + j / R]?.getD 0
theorem F_at (xs : List Nat) {R C i k : Nat} (hk : k < R) : F xs R C (i * R + k) = xs[k * C + i]?.getD 0 := by
  unfold F
  rw [Nat.mul_comm i R, Nat.mul_add_mod, Nat.mod_eq_of_lt hk, Nat.mul_add_div (by omega), Nat.div_eq_of_lt hk, Nat.add_zero]
set_option maxHeartbeats 1000000 in
theorem specInner (R C : Nat) (a : Option Addr) (n cap b0 : Nat) (xs : List Nat) (w : World) (hR : 0 < R ∧ R ≤ 16) (hC : 0 < C ∧ C ≤ 16) (hn : n = R * C) (h1 : Fs w a n cap xs) (Q : Box w b0 (R : Int) (C : Int) a n cap) :
    Calls Try.prog 41 #[.pointer (some ⟨b0, 0, none⟩)] w (RT1 33 w (C : Int) (R : Int) (upto (F xs R C) (C * R))) := by
  have HC := Lib.hid h1.cell
  have hcap := h1.cap1
  have hcap2 := h1.cap2
  unfold maxLen at hcap2
  clear h1
  have HQ := Lib.hid Q
  have Q3 := Q.lt
  clear Q
  have hRC : R * C ≤ 16 * 16 := Nat.mul_le_mul hR.2 hC.2
  have HN := Lib.hid hn
  have hn1 := Nat.le_of_eq hn
  have hn2 := Nat.le_of_eq hn.symm
  clear hn
  go_enter Try.func41, Try.ntmps41
  go_wp2_with fail
  refine reg_at ?_
  intro w1 hA
  have A : Below w.heap.size w w1 := by rw [hA]; exact (Below.refl _ _).alloc (Nat.le_refl _) _
  have zw1 : w1.heap.size = w.heap.size + 1 := by rw [hA]; simp
  have ZR_ : Zbox w1 (w.heap.size) := by rw [hA]; exact ⟨⟨by simp [go_sem], by simp [go_sem], by simp [go_sem], by simp <;> omega⟩, by simp [go_sem], by simp [go_sem], by simp [go_sem]⟩
  clear hA
  have zw1a := Nat.le_of_eq zw1
  have zw1b := Nat.le_of_eq zw1.symm
  clear zw1
  have T := A
  clear A
  have ZR := Lib.hid ZR_
  clear ZR_
  go_cut [3] from 6 to 15 (fun sb wx => ∃ b g, sb = .pointer (some ⟨b, 0, none⟩) ∧ w1.heap.size ≤ b ∧ Acc w1.heap.size b 33 ((C : Int)) ((R : Int)) w1 wx 0 (some ⟨g, 0, none⟩) 0 [])
  case first =>
    have FACT : ∀ w', Below w1.heap.size w1 w' → w'.cell? ⟨b0, 1, none⟩ = some (.int .i64 (C : Int)) ∧ w'.cell? ⟨b0, 0, none⟩ = some (.int .i64 (R : Int)) := fun w' hb => ⟨(hb.cell (p := ⟨b0, 1, none⟩) (by simp; omega)).trans ((T.cell (p := ⟨b0, 1, none⟩) Q3).trans HQ.out.c1), (hb.cell (p := ⟨b0, 0, none⟩) (by simp; omega)).trans ((T.cell (p := ⟨b0, 0, none⟩) Q3).trans HQ.out.c0)⟩
    have FA := Lib.hid FACT
    clear FACT
    refine wp_plan 11 [0, 0, 0, 0, 0, 0, 0, 0, 2, 0, 2, 2] (.go 0 (.go 1 (.go 2 (.go 3 (.go 4 (.go 5 (.go 6 (.go 7 (.either 8 10 (.go 9 (.only 10 .fin)) (.only 8 (.go 9 .fin))))))))))) (Bl w1) (by kernel_rfl) (by kernel_rfl) (Bl.refl _) Bl.drew ?_
    simp only [List.drop_succ_cons, List.drop_zero]
    refine plan_go (pl0 (v := ?_) (by rfl) rfl rfl (fun w' hw' => ?_) (fun K hK => ?_))
    rotate_left
    · obtain ⟨q0, q1⟩ := FA.out w' hw'
      go_simp
      rfl
    go_simp
    refine hK _ _ ?_
    clear hK K
    refine plan_go (pl0 (v := ?_) (by rfl) rfl rfl (fun w' hw' => ?_) (fun K hK => ?_))
    rotate_left
    · obtain ⟨q0, q1⟩ := FA.out w' hw'
      go_simp
      rfl
    go_simp
    refine hK _ _ ?_
    clear hK K
    refine plan_go (pl0 (v := ?_) (by rfl) rfl rfl (fun w' hw' => ?_) (fun K hK => ?_))
    rotate_left
    · obtain ⟨q0, q1⟩ := FA.out w' hw'
      go_simp
      rfl
    go_simp
    refine hK _ _ ?_
    clear hK K
    refine plan_go (pl0 (v := ?_) (by rfl) rfl rfl (fun w' hw' => ?_) (fun K hK => ?_))
    rotate_left
    · obtain ⟨q0, q1⟩ := FA.out w' hw'
      go_simp
      rfl
    go_simp
    refine hK _ _ ?_
    clear hK K
    refine plan_go (pl0 (v := ?_) (by rfl) rfl rfl (fun w' hw' => ?_) (fun K hK => ?_))
    rotate_left
    · obtain ⟨q0, q1⟩ := FA.out w' hw'
      go_simp
      rfl
    go_simp
    refine hK _ _ ?_
    clear hK K
    refine plan_go (pl0 (v := ?_) (by rfl) rfl rfl (fun w' hw' => ?_) (fun K hK => ?_))
    rotate_left
    · obtain ⟨q0, q1⟩ := FA.out w' hw'
      go_simp
      rfl
    go_simp
    refine hK _ _ ?_
    clear hK K
    refine plan_go (pl0 (v := ?_) (by rfl) rfl rfl (fun w' hw' => ?_) (fun K hK => ?_))
    rotate_left
    · obtain ⟨q0, q1⟩ := FA.out w' hw'
      go_simp
      rfl
    go_simp
    refine hK _ _ ?_
    clear hK K
    refine plan_go (pl0 (v := ?_) (by rfl) rfl rfl (fun w' hw' => ?_) (fun K hK => ?_))
    rotate_left
    · obtain ⟨q0, q1⟩ := FA.out w' hw'
      go_simp
      rfl
    go_simp
    refine hK _ _ ?_
    clear hK K
    refine plan_either ?_ ?_
    · skip
      refine pl2 (by rfl) rfl rfl (fun K hK => ?_)
      go_simp
      intro n1
      refine ⟨(bdrew (Below.refl _ _) _).alloc (Nat.le_refl _) _, hK _ _ ?_⟩
      clear hK K
      refine plan_go (pl0 (v := ?_) (by rfl) rfl rfl (fun w' hw' => ?_) (fun K hK => ?_))
      rotate_left
      · obtain ⟨q0, q1⟩ := FA.out w' hw'
        go_simp
        rfl
      go_simp
      refine hK _ _ ?_
      clear hK K
      refine plan_only (pl2 (by rfl) rfl rfl (fun K hK => ?_))
      go_simp
      intro n2
      refine ⟨((bdrew ((bdrew (Below.refl _ _) _).alloc (Nat.le_refl _) _) _).alloc (by simp) _), hK _ _ ?_⟩
      clear hK K
      refine plan_fin (fun n3 => ?_)
      go_wp2_with fail
      go_meet
      obtain ⟨b, g, hb, hg, ACC⟩ := accStartA (r := (C : Int)) (c := (R : Int)) (t := 33) (tt := 26) (Below.refl w1.heap.size w1) (Nat.le_refl _) (1 + n1) n2 n3 _ rfl
      subst hb
      subst hg
      exact ⟨_, _, rfl, by omega, ACC⟩
    · skip
      refine pl2 (by rfl) rfl rfl (fun K hK => ?_)
      go_simp
      intro n1
      refine ⟨(bdrew (Below.refl _ _) _).alloc (Nat.le_refl _) _, hK _ _ ?_⟩
      clear hK K
      refine plan_only (pl2 (by rfl) rfl rfl (fun K hK => ?_))
      go_simp
      intro n2
      refine ⟨((bdrew ((bdrew (Below.refl _ _) _).alloc (Nat.le_refl _) _) _).alloc (by simp) _), hK _ _ ?_⟩
      clear hK K
      refine plan_go (pl0 (v := ?_) (by rfl) rfl rfl (fun w' hw' => ?_) (fun K hK => ?_))
      rotate_left
      · obtain ⟨q0, q1⟩ := FA.out w' hw'
        go_simp
        rfl
      go_simp
      refine hK _ _ ?_
      clear hK K
      obtain ⟨e0, e1, e2, e3, e4, e5⟩ := frzs (w1.drewN (1 + n1)) 26
      change World.frozen? _ ⟨w1.heap.size, 0, none⟩ = _ at e0
      change World.frozen? _ ⟨w1.heap.size, 1, none⟩ = _ at e1
      change World.frozen? _ ⟨w1.heap.size, 2, none⟩ = _ at e2
      change World.cell? _ ⟨w1.heap.size, 0, none⟩ = _ at e3
      change World.cell? _ ⟨w1.heap.size, 1, none⟩ = _ at e4
      change World.cell? _ ⟨w1.heap.size, 2, none⟩ = _ at e5
      refine plan_fin (fun n3 => ?_)
      go_wp2_with fail
      go_meet
      obtain ⟨b, g, hb, hg, ACC⟩ := accStartB (r := (C : Int)) (c := (R : Int)) (t := 33) (tt := 26) (Below.refl w1.heap.size w1) (Nat.le_refl _) (1 + n1) n2 n3 _ rfl
      subst hb
      subst hg
      exact ⟨_, _, rfl, by omega, ACC⟩
  case rest =>
  obtain ⟨b, g, rfl, hb, ACC⟩ := hcut
  have HACC := Lib.hid ACC
  clear ACC
  obtain ⟨i0, hi, hz0, hz1, hz2⟩ := info_parts infoF32
  have HI := Lib.hid hi
  have HZ0 := Lib.hid hz0
  have HZ1 := Lib.hid hz1
  have HZ2 := Lib.hid hz2
  clear hi hz0 hz1 hz2
  have c1 : wc.cell? ⟨b0, 1, none⟩ = some (.int .i64 (C : Int)) := ((T.trans (HACC.out.below.mono (by omega))).cell (p := ⟨b0, 1, none⟩) Q3).trans HQ.out.c1
  go_wp2
  clear c1
  go_loopw [4] (fun i w' => ∃ (i' m : Nat) (a' : Option Addr) (cap' : Nat) (ys : List Nat), i' ≤ C ∧ i = .int .i64 i' ∧ Hid (m = i' * R) ∧ Acc w1.heap.size b 33 (C : Int) (R : Int) w1 w' m a' cap' ys ∧ ys.map (cn .f32) = (upto (F xs R C) m).map (cn .f32)) (fun i _ => C - (intOf i).toNat)
  case atStart => exact ⟨0, 0, _, _, _, Nat.zero_le _, rfl, (Nat.zero_mul _).symm, HACC.out, rfl⟩
  case round =>
    obtain ⟨i, m, a', cap', ys, hi, rfl, hm, acc, hys⟩ := hrel
    have BW : Below w.heap.size w wr := T.trans (acc.below.mono (by omega))
    have c0 : wr.cell? ⟨b0, 0, none⟩ = some (.int .i64 (R : Int)) := (BW.cell (p := ⟨b0, 0, none⟩) Q3).trans HQ.out.c0
    have c1 : wr.cell? ⟨b0, 1, none⟩ = some (.int .i64 (C : Int)) := (BW.cell (p := ⟨b0, 1, none⟩) Q3).trans HQ.out.c1
    by_cases hlt : i < C
    · have HA := Lib.hid acc
      have HY := Lib.hid hys
      clear acc hys
      go_wp2
      clear c0 c1
      obtain ⟨wo, rfl⟩ : ∃ wo : World, wo = wr := ⟨_, rfl⟩
      go_loopw [5] (fun i2 w' => ∃ (k m' : Nat) (a' : Option Addr) (cap' : Nat) (ys : List Nat), k ≤ R ∧ i2 = .int .i64 k ∧ Hid (m' = i * R + k) ∧ Acc w1.heap.size b 33 (C : Int) (R : Int) w1 w' m' a' cap' ys ∧ ys.map (cn .f32) = (upto (F xs R C) m').map (cn .f32)) (fun i2 _ => R - (intOf i2).toNat)
      case atStart => exact ⟨0, m, _, _, _, Nat.zero_le _, rfl, hm, HA.out, HY.out⟩
      case round =>
        clear HA HY hm
        obtain ⟨k, m, a', cap', ys, hk, rfl, hm, acc, hys⟩ := hrel
        have BW : Below w.heap.size w wr := T.trans (acc.below.mono (by omega))
        have c0 : wr.cell? ⟨b0, 0, none⟩ = some (.int .i64 (R : Int)) := (BW.cell (p := ⟨b0, 0, none⟩) Q3).trans HQ.out.c0
        have c1 : wr.cell? ⟨b0, 1, none⟩ = some (.int .i64 (C : Int)) := (BW.cell (p := ⟨b0, 1, none⟩) Q3).trans HQ.out.c1
        have c2 : wr.cell? ⟨b0, 2, none⟩ = some (.slice a n cap) := (BW.cell (p := ⟨b0, 2, none⟩) Q3).trans HQ.out.c2
        by_cases hkR : k < R
        · have hin := in_row (R := R) hkR hlt
          have hme := row_end (C := R) (R := C) hlt
          have hml : m ≤ 256 := by have := hm.out; rw [Nat.mul_comm C R] at hme; omega
          obtain ⟨ba, oa, rfl, hca⟩ := HC.out (k * C + i) (by omega)
          have hba : ba < w.heap.size := World.block_lt_of_cell? w _ hca
          have ca : wr.cell? ⟨ba, oa + (k * C + i), none⟩ = some (.float .f32 (xs[k * C + i]?.getD 0)) := (BW.cell (p := ⟨ba, oa + (k * C + i), none⟩) hba).trans hca
          have hFk : Hid (F xs R C m = xs[k * C + i]?.getD 0) := by have := hm.out; subst this; exact F_at xs hkR
          have q1 : ((k : Int) * (C : Int)) = ((k * C : Nat) : Int) := by simp
          have p1 : (0 : Int) ≤ (k : Int) * (C : Int) := by rw [q1]; omega
          have p2 : (k : Int) * (C : Int) ≤ 256 := by rw [q1]; omega
          have t1 : IntKind.i64.wrap ((k : Int) * (C : Int)) = (k : Int) * (C : Int) := IntWalk.i64_in _ (by omega)
          have t2 : IntKind.i64.wrap ((k : Int) * (C : Int) + (i : Int)) = (k : Int) * (C : Int) + (i : Int) := IntWalk.i64_in _ (by omega)
          have t3 : ((k : Int) * (C : Int) + (i : Int)).toNat = k * C + i := by rw [q1]; rfl
          have t4 : (0 : Int) ≤ (k : Int) * (C : Int) + (i : Int) := by omega
          have t5 : (k : Int) * (C : Int) + (i : Int) < (n : Int) := by rw [q1]; omega
          clear q1
          have FACT : ∀ w', Cl (w1.heap.size) b wr w' → w'.cell? ⟨b, 2, none⟩ = some (.slice a' m cap') ∧ w'.cell? ⟨b0, 1, none⟩ = some (.int .i64 (C : Int)) ∧ w'.cell? ⟨b0, 2, none⟩ = some (.slice (some ⟨ba, oa, none⟩) n cap) ∧ w'.cell? ⟨ba, oa + (k * C + i), none⟩ = some (.float .f32 (xs[k * C + i]?.getD 0)) := fun w' h => ⟨h.cell (.inr rfl) acc.box.c2, h.cell (.inl (by simp; omega)) c1, h.cell (.inl (by simp; omega)) c2, h.cell (.inl (by simp; omega)) ca⟩
          have FA := Lib.hid FACT
          have AC := Lib.hid acc
          have HY := Lib.hid hys
          clear FACT acc hys ca hca
          go_wp2_with fail
          clear c0 c1 c2
          have zb := AC.out.box.lt
          have zB := AC.out.below.size
          refine wp_plan 18 [0, 0, 0, 0, 0, 0, 0, 0, 0, 0, 0, 0, 0, 0, 0, 0, 2, 2, 0, 2] (.go 0 (.go 1 (.go 2 (.go 3 (.go 4 (.go 5 (.go 6 (.go 7 (.go 8 (.go 9 (.go 10 (.go 11 (.go 12 (.go 13 (.go 14 (.go 15 (.only 16 (.only 17 .fin)))))))))))))))))) (Cl (w1.heap.size) b wr) (by kernel_rfl) (by kernel_rfl) (Cl.refl _ _ _) Cl.drew ?_
          simp only [List.drop_succ_cons, List.drop_zero]
          refine plan_go (pl0 (v := ?_) (by rfl) rfl rfl (fun w' hw' => ?_) (fun K hK => ?_))
          rotate_left
          · obtain ⟨q0, q1, q2, q3⟩ := FA.out w' hw'
            go_simp
            rfl
          go_simp
          refine hK _ _ ?_
          clear hK K
          refine plan_go (pl0 (v := ?_) (by rfl) rfl rfl (fun w' hw' => ?_) (fun K hK => ?_))
          rotate_left
          · obtain ⟨q0, q1, q2, q3⟩ := FA.out w' hw'
            go_simp
            rfl
          go_simp
          refine hK _ _ ?_
          clear hK K
          refine plan_go (pl0 (v := ?_) (by rfl) rfl rfl (fun w' hw' => ?_) (fun K hK => ?_))
          rotate_left
          · obtain ⟨q0, q1, q2, q3⟩ := FA.out w' hw'
            go_simp
            rfl
          go_simp
          refine hK _ _ ?_
          clear hK K
          refine plan_go (pl0 (v := ?_) (by rfl) rfl rfl (fun w' hw' => ?_) (fun K hK => ?_))
          rotate_left
          · obtain ⟨q0, q1, q2, q3⟩ := FA.out w' hw'
            go_simp
            rfl
          go_simp
          refine hK _ _ ?_
          clear hK K
          refine plan_go (pl0 (v := ?_) (by rfl) rfl rfl (fun w' hw' => ?_) (fun K hK => ?_))
          rotate_left
          · obtain ⟨q0, q1, q2, q3⟩ := FA.out w' hw'
            go_simp
            rfl
          go_simp
          refine hK _ _ ?_
          clear hK K
          refine plan_go (pl0 (v := ?_) (by rfl) rfl rfl (fun w' hw' => ?_) (fun K hK => ?_))
          rotate_left
          · obtain ⟨q0, q1, q2, q3⟩ := FA.out w' hw'
            go_simp
            rfl
          go_simp
          refine hK _ _ ?_
          clear hK K
          refine plan_go (pl0 (v := ?_) (by rfl) rfl rfl (fun w' hw' => ?_) (fun K hK => ?_))
          rotate_left
          · obtain ⟨q0, q1, q2, q3⟩ := FA.out w' hw'
            go_simp
            rfl
          go_simp
          refine hK _ _ ?_
          clear hK K
          refine plan_go (pl0 (v := ?_) (by rfl) rfl rfl (fun w' hw' => ?_) (fun K hK => ?_))
          rotate_left
          · obtain ⟨q0, q1, q2, q3⟩ := FA.out w' hw'
            go_simp
            rfl
          go_simp
          refine hK _ _ ?_
          clear hK K
          refine plan_go (pl0 (v := ?_) (by rfl) rfl rfl (fun w' hw' => ?_) (fun K hK => ?_))
          rotate_left
          · obtain ⟨q0, q1, q2, q3⟩ := FA.out w' hw'
            go_simp
            rfl
          go_simp
          refine hK _ _ ?_
          clear hK K
          refine plan_go (pl0 (v := ?_) (by rfl) rfl rfl (fun w' hw' => ?_) (fun K hK => ?_))
          rotate_left
          · obtain ⟨q0, q1, q2, q3⟩ := FA.out w' hw'
            go_simp
            rfl
          go_simp
          refine hK _ _ ?_
          clear hK K
          refine plan_go (pl0 (v := ?_) (by rfl) rfl rfl (fun w' hw' => ?_) (fun K hK => ?_))
          rotate_left
          · obtain ⟨q0, q1, q2, q3⟩ := FA.out w' hw'
            go_simp
            rfl
          go_simp
          refine hK _ _ ?_
          clear hK K
          refine plan_go (pl0 (v := ?_) (by rfl) rfl rfl (fun w' hw' => ?_) (fun K hK => ?_))
          rotate_left
          · obtain ⟨q0, q1, q2, q3⟩ := FA.out w' hw'
            go_simp
            rfl
          go_simp
          refine hK _ _ ?_
          clear hK K
          refine plan_go (pl0 (v := ?_) (by rfl) rfl rfl (fun w' hw' => ?_) (fun K hK => ?_))
          rotate_left
          · obtain ⟨q0, q1, q2, q3⟩ := FA.out w' hw'
            go_simp
            rfl
          go_simp
          refine hK _ _ ?_
          clear hK K
          refine plan_go (pl0 (v := ?_) (by rfl) rfl rfl (fun w' hw' => ?_) (fun K hK => ?_))
          rotate_left
          · obtain ⟨q0, q1, q2, q3⟩ := FA.out w' hw'
            go_simp
            rfl
          go_simp
          refine hK _ _ ?_
          clear hK K
          refine plan_go (pl0 (v := ?_) (by rfl) rfl rfl (fun w' hw' => ?_) (fun K hK => ?_))
          rotate_left
          · obtain ⟨q0, q1, q2, q3⟩ := FA.out w' hw'
            go_simp
            rfl
          go_simp
          refine hK _ _ ?_
          clear hK K
          refine plan_go (pl0 (v := ?_) (by rfl) rfl rfl (fun w' hw' => ?_) (fun K hK => ?_))
          rotate_left
          · obtain ⟨q0, q1, q2, q3⟩ := FA.out w' hw'
            go_simp
            rfl
          go_simp
          refine hK _ _ ?_
          clear hK K
          refine plan_only (pl2 (by rfl) rfl rfl (fun K hK => ?_))
          go_simp
          intro n1
          refine ⟨(Cl.drew _ _ (Cl.refl _ _ _)).alloc (by simp <;> omega) (by simp <;> omega) _, hK _ _ ?_⟩
          clear hK K
          refine plan_only (pl2 (by rfl) rfl rfl (fun K hK n2 => ?_))
          refine uponV_append (.tmp 33) (.tmp 48) 22 rfl (w1.heap.size) 33 i0 (.float .f32 0) 1 4 Try.underlying22 HI.out HZ0.out HZ1.out HZ2.out rfl (by decide) (.slice a' m cap') (m) (fl ys) rfl (((AC.out.drew (1 + n1)).alloc (by simp <;> omega) _).drew n2).own ⟨wr.heap.size, 0, none⟩ 1 1 [.float .f32 (xs[k * C + i]?.getD 0)] rfl rfl ?c1 ?c2 ?c3 ?c4 ?c5 ?_
          case c1 =>
            intro j v hj
            match j, hj with
            | 0, hj => simp at hj; subst hj; exact cell_new (wr.drewN (1 + n1)) _ _
          case c2 => intro v hv; simp at hv; subst hv; rfl
          case c3 => unfold maxLen; omega
          case c4 => omega
          case c5 => simp <;> omega
          intro v' w2 hown hgr
          obtain ⟨a2, cap2, rfl, bx, fr, cl, acc2⟩ := Acc.app (by omega) (AC.out.drew (1 + n1)) hown ⟨hgr.os, hgr.tape, hgr.output, hgr.size, hgr.block⟩
          refine ⟨⟨⟨cl.below.os, cl.below.tape, cl.below.output, cl.below.size, cl.below.block⟩, cl.box⟩, ?_⟩
          go_simp
          refine hK _ _ ?_
          clear hK K hown hgr cl
          have AC2 := Lib.hid acc2
          clear acc2
          refine plan_fin (fun n3 => ?_)
          clear t1 t2 t3 t4 t5
          obtain ⟨b0', b1', b2', b3'⟩ := bx
          go_wp2
          go_roundw
          case rel => exact ⟨k + 1, m + 1, a2, cap2, ys ++ [_], by omega, by go_num, (by have := hm.out; show m + 1 = _; omega), AC2.out.drew n3, upto_step HY.out (by rw [hFk.out])⟩
          case measure => simp [intOf]; omega
        · have HA := Lib.hid acc
          have HY := Lib.hid hys
          clear acc hys
          go_wp2
          go_roundw
          case rel => exact ⟨i + 1, m, a', cap', ys, by omega, by go_num, (by have := hm.out; have e : k = R := (by omega); subst e; show m = _; rw [Nat.succ_mul]; exact this), HA.out, HY.out⟩
          case measure => simp [intOf]; omega
    · have e : i = C := by omega
      have hme : m = C * R := by rw [← e]; exact hm
      clear hm
      subst hme
      have ZR := Lib.hid (ZR.out.below acc.below)
      obtain ⟨b0', b1', b2', b3'⟩ := acc.box
      have AC := Lib.hid acc
      have HY := Lib.hid hys
      clear acc hys
      have zz := AC.out.below.size
      obtain ⟨⟨ZR0, ZR1, ZR2, ZR3⟩, ZR4, ZR5, ZR6⟩ := ZR.out
      go_wp2
      refine bodyPost_ret (v := .agg #[.int .i64 (C : Int), .int .i64 (R : Int), .slice a' (C * R) cap']) (by simp [results, Try.results41, go_sem, ZR0, ZR1, ZR2]) rfl ?_
      exact RT1_end BW (by omega) (AC.out.row (by omega)) (by omega) HY.out (upto_length _ _)
set_option maxHeartbeats 1000000 in
theorem implInner (R C : Nat) (a : Option Addr) (n cap : Nat) (xs : List Nat) (w : World) (hR : 0 < R ∧ R ≤ 16) (hC : 0 < C ∧ C ≤ 16) (hn : n = R * C) (h1 : Fs w a n cap xs) :
    Calls Try.prog 44 #[.agg #[.int .i64 (R : Int), .int .i64 (C : Int), .slice a n cap]] w (RT1 33 w (C : Int) (R : Int) (upto (F xs R C) (C * R))) := by
  have HC := Lib.hid h1.cell
  have hcap := h1.cap1
  have hcap2 := h1.cap2
  have HM := Lib.hid hcap2
  unfold maxLen at hcap2
  clear h1
  have hRC : R * C ≤ 16 * 16 := Nat.mul_le_mul hR.2 hC.2
  have HN := Lib.hid hn
  have hn1 := Nat.le_of_eq hn
  have hn2 := Nat.le_of_eq hn.symm
  clear hn
  go_enter Try.func44, Try.ntmps44
  go_wp2_with fail
  refine reg_at ?_
  intro w1 hA
  have A : Below w.heap.size w w1 := by rw [hA]; exact (((Below.refl _ _).alloc (Nat.le_refl _) _).alloc (by simp <;> omega) _).alloc (by simp <;> omega) _
  have zw1 : w1.heap.size = w.heap.size + 1 + 1 + 1 := by rw [hA]; simp
  have Q_ : Box w1 (w.heap.size) ↑R ↑C a n cap := by rw [hA]; exact ⟨by simp [go_sem], by simp [go_sem], by simp [go_sem], by simp <;> omega⟩
  have ZR_ : Zbox w1 (w.heap.size + 1) := by rw [hA]; exact ⟨⟨by simp [go_sem], by simp [go_sem], by simp [go_sem], by simp <;> omega⟩, by simp [go_sem], by simp [go_sem], by simp [go_sem]⟩
  have ACC := accHere 33 (show Box w1 (w.heap.size + 1 + 1) ↑C ↑R none 0 0 by rw [hA]; exact ⟨by simp [go_sem], by simp [go_sem], by simp [go_sem], by simp <;> omega⟩) (by rw [hA]; simp [go_sem])
  have HACC := Lib.hid ACC
  clear ACC
  clear hA
  have zw1a := Nat.le_of_eq zw1
  have zw1b := Nat.le_of_eq zw1.symm
  clear zw1
  have T := A
  clear A
  have Q := Lib.hid Q_
  clear Q_
  have ZR := Lib.hid ZR_
  clear ZR_
  obtain ⟨i0, hi, hz0, hz1, hz2⟩ := info_parts infoF32
  have HI := Lib.hid hi
  have HZ0 := Lib.hid hz0
  have HZ1 := Lib.hid hz1
  have HZ2 := Lib.hid hz2
  clear hi hz0 hz1 hz2
  go_loopw [13] (fun i w' => ∃ (i' m : Nat) (a' : Option Addr) (cap' : Nat) (ys : List Nat), i' ≤ C ∧ i = .int .i64 i' ∧ Hid (m = i' * R) ∧ Acc (w.heap.size + 1 + 1) (w.heap.size + 1 + 1) 33 (C : Int) (R : Int) w1 w' m a' cap' ys ∧ ys.map (cn .f32) = (upto (F xs R C) m).map (cn .f32)) (fun i _ => C - (intOf i).toNat)
  case atStart => exact ⟨0, 0, _, _, _, Nat.zero_le _, rfl, (Nat.zero_mul _).symm, HACC.out, rfl⟩
  case round =>
    obtain ⟨i, m, a', cap', ys, hi, rfl, hm, acc, hys⟩ := hrel
    have BW : Below w.heap.size w wr := T.trans (acc.below.mono (by omega))
    by_cases hlt : i < C
    · obtain ⟨c0, c1, c2, c3⟩ := Q.out.upto acc.below (by omega)
      have HA := Lib.hid acc
      have HY := Lib.hid hys
      clear acc hys
      go_wp2
      clear c0 c1 c2 c3
      obtain ⟨wo, rfl⟩ : ∃ wo : World, wo = wr := ⟨_, rfl⟩
      go_loopw [18] (fun i2 w' => ∃ (k m' : Nat) (a' : Option Addr) (cap' : Nat) (ys : List Nat), k ≤ R ∧ i2 = .int .i64 k ∧ Hid (m' = i * R + k) ∧ Acc (w.heap.size + 1 + 1) (w.heap.size + 1 + 1) 33 (C : Int) (R : Int) w1 w' m' a' cap' ys ∧ ys.map (cn .f32) = (upto (F xs R C) m').map (cn .f32)) (fun i2 _ => R - (intOf i2).toNat)
      case atStart => exact ⟨0, m, _, _, _, Nat.zero_le _, rfl, hm, HA.out, HY.out⟩
      case round =>
        clear HA HY hm
        obtain ⟨k, m, a', cap', ys, hk, rfl, hm, acc, hys⟩ := hrel
        have BW : Below w.heap.size w wr := T.trans (acc.below.mono (by omega))
        by_cases hkR : k < R
        · have hin := in_row (R := R) hkR hlt
          have hme := row_end (C := R) (R := C) hlt
          have hml : m ≤ 256 := by have := hm.out; rw [Nat.mul_comm C R] at hme; omega
          obtain ⟨ba, oa, rfl, hca⟩ := HC.out (k * C + i) (by omega)
          have hba : ba < w.heap.size := World.block_lt_of_cell? w _ hca
          have ca : wr.cell? ⟨ba, oa + k * C + i, none⟩ = some (.float .f32 (xs[k * C + i]?.getD 0)) := by rw [Nat.add_assoc]; exact (BW.cell (p := ⟨ba, oa + (k * C + i), none⟩) hba).trans hca
          have hFk : Hid (F xs R C m = xs[k * C + i]?.getD 0) := by have := hm.out; subst this; exact F_at xs hkR
          have QW := Lib.hid (Q.out.upto acc.below (by omega))
          obtain ⟨b, hb⟩ : ∃ b, b = w.heap.size + 1 + 1 := ⟨_, rfl⟩
          have hb1 := Nat.le_of_eq hb
          have hb2 := Nat.le_of_eq hb.symm
          rw [← hb] at acc ⊢
          clear hb
          have FACT : ∀ w', Cl (b) b wr w' → w'.cell? ⟨b, 2, none⟩ = some (.slice a' m cap') ∧ w'.cell? ⟨w.heap.size, 0, none⟩ = some (.int .i64 (R : Int)) ∧ w'.cell? ⟨w.heap.size, 1, none⟩ = some (.int .i64 (C : Int)) ∧ w'.cell? ⟨w.heap.size, 2, none⟩ = some (.slice (some ⟨ba, oa, none⟩) n cap) ∧ w'.cell? ⟨ba, oa + k * C + i, none⟩ = some (.float .f32 (xs[k * C + i]?.getD 0)) := fun w' h => ⟨h.cell (.inr rfl) acc.box.c2, h.cell (.inl (by simp; omega)) QW.out.c0, h.cell (.inl (by simp; omega)) QW.out.c1, h.cell (.inl (by simp; omega)) QW.out.c2, h.cell (.inl (by simp; omega)) ca⟩
          have FA := Lib.hid FACT
          have AC := Lib.hid acc
          have HY := Lib.hid hys
          clear FACT acc hys ca hca
          go_wp2_with fail
          have zb := AC.out.box.lt
          have zB := AC.out.below.size
          refine wp_plan 10 [0, 0, 0, 0, 2, 0, 0, 0, 2, 2, 0, 2] (.go 0 (.go 1 (.go 2 (.go 3 (.go 5 (.only 4 (.go 6 (.go 7 (.only 8 (.only 9 .fin)))))))))) (Cl (b) b wr) (by kernel_rfl) (by kernel_rfl) (Cl.refl _ _ _) Cl.drew ?_
          simp only [List.drop_succ_cons, List.drop_zero]
          refine plan_go (pl0 (v := ?_) (by rfl) rfl rfl (fun w' hw' => ?_) (fun K hK => ?_))
          rotate_left
          · obtain ⟨q0, q1, q2, q3, q4⟩ := FA.out w' hw'
            go_simp
            rfl
          go_simp
          refine hK _ _ ?_
          clear hK K
          refine plan_go (pl0 (v := ?_) (by rfl) rfl rfl (fun w' hw' => ?_) (fun K hK => ?_))
          rotate_left
          · obtain ⟨q0, q1, q2, q3, q4⟩ := FA.out w' hw'
            go_simp
            rfl
          go_simp
          refine hK _ _ ?_
          clear hK K
          refine plan_go (pl0 (v := ?_) (by rfl) rfl rfl (fun w' hw' => ?_) (fun K hK => ?_))
          rotate_left
          · obtain ⟨q0, q1, q2, q3, q4⟩ := FA.out w' hw'
            go_simp
            rfl
          go_simp
          refine hK _ _ ?_
          clear hK K
          refine plan_go (pl0 (v := ?_) (by rfl) rfl rfl (fun w' hw' => ?_) (fun K hK => ?_))
          rotate_left
          · obtain ⟨q0, q1, q2, q3, q4⟩ := FA.out w' hw'
            go_simp
            rfl
          go_simp
          refine hK _ _ ?_
          clear hK K
          refine plan_go (pl0 (v := ?_) (by rfl) rfl rfl (fun w' hw' => ?_) (fun K hK => ?_))
          rotate_left
          · obtain ⟨q0, q1, q2, q3, q4⟩ := FA.out w' hw'
            go_simp
            rfl
          go_simp
          refine hK _ _ ?_
          clear hK K
          refine plan_only (pl2 (by rfl) rfl rfl (fun K hK => ?_))
          go_simp
          intro m4
          refine (rowI R C k ba oa n cap (wr.drewN _) HN.out hkR hR.2 hC.2 hC.1 hcap HM.out).mono ?_
          rintro e v4 ⟨rfl, A0⟩
          have A : Below wr.heap.size wr v4 := (bdrew (Below.refl _ _) _).trans A0
          clear A0
          have AC4 := Lib.hid (AC.out.next A (by omega))
          have z4 := A.size
          have C4 := Lib.hid (show Cl (b) b wr v4 from (Cl.refl _ _ _).trans ⟨A.mono (by omega), A.block _ (by omega)⟩)
          refine ⟨_, rfl, C4.out, hK _ _ ?_⟩
          clear hK K A
          refine plan_go (pl0 (v := ?_) (by rfl) rfl rfl (fun w' hw' => ?_) (fun K hK => ?_))
          rotate_left
          · obtain ⟨q0, q1, q2, q3, q4⟩ := FA.out w' hw'
            go_simp
            rfl
          go_simp
          refine hK _ _ ?_
          clear hK K
          refine plan_go (pl0 (v := ?_) (by rfl) rfl rfl (fun w' hw' => ?_) (fun K hK => ?_))
          rotate_left
          · obtain ⟨q0, q1, q2, q3, q4⟩ := FA.out w' hw'
            go_simp
            rfl
          go_simp
          refine hK _ _ ?_
          clear hK K
          refine plan_only (pl2 (by rfl) rfl rfl (fun K hK => ?_))
          go_simp
          intro n1
          refine ⟨(Cl.drew _ _ C4.out).alloc (by simp <;> omega) (by simp <;> omega) _, hK _ _ ?_⟩
          clear hK K
          refine plan_only (pl2 (by rfl) rfl rfl (fun K hK n2 => ?_))
          refine uponV_append (.tmp 22) (.tmp 29) 22 rfl (b) 33 i0 (.float .f32 0) 1 4 Try.underlying22 HI.out HZ0.out HZ1.out HZ2.out rfl (by decide) (.slice a' m cap') (m) (fl ys) rfl (((AC4.out.drew (n1)).alloc (by simp <;> omega) _).drew n2).own ⟨v4.heap.size, 0, none⟩ 1 1 [.float .f32 (xs[k * C + i]?.getD 0)] rfl rfl ?c1 ?c2 ?c3 ?c4 ?c5 ?_
          case c1 =>
            intro j v hj
            match j, hj with
            | 0, hj => simp at hj; subst hj; exact cell_new (v4.drewN (n1)) _ _
          case c2 => intro v hv; simp at hv; subst hv; rfl
          case c3 => unfold maxLen; omega
          case c4 => omega
          case c5 => simp <;> omega
          intro v' w2 hown hgr
          obtain ⟨a2, cap2, rfl, bx, fr, cl, acc2⟩ := Acc.app (by omega) (AC4.out.drew (n1)) hown ⟨hgr.os, hgr.tape, hgr.output, hgr.size, hgr.block⟩
          refine ⟨C4.out.trans ⟨⟨cl.below.os, cl.below.tape, cl.below.output, cl.below.size, cl.below.block⟩, cl.box⟩, ?_⟩
          go_simp
          refine hK _ _ ?_
          clear hK K hown hgr cl
          have AC2 := Lib.hid acc2
          clear acc2
          refine plan_fin (fun n3 => ?_)
          obtain ⟨b0', b1', b2', b3'⟩ := bx
          go_wp2
          go_roundw
          case rel => exact ⟨k + 1, m + 1, a2, cap2, ys ++ [_], by omega, by go_num, (by have := hm.out; show m + 1 = _; omega), AC2.out.drew n3, upto_step HY.out (by rw [hFk.out])⟩
          case measure => simp [intOf]; omega
        · have HA := Lib.hid acc
          have HY := Lib.hid hys
          clear acc hys
          go_wp2
          go_roundw
          case rel => exact ⟨i + 1, m, a', cap', ys, by omega, by go_num, (by have := hm.out; have e : k = R := (by omega); subst e; show m = _; rw [Nat.succ_mul]; exact this), HA.out, HY.out⟩
          case measure => simp [intOf]; omega
    · have e : i = C := by omega
      have hme : m = C * R := by rw [← e]; exact hm
      clear hm
      subst hme
      have ZR := Lib.hid (ZR.out.upto acc.below (by omega))
      obtain ⟨b0', b1', b2', b3'⟩ := acc.box
      have AC := Lib.hid acc
      have HY := Lib.hid hys
      clear acc hys
      have zz := AC.out.below.size
      obtain ⟨⟨ZR0, ZR1, ZR2, ZR3⟩, ZR4, ZR5, ZR6⟩ := ZR.out
      go_wp2
      refine bodyPost_ret (v := .agg #[.int .i64 (C : Int), .int .i64 (R : Int), .slice a' (C * R) cap']) (by simp [results, Try.results44, go_sem, ZR0, ZR1, ZR2]) rfl ?_
      exact RT1_end BW (by omega) (AC.out.row (by omega)) (by omega) HY.out (upto_length _ _)
theorem nat_of {r c : Int} {n : Nat} (h : vt r c n) : ∃ R C : Nat, r = (R : Int) ∧ c = (C : Int) ∧ (0 < R ∧ R ≤ 16) ∧ (0 < C ∧ C ≤ 16) ∧ n = R * C := by
  obtain ⟨h1, h2, h3, h4, h5⟩ := h
  obtain ⟨R, rfl⟩ := Int.eq_ofNat_of_zero_le (a := r) (by omega)
  obtain ⟨C, rfl⟩ := Int.eq_ofNat_of_zero_le (a := c) (by omega)
  refine ⟨R, C, rfl, rfl, by omega, by omega, ?_⟩
  have : ((R * C : Nat) : Int) = (R : Int) * (C : Int) := by simp
  omega
def S (r c : Int) (n : Nat) (xs : List Nat) : List Nat := if vt r c n then upto (F xs r.toNat c.toNat) n else []
theorem S_yes {R C : Nat} (xs : List Nat) (h : vt (R : Int) (C : Int) (R * C)) : S (R : Int) (C : Int) (R * C) xs = upto (F xs R C) (C * R) := by unfold S; rw [if_pos h, Nat.mul_comm C R]; rfl
theorem S_len (r c : Int) (n : Nat) (xs : List Nat) (h : n ≤ 1048576) : (S r c n xs).length ≤ 1048576 := by unfold S; split <;> simp [upto_length, h]
theorem specS (r c : Int) (a : Option Addr) (n cap : Nat) (xs : List Nat) (w : World) (h1 : Fs w a n cap xs) :
    Calls Try.prog 12 #[.agg #[.int .i64 r, .int .i64 c, .slice a n cap]] w (RT 33 w (if vt r c n then c else 0) (if vt r c n then r else 0) (S r c n xs) (decide (vt r c n))) := by
  have HM : Hid (n ≤ maxLen) := Nat.le_trans h1.cap1 h1.cap2
  have H1 := Lib.hid h1
  clear h1
  cases hv : decide (vt r c n)
  · skip
    have hv' := of_decide_eq_false hv
    rw [if_neg hv', if_neg hv', show S r c n xs = [] from if_neg hv']
    clear hv'
    have HV := Lib.hid hv
    clear hv
    go_enter Try.func12, Try.ntmps12
    go_wp2_with fail
    refine calls_at ?_
    intro w1 hA
    have A : Below w.heap.size w w1 := by rw [hA]; exact ((Below.refl _ _).alloc (Nat.le_refl _) _).alloc (by simp <;> omega) _
    have zw1 : w1.heap.size = w.heap.size + 1 + 1 := by rw [hA]; simp
    have Q_ : Box w1 (w.heap.size) r c a n cap := by rw [hA]; exact ⟨by simp [go_sem], by simp [go_sem], by simp [go_sem], by simp <;> omega⟩
    have ZR_ : Zbox w1 (w.heap.size + 1) := by rw [hA]; exact ⟨⟨by simp [go_sem], by simp [go_sem], by simp [go_sem], by simp <;> omega⟩, by simp [go_sem], by simp [go_sem], by simp [go_sem]⟩
    clear hA
    have zw1a := Nat.le_of_eq zw1
    have zw1b := Nat.le_of_eq zw1.symm
    clear zw1
    have T := A
    clear A
    have Q := Lib.hid Q_
    clear Q_
    have ZR := Lib.hid ZR_
    clear ZR_
    refine (isT r c a _ cap _ _ _ HM.out Q.out.c0 Q.out.c1 Q.out.c2).mono ?_
    rintro e w2 ⟨rfl, mm, hw⟩
    have A := below_of_drew hw
    clear hw
    have T := T.trans (A.mono T.size)
    have Q := Lib.hid (Q.out.below A)
    have ZR := Lib.hid (ZR.out.below A)
    have zw2 := A.size
    clear A
    rw [HV.out]
    obtain ⟨⟨ZR0, ZR1, ZR2, ZR3⟩, ZR4, ZR5, ZR6⟩ := ZR.out
    go_wp2
    refine bodyPost_ret (v := .tuple #[.agg #[.int .i64 0, .int .i64 0, .slice none 0 0], .bool false]) (by simp [results, Try.results12, go_sem, ZR0, ZR1, ZR2]) rfl ?_
    exact RT_no T (by omega)
  · skip
    have hv' := of_decide_eq_true hv
    obtain ⟨R, C, rfl, rfl, hR, hC, rfl⟩ := nat_of hv'
    rw [if_pos hv', if_pos hv', S_yes xs hv']
    clear hv'
    have HV := Lib.hid hv
    clear hv
    go_enter Try.func12, Try.ntmps12
    go_wp2_with fail
    refine calls_at ?_
    intro w1 hA
    have A : Below w.heap.size w w1 := by rw [hA]; exact ((Below.refl _ _).alloc (Nat.le_refl _) _).alloc (by simp <;> omega) _
    have zw1 : w1.heap.size = w.heap.size + 1 + 1 := by rw [hA]; simp
    have Q_ : Box w1 (w.heap.size) ↑R ↑C a (R * C) cap := by rw [hA]; exact ⟨by simp [go_sem], by simp [go_sem], by simp [go_sem], by simp <;> omega⟩
    have ZR_ : Zbox w1 (w.heap.size + 1) := by rw [hA]; exact ⟨⟨by simp [go_sem], by simp [go_sem], by simp [go_sem], by simp <;> omega⟩, by simp [go_sem], by simp [go_sem], by simp [go_sem]⟩
    clear hA
    have zw1a := Nat.le_of_eq zw1
    have zw1b := Nat.le_of_eq zw1.symm
    clear zw1
    have T := A
    clear A
    have Q := Lib.hid Q_
    clear Q_
    have ZR := Lib.hid ZR_
    clear ZR_
    refine (isT ↑R ↑C a _ cap _ _ _ HM.out Q.out.c0 Q.out.c1 Q.out.c2).mono ?_
    rintro e w2 ⟨rfl, mm, hw⟩
    have A := below_of_drew hw
    clear hw
    have T := T.trans (A.mono T.size)
    have Q := Lib.hid (Q.out.below A)
    have ZR := Lib.hid (ZR.out.below A)
    have zw2 := A.size
    clear A
    rw [HV.out]
    obtain ⟨Q0, Q1, Q2, Q3⟩ := Q.out
    go_wp2_with fail
    clear Q0 Q1 Q2 Q3
    refine (specInner R C a _ cap _ xs _ hR hC rfl (H1.out.below T) Q.out).mono ?_
    rintro e w3 ⟨a2, cap2, ys, rfl, R2, hy, A⟩
    have T := T.trans (A.mono T.size)
    have Q := Lib.hid (Q.out.below A)
    have ZR := Lib.hid (ZR.out.below A)
    have zw3 := A.size
    clear A
    rw [upto_length] at R2
    have RR := Lib.hid R2
    have HY := Lib.hid hy
    clear R2 hy
    rw [upto_length]
    obtain ⟨⟨ZR0, ZR1, ZR2, ZR3⟩, ZR4, ZR5, ZR6⟩ := ZR.out
    go_wp2
    refine bodyPost_ret (v := .tuple #[.agg #[.int .i64 (C : Int), .int .i64 (R : Int), .slice a2 (C * R) cap2], .bool true]) (by simp [results, Try.results12, go_sem, ZR0, ZR1, ZR2]) rfl ?_
    exact RT_end T (by omega) RR.out (by omega) HY.out (upto_length _ _)
theorem implS (r c : Int) (a : Option Addr) (n cap : Nat) (xs : List Nat) (w : World) (h1 : Fs w a n cap xs) :
    Calls Try.prog 14 #[.agg #[.int .i64 r, .int .i64 c, .slice a n cap]] w (RT 33 w (if vt r c n then c else 0) (if vt r c n then r else 0) (S r c n xs) (decide (vt r c n))) := by
  have HM : Hid (n ≤ maxLen) := Nat.le_trans h1.cap1 h1.cap2
  have H1 := Lib.hid h1
  clear h1
  cases hv : decide (vt r c n)
  · skip
    have hv' := of_decide_eq_false hv
    rw [if_neg hv', if_neg hv', show S r c n xs = [] from if_neg hv']
    clear hv'
    have HV := Lib.hid hv
    clear hv
    go_enter Try.func14, Try.ntmps14
    go_wp2_with fail
    refine calls_at ?_
    intro w1 hA
    have A : Below w.heap.size w w1 := by rw [hA]; exact ((Below.refl _ _).alloc (Nat.le_refl _) _).alloc (by simp <;> omega) _
    have zw1 : w1.heap.size = w.heap.size + 1 + 1 := by rw [hA]; simp
    have Q_ : Box w1 (w.heap.size) r c a n cap := by rw [hA]; exact ⟨by simp [go_sem], by simp [go_sem], by simp [go_sem], by simp <;> omega⟩
    have ZR_ : Zbox w1 (w.heap.size + 1) := by rw [hA]; exact ⟨⟨by simp [go_sem], by simp [go_sem], by simp [go_sem], by simp <;> omega⟩, by simp [go_sem], by simp [go_sem], by simp [go_sem]⟩
    clear hA
    have zw1a := Nat.le_of_eq zw1
    have zw1b := Nat.le_of_eq zw1.symm
    clear zw1
    have T := A
    clear A
    have Q := Lib.hid Q_
    clear Q_
    have ZR := Lib.hid ZR_
    clear ZR_
    refine (validT r c a _ cap _ HM.out).mono ?_
    rintro e w2 ⟨rfl, A⟩
    have T := T.trans (A.mono T.size)
    have Q := Lib.hid (Q.out.below A)
    have ZR := Lib.hid (ZR.out.below A)
    have zw2 := A.size
    clear A
    rw [HV.out]
    obtain ⟨⟨ZR0, ZR1, ZR2, ZR3⟩, ZR4, ZR5, ZR6⟩ := ZR.out
    go_wp2
    refine bodyPost_ret (v := .tuple #[.agg #[.int .i64 0, .int .i64 0, .slice none 0 0], .bool false]) (by simp [results, Try.results14, go_sem, ZR0, ZR1, ZR2]) rfl ?_
    exact RT_no T (by omega)
  · skip
    have hv' := of_decide_eq_true hv
    obtain ⟨R, C, rfl, rfl, hR, hC, rfl⟩ := nat_of hv'
    rw [if_pos hv', if_pos hv', S_yes xs hv']
    clear hv'
    have HV := Lib.hid hv
    clear hv
    go_enter Try.func14, Try.ntmps14
    go_wp2_with fail
    refine calls_at ?_
    intro w1 hA
    have A : Below w.heap.size w w1 := by rw [hA]; exact ((Below.refl _ _).alloc (Nat.le_refl _) _).alloc (by simp <;> omega) _
    have zw1 : w1.heap.size = w.heap.size + 1 + 1 := by rw [hA]; simp
    have Q_ : Box w1 (w.heap.size) ↑R ↑C a (R * C) cap := by rw [hA]; exact ⟨by simp [go_sem], by simp [go_sem], by simp [go_sem], by simp <;> omega⟩
    have ZR_ : Zbox w1 (w.heap.size + 1) := by rw [hA]; exact ⟨⟨by simp [go_sem], by simp [go_sem], by simp [go_sem], by simp <;> omega⟩, by simp [go_sem], by simp [go_sem], by simp [go_sem]⟩
    clear hA
    have zw1a := Nat.le_of_eq zw1
    have zw1b := Nat.le_of_eq zw1.symm
    clear zw1
    have T := A
    clear A
    have Q := Lib.hid Q_
    clear Q_
    have ZR := Lib.hid ZR_
    clear ZR_
    refine (validT ↑R ↑C a _ cap _ HM.out).mono ?_
    rintro e w2 ⟨rfl, A⟩
    have T := T.trans (A.mono T.size)
    have Q := Lib.hid (Q.out.below A)
    have ZR := Lib.hid (ZR.out.below A)
    have zw2 := A.size
    clear A
    rw [HV.out]
    obtain ⟨Q0, Q1, Q2, Q3⟩ := Q.out
    go_wp2_with fail
    clear Q0 Q1 Q2 Q3
    refine (implInner R C a _ cap xs _ hR hC rfl (H1.out.below T)).mono ?_
    rintro e w3 ⟨a2, cap2, ys, rfl, R2, hy, A⟩
    have T := T.trans (A.mono T.size)
    have Q := Lib.hid (Q.out.below A)
    have ZR := Lib.hid (ZR.out.below A)
    have zw3 := A.size
    clear A
    rw [upto_length] at R2
    have RR := Lib.hid R2
    have HY := Lib.hid hy
    clear R2 hy
    rw [upto_length]
    obtain ⟨⟨ZR0, ZR1, ZR2, ZR3⟩, ZR4, ZR5, ZR6⟩ := ZR.out
    go_wp2
    refine bodyPost_ret (v := .tuple #[.agg #[.int .i64 (C : Int), .int .i64 (R : Int), .slice a2 (C * R) cap2], .bool true]) (by simp [results, Try.results14, go_sem, ZR0, ZR1, ZR2]) rfl ?_
    exact RT_end T (by omega) RR.out (by omega) HY.out (upto_length _ _)
theorem both (r c : Int) (n : Nat) (xs : List Nat) (_hn : n ≤ 1048576) (_hl : n = xs.length) (_wr : (Lit.int .i64 r).wf = true) (_wc : (Lit.int .i64 c).wf = true) :
    ∃ ok R0 C0 S, S.length ≤ 1048576 ∧ (∀ w a cap, Fs w a n cap xs → Calls Try.prog 12 #[.agg #[.int .i64 r, .int .i64 c, .slice a n cap]] w (RT 33 w R0 C0 S ok)) ∧ (∀ w a cap, Fs w a n cap xs → Calls Try.prog 14 #[.agg #[.int .i64 r, .int .i64 c, .slice a n cap]] w (RT 33 w R0 C0 S ok)) :=
  ⟨_, _, _, _, S_len r c n xs _hn, fun w a cap h1 => specS r c a n cap xs w h1, fun w a cap h1 => implS r c a n cap xs w h1⟩
set_option maxHeartbeats 4000000 in
theorem walk (w : World) (ro0 co0 : Int) (a0 : Option Addr) (n0 c0 : Nat) (xs0 : List Nat) (h0 : Fs w a0 n0 c0 xs0) (_wr0 : (Lit.int .i64 ro0).wf = true) (_wc0 : (Lit.int .i64 co0).wf = true) (_b0 : ∀ x ∈ xs0, x < 4294967296) :
    Calls Try.prog 3 #[.agg #[.int .i64 ro0, .int .i64 co0, .slice a0 n0 c0]] w fun e w' => e = .returned (.bool true) ∧ Below w.heap.size w w' := by
  have m0 := h0.cap2
  have q0 := h0.cap1
  unfold maxLen at m0
  by_cases g0 : 1048576 < n0
  · go_enter Try.func3, Try.ntmps3
    have T := Below.refl w.heap.size w
    go_wp2_with fail
    refine calls_at ?_
    intro w1 hA
    obtain ⟨Q, A, z1, z2⟩ := box_new hA
    clear hA
    have X0 := Lib.hid Q
    clear Q
    have T := T.trans (A.mono T.size)
    have zw1 := A.size
    clear A
    have yw1 := z1
    have xw1 := z2
    clear z1 z2
    refine (szNo _ _ _ _ _ _ _ (Nat.le_trans h0.cap1 h0.cap2) (by omega) (by omega)).mono ?_
    rintro e wz ⟨rfl, A⟩
    have T := T.trans (A.mono T.size)
    go_wp2
    go_ret
    exact ⟨rfl, T⟩
  have hn0 : n0 ≤ 1048576 := by omega
  obtain ⟨ok, R0, C0, S, hS, hs, hi⟩ := both ro0 co0 n0 xs0 hn0 h0.len _wr0 _wc0
  go_enter Try.func3, Try.ntmps3
  have T := Below.refl w.heap.size w
  go_wp2_with fail
  refine calls_at ?_
  intro w1 hA
  obtain ⟨Q, A, z1, z2⟩ := box_new hA
  clear hA
  have X0 := Lib.hid Q
  clear Q
  have T := T.trans (A.mono T.size)
  have zw1 := A.size
  clear A
  have yw1 := z1
  have xw1 := z2
  clear z1 z2
  refine (szYes _ _ _ _ _ _ _ (by omega) (by omega)).mono ?_
  rintro e w2 ⟨rfl, A⟩
  have T := T.trans (A.mono T.size)
  have X0 := Lib.hid (X0.out.below A)
  have zw2 := A.size
  clear A
  obtain ⟨X00, X01, X02, X03⟩ := X0.out
  go_wp2_with fail
  clear X00 X01 X02 X03
  refine (toTens _ _ _ _ _ _ _ hn0 (h0.below T)).mono ?_
  rintro e w3 ⟨g1, rfl, R, A⟩
  have T := T.trans (A.mono T.size)
  have X0 := Lib.hid (X0.out.below A)
  have zw3 := A.size
  clear A
  have K1 := R
  clear R
  go_wp2_with fail
  refine (hs w3 _ _ K1.fs).mono ?_
  rintro e w4 ⟨b2, p2, ys2, rfl, R, E2, A⟩
  have T := T.trans (A.mono T.size)
  have K1 := K1.below A
  have X0 := Lib.hid (X0.out.below A)
  have zw4 := A.size
  clear A
  have K2 := R
  clear R
  have E2h := Lib.hid E2
  clear E2
  obtain ⟨X00, X01, X02, X03⟩ := X0.out
  go_wp2_with fail
  clear X00 X01 X02 X03
  refine calls_at ?_
  intro w5 hA
  obtain ⟨Q, A, z1, z2⟩ := box_new (r := R0) (c := C0) (a := b2) (n := S.length) (cap := p2) hA
  clear hA
  have Y2 := Lib.hid Q
  clear Q
  have T := T.trans (A.mono T.size)
  have K1 := K1.below A
  have K2 := K2.below A
  have X0 := Lib.hid (X0.out.below A)
  have zw5 := A.size
  clear A
  have yw5 := z1
  have xw5 := z2
  clear z1 z2
  refine (toTens _ _ _ _ _ _ _ hn0 (h0.below T)).mono ?_
  rintro e w6 ⟨g3, rfl, R, A⟩
  have T := T.trans (A.mono T.size)
  have K1 := K1.below A
  have K2 := K2.below A
  have X0 := Lib.hid (X0.out.below A)
  have Y2 := Lib.hid (Y2.out.below A)
  have zw6 := A.size
  clear A
  have K3 := R
  clear R
  go_wp2_with fail
  refine calls_at ?_
  intro w7 hA
  obtain ⟨Q, A, z1, z2⟩ := box_new (r := ro0) (c := co0) (a := (some ⟨g3, 0, none⟩)) (n := n0) (cap := n0) hA
  clear hA
  have Z0 := Lib.hid Q
  clear Q
  have T := T.trans (A.mono T.size)
  have K1 := K1.below A
  have K2 := K2.below A
  have K3 := K3.below A
  have X0 := Lib.hid (X0.out.below A)
  have Y2 := Lib.hid (Y2.out.below A)
  have zw7 := A.size
  clear A
  have yw7 := z1
  have xw7 := z2
  clear z1 z2
  refine (hi w7 _ _ K3.fs).mono ?_
  rintro e w8 ⟨b4, p4, ys4, rfl, R, E4, A⟩
  have T := T.trans (A.mono T.size)
  have K1 := K1.below A
  have K2 := K2.below A
  have K3 := K3.below A
  have X0 := Lib.hid (X0.out.below A)
  have Y2 := Lib.hid (Y2.out.below A)
  have Z0 := Lib.hid (Z0.out.below A)
  have zw8 := A.size
  clear A
  have K4 := R
  clear R
  have E4h := Lib.hid E4
  clear E4
  obtain ⟨Y20, Y21, Y22, Y23⟩ := Y2.out
  go_wp2_with fail
  clear Y20 Y21 Y22 Y23
  refine calls_at ?_
  intro w9 hA
  obtain ⟨Q, A, z1, z2⟩ := box_new (r := R0) (c := C0) (a := b4) (n := S.length) (cap := p4) hA
  clear hA
  have Y4 := Lib.hid Q
  clear Q
  have T := T.trans (A.mono T.size)
  have K1 := K1.below A
  have K2 := K2.below A
  have K3 := K3.below A
  have K4 := K4.below A
  have X0 := Lib.hid (X0.out.below A)
  have Y2 := Lib.hid (Y2.out.below A)
  have Z0 := Lib.hid (Z0.out.below A)
  have zw9 := A.size
  clear A
  have yw9 := z1
  have xw9 := z2
  clear z1 z2
  refine (eqTens _ _ _ _ _ _ _ _ _ _ hS K4.fs K2.fs (E4h.out.trans E2h.out.symm)).mono ?_
  rintro e w10 ⟨rfl, A⟩
  have T := T.trans (A.mono T.size)
  have K1 := K1.below A
  have K2 := K2.below A
  have K3 := K3.below A
  have K4 := K4.below A
  have X0 := Lib.hid (X0.out.below A)
  have Y2 := Lib.hid (Y2.out.below A)
  have Z0 := Lib.hid (Z0.out.below A)
  have Y4 := Lib.hid (Y4.out.below A)
  have zw10 := A.size
  clear A
  go_wp2_with fail
  refine wp_bl 4 [0, 0, 2, 2, 0] (by kernel_rfl) (by kernel_rfl) ?_
  simp only [List.take_succ_cons, List.take_zero, List.drop_succ_cons, List.drop_zero]
  with_reducible refine bl_step ?_
  intro K hK
  go_simp
  refine ⟨.agg #[.int .i64 ro0, .int .i64 co0, .slice (some ⟨g3, 0, none⟩) n0 n0], fun w' hw' => ?_, hK _ _ ?_⟩
  · obtain ⟨q0, q1, q2, q3⟩ := Z0.out.below hw'
    go_simp
  clear hK K
  with_reducible refine bl_step ?_
  intro K hK
  go_simp
  refine ⟨.agg #[.int .i64 ro0, .int .i64 co0, .slice a0 n0 c0], fun w' hw' => ?_, hK _ _ ?_⟩
  · obtain ⟨q0, q1, q2, q3⟩ := X0.out.below hw'
    go_simp
  clear hK K
  with_reducible refine bl_step ?_
  intro K hK
  go_simp
  intro _
  refine (toTens _ _ _ _ _ _ _ hn0 ((h0.below T).drew _)).mono ?_
  rintro e w11 ⟨g5, rfl, R, A0⟩
  have A := (bdrew (Below.refl _ _) _).trans A0
  clear A0
  refine ⟨_, rfl, A, hK _ _ ?_⟩
  clear hK K
  have BL : Below w10.heap.size w10 w11 := A
  have T := T.trans (A.mono T.size)
  have K1 := K1.below A
  have K2 := K2.below A
  have K3 := K3.below A
  have K4 := K4.below A
  have X0 := Lib.hid (X0.out.below A)
  have Y2 := Lib.hid (Y2.out.below A)
  have Z0 := Lib.hid (Z0.out.below A)
  have Y4 := Lib.hid (Y4.out.below A)
  have zw11 := A.size
  clear A
  have K5 := R
  clear R
  with_reducible refine bl_step ?_
  intro K hK
  go_simp
  intro _
  refine (eqTens _ _ _ _ _ _ _ _ _ _ hn0 (K3.fs.drew _) (K5.fs.drew _) rfl).mono ?_
  rintro e w12 ⟨rfl, A0⟩
  have A := (bdrew (Below.refl _ _) _).trans A0
  clear A0
  refine ⟨_, rfl, BL.trans (A.mono BL.size), hK _ _ ?_⟩
  clear hK K BL
  have T := T.trans (A.mono T.size)
  have K1 := K1.below A
  have K2 := K2.below A
  have K3 := K3.below A
  have K4 := K4.below A
  have K5 := K5.below A
  have X0 := Lib.hid (X0.out.below A)
  have Y2 := Lib.hid (Y2.out.below A)
  have Z0 := Lib.hid (Z0.out.below A)
  have Y4 := Lib.hid (Y4.out.below A)
  have zw12 := A.size
  clear A
  with_reducible refine wpR_nil (fun nq => ?_)
  generalize hA : w12.drewN nq = w13
  have A := below_of_drew hA.symm
  clear hA
  have T := T.trans (A.mono T.size)
  have K1 := K1.below A
  have K2 := K2.below A
  have K3 := K3.below A
  have K4 := K4.below A
  have K5 := K5.below A
  have X0 := Lib.hid (X0.out.below A)
  have Y2 := Lib.hid (Y2.out.below A)
  have Z0 := Lib.hid (Z0.out.below A)
  have Y4 := Lib.hid (Y4.out.below A)
  have zw13 := A.size
  clear A
  clear K1 K5
  obtain ⟨Z00, Z01, Z02, Z03⟩ := Z0.out
  go_wp2_with fail
  clear Z00 Z01 Z02 Z03
  refine (markTens _ _ _ _ _ _ _ _ (1) _ hn0 (by omega) K3).mono ?_
  rintro e w14 ⟨rfl, R, A⟩
  have z := A.size
  have t := T.size
  have T := T.trans (A.below (by omega) (by omega))
  have K2 := K2.keep A (by omega)
  have K4 := K4.keep A (by omega)
  have X0 := Lib.hid (X0.out.keep A (by omega))
  have Y2 := Lib.hid (Y2.out.keep A (by omega))
  have Z0 := Lib.hid (Z0.out.keep A (by omega))
  have Y4 := Lib.hid (Y4.out.keep A (by omega))
  have K3 := R
  have zw14 := z
  clear A R z t
  obtain ⟨Y40, Y41, Y42, Y43⟩ := Y4.out
  obtain ⟨Y20, Y21, Y22, Y23⟩ := Y2.out
  go_wp2_with fail
  clear Y40 Y41 Y42 Y43 Y20 Y21 Y22 Y23
  refine (eqTens _ _ _ _ _ _ _ _ _ _ hS K4.fs K2.fs (E4h.out.trans E2h.out.symm)).mono ?_
  rintro e w15 ⟨rfl, A⟩
  have T := T.trans (A.mono T.size)
  have K2 := K2.below A
  have K3 := K3.below A
  have K4 := K4.below A
  have X0 := Lib.hid (X0.out.below A)
  have Y2 := Lib.hid (Y2.out.below A)
  have Z0 := Lib.hid (Z0.out.below A)
  have Y4 := Lib.hid (Y4.out.below A)
  have zw15 := A.size
  clear A
  obtain ⟨Y40, Y41, Y42, Y43⟩ := Y4.out
  go_wp2_with fail
  clear Y40 Y41 Y42 Y43
  refine (markTens _ _ _ _ _ _ _ _ 1 _ hS (by omega) K4).mono ?_
  rintro e w16 ⟨rfl, R, A⟩
  have z := A.size
  have t := T.size
  have T := T.trans (A.below (by omega) (by omega))
  have K2 := K2.keep A (by omega)
  have K3 := K3.keep A (by omega)
  have X0 := Lib.hid (X0.out.keep A (by omega))
  have Y2 := Lib.hid (Y2.out.keep A (by omega))
  have Z0 := Lib.hid (Z0.out.keep A (by omega))
  have Y4 := Lib.hid (Y4.out.keep A (by omega))
  have K4 := R
  have zw16 := z
  clear A R z t
  obtain ⟨Y40, Y41, Y42, Y43⟩ := Y4.out
  go_wp2_with fail
  clear Y40 Y41 Y42 Y43
  refine (heldTens _ _ _ _ _ 1 _ hS (by omega) K4.fs).mono ?_
  rintro e w17 ⟨rfl, A⟩
  have T := T.trans (A.mono T.size)
  have K2 := K2.below A
  have K3 := K3.below A
  have K4 := K4.below A
  have X0 := Lib.hid (X0.out.below A)
  have Y2 := Lib.hid (Y2.out.below A)
  have Z0 := Lib.hid (Z0.out.below A)
  have Y4 := Lib.hid (Y4.out.below A)
  have zw17 := A.size
  clear A
  obtain ⟨X00, X01, X02, X03⟩ := X0.out
  go_wp2_with fail
  clear X00 X01 X02 X03
  refine (toTens _ _ _ _ _ _ _ hn0 (h0.below T)).mono ?_
  rintro e w18 ⟨g6, rfl, R, A⟩
  have T := T.trans (A.mono T.size)
  have K2 := K2.below A
  have K3 := K3.below A
  have K4 := K4.below A
  have X0 := Lib.hid (X0.out.below A)
  have Y2 := Lib.hid (Y2.out.below A)
  have Z0 := Lib.hid (Z0.out.below A)
  have Y4 := Lib.hid (Y4.out.below A)
  have zw18 := A.size
  clear A
  have K6 := R
  clear R
  go_wp2_with fail
  refine (hi w18 _ _ K6.fs).mono ?_
  rintro e w19 ⟨b7, p7, ys7, rfl, R, E7, A⟩
  have T := T.trans (A.mono T.size)
  have K2 := K2.below A
  have K3 := K3.below A
  have K4 := K4.below A
  have K6 := K6.below A
  have X0 := Lib.hid (X0.out.below A)
  have Y2 := Lib.hid (Y2.out.below A)
  have Z0 := Lib.hid (Z0.out.below A)
  have Y4 := Lib.hid (Y4.out.below A)
  have zw19 := A.size
  clear A
  have K7 := R
  clear R
  have E7h := Lib.hid E7
  clear E7
  obtain ⟨Y20, Y21, Y22, Y23⟩ := Y2.out
  go_wp2_with fail
  clear Y20 Y21 Y22 Y23
  refine calls_at ?_
  intro w20 hA
  obtain ⟨Q, A, z1, z2⟩ := box_new (r := R0) (c := C0) (a := b7) (n := S.length) (cap := p7) hA
  clear hA
  have Y7 := Lib.hid Q
  clear Q
  have T := T.trans (A.mono T.size)
  have K2 := K2.below A
  have K3 := K3.below A
  have K4 := K4.below A
  have K6 := K6.below A
  have K7 := K7.below A
  have X0 := Lib.hid (X0.out.below A)
  have Y2 := Lib.hid (Y2.out.below A)
  have Z0 := Lib.hid (Z0.out.below A)
  have Y4 := Lib.hid (Y4.out.below A)
  have zw20 := A.size
  clear A
  have yw20 := z1
  have xw20 := z2
  clear z1 z2
  refine (eqTens _ _ _ _ _ _ _ _ _ _ hS K7.fs K2.fs (E7h.out.trans E2h.out.symm)).mono ?_
  rintro e w21 ⟨rfl, A⟩
  have T := T.trans (A.mono T.size)
  have K2 := K2.below A
  have K3 := K3.below A
  have K4 := K4.below A
  have K6 := K6.below A
  have K7 := K7.below A
  have X0 := Lib.hid (X0.out.below A)
  have Y2 := Lib.hid (Y2.out.below A)
  have Z0 := Lib.hid (Z0.out.below A)
  have Y4 := Lib.hid (Y4.out.below A)
  have Y7 := Lib.hid (Y7.out.below A)
  have zw21 := A.size
  clear A
  obtain ⟨Y40, Y41, Y42, Y43⟩ := Y4.out
  go_wp2_with fail
  clear Y40 Y41 Y42 Y43
  refine (heldTens _ _ _ _ _ 1 _ hS (by omega) K4.fs).mono ?_
  rintro e w22 ⟨rfl, A⟩
  have T := T.trans (A.mono T.size)
  have K2 := K2.below A
  have K3 := K3.below A
  have K4 := K4.below A
  have K6 := K6.below A
  have K7 := K7.below A
  have X0 := Lib.hid (X0.out.below A)
  have Y2 := Lib.hid (Y2.out.below A)
  have Z0 := Lib.hid (Z0.out.below A)
  have Y4 := Lib.hid (Y4.out.below A)
  have Y7 := Lib.hid (Y7.out.below A)
  have zw22 := A.size
  clear A
  go_wp2
  go_ret
  exact ⟨rfl, T⟩
theorem own : ownKnob Try.prog.godebug = none := by kernel_rfl
theorem laidOut : laidOutB Try.prog = true := by kernel_rfl
set_option maxRecDepth 100000 in
theorem lifted (os : Os) (started : os.Started) (H : Type) (enc : TypeId × Value → H) :
    ReturnsInHanded {} Try.checked os 3 .any (Rows.fnExactTransposeTensorSpec.pre6 enc Try.prog Try.f3 Rows.fnExactTransposeTensorRow.domain false) (Rows.fnExactTransposeTensorSpec.post enc Try.prog Try.f3 false true false false) := by
  refine returnsInHanded_of_change (C := Try.checked) own started (by kernel_rfl) Try.func3
    (ChangeSpec.witness6 (enc := enc) (C := Try.checked) false ⟨#[], #[.agg #[.int .i64 0, .int .i64 0, .slice none 0 0]], []⟩ 8 (by kernel_rfl) (by kernel_rfl) (by kernel_rfl) (by kernel_rfl)) ?_
  intro W base args ds gs before hval0 hW hcnd _
  have hval : ∀ (j : Nat) t v, Try.f3.params[j]? = some t → args[j]? = some v → Value.okWide Try.prog W .any base t v := hval0
  have hW' := hW
  obtain ⟨p, q, hA0, hV, rfl, hfz, hnd⟩ := hW
  have hA : DataW.TrodAll enc Try.prog W 0 (fun _ => true) true Try.f3.params.toList args.toList ds p := hA0
  rw [Try.params3] at hA hval
  obtain ⟨v0, vs0, d0, ds0, p0, q0, hargs, rfl, rfl, h0, r0⟩ := trodAll_cons hA
  obtain ⟨rfl, rfl, rfl⟩ := trodAll_nil r0
  obtain rfl : args = #[v0] := by cases args; simp_all
  obtain ⟨rfl, rfl⟩ := trodVars_none hV
  have k0 := h0
  have lt0 : ∀ x ∈ p0, x.block < W.heap.size := by obtain ⟨m, hm⟩ := k0; exact DataW.trod_lt m _ _ _ hm
  obtain ⟨ro0, co0, a0, n0, c0, z0, rfl, f0, wr0, wc0, b0⟩ := open_tensor Try.underlying24 (by kernel_rfl) (by kernel_rfl) Try.underlying2 Try.underlying2 Try.underlying22 Try.underlying33 (by kernel_rfl) (hval 0 24 v0 rfl rfl) h0
  clear hA0 hval0
  refine (walk W ro0 co0 a0 n0 c0 z0 f0 wr0 wc0 b0).mono fun e W' ⟨he, bel⟩ => ?_
  subst he
  exact ⟨_, rfl, _, _, _, [], _, [], hW', trodAll_mk1 (shut_bool Try.underlying4 _), (trodAll_cons_mk (Below.trod laidOut (by kernel_rfl) (of_decide_eq_true (by kernel_rfl)) k0 bel lt0) trodAll_mk0), rfl, bel.frame _, fun h => by cases h⟩

theorem over : Rows.fnExactTransposeTensorRow.holds Try.pinned (OpenSpec.ofChange Rows.fnExactTransposeTensorSpec) :=
  OpenClaim.holds_of_wide 3 Try.f3 rfl rfl rfl rfl rfl rfl rfl ⟨rfl, rfl, rfl, rfl, rfl⟩ rfl rfl rfl rfl rfl (by kernel_rfl) Try.func3 (by kernel_rfl)
    (of_decide_eq_true (by kernel_rfl)) (by unfold Func.isWrapper; first | (rw [if_pos (by decide +kernel)]; kernel_rfl) | (rw [if_neg (by decide +kernel)]; exact ⟨rfl, rfl⟩))
    (fun os started H enc _ => lifted os started H enc)

theorem proved : Rows.FnExactTransposeTensorSaid := over
end Go.Proofs.Ytoeppdkhncllbaa.transposeTensor
