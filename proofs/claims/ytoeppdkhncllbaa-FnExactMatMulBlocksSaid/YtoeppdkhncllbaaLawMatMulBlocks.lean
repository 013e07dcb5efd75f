/- The law FnExactMatMulBlocks holds for every input. No conditions. -/
import Derived.Test.YtoeppdkhncllbaaValid
import Derived.Test.YtoeppdkhncllbaaFin
import Derived.Test.YtoeppdkhncllbaaFit
import Derived.Test.YtoeppdkhncllbaaProd
import Derived.Deep.CutRange
import Derived.Test.YtoeppdkhncllbaaOpen
import Derived.ProofKit
import Derived.OpenShut
import Derived.ChangeOld
import Derived.WalkSmall
namespace Go.Proofs.Ytoeppdkhncllbaa.matMulBlocks
open Go.ChangeShapes Go.WideShapes Go.ChangeAt Go.RowKit Go.Fl Go.Reg
open Go.Proofs.Ytoeppdkhncllbaa.prod
def blkF (f g : Nat → Nat) (D B : Nat) : Nat → Nat
  | 0 => 0
  | t + 1 => fop .add .f32 (blkF f g D B t) (dotF (fun l => f (t * B + l)) (fun l => g (t * B + l)) (min B (D - t * B)))
theorem blkF_step {f g : Nat → Nat} {D B t q u p l : Nat} (h : cn .f32 u = cn .f32 (blkF f g D B t)) (hq : q = t * B) (hl : l = min B (D - q)) (hp : cn .f32 p = cn .f32 (dotF (fun l => f (q + l)) (fun l => g (q + l)) l)) (w : World) : cn .f32 (fres .add .f32 u p w) = cn .f32 (blkF f g D B (t + 1)) := by
  subst hl; subst hq
  show _ = cn .f32 (fop .add .f32 (blkF f g D B t) (dotF (fun l => f (t * B + l)) (fun l => g (t * B + l)) (min B (D - t * B))))
  rw [fres_fop, fop_l .add h, fop_r .add hp]
theorem nb_eq {D B t q : Nat} (hq : q = t * B) (h1 : D ≤ q) (h2 : q < D + B) : t = (D + B - 1) / B := by
  subst hq
  symm
  apply Nat.div_eq_of_lt_le
  · omega
  · rw [Nat.succ_mul]; omega
def G (xs zs : List Nat) (D C B : Nat) (i j : Nat) : Nat := blkF (fun l => xs[i * D + l]?.getD 0) (fun l => zs[l * C + j]?.getD 0) D B ((D + B - 1) / B)
set_option maxRecDepth 100000 in
set_option maxHeartbeats 4000000 in
theorem specInner (R D C : Nat) (a : Option Addr) (n cap b0 : Nat) (xs : List Nat) (x2 : Option Addr) (n2 cap2 b1 : Nat) (zs : List Nat) (w : World) (hR : 0 < R ∧ R ≤ 16) (hD : 0 < D ∧ D ≤ 16) (hC : 0 < C ∧ C ≤ 16) (B : Nat) (hB : 0 < B ∧ B ≤ 16) (hn : n = R * D) (hn2 : n2 = D * C) (h1 : Fs w a n cap xs) (Q : Box w b0 (R : Int) (D : Int) a n cap) (h2 : Fs w x2 n2 cap2 zs) (P : Box w b1 (D : Int) (C : Int) x2 n2 cap2) :
    Calls Try.prog 61 #[.pointer (some ⟨b0, 0, none⟩), .pointer (some ⟨b1, 0, none⟩), .int .i64 (B : Int)] w (RT1 33 w (R : Int) (C : Int) (upto (at2 (G xs zs D C B) C) (R * C))) := by
  have HX := Lib.hid h1.cell
  have HZ := Lib.hid h2.cell
  have hcap := h1.cap1
  have hcap2 := h1.cap2
  have hcap3 := h2.cap1
  have hcap4 := h2.cap2
  unfold maxLen at hcap2 hcap4
  clear h1 h2
  have HQ := Lib.hid Q
  have Q3 := Q.lt
  have HP := Lib.hid P
  have P3 := P.lt
  clear Q P
  have hRD : R * D ≤ 16 * 16 := Nat.mul_le_mul hR.2 hD.2
  have hDC : D * C ≤ 16 * 16 := Nat.mul_le_mul hD.2 hC.2
  have hRC : R * C ≤ 16 * 16 := Nat.mul_le_mul hR.2 hC.2
  have hn1 := Nat.le_of_eq hn
  have hn1' := Nat.le_of_eq hn.symm
  have hm1 := Nat.le_of_eq hn2
  have hm1' := Nat.le_of_eq hn2.symm
  clear hn hn2
  go_enter Try.func61, Try.ntmps61
  go_wp2_with fail
  refine reg_at ?_
  intro w1 hA
  have A : Below w.heap.size w w1 := by rw [hA]; exact (Below.refl _ _).alloc (Nat.le_refl _) _
  have zw1 : w1.heap.size = w.heap.size + 1 := by rw [hA]; simp
  have ZR_ : Zbox w1 (w.heap.size) := by rw [hA]; exact ⟨⟨by simp [go_sem], by simp [go_sem], by simp [go_sem], by simp <;> omega⟩, by simp [go_sem], by simp [go_sem], by simp [go_sem]⟩
  clear hA
  have zw1a := Nat.le_of_eq zw1
  have zw1b := Nat.le_of_eq zw1.symm
  clear zw1
  have T := A
  clear A
  have ZR := Lib.hid ZR_
  clear ZR_
  go_cut [7] from 14 to 23 (fun sb wx => ∃ b g, sb = .pointer (some ⟨b, 0, none⟩) ∧ w1.heap.size ≤ b ∧ Acc w1.heap.size b 33 ((R : Int)) ((C : Int)) w1 wx 0 (some ⟨g, 0, none⟩) 0 [])
  case first =>
    have FACT : ∀ w', Below w1.heap.size w1 w' → w'.cell? ⟨b0, 0, none⟩ = some (.int .i64 (R : Int)) ∧ w'.cell? ⟨b1, 1, none⟩ = some (.int .i64 (C : Int)) := fun w' hb => ⟨(hb.cell (p := ⟨b0, 0, none⟩) (by simp; omega)).trans ((T.cell (p := ⟨b0, 0, none⟩) Q3).trans HQ.out.c0), (hb.cell (p := ⟨b1, 1, none⟩) (by simp; omega)).trans ((T.cell (p := ⟨b1, 1, none⟩) P3).trans HP.out.c1)⟩
    have FA := Lib.hid FACT
    clear FACT
    refine wp_plan 11 [0, 0, 0, 0, 0, 0, 0, 0, 2, 0, 2, 2] (.go 0 (.go 1 (.go 2 (.go 3 (.go 4 (.go 5 (.go 6 (.go 7 (.either 8 10 (.go 9 (.only 10 .fin)) (.only 8 (.go 9 .fin))))))))))) (Bl w1) (by kernel_rfl) (by kernel_rfl) (Bl.refl _) Bl.drew ?_
    simp only [List.drop_succ_cons, List.drop_zero]
    refine plan_go (pl0 (v := ?_) (by rfl) rfl rfl (fun w' hw' => ?_) (fun K hK => ?_))
    rotate_left
    · obtain ⟨q0, q1⟩ := FA.out w' hw'
      go_simp
      rfl
    go_simp
    refine hK _ _ ?_
    clear hK K
    refine plan_go (pl0 (v := ?_) (by rfl) rfl rfl (fun w' hw' => ?_) (fun K hK => ?_))
    rotate_left
    · obtain ⟨q0, q1⟩ := FA.out w' hw'
      go_simp
      rfl
    go_simp
    refine hK _ _ ?_
    clear hK K
    refine plan_go (pl0 (v := ?_) (by rfl) rfl rfl (fun w' hw' => ?_) (fun K hK => ?_))
    rotate_left
    · obtain ⟨q0, q1⟩ := FA.out w' hw'
      go_simp
      rfl
    go_simp
    refine hK _ _ ?_
    clear hK K
    refine plan_go (pl0 (v := ?_) (by rfl) rfl rfl (fun w' hw' => ?_) (fun K hK => ?_))
    rotate_left
    · obtain ⟨q0, q1⟩ := FA.out w' hw'
      go_simp
      rfl
    go_simp
    refine hK _ _ ?_
    clear hK K
    refine plan_go (pl0 (v := ?_) (by rfl) rfl rfl (fun w' hw' => ?_) (fun K hK => ?_))
    rotate_left
    · obtain ⟨q0, q1⟩ := FA.out w' hw'
      go_simp
      rfl
    go_simp
    refine hK _ _ ?_
    clear hK K
    refine plan_go (pl0 (v := ?_) (by rfl) rfl rfl (fun w' hw' => ?_) (fun K hK => ?_))
    rotate_left
    · obtain ⟨q0, q1⟩ := FA.out w' hw'
      go_simp
      rfl
    go_simp
    refine hK _ _ ?_
    clear hK K
    refine plan_go (pl0 (v := ?_) (by rfl) rfl rfl (fun w' hw' => ?_) (fun K hK => ?_))
    rotate_left
    · obtain ⟨q0, q1⟩ := FA.out w' hw'
      go_simp
      rfl
    go_simp
    refine hK _ _ ?_
    clear hK K
    refine plan_go (pl0 (v := ?_) (by rfl) rfl rfl (fun w' hw' => ?_) (fun K hK => ?_))
    rotate_left
    · obtain ⟨q0, q1⟩ := FA.out w' hw'
      go_simp
      rfl
    go_simp
    refine hK _ _ ?_
    clear hK K
    refine plan_either ?_ ?_
    · skip
      refine pl2 (by rfl) rfl rfl (fun K hK => ?_)
      go_simp
      intro n1
      refine ⟨(bdrew (Below.refl _ _) _).alloc (Nat.le_refl _) _, hK _ _ ?_⟩
      clear hK K
      refine plan_go (pl0 (v := ?_) (by rfl) rfl rfl (fun w' hw' => ?_) (fun K hK => ?_))
      rotate_left
      · obtain ⟨q0, q1⟩ := FA.out w' hw'
        go_simp
        rfl
      go_simp
      refine hK _ _ ?_
      clear hK K
      refine plan_only (pl2 (by rfl) rfl rfl (fun K hK => ?_))
      go_simp
      intro n2
      refine ⟨((bdrew ((bdrew (Below.refl _ _) _).alloc (Nat.le_refl _) _) _).alloc (by simp) _), hK _ _ ?_⟩
      clear hK K
      refine plan_fin (fun n3 => ?_)
      go_wp2_with fail
      go_meet
      obtain ⟨b, g, hb, hg, ACC⟩ := accStartA (r := (R : Int)) (c := (C : Int)) (t := 33) (tt := 26) (Below.refl w1.heap.size w1) (Nat.le_refl _) (1 + n1) n2 n3 _ rfl
      subst hb
      subst hg
      exact ⟨_, _, rfl, by omega, ACC⟩
    · skip
      refine pl2 (by rfl) rfl rfl (fun K hK => ?_)
      go_simp
      intro n1
      refine ⟨(bdrew (Below.refl _ _) _).alloc (Nat.le_refl _) _, hK _ _ ?_⟩
      clear hK K
      refine plan_only (pl2 (by rfl) rfl rfl (fun K hK => ?_))
      go_simp
      intro n2
      refine ⟨((bdrew ((bdrew (Below.refl _ _) _).alloc (Nat.le_refl _) _) _).alloc (by simp) _), hK _ _ ?_⟩
      clear hK K
      refine plan_go (pl0 (v := ?_) (by rfl) rfl rfl (fun w' hw' => ?_) (fun K hK => ?_))
      rotate_left
      · obtain ⟨q0, q1⟩ := FA.out w' hw'
        go_simp
        rfl
      go_simp
      refine hK _ _ ?_
      clear hK K
      obtain ⟨e0, e1, e2, e3, e4, e5⟩ := frzs (w1.drewN (1 + n1)) 26
      change World.frozen? _ ⟨w1.heap.size, 0, none⟩ = _ at e0
      change World.frozen? _ ⟨w1.heap.size, 1, none⟩ = _ at e1
      change World.frozen? _ ⟨w1.heap.size, 2, none⟩ = _ at e2
      change World.cell? _ ⟨w1.heap.size, 0, none⟩ = _ at e3
      change World.cell? _ ⟨w1.heap.size, 1, none⟩ = _ at e4
      change World.cell? _ ⟨w1.heap.size, 2, none⟩ = _ at e5
      refine plan_fin (fun n3 => ?_)
      go_wp2_with fail
      go_meet
      obtain ⟨b, g, hb, hg, ACC⟩ := accStartB (r := (R : Int)) (c := (C : Int)) (t := 33) (tt := 26) (Below.refl w1.heap.size w1) (Nat.le_refl _) (1 + n1) n2 n3 _ rfl
      subst hb
      subst hg
      exact ⟨_, _, rfl, by omega, ACC⟩
  case rest =>
  obtain ⟨b, g, rfl, hb, ACC⟩ := hcut
  have HACC := Lib.hid ACC
  clear ACC
  obtain ⟨i0, hi, hz0, hz1, hz2⟩ := info_parts infoF32
  have HI := Lib.hid hi
  have HZ0 := Lib.hid hz0
  have HZ1 := Lib.hid hz1
  have HZ2 := Lib.hid hz2
  clear hi hz0 hz1 hz2
  have c1 : wc.cell? ⟨b0, 0, none⟩ = some (.int .i64 (R : Int)) := ((T.trans (HACC.out.below.mono (by omega))).cell (p := ⟨b0, 0, none⟩) Q3).trans HQ.out.c0
  go_wp2
  clear c1
  go_loopw [8] (fun i w' => ∃ (i' m : Nat) (a' : Option Addr) (cap' : Nat) (ys : List Nat), i' ≤ R ∧ i = .int .i64 i' ∧ Hid (m = i' * C) ∧ Acc w1.heap.size b 33 (R : Int) (C : Int) w1 w' m a' cap' ys ∧ ys.map (cn .f32) = (upto (at2 (G xs zs D C B) C) m).map (cn .f32)) (fun i _ => R - (intOf i).toNat)
  case atStart => exact ⟨0, 0, _, _, _, Nat.zero_le _, rfl, (Nat.zero_mul _).symm, HACC.out, rfl⟩
  case round =>
    obtain ⟨i, m, a', cap', ys, hi, rfl, hm, acc, hys⟩ := hrel
    have BW : Below w.heap.size w wr := T.trans (acc.below.mono (by omega))
    have c0 : wr.cell? ⟨b0, 0, none⟩ = some (.int .i64 (R : Int)) := (BW.cell (p := ⟨b0, 0, none⟩) Q3).trans HQ.out.c0
    have c1 : wr.cell? ⟨b1, 1, none⟩ = some (.int .i64 (C : Int)) := (BW.cell (p := ⟨b1, 1, none⟩) P3).trans HP.out.c1
    by_cases hlt : i < R
    · have HA := Lib.hid acc
      have HY := Lib.hid hys
      clear acc hys
      go_wp2
      clear c0 c1
      obtain ⟨wo, rfl⟩ : ∃ wo : World, wo = wr := ⟨_, rfl⟩
      go_loopw [9] (fun i2 w' => ∃ (k m' : Nat) (a' : Option Addr) (cap' : Nat) (ys : List Nat), k ≤ C ∧ i2 = .int .i64 k ∧ Hid (m' = i * C + k) ∧ Acc w1.heap.size b 33 (R : Int) (C : Int) w1 w' m' a' cap' ys ∧ ys.map (cn .f32) = (upto (at2 (G xs zs D C B) C) m').map (cn .f32)) (fun i2 _ => C - (intOf i2).toNat)
      case atStart => exact ⟨0, m, _, _, _, Nat.zero_le _, rfl, hm, HA.out, HY.out⟩
      case round =>
        clear HA HY hm
        obtain ⟨j, m, a', cap', ys, hj, rfl, hm, acc, hys⟩ := hrel
        have BW : Below w.heap.size w wr := T.trans (acc.below.mono (by omega))
        have c0 : wr.cell? ⟨b0, 1, none⟩ = some (.int .i64 (D : Int)) := (BW.cell (p := ⟨b0, 1, none⟩) Q3).trans HQ.out.c1
        have c1 : wr.cell? ⟨b1, 1, none⟩ = some (.int .i64 (C : Int)) := (BW.cell (p := ⟨b1, 1, none⟩) P3).trans HP.out.c1
        by_cases hjC : j < C
        · have hme := row_end (C := C) hlt
          have hml : m ≤ 256 := by have := hm.out; omega
          have hFk : Hid (at2 (G xs zs D C B) C m = G xs zs D C B i j) := by have := hm.out; subst this; exact at2_at _ hjC
          have HA := Lib.hid acc
          have HY := Lib.hid hys
          have HB := Lib.hid BW
          clear acc hys BW
          go_wp2
          clear c0 c1
          obtain ⟨wj, rfl⟩ : ∃ wj : World, wj = wr := ⟨_, rfl⟩
          go_loopw [10, 11] (fun su fr w' => ∃ (t q u mm : Nat), q < D + B ∧ Hid (q = t * B) ∧ fr = .int .i64 q ∧ su = .float .f32 u ∧ Hid (cn .f32 u = cn .f32 (blkF (fun l => xs[i * D + l]?.getD 0) (fun l => zs[l * C + j]?.getD 0) D B t)) ∧ w' = wj.drewN mm) (fun _ fr _ => D + B - (intOf fr).toNat)
          case atStart => exact ⟨0, 0, 0, 0, by omega, (Nat.zero_mul _).symm, rfl, rfl, rfl, rfl⟩
          case round =>
            obtain ⟨t, q, u, mm, hqD, hq, rfl, rfl, hu, rfl⟩ := hrel
            by_cases hq1 : q < D
            · have c1 : wj.cell? ⟨b0, 1, none⟩ = some (.int .i64 (D : Int)) := (HB.out.cell (p := ⟨b0, 1, none⟩) Q3).trans HQ.out.c1
              go_wp2
              clear c1
              obtain ⟨wf, hwf⟩ : ∃ wf, wf = wj.drewN mm := ⟨_, rfl⟩
              have HF := Lib.hid (show Below w.heap.size w wf by rw [hwf]; exact bdrew HB.out mm)
              have HW := Lib.hid hwf
              rw [← hwf]
              clear hwf
              go_loopw [12, 13] (fun pa jj w' => ∃ (l s p m2 : Nat), s ≤ q + B ∧ s ≤ D ∧ Hid (s = q + l) ∧ jj = .int .i64 s ∧ pa = .float .f32 p ∧ Hid (cn .f32 p = cn .f32 (dotF (fun l => (fun l => xs[i * D + l]?.getD 0) (q + l)) (fun l => (fun l => zs[l * C + j]?.getD 0) (q + l)) l)) ∧ w' = wf.drewN m2) (fun _ jj _ => D - (intOf jj).toNat)
              case atStart => exact ⟨0, q, 0, 0, by omega, by omega, rfl, rfl, rfl, rfl, rfl⟩
              case round =>
                obtain ⟨l, s, p, m2, hs1, hs2, hsl, rfl, rfl, hp, rfl⟩ := hrel
                obtain ⟨q0, q1, q2, q3⟩ := HQ.out
                obtain ⟨p0, p1, p2, p3⟩ := HP.out
                have c1 : wf.cell? ⟨b0, 1, none⟩ = some (.int .i64 (D : Int)) := (HF.out.cell (p := ⟨b0, 1, none⟩) q3).trans q1
                have c2 : wf.cell? ⟨b0, 2, none⟩ = some (.slice a n cap) := (HF.out.cell (p := ⟨b0, 2, none⟩) q3).trans q2
                have c3 : wf.cell? ⟨b1, 1, none⟩ = some (.int .i64 (C : Int)) := (HF.out.cell (p := ⟨b1, 1, none⟩) p3).trans p1
                have c4 : wf.cell? ⟨b1, 2, none⟩ = some (.slice x2 n2 cap2) := (HF.out.cell (p := ⟨b1, 2, none⟩) p3).trans p2
                clear q0 q1 q2 q3 p0 p1 p2 p3
                by_cases hsB : s < q + B
                · by_cases hsD : s < D
                  · skip
                    have hin := in_row (C := D) hlt hsD
                    have hin2 := in_row (C := C) hsD hjC
                    obtain ⟨ba, oa, rfl, hca⟩ := HX.out (i * D + s) (by omega)
                    have ca : wf.cell? ⟨ba, oa + (i * D + s), none⟩ = some (.float .f32 (xs[i * D + s]?.getD 0)) := (HF.out.cell (p := ⟨ba, oa + (i * D + s), none⟩) (World.block_lt_of_cell? w _ hca)).trans hca
                    obtain ⟨bd, od, rfl, hcd⟩ := HZ.out (s * C + j) (by omega)
                    have cd : wf.cell? ⟨bd, od + (s * C + j), none⟩ = some (.float .f32 (zs[s * C + j]?.getD 0)) := (HF.out.cell (p := ⟨bd, od + (s * C + j), none⟩) (World.block_lt_of_cell? w _ hcd)).trans hcd
                    clear hca hcd
                    have q1 : ((i : Int) * (D : Int)) = ((i * D : Nat) : Int) := by simp
                    have q2 : ((s : Int) * (C : Int)) = ((s * C : Nat) : Int) := by simp
                    have p1 : (0 : Int) ≤ (i : Int) * (D : Int) := by rw [q1]; omega
                    have p2 : (i : Int) * (D : Int) ≤ 256 := by rw [q1]; omega
                    have p3 : (0 : Int) ≤ (s : Int) * (C : Int) := by rw [q2]; omega
                    have p4 : (s : Int) * (C : Int) ≤ 256 := by rw [q2]; omega
                    have t1 : IntKind.i64.wrap ((i : Int) * (D : Int)) = (i : Int) * (D : Int) := IntWalk.i64_in _ (by omega)
                    have t2 : IntKind.i64.wrap ((i : Int) * (D : Int) + (s : Int)) = (i : Int) * (D : Int) + (s : Int) := IntWalk.i64_in _ (by omega)
                    have t3 : ((i : Int) * (D : Int) + (s : Int)).toNat = i * D + s := by rw [q1]; rfl
                    have t4 : (0 : Int) ≤ (i : Int) * (D : Int) + (s : Int) := by omega
                    have t5 : (i : Int) * (D : Int) + (s : Int) < (n : Int) := by rw [q1]; omega
                    have s1 : IntKind.i64.wrap ((s : Int) * (C : Int)) = (s : Int) * (C : Int) := IntWalk.i64_in _ (by omega)
                    have s2 : IntKind.i64.wrap ((s : Int) * (C : Int) + (j : Int)) = (s : Int) * (C : Int) + (j : Int) := IntWalk.i64_in _ (by omega)
                    have s3 : ((s : Int) * (C : Int) + (j : Int)).toNat = s * C + j := by rw [q2]; rfl
                    have s4 : (0 : Int) ≤ (s : Int) * (C : Int) + (j : Int) := by omega
                    have s5 : (s : Int) * (C : Int) + (j : Int) < (n2 : Int) := by rw [q2]; omega
                    clear q1 q2
                    go_wp2_with fail
                    refine wp_dr 31 [0, 0, 0, 0, 0, 0, 0, 0, 0, 0, 0, 0, 0, 0, 0, 0, 0, 0, 0, 0, 0, 0, 0, 0, 0, 0, 0, 0, 0, 1, 1, 0] (by kernel_rfl) (by kernel_rfl) ?_
                    simp only [List.take_succ_cons, List.take_zero, List.drop_succ_cons, List.drop_zero]
                    iterate 31 (with_reducible refine dr_step ?_; intro K hK; go_simp; (try intro _); refine hK _ _ ?_; clear hK K)
                    refine wpR_nil (fun nq => ?_)
                    clear t1 t2 t3 t4 t5 s1 s2 s3 s4 s5 p1 p2 p3 p4
                    go_wp2
                    go_roundw
                    case rel => exact ⟨l + 1, s + 1, _, _, by omega, by omega, (by have := hsl.out; show s + 1 = _; omega), by go_num, rfl, dotF_step hp.out (by rw [← hsl.out]) (by rw [← hsl.out]) _ _, rfl⟩
                    case measure => simp [intOf]; omega
                  · skip
                    clear c2 c3 c4
                    go_wp2
                    go_roundw
                    case rel => exact ⟨t + 1, q + B, _, _, by omega, (by have := hq.out; show q + B = _; rw [Nat.succ_mul]; omega), by go_num, rfl, blkF_step hu.out hq.out (by have := hsl.out; omega) hp.out _, by rw [HW.out, World.drewN_drewN]⟩
                    case measure => simp [intOf]; omega
                · skip
                  clear c2 c3 c4
                  go_wp2
                  go_roundw
                  case rel => exact ⟨t + 1, q + B, _, _, by omega, (by have := hq.out; show q + B = _; rw [Nat.succ_mul]; omega), by go_num, rfl, blkF_step hu.out hq.out (by have := hsl.out; omega) hp.out _, by rw [HW.out, World.drewN_drewN]⟩
                  case measure => simp [intOf]; omega
            · have hnb := nb_eq hq.out (by omega) hqD
              have c1 : wj.cell? ⟨b0, 1, none⟩ = some (.int .i64 (D : Int)) := (HB.out.cell (p := ⟨b0, 1, none⟩) Q3).trans HQ.out.c1
              have HU := Lib.hid (show cn .f32 u = cn .f32 (G xs zs D C B i j) by unfold G; rw [← hnb]; exact hu.out)
              clear hnb
              have acc := HA.out.drew mm
              have hys := HY.out
              obtain ⟨wr, hwr⟩ : ∃ wr, wr = wj.drewN mm := ⟨_, rfl⟩
              have HW := Lib.hid hwr
              have c1 : wr.cell? ⟨b0, 1, none⟩ = some (.int .i64 (D : Int)) := by rw [hwr]; exact c1
              rw [← hwr] at acc ⊢
              clear hwr HA HY
              obtain ⟨b0', b1', b2', b3'⟩ := acc.box
              have AC := Lib.hid acc
              have HY := Lib.hid hys
              clear acc hys
              have zb := AC.out.box.lt
              have zB := AC.out.below.size
              go_wp2_with (at_builtin; refine wpList_append_own _ rfl (.tmp 100) (.tmp 102) 22 rfl (w1.heap.size) 33 i0 (.float .f32 0) 1 4 Try.underlying22 HI.out HZ0.out HZ1.out HZ2.out rfl (by decide) (.slice a' m cap') (m) (fl ys) rfl (AC.out.alloc (by omega) _).own ⟨wr.heap.size, 0, none⟩ 1 1 [.float .f32 u] rfl rfl ?c1 ?c2 ?c3 ?c4 ?c5 ?_)
              case c1 =>
                intro j v hj
                match j, hj with
                | 0, hj => simp at hj; subst hj; exact cell_new _ _ _
              case c2 => intro v hv; simp at hv; subst hv; rfl
              case c3 => unfold maxLen; omega
              case c4 => omega
              case c5 => simp <;> omega
              intro v' w2 hown hgr _
              clear b0' b1' b2' b3'
              obtain ⟨a2, cap2, rfl, bx, fr, cl, acc2⟩ := Acc.app (by first | omega | (simp; omega)) AC.out hown ⟨hgr.os, hgr.tape, hgr.output, hgr.size, hgr.block⟩
              have AC2 := Lib.hid acc2
              clear acc2 hown hgr cl
              obtain ⟨b0', b1', b2', b3'⟩ := bx
              go_wp2
              clear c1
              go_roundw
              case rel => exact ⟨j + 1, m + 1, a2, cap2, ys ++ [u], by omega, by go_num, (by have := hm.out; show m + 1 = _; omega), AC2.out, upto_step HY.out (by rw [hFk.out]; exact HU.out)⟩
              case measure => simp [intOf]; omega
        · have HA := Lib.hid acc
          have HY := Lib.hid hys
          clear acc hys
          go_wp2
          go_roundw
          case rel => exact ⟨i + 1, m, a', cap', ys, by omega, by go_num, (by have := hm.out; have e : j = C := (by omega); subst e; show m = _; rw [Nat.succ_mul]; exact this), HA.out, HY.out⟩
          case measure => simp [intOf]; omega
    · have e : i = R := by omega
      have hme : m = R * C := by rw [← e]; exact hm
      clear hm
      subst hme
      have ZR := Lib.hid (ZR.out.below acc.below)
      obtain ⟨b0', b1', b2', b3'⟩ := acc.box
      have AC := Lib.hid acc
      have HY := Lib.hid hys
      clear acc hys
      have zz := AC.out.below.size
      obtain ⟨⟨ZR0, ZR1, ZR2, ZR3⟩, ZR4, ZR5, ZR6⟩ := ZR.out
      go_wp2
      refine bodyPost_ret (v := .agg #[.int .i64 (R : Int), .int .i64 (C : Int), .slice a' (R * C) cap']) (by simp [results, Try.results61, go_sem, ZR0, ZR1, ZR2]) rfl ?_
      exact RT1_end BW (by omega) (AC.out.row (by omega)) (by omega) HY.out (upto_length _ _)
theorem sub_get (xs : List Nat) {q m l : Nat} (hl : l < m) : ((xs.drop q).take m)[l]?.getD 0 = xs[q + l]?.getD 0 := by rw [List.getElem?_take, if_pos hl, List.getElem?_drop]
theorem closI (D B bb : Nat) (r1 r2 : Addr) (c1 c2 : Nat) (us vs : List Nat) (f g : Nat → Nat) (w : World) (hD : 0 < D ∧ D ≤ 16) (hB : 0 < B ∧ B ≤ 16) (hu : Fs w (some r1) D c1 us) (hv : Fs w (some r2) D c2 vs) (hb : w.cell? ⟨bb, 0, none⟩ = some (.int .i64 (B : Int))) (e1 : ∀ l, l < D → cn .f32 (us[l]?.getD 0) = cn .f32 (f l)) (e2 : ∀ l, l < D → cn .f32 (vs[l]?.getD 0) = cn .f32 (g l)) :
    Calls Try.prog 63 #[.slice (some r1) D c1, .slice (some r2) D c2, .pointer (some ⟨bb, 0, none⟩)] w fun e w' => ∃ u, e = .returned (.float .f32 u) ∧ cn .f32 u = cn .f32 (blkF f g D B ((D + B - 1) / B)) ∧ Below w.heap.size w w' := by
  have HU := Lib.hid hu
  have HV := Lib.hid hv
  have E1 := Lib.hid e1
  have E2 := Lib.hid e2
  obtain ⟨x1, y1, ea, _⟩ := hu.cell 0 hD.1
  injection ea with ea
  subst ea
  obtain ⟨x2, y2, ea, _⟩ := hv.cell 0 hD.1
  injection ea with ea
  subst ea
  have k1 := hu.cap1
  have k2 := hu.cap2
  have k3 := hv.cap1
  have k4 := hv.cap2
  unfold maxLen at k2 k4
  clear hu hv e1 e2
  go_enter Try.func63, Try.ntmps63
  go_wp2
  go_loopw [6, 7] (fun su fr w' => ∃ (t q u mm : Nat), q < D + B ∧ Hid (q = t * B) ∧ fr = .int .i64 q ∧ su = .float .f32 u ∧ Hid (cn .f32 u = cn .f32 (blkF f g D B t)) ∧ w' = w.drewN mm) (fun _ fr _ => D + B - (intOf fr).toNat)
  case atStart => exact ⟨0, 0, 0, 0, by omega, (Nat.zero_mul _).symm, rfl, rfl, rfl, rfl⟩
  case round =>
    obtain ⟨t, q, u, mm, hqD, hq, rfl, rfl, hu, rfl⟩ := hrel
    by_cases hq1 : q < D
    · obtain ⟨m, hm⟩ : ∃ m, m = min (q + B) D := ⟨_, rfl⟩
      have hm1 : q ≤ m := by omega
      have hm2 : m ≤ D := by omega
      have hmin : (if (D : Int) < (q : Int) + (B : Int) then (D : Int) else (q : Int) + (B : Int)) = (m : Int) := by split <;> omega
      have HM := Lib.hid hm
      clear hm
      have hB1 : (B : Int) ≤ 16 := by omega
      have hx1 : ¬ c1 = q := by omega
      have hx2 : ¬ c2 = q := by omega
      have hx3 : (q : Int) ≤ (m : Int) := by omega
      have hx4 : (m : Int) ≤ (c1 : Int) := by omega
      have hx5 : (m : Int) ≤ (c2 : Int) := by omega
      have S1 := Lib.hid (HU.out.sub hm1 hm2 (c1 - q) rfl)
      have S2 := Lib.hid (HV.out.sub hm1 hm2 (c2 - q) rfl)
      go_wp2_with fail
      refine wp_dr 11 [0, 0, 0, 0, 0, 0, 0, 0, 0, 2, 1, 0] (by kernel_rfl) (by kernel_rfl) ?_
      simp only [List.take_succ_cons, List.take_zero, List.drop_succ_cons, List.drop_zero]
      iterate 9 (with_reducible refine dr_step ?_; intro K hK; go_simp; (try intro _); refine hK _ _ ?_; clear hK K)
      with_reducible refine dr_step ?_
      intro K hK
      go_simp
      intro _
      refine (implDot _ _ (m - q) _ _ ((us.drop q).take (m - q)) ((vs.drop q).take (m - q)) _ (by omega) (S1.out.drew _) (S2.out.drew _)).mono ?_
      rintro e w1 ⟨p, m2, rfl, rfl, hp⟩
      have HPP := Lib.hid (show cn .f32 p = cn .f32 (dotF (fun l => f (q + l)) (fun l => g (q + l)) (m - q)) by
        rw [hp]
        exact congrArg _ (dotF_of (fun l hl => by rw [sub_get us hl]; exact E1.out (q + l) (by omega)) (fun l hl => by rw [sub_get vs hl]; exact E2.out (q + l) (by omega))))
      clear hp
      refine ⟨_, rfl, (by rw [World.drewN_drewN]; exact Dr.of (by omega)), hK _ _ ?_⟩
      clear hK K
      iterate 1 (with_reducible refine dr_step ?_; intro K hK; go_simp; (try intro _); refine hK _ _ ?_; clear hK K)
      refine wpR_nil (fun nq => ?_)
      clear hmin hx1 hx2 hx3 hx4 hx5
      go_wp2
      go_roundw
      case rel => exact ⟨t + 1, q + B, _, _, by omega, (by have := hq.out; show q + B = _; rw [Nat.succ_mul]; omega), by go_num, rfl, blkF_step hu.out hq.out (by have := HM.out; omega) HPP.out _, rfl⟩
      case measure => simp [intOf]; omega
    · have hnb := nb_eq hq.out (by omega) hqD
      have HN := Lib.hid (show cn .f32 u = cn .f32 (blkF f g D B ((D + B - 1) / B)) by rw [← hnb]; exact hu.out)
      clear hnb
      go_wp2
      go_ret
      exact ⟨u, rfl, HN.out, bdrew (Below.refl _ _) _⟩
theorem implInner (R D C : Nat) (a : Option Addr) (n cap : Nat) (xs : List Nat) (x2 : Option Addr) (n2 cap2 : Nat) (zs : List Nat) (B bb : Nat) (w : World) (hR : 0 < R ∧ R ≤ 16) (hD : 0 < D ∧ D ≤ 16) (hC : 0 < C ∧ C ≤ 16) (hB : 0 < B ∧ B ≤ 16) (hn : n = R * D) (hn2 : n2 = D * C) (h1 : Fs w a n cap xs) (h2 : Fs w x2 n2 cap2 zs) (hb : Cell1 w bb (.int .i64 (B : Int))) :
    Calls Try.prog 62 #[.agg #[.int .i64 (R : Int), .int .i64 (D : Int), .slice a n cap], .agg #[.int .i64 (D : Int), .int .i64 (C : Int), .slice x2 n2 cap2], .func (.func 63) #[] #[.pointer (some ⟨bb, 0, none⟩)]] w (RT1 33 w (R : Int) (C : Int) (upto (at2 (G xs zs D C B) C) (R * C))) := by
  refine products 63 #[.pointer (some ⟨bb, 0, none⟩)] (G xs zs D C B) R D C a n cap xs x2 n2 cap2 zs _ hR hD hC hn hn2 h1 h2 (fun args w => by simp [go_sem]) (fun w' i j r1 c1 us r2 c2 vs hi hj hbb hu1 hv1 hu2 hv2 => ?_)
  show Calls Try.prog 63 #[.slice (some r1) D c1, .slice (some r2) D c2, .pointer (some ⟨bb, 0, none⟩)] w' _
  exact closI D B bb r1 r2 c1 c2 us vs (fun l => xs[i * D + l]?.getD 0) (fun l => zs[l * C + j]?.getD 0) w' hD hB hu1 hv1 ((hbb.cell (p := ⟨bb, 0, none⟩) hb.lt).trans hb.c0) (fun l hl => by rw [hu2 l hl]) hv2
def ok (r c : Int) (n : Nat) (r2 c2 : Int) (n2 : Nat) (k : Int) : Bool := ft r c n r2 c2 n2 && inr k 1 16
def S (r c : Int) (n : Nat) (xs : List Nat) (r2 c2 : Int) (n2 : Nat) (zs : List Nat) (k : Int) : List Nat := if ok r c n r2 c2 n2 k = true then upto (at2 (G xs zs c.toNat c2.toNat k.toNat) c2.toNat) (r.toNat * c2.toNat) else []
theorem S_no {r c : Int} {n : Nat} (xs : List Nat) {r2 c2 : Int} {n2 : Nat} (zs : List Nat) {k : Int} (h : ok r c n r2 c2 n2 k = false) : S r c n xs r2 c2 n2 zs k = [] := by unfold S; rw [h]; rfl
theorem S_yes {R D C B : Nat} (xs zs : List Nat) (h : ok (R : Int) (D : Int) (R * D) (D : Int) (C : Int) (D * C) (B : Int) = true) : S (R : Int) (D : Int) (R * D) xs (D : Int) (C : Int) (D * C) zs (B : Int) = upto (at2 (G xs zs D C B) C) (R * C) := by unfold S; rw [if_pos h]; rfl
theorem S_len (r c : Int) (n : Nat) (xs : List Nat) (r2 c2 : Int) (n2 : Nat) (zs : List Nat) (k : Int) : (S r c n xs r2 c2 n2 zs k).length ≤ 1048576 := by
  unfold S; split
  · rename_i h
    unfold ok at h
    obtain ⟨R, D, C, rfl, rfl, rfl, rfl, hR, hD, hC, _, _⟩ := ft_yes (Bool.and_eq_true _ _ ▸ h).1
    have : R * C ≤ 16 * 16 := Nat.mul_le_mul hR.2 hC.2
    rw [upto_length]
    show R * C ≤ _
    omega
  · simp
theorem specS (r c : Int) (a : Option Addr) (n cap : Nat) (xs : List Nat) (r2 c2 : Int) (x2 : Option Addr) (n2 cap2 : Nat) (zs : List Nat) (k : Int) (w : World) (h1 : Fs w a n cap xs) (h2 : Fs w x2 n2 cap2 zs) :
    Calls Try.prog 29 #[.agg #[.int .i64 r, .int .i64 c, .slice a n cap], .agg #[.int .i64 r2, .int .i64 c2, .slice x2 n2 cap2], .int .i64 k] w (RT 33 w (if ok r c n r2 c2 n2 k = true then r else 0) (if ok r c n r2 c2 n2 k = true then c2 else 0) (S r c n xs r2 c2 n2 zs k) (ok r c n r2 c2 n2 k)) := by
  have HM := Lib.hid (Nat.le_trans h1.cap1 h1.cap2)
  have HM2 := Lib.hid (Nat.le_trans h2.cap1 h2.cap2)
  have H1 := Lib.hid h1
  have H2 := Lib.hid h2
  clear h1 h2
  cases hv : ft r c n r2 c2 n2
  · have ho : ok r c n r2 c2 n2 k = false := by unfold ok; rw [hv]; rfl
    rw [S_no xs zs ho, ho, if_neg (by simp), if_neg (by simp)]
    have HV := Lib.hid hv
    clear hv ho
    go_enter Try.func29, Try.ntmps29
    go_wp2_with fail
    refine calls_at ?_
    intro w1 hA
    have A : Below w.heap.size w w1 := by rw [hA]; exact (((Below.refl _ _).alloc (Nat.le_refl _) _).alloc (by simp <;> omega) _).alloc (by simp <;> omega) _
    have zw1 : w1.heap.size = w.heap.size + 1 + 1 + 1 := by rw [hA]; simp
    have Q_ : Box w1 (w.heap.size) r c a n cap := by rw [hA]; exact ⟨by simp [go_sem], by simp [go_sem], by simp [go_sem], by simp <;> omega⟩
    have P_ : Box w1 (w.heap.size + 1) r2 c2 x2 n2 cap2 := by rw [hA]; exact ⟨by simp [go_sem], by simp [go_sem], by simp [go_sem], by simp <;> omega⟩
    have ZR_ : Zbox w1 (w.heap.size + 1 + 1) := by rw [hA]; exact ⟨⟨by simp [go_sem], by simp [go_sem], by simp [go_sem], by simp <;> omega⟩, by simp [go_sem], by simp [go_sem], by simp [go_sem]⟩
    clear hA
    have zw1a := Nat.le_of_eq zw1
    have zw1b := Nat.le_of_eq zw1.symm
    clear zw1
    have T := A
    clear A
    have Q := Lib.hid Q_
    clear Q_
    have P := Lib.hid P_
    clear P_
    have ZR := Lib.hid ZR_
    clear ZR_
    refine (fitS _ _ _ _ _ _ _ _ _ _ _ _ _ HM.out HM2.out Q.out P.out).mono ?_
    rintro e w2 ⟨rfl, mm, hw⟩
    have A := below_of_drew hw
    clear hw
    have T := T.trans (A.mono T.size)
    have Q := Lib.hid (Q.out.below A)
    have P := Lib.hid (P.out.below A)
    have ZR := Lib.hid (ZR.out.below A)
    have zw2 := A.size
    clear A
    rw [HV.out]
    obtain ⟨⟨ZR0, ZR1, ZR2, ZR3⟩, ZR4, ZR5, ZR6⟩ := ZR.out
    go_wp2
    refine bodyPost_ret (v := .tuple #[.agg #[.int .i64 0, .int .i64 0, .slice none 0 0], .bool false]) (by simp [results, Try.results29, go_sem, ZR0, ZR1, ZR2]) rfl ?_
    exact RT_no T (by omega)
  · cases hb : inr k 1 16
    · have ho : ok r c n r2 c2 n2 k = false := by unfold ok; rw [hb, Bool.and_false]
      rw [S_no xs zs ho, ho, if_neg (by simp), if_neg (by simp)]
      have HV := Lib.hid hv
      have HB := Lib.hid hb
      clear hv hb ho
      go_enter Try.func29, Try.ntmps29
      go_wp2_with fail
      refine calls_at ?_
      intro w1 hA
      have A : Below w.heap.size w w1 := by rw [hA]; exact (((Below.refl _ _).alloc (Nat.le_refl _) _).alloc (by simp <;> omega) _).alloc (by simp <;> omega) _
      have zw1 : w1.heap.size = w.heap.size + 1 + 1 + 1 := by rw [hA]; simp
      have Q_ : Box w1 (w.heap.size) r c a n cap := by rw [hA]; exact ⟨by simp [go_sem], by simp [go_sem], by simp [go_sem], by simp <;> omega⟩
      have P_ : Box w1 (w.heap.size + 1) r2 c2 x2 n2 cap2 := by rw [hA]; exact ⟨by simp [go_sem], by simp [go_sem], by simp [go_sem], by simp <;> omega⟩
      have ZR_ : Zbox w1 (w.heap.size + 1 + 1) := by rw [hA]; exact ⟨⟨by simp [go_sem], by simp [go_sem], by simp [go_sem], by simp <;> omega⟩, by simp [go_sem], by simp [go_sem], by simp [go_sem]⟩
      clear hA
      have zw1a := Nat.le_of_eq zw1
      have zw1b := Nat.le_of_eq zw1.symm
      clear zw1
      have T := A
      clear A
      have Q := Lib.hid Q_
      clear Q_
      have P := Lib.hid P_
      clear P_
      have ZR := Lib.hid ZR_
      clear ZR_
      refine (fitS _ _ _ _ _ _ _ _ _ _ _ _ _ HM.out HM2.out Q.out P.out).mono ?_
      rintro e w2 ⟨rfl, mm, hw⟩
      have A := below_of_drew hw
      clear hw
      have T := T.trans (A.mono T.size)
      have Q := Lib.hid (Q.out.below A)
      have P := Lib.hid (P.out.below A)
      have ZR := Lib.hid (ZR.out.below A)
      have zw2 := A.size
      clear A
      rw [HV.out]
      go_wp2_with fail
      refine (inS _ _ _ _).mono ?_
      rintro e w2x ⟨rfl, hsame⟩
      replace hsame := hsame.symm
      subst hsame
      rw [HB.out]
      obtain ⟨⟨ZR0, ZR1, ZR2, ZR3⟩, ZR4, ZR5, ZR6⟩ := ZR.out
      go_wp2
      refine bodyPost_ret (v := .tuple #[.agg #[.int .i64 0, .int .i64 0, .slice none 0 0], .bool false]) (by simp [results, Try.results29, go_sem, ZR0, ZR1, ZR2]) rfl ?_
      exact RT_no T (by omega)
    · have ho : ok r c n r2 c2 n2 k = true := by unfold ok; rw [hv, hb]; rfl
      have hk : 1 ≤ k ∧ k ≤ 16 := by unfold inr at hb; simp at hb; omega
      obtain ⟨B, rfl⟩ := Int.eq_ofNat_of_zero_le (a := k) (by omega)
      have hB : 0 < B ∧ B ≤ 16 := by omega
      clear hk
      obtain ⟨R, D, C, rfl, rfl, rfl, rfl, hR, hD, hC, rfl, rfl⟩ := ft_yes hv
      rw [S_yes xs zs ho, ho, if_pos rfl, if_pos rfl]
      have HV := Lib.hid hv
      have HB := Lib.hid hb
      clear hv hb ho
      go_enter Try.func29, Try.ntmps29
      go_wp2_with fail
      refine calls_at ?_
      intro w1 hA
      have A : Below w.heap.size w w1 := by rw [hA]; exact (((Below.refl _ _).alloc (Nat.le_refl _) _).alloc (by simp <;> omega) _).alloc (by simp <;> omega) _
      have zw1 : w1.heap.size = w.heap.size + 1 + 1 + 1 := by rw [hA]; simp
      have Q_ : Box w1 (w.heap.size) ↑R ↑D a (R * D) cap := by rw [hA]; exact ⟨by simp [go_sem], by simp [go_sem], by simp [go_sem], by simp <;> omega⟩
      have P_ : Box w1 (w.heap.size + 1) ↑D ↑C x2 (D * C) cap2 := by rw [hA]; exact ⟨by simp [go_sem], by simp [go_sem], by simp [go_sem], by simp <;> omega⟩
      have ZR_ : Zbox w1 (w.heap.size + 1 + 1) := by rw [hA]; exact ⟨⟨by simp [go_sem], by simp [go_sem], by simp [go_sem], by simp <;> omega⟩, by simp [go_sem], by simp [go_sem], by simp [go_sem]⟩
      clear hA
      have zw1a := Nat.le_of_eq zw1
      have zw1b := Nat.le_of_eq zw1.symm
      clear zw1
      have T := A
      clear A
      have Q := Lib.hid Q_
      clear Q_
      have P := Lib.hid P_
      clear P_
      have ZR := Lib.hid ZR_
      clear ZR_
      refine (fitS _ _ _ _ _ _ _ _ _ _ _ _ _ HM.out HM2.out Q.out P.out).mono ?_
      rintro e w2 ⟨rfl, mm, hw⟩
      have A := below_of_drew hw
      clear hw
      have T := T.trans (A.mono T.size)
      have Q := Lib.hid (Q.out.below A)
      have P := Lib.hid (P.out.below A)
      have ZR := Lib.hid (ZR.out.below A)
      have zw2 := A.size
      clear A
      rw [HV.out]
      go_wp2_with fail
      refine (inS _ _ _ _).mono ?_
      rintro e w2x ⟨rfl, hsame⟩
      replace hsame := hsame.symm
      subst hsame
      rw [HB.out]
      obtain ⟨Q0, Q1, Q2, Q3⟩ := Q.out
      obtain ⟨P0, P1, P2, P3⟩ := P.out
      go_wp2_with fail
      clear Q0 Q1 Q2 Q3 P0 P1 P2 P3
      refine (specInner R D C a _ cap _ xs x2 _ cap2 _ zs _ hR hD hC B hB rfl rfl (H1.out.below T) Q.out (H2.out.below T) P.out).mono ?_
      rintro e w3 ⟨a3, cap3, ys, rfl, RR, hy, A⟩
      have T := T.trans (A.mono T.size)
      have Q := Lib.hid (Q.out.below A)
      have P := Lib.hid (P.out.below A)
      have ZR := Lib.hid (ZR.out.below A)
      have zw3 := A.size
      clear A
      rw [upto_length] at RR
      have HR := Lib.hid RR
      have HY := Lib.hid hy
      clear RR hy
      rw [upto_length]
      obtain ⟨⟨ZR0, ZR1, ZR2, ZR3⟩, ZR4, ZR5, ZR6⟩ := ZR.out
      go_wp2
      refine bodyPost_ret (v := .tuple #[.agg #[.int .i64 ↑R, .int .i64 ↑C, .slice a3 (R * C) cap3], .bool true]) (by simp [results, Try.results29, go_sem, ZR0, ZR1, ZR2]) rfl ?_
      exact RT_end T (by omega) HR.out (by omega) HY.out (upto_length _ _)
theorem implS (r c : Int) (a : Option Addr) (n cap : Nat) (xs : List Nat) (r2 c2 : Int) (x2 : Option Addr) (n2 cap2 : Nat) (zs : List Nat) (k : Int) (w : World) (h1 : Fs w a n cap xs) (h2 : Fs w x2 n2 cap2 zs) :
    Calls Try.prog 30 #[.agg #[.int .i64 r, .int .i64 c, .slice a n cap], .agg #[.int .i64 r2, .int .i64 c2, .slice x2 n2 cap2], .int .i64 k] w (RT 33 w (if ok r c n r2 c2 n2 k = true then r else 0) (if ok r c n r2 c2 n2 k = true then c2 else 0) (S r c n xs r2 c2 n2 zs k) (ok r c n r2 c2 n2 k)) := by
  have HM := Lib.hid (Nat.le_trans h1.cap1 h1.cap2)
  have HM2 := Lib.hid (Nat.le_trans h2.cap1 h2.cap2)
  have H1 := Lib.hid h1
  have H2 := Lib.hid h2
  clear h1 h2
  cases hv : ft r c n r2 c2 n2
  · have ho : ok r c n r2 c2 n2 k = false := by unfold ok; rw [hv]; rfl
    rw [S_no xs zs ho, ho, if_neg (by simp), if_neg (by simp)]
    have HV := Lib.hid hv
    clear hv ho
    go_enter Try.func30, Try.ntmps30
    go_wp2_with fail
    refine calls_at ?_
    intro w1 hA
    have A : Below w.heap.size w w1 := by rw [hA]; exact ((((Below.refl _ _).alloc (Nat.le_refl _) _).alloc (by simp <;> omega) _).alloc (by simp <;> omega) _).alloc (by simp <;> omega) _
    have zw1 : w1.heap.size = w.heap.size + 1 + 1 + 1 + 1 := by rw [hA]; simp
    have Q_ : Box w1 (w.heap.size) r c a n cap := by rw [hA]; exact ⟨by simp [go_sem], by simp [go_sem], by simp [go_sem], by simp <;> omega⟩
    have P_ : Box w1 (w.heap.size + 1) r2 c2 x2 n2 cap2 := by rw [hA]; exact ⟨by simp [go_sem], by simp [go_sem], by simp [go_sem], by simp <;> omega⟩
    have KB_ : Cell1 w1 (w.heap.size + 1 + 1) (.int .i64 k) := by rw [hA]; exact ⟨by simp [go_sem], by simp <;> omega⟩
    have ZR_ : Zbox w1 (w.heap.size + 1 + 1 + 1) := by rw [hA]; exact ⟨⟨by simp [go_sem], by simp [go_sem], by simp [go_sem], by simp <;> omega⟩, by simp [go_sem], by simp [go_sem], by simp [go_sem]⟩
    clear hA
    have zw1a := Nat.le_of_eq zw1
    have zw1b := Nat.le_of_eq zw1.symm
    clear zw1
    have T := A
    clear A
    have Q := Lib.hid Q_
    clear Q_
    have P := Lib.hid P_
    clear P_
    have KB := Lib.hid KB_
    clear KB_
    have ZR := Lib.hid ZR_
    clear ZR_
    refine (fitI _ _ _ _ _ _ _ _ _ _ _ HM.out HM2.out).mono ?_
    rintro e w2 ⟨rfl, A⟩
    have T := T.trans (A.mono T.size)
    have Q := Lib.hid (Q.out.below A)
    have P := Lib.hid (P.out.below A)
    have KB := Lib.hid (KB.out.below A)
    have ZR := Lib.hid (ZR.out.below A)
    have zw2 := A.size
    clear A
    rw [HV.out]
    obtain ⟨⟨ZR0, ZR1, ZR2, ZR3⟩, ZR4, ZR5, ZR6⟩ := ZR.out
    go_wp2
    refine bodyPost_ret (v := .tuple #[.agg #[.int .i64 0, .int .i64 0, .slice none 0 0], .bool false]) (by simp [results, Try.results30, go_sem, ZR0, ZR1, ZR2]) rfl ?_
    exact RT_no T (by omega)
  · cases hb : inr k 1 16
    · have ho : ok r c n r2 c2 n2 k = false := by unfold ok; rw [hb, Bool.and_false]
      rw [S_no xs zs ho, ho, if_neg (by simp), if_neg (by simp)]
      have HV := Lib.hid hv
      have HB := Lib.hid hb
      clear hv hb ho
      go_enter Try.func30, Try.ntmps30
      go_wp2_with fail
      refine calls_at ?_
      intro w1 hA
      have A : Below w.heap.size w w1 := by rw [hA]; exact ((((Below.refl _ _).alloc (Nat.le_refl _) _).alloc (by simp <;> omega) _).alloc (by simp <;> omega) _).alloc (by simp <;> omega) _
      have zw1 : w1.heap.size = w.heap.size + 1 + 1 + 1 + 1 := by rw [hA]; simp
      have Q_ : Box w1 (w.heap.size) r c a n cap := by rw [hA]; exact ⟨by simp [go_sem], by simp [go_sem], by simp [go_sem], by simp <;> omega⟩
      have P_ : Box w1 (w.heap.size + 1) r2 c2 x2 n2 cap2 := by rw [hA]; exact ⟨by simp [go_sem], by simp [go_sem], by simp [go_sem], by simp <;> omega⟩
      have KB_ : Cell1 w1 (w.heap.size + 1 + 1) (.int .i64 k) := by rw [hA]; exact ⟨by simp [go_sem], by simp <;> omega⟩
      have ZR_ : Zbox w1 (w.heap.size + 1 + 1 + 1) := by rw [hA]; exact ⟨⟨by simp [go_sem], by simp [go_sem], by simp [go_sem], by simp <;> omega⟩, by simp [go_sem], by simp [go_sem], by simp [go_sem]⟩
      clear hA
      have zw1a := Nat.le_of_eq zw1
      have zw1b := Nat.le_of_eq zw1.symm
      clear zw1
      have T := A
      clear A
      have Q := Lib.hid Q_
      clear Q_
      have P := Lib.hid P_
      clear P_
      have KB := Lib.hid KB_
      clear KB_
      have ZR := Lib.hid ZR_
      clear ZR_
      refine (fitI _ _ _ _ _ _ _ _ _ _ _ HM.out HM2.out).mono ?_
      rintro e w2 ⟨rfl, A⟩
      have T := T.trans (A.mono T.size)
      have Q := Lib.hid (Q.out.below A)
      have P := Lib.hid (P.out.below A)
      have KB := Lib.hid (KB.out.below A)
      have ZR := Lib.hid (ZR.out.below A)
      have zw2 := A.size
      clear A
      rw [HV.out]
      have KB0 := KB.out.c0
      go_wp2_with fail
      clear KB0
      refine (isSide _ _).mono ?_
      rintro e w2x ⟨rfl, hsame⟩
      replace hsame := hsame.symm
      subst hsame
      rw [HB.out]
      obtain ⟨⟨ZR0, ZR1, ZR2, ZR3⟩, ZR4, ZR5, ZR6⟩ := ZR.out
      go_wp2
      refine bodyPost_ret (v := .tuple #[.agg #[.int .i64 0, .int .i64 0, .slice none 0 0], .bool false]) (by simp [results, Try.results30, go_sem, ZR0, ZR1, ZR2]) rfl ?_
      exact RT_no T (by omega)
    · have ho : ok r c n r2 c2 n2 k = true := by unfold ok; rw [hv, hb]; rfl
      have hk : 1 ≤ k ∧ k ≤ 16 := by unfold inr at hb; simp at hb; omega
      obtain ⟨B, rfl⟩ := Int.eq_ofNat_of_zero_le (a := k) (by omega)
      have hB : 0 < B ∧ B ≤ 16 := by omega
      clear hk
      obtain ⟨R, D, C, rfl, rfl, rfl, rfl, hR, hD, hC, rfl, rfl⟩ := ft_yes hv
      rw [S_yes xs zs ho, ho, if_pos rfl, if_pos rfl]
      have HV := Lib.hid hv
      have HB := Lib.hid hb
      clear hv hb ho
      go_enter Try.func30, Try.ntmps30
      go_wp2_with fail
      refine calls_at ?_
      intro w1 hA
      have A : Below w.heap.size w w1 := by rw [hA]; exact ((((Below.refl _ _).alloc (Nat.le_refl _) _).alloc (by simp <;> omega) _).alloc (by simp <;> omega) _).alloc (by simp <;> omega) _
      have zw1 : w1.heap.size = w.heap.size + 1 + 1 + 1 + 1 := by rw [hA]; simp
      have Q_ : Box w1 (w.heap.size) ↑R ↑D a (R * D) cap := by rw [hA]; exact ⟨by simp [go_sem], by simp [go_sem], by simp [go_sem], by simp <;> omega⟩
      have P_ : Box w1 (w.heap.size + 1) ↑D ↑C x2 (D * C) cap2 := by rw [hA]; exact ⟨by simp [go_sem], by simp [go_sem], by simp [go_sem], by simp <;> omega⟩
      have KB_ : Cell1 w1 (w.heap.size + 1 + 1) (.int .i64 ↑B) := by rw [hA]; exact ⟨by simp [go_sem], by simp <;> omega⟩
      have ZR_ : Zbox w1 (w.heap.size + 1 + 1 + 1) := by rw [hA]; exact ⟨⟨by simp [go_sem], by simp [go_sem], by simp [go_sem], by simp <;> omega⟩, by simp [go_sem], by simp [go_sem], by simp [go_sem]⟩
      clear hA
      have zw1a := Nat.le_of_eq zw1
      have zw1b := Nat.le_of_eq zw1.symm
      clear zw1
      have T := A
      clear A
      have Q := Lib.hid Q_
      clear Q_
      have P := Lib.hid P_
      clear P_
      have KB := Lib.hid KB_
      clear KB_
      have ZR := Lib.hid ZR_
      clear ZR_
      refine (fitI _ _ _ _ _ _ _ _ _ _ _ HM.out HM2.out).mono ?_
      rintro e w2 ⟨rfl, A⟩
      have T := T.trans (A.mono T.size)
      have Q := Lib.hid (Q.out.below A)
      have P := Lib.hid (P.out.below A)
      have KB := Lib.hid (KB.out.below A)
      have ZR := Lib.hid (ZR.out.below A)
      have zw2 := A.size
      clear A
      rw [HV.out]
      have KB0 := KB.out.c0
      go_wp2_with fail
      clear KB0
      refine (isSide _ _).mono ?_
      rintro e w2x ⟨rfl, hsame⟩
      replace hsame := hsame.symm
      subst hsame
      rw [HB.out]
      obtain ⟨Q0, Q1, Q2, Q3⟩ := Q.out
      obtain ⟨P0, P1, P2, P3⟩ := P.out
      go_wp2_with fail
      clear Q0 Q1 Q2 Q3 P0 P1 P2 P3
      refine (implInner R D C a _ cap xs x2 _ cap2 zs B _ _ hR hD hC hB rfl rfl (H1.out.below T) (H2.out.below T) KB.out).mono ?_
      rintro e w3 ⟨a3, cap3, ys, rfl, RR, hy, A⟩
      have T := T.trans (A.mono T.size)
      have Q := Lib.hid (Q.out.below A)
      have P := Lib.hid (P.out.below A)
      have KB := Lib.hid (KB.out.below A)
      have ZR := Lib.hid (ZR.out.below A)
      have zw3 := A.size
      clear A
      rw [upto_length] at RR
      have HR := Lib.hid RR
      have HY := Lib.hid hy
      clear RR hy
      rw [upto_length]
      obtain ⟨⟨ZR0, ZR1, ZR2, ZR3⟩, ZR4, ZR5, ZR6⟩ := ZR.out
      go_wp2
      refine bodyPost_ret (v := .tuple #[.agg #[.int .i64 ↑R, .int .i64 ↑C, .slice a3 (R * C) cap3], .bool true]) (by simp [results, Try.results30, go_sem, ZR0, ZR1, ZR2]) rfl ?_
      exact RT_end T (by omega) HR.out (by omega) HY.out (upto_length _ _)
theorem both (r c : Int) (n : Nat) (xs : List Nat) (r2 c2 : Int) (n2 : Nat) (zs : List Nat) (k : Int) (_hn : n ≤ 1048576) (_hl : n = xs.length) (_wr : (Lit.int .i64 r).wf = true) (_wc : (Lit.int .i64 c).wf = true) (_hn2 : n2 ≤ 1048576) (_hl2 : n2 = zs.length) (_wr2 : (Lit.int .i64 r2).wf = true) (_wc2 : (Lit.int .i64 c2).wf = true) (_wk : (Lit.int .i64 k).wf = true) :
    ∃ ok R0 C0 S, S.length ≤ 1048576 ∧ (∀ w a cap x2 cap2, Fs w a n cap xs → Fs w x2 n2 cap2 zs → Calls Try.prog 29 #[.agg #[.int .i64 r, .int .i64 c, .slice a n cap], .agg #[.int .i64 r2, .int .i64 c2, .slice x2 n2 cap2], .int .i64 k] w (RT 33 w R0 C0 S ok)) ∧ (∀ w a cap x2 cap2, Fs w a n cap xs → Fs w x2 n2 cap2 zs → Calls Try.prog 30 #[.agg #[.int .i64 r, .int .i64 c, .slice a n cap], .agg #[.int .i64 r2, .int .i64 c2, .slice x2 n2 cap2], .int .i64 k] w (RT 33 w R0 C0 S ok)) :=
  ⟨_, _, _, _, S_len r c n xs r2 c2 n2 zs k, fun w a cap x2 cap2 h1 h2 => specS r c a n cap xs r2 c2 x2 n2 cap2 zs k w h1 h2, fun w a cap x2 cap2 h1 h2 => implS r c a n cap xs r2 c2 x2 n2 cap2 zs k w h1 h2⟩
set_option maxHeartbeats 4000000 in
theorem walk (w : World) (ro0 co0 : Int) (a0 : Option Addr) (n0 c0 : Nat) (xs0 : List Nat) (h0 : Fs w a0 n0 c0 xs0) (_wr0 : (Lit.int .i64 ro0).wf = true) (_wc0 : (Lit.int .i64 co0).wf = true) (_b0 : ∀ x ∈ xs0, x < 4294967296) (ro1 co1 : Int) (a1 : Option Addr) (n1 c1 : Nat) (xs1 : List Nat) (h1 : Fs w a1 n1 c1 xs1) (_wr1 : (Lit.int .i64 ro1).wf = true) (_wc1 : (Lit.int .i64 co1).wf = true) (_b1 : ∀ x ∈ xs1, x < 4294967296) (a2 : Int) (_w2 : (Lit.int .i64 a2).wf = true) :
    Calls Try.prog 8 #[.agg #[.int .i64 ro0, .int .i64 co0, .slice a0 n0 c0], .agg #[.int .i64 ro1, .int .i64 co1, .slice a1 n1 c1], .int .i64 a2] w fun e w' => e = .returned (.bool true) ∧ Below w.heap.size w w' := by
  have m0 := h0.cap2
  have q0 := h0.cap1
  have m1 := h1.cap2
  have q1 := h1.cap1
  unfold maxLen at m0 m1
  by_cases g0 : 1048576 < n0
  · go_enter Try.func8, Try.ntmps8
    have T := Below.refl w.heap.size w
    go_wp2_with fail
    refine calls_at ?_
    intro w2 hA
    obtain ⟨w1, hB⟩ : ∃ v, v = w.alloc (.cells #[.int .i64 ro0, .int .i64 co0, .slice a0 n0 c0] 24) := ⟨_, rfl⟩
    rw [← hB] at hA
    obtain ⟨Q, A, z1, z2⟩ := box_new hB
    clear hB
    have X0 := Lib.hid Q
    clear Q
    have T := T.trans (A.mono T.size)
    have zw1 := A.size
    clear A
    have yw1 := z1
    have xw1 := z2
    clear z1 z2
    obtain ⟨Q, A, z1, z2⟩ := box_new hA
    clear hA
    have eb : w1.heap.size = w.heap.size + 1 := by omega
    rw [eb] at Q
    clear eb
    have X1 := Lib.hid Q
    clear Q
    have T := T.trans (A.mono T.size)
    have X0 := Lib.hid (X0.out.below A)
    have zw2 := A.size
    clear A
    have yw2 := z1
    have xw2 := z2
    clear z1 z2
    refine (szNo _ _ _ _ _ _ _ (Nat.le_trans h0.cap1 h0.cap2) (by omega) (by omega)).mono ?_
    rintro e wz ⟨rfl, A⟩
    have T := T.trans (A.mono T.size)
    go_wp2
    go_ret
    exact ⟨rfl, T⟩
  by_cases g1 : 1048576 < n0 + n1
  · go_enter Try.func8, Try.ntmps8
    have T := Below.refl w.heap.size w
    go_wp2_with fail
    refine calls_at ?_
    intro w2 hA
    obtain ⟨w1, hB⟩ : ∃ v, v = w.alloc (.cells #[.int .i64 ro0, .int .i64 co0, .slice a0 n0 c0] 24) := ⟨_, rfl⟩
    rw [← hB] at hA
    obtain ⟨Q, A, z1, z2⟩ := box_new hB
    clear hB
    have X0 := Lib.hid Q
    clear Q
    have T := T.trans (A.mono T.size)
    have zw1 := A.size
    clear A
    have yw1 := z1
    have xw1 := z2
    clear z1 z2
    obtain ⟨Q, A, z1, z2⟩ := box_new hA
    clear hA
    have eb : w1.heap.size = w.heap.size + 1 := by omega
    rw [eb] at Q
    clear eb
    have X1 := Lib.hid Q
    clear Q
    have T := T.trans (A.mono T.size)
    have X0 := Lib.hid (X0.out.below A)
    have zw2 := A.size
    clear A
    have yw2 := z1
    have xw2 := z2
    clear z1 z2
    refine (szYes _ _ _ _ _ _ _ (by omega) (by omega)).mono ?_
    rintro e w3 ⟨rfl, A⟩
    have T := T.trans (A.mono T.size)
    have X0 := Lib.hid (X0.out.below A)
    have X1 := Lib.hid (X1.out.below A)
    have zw3 := A.size
    clear A
    obtain ⟨X10, X11, X12, X13⟩ := X1.out
    go_wp2_with fail
    clear X10 X11 X12 X13
    refine (szNo _ _ _ _ _ _ _ (Nat.le_trans h1.cap1 h1.cap2) (by omega) (by omega)).mono ?_
    rintro e wz ⟨rfl, A⟩
    have T := T.trans (A.mono T.size)
    go_wp2
    go_ret
    exact ⟨rfl, T⟩
  have hn0 : n0 ≤ 1048576 := by omega
  have hn1 : n1 ≤ 1048576 := by omega
  obtain ⟨ok, R0, C0, S, hS, hs, hi⟩ := both ro0 co0 n0 xs0 ro1 co1 n1 xs1 a2 hn0 h0.len _wr0 _wc0 hn1 h1.len _wr1 _wc1 _w2
  go_enter Try.func8, Try.ntmps8
  have T := Below.refl w.heap.size w
  go_wp2_with fail
  refine calls_at ?_
  intro w2 hA
  obtain ⟨w1, hB⟩ : ∃ v, v = w.alloc (.cells #[.int .i64 ro0, .int .i64 co0, .slice a0 n0 c0] 24) := ⟨_, rfl⟩
  rw [← hB] at hA
  obtain ⟨Q, A, z1, z2⟩ := box_new hB
  clear hB
  have X0 := Lib.hid Q
  clear Q
  have T := T.trans (A.mono T.size)
  have zw1 := A.size
  clear A
  have yw1 := z1
  have xw1 := z2
  clear z1 z2
  obtain ⟨Q, A, z1, z2⟩ := box_new hA
  clear hA
  have eb : w1.heap.size = w.heap.size + 1 := by omega
  rw [eb] at Q
  clear eb
  have X1 := Lib.hid Q
  clear Q
  have T := T.trans (A.mono T.size)
  have X0 := Lib.hid (X0.out.below A)
  have zw2 := A.size
  clear A
  have yw2 := z1
  have xw2 := z2
  clear z1 z2
  refine (szYes _ _ _ _ _ _ _ (by omega) (by omega)).mono ?_
  rintro e w3 ⟨rfl, A⟩
  have T := T.trans (A.mono T.size)
  have X0 := Lib.hid (X0.out.below A)
  have X1 := Lib.hid (X1.out.below A)
  have zw3 := A.size
  clear A
  obtain ⟨X10, X11, X12, X13⟩ := X1.out
  go_wp2_with fail
  clear X10 X11 X12 X13
  refine (szYes _ _ _ _ _ _ _ (by omega) (by omega)).mono ?_
  rintro e w4 ⟨rfl, A⟩
  have T := T.trans (A.mono T.size)
  have X0 := Lib.hid (X0.out.below A)
  have X1 := Lib.hid (X1.out.below A)
  have zw4 := A.size
  clear A
  go_wp2_with fail
  go_cut [8, 9] from 29 to 37 (fun sb sk wx => ∃ bb bq pq yq, sb = .pointer (some ⟨bb, 0, none⟩) ∧ sk = .bool ok ∧ Box wx bb R0 C0 bq S.length pq ∧ Row wx w4.heap.size wx.heap.size 33 (.slice bq S.length pq) S.length yq ∧ yq.map (cn .f32) = S.map (cn .f32) ∧ Below w4.heap.size w4 wx)
  case first =>
    refine wp_plan 11 [0, 2, 0, 2, 0, 2, 0, 0, 0, 2, 2, 0] (.go 0 (.go 2 (.go 4 (.either 9 1 (.only 1 (.only 3 (.only 5 (.go 6 (.go 7 (.go 8 (.only 10 .fin))))))) (.either 9 3 (.only 3 (.only 5 (.go 6 (.go 7 (.go 8 (.only 10 .fin)))))) (.either 9 5 (.only 5 (.go 6 (.go 7 (.go 8 (.only 10 .fin))))) (.go 6 (.go 7 (.go 8 (.only 9 (.only 10 .fin))))))))))) (Bl w4) (by kernel_rfl) (by kernel_rfl) (Bl.refl _) Bl.drew ?_
    simp only [List.drop_succ_cons, List.drop_zero]
    refine plan_go (pl0 (v := ?_) (by rfl) rfl rfl (fun w' hw' => ?_) (fun K hK => ?_))
    rotate_left
    · obtain ⟨q0, q1, q2, q3⟩ := X0.out.below hw'
      go_simp
      rfl
    go_simp
    refine hK _ _ ?_
    clear hK K
    refine plan_go (pl0 (v := ?_) (by rfl) rfl rfl (fun w' hw' => ?_) (fun K hK => ?_))
    rotate_left
    · obtain ⟨q0, q1, q2, q3⟩ := X1.out.below hw'
      go_simp
      rfl
    go_simp
    refine hK _ _ ?_
    clear hK K
    refine plan_go (pl0 (v := ?_) (by rfl) rfl rfl (fun w' hw' => ?_) (fun K hK => ?_))
    rotate_left
    · go_simp
      rfl
    go_simp
    refine hK _ _ ?_
    clear hK K
    have C1_0 : Below w4.heap.size w4 w4 := Below.refl _ _
    refine plan_either ?_ ?_
    · skip
      refine pl2 (by rfl) rfl rfl (fun K hK => ?_)
      go_simp
      intro nA
      refine ⟨(bdrew C1_0 _).alloc (by have := C1_0.size; simp <;> omega) _, hK _ _ ?_⟩
      clear hK K
      refine plan_at (fun v1_1 hA => ?_)
      obtain ⟨Q, A0, z0⟩ := zbox_new hA
      clear hA
      have A : Below w4.heap.size w4 v1_1 := (bdrew (Below.refl _ _) _).trans A0
      clear A0
      have Q : Zbox v1_1 w4.heap.size := Q
      have z0 : w4.heap.size < v1_1.heap.size := z0
      have B1_1 := Q
      clear Q
      have C1_1 := C1_0.trans (A.mono C1_0.size)
      have T1_1 := T.trans (A.mono T.size)
      have zz1_1 := A.size
      clear A
      refine plan_only (pl2 (by rfl) rfl rfl (fun K hK => ?_))
      go_simp
      intro nA
      refine (toTens _ _ _ _ _ _ _ hn0 ((h0.below T1_1).drew _)).mono ?_
      rintro e v1_2 ⟨g1_2, rfl, R, A0⟩
      have A : Below v1_1.heap.size v1_1 v1_2 := (bdrew (Below.refl _ _) _).trans A0
      clear A0
      refine ⟨_, rfl, C1_1.trans (A.mono C1_1.size), hK _ _ ?_⟩
      clear hK K
      have C1_2 := C1_1.trans (A.mono C1_1.size)
      have T1_2 := T1_1.trans (A.mono T1_1.size)
      have B1_1 := B1_1.below A
      have zz1_2 := A.size
      clear A
      have K1_2 : Row v1_2 v1_1.heap.size v1_2.heap.size 33 _ _ _ := R
      clear R
      refine plan_only (pl2 (by rfl) rfl rfl (fun K hK => ?_))
      go_simp
      intro nA
      refine (toTens _ _ _ _ _ _ _ hn1 ((h1.below T1_2).drew _)).mono ?_
      rintro e v1_3 ⟨g1_3, rfl, R, A0⟩
      have A : Below v1_2.heap.size v1_2 v1_3 := (bdrew (Below.refl _ _) _).trans A0
      clear A0
      refine ⟨_, rfl, C1_2.trans (A.mono C1_2.size), hK _ _ ?_⟩
      clear hK K
      have C1_3 := C1_2.trans (A.mono C1_2.size)
      have T1_3 := T1_2.trans (A.mono T1_2.size)
      have K1_2 := K1_2.below A
      have B1_1 := B1_1.below A
      have zz1_3 := A.size
      clear A
      have K1_3 : Row v1_3 v1_2.heap.size v1_3.heap.size 33 _ _ _ := R
      clear R
      refine plan_only (pl2 (by rfl) rfl rfl (fun K hK => ?_))
      go_simp
      intro nA
      refine (hs _ _ _ _ _ (K1_2.fs.drew _) (K1_3.fs.drew _)).mono ?_
      rintro e v1_4 ⟨b1_4, p1_4, ys1_4, rfl, R, E0, A0⟩
      have E1_4 := Lib.hid E0
      clear E0
      have A : Below v1_3.heap.size v1_3 v1_4 := (bdrew (Below.refl _ _) _).trans A0
      clear A0
      refine ⟨_, rfl, C1_3.trans (A.mono C1_3.size), hK _ _ ?_⟩
      clear hK K
      have C1_4 := C1_3.trans (A.mono C1_3.size)
      have T1_4 := T1_3.trans (A.mono T1_3.size)
      have K1_2 := K1_2.below A
      have K1_3 := K1_3.below A
      have B1_1 := B1_1.below A
      have zz1_4 := A.size
      clear A
      have K1_4 : Row v1_4 v1_3.heap.size v1_4.heap.size 33 _ _ _ := R
      clear R
      refine plan_go (pl0 (v := ?_) (by rfl) rfl rfl (fun w' hw' => ?_) (fun K hK => ?_))
      rotate_left
      · go_simp
        rfl
      go_simp
      refine hK _ _ ?_
      clear hK K
      refine plan_go (pl0 (v := ?_) (by rfl) rfl rfl (fun w' hw' => ?_) (fun K hK => ?_))
      rotate_left
      · go_simp
        rfl
      go_simp
      refine hK _ _ ?_
      clear hK K
      refine plan_go (pl0 (v := ?_) (by rfl) rfl rfl (fun w' hw' => ?_) (fun K hK => ?_))
      rotate_left
      · go_simp
        rfl
      go_simp
      refine hK _ _ ?_
      clear hK K
      refine plan_only (pl2 (by rfl) rfl rfl (fun K hK => ?_))
      obtain ⟨⟨q0, q1, q2, q3⟩, q4, q5, q6⟩ := B1_1
      go_simp
      intro nS
      have B1_1 : Zbox v1_4 w4.heap.size := ⟨⟨q0, q1, q2, q3⟩, q4, q5, q6⟩
      clear q0 q1 q2 q3 q4 q5 q6
      refine ⟨(((bdrew C1_4 _).setCell (by simp <;> omega) _).setCell (by simp <;> omega) _).setCell (by simp <;> omega) _, hK _ _ ?_⟩
      clear hK K
      refine plan_fin (fun nF => ?_)
      go_wp2_with fail
      go_meet
      obtain ⟨X, Y, Z⟩ := par_end (r := R0) (c := C0) C1_4 (by omega) B1_1 K1_4 (by omega) (by omega) nS nF
      exact ⟨_, _, _, _, rfl, rfl, X, Y, E1_4.out, Z⟩
    · skip
      refine pl2 (by rfl) rfl rfl (fun K hK => ?_)
      go_simp
      intro nA
      refine (toTens _ _ _ _ _ _ _ hn0 ((h0.below T).drew _)).mono ?_
      rintro e v1_21 ⟨g1_21, rfl, R, A0⟩
      have A : Below w4.heap.size w4 v1_21 := (bdrew (Below.refl _ _) _).trans A0
      clear A0
      refine ⟨_, rfl, C1_0.trans (A.mono C1_0.size), hK _ _ ?_⟩
      clear hK K
      have C1_21 := C1_0.trans (A.mono C1_0.size)
      have T1_21 := T.trans (A.mono T.size)
      have zz1_21 := A.size
      clear A
      have K1_21 : Row v1_21 w4.heap.size v1_21.heap.size 33 _ _ _ := R
      clear R
      refine plan_either ?_ ?_
      · skip
        refine pl2 (by rfl) rfl rfl (fun K hK => ?_)
        go_simp
        intro nA
        refine ⟨(bdrew C1_21 _).alloc (by have := C1_21.size; simp <;> omega) _, hK _ _ ?_⟩
        clear hK K
        refine plan_at (fun v1_22 hA => ?_)
        obtain ⟨Q, A0, z0⟩ := zbox_new hA
        clear hA
        have A : Below v1_21.heap.size v1_21 v1_22 := (bdrew (Below.refl _ _) _).trans A0
        clear A0
        have Q : Zbox v1_22 v1_21.heap.size := Q
        have z0 : v1_21.heap.size < v1_22.heap.size := z0
        have B1_22 := Q
        clear Q
        have C1_22 := C1_21.trans (A.mono C1_21.size)
        have T1_22 := T1_21.trans (A.mono T1_21.size)
        have K1_21 := K1_21.below A
        have zz1_22 := A.size
        clear A
        refine plan_only (pl2 (by rfl) rfl rfl (fun K hK => ?_))
        go_simp
        intro nA
        refine (toTens _ _ _ _ _ _ _ hn1 ((h1.below T1_22).drew _)).mono ?_
        rintro e v1_23 ⟨g1_23, rfl, R, A0⟩
        have A : Below v1_22.heap.size v1_22 v1_23 := (bdrew (Below.refl _ _) _).trans A0
        clear A0
        refine ⟨_, rfl, C1_22.trans (A.mono C1_22.size), hK _ _ ?_⟩
        clear hK K
        have C1_23 := C1_22.trans (A.mono C1_22.size)
        have T1_23 := T1_22.trans (A.mono T1_22.size)
        have K1_21 := K1_21.below A
        have B1_22 := B1_22.below A
        have zz1_23 := A.size
        clear A
        have K1_23 : Row v1_23 v1_22.heap.size v1_23.heap.size 33 _ _ _ := R
        clear R
        refine plan_only (pl2 (by rfl) rfl rfl (fun K hK => ?_))
        go_simp
        intro nA
        refine (hs _ _ _ _ _ (K1_21.fs.drew _) (K1_23.fs.drew _)).mono ?_
        rintro e v1_24 ⟨b1_24, p1_24, ys1_24, rfl, R, E0, A0⟩
        have E1_24 := Lib.hid E0
        clear E0
        have A : Below v1_23.heap.size v1_23 v1_24 := (bdrew (Below.refl _ _) _).trans A0
        clear A0
        refine ⟨_, rfl, C1_23.trans (A.mono C1_23.size), hK _ _ ?_⟩
        clear hK K
        have C1_24 := C1_23.trans (A.mono C1_23.size)
        have T1_24 := T1_23.trans (A.mono T1_23.size)
        have K1_21 := K1_21.below A
        have K1_23 := K1_23.below A
        have B1_22 := B1_22.below A
        have zz1_24 := A.size
        clear A
        have K1_24 : Row v1_24 v1_23.heap.size v1_24.heap.size 33 _ _ _ := R
        clear R
        refine plan_go (pl0 (v := ?_) (by rfl) rfl rfl (fun w' hw' => ?_) (fun K hK => ?_))
        rotate_left
        · go_simp
          rfl
        go_simp
        refine hK _ _ ?_
        clear hK K
        refine plan_go (pl0 (v := ?_) (by rfl) rfl rfl (fun w' hw' => ?_) (fun K hK => ?_))
        rotate_left
        · go_simp
          rfl
        go_simp
        refine hK _ _ ?_
        clear hK K
        refine plan_go (pl0 (v := ?_) (by rfl) rfl rfl (fun w' hw' => ?_) (fun K hK => ?_))
        rotate_left
        · go_simp
          rfl
        go_simp
        refine hK _ _ ?_
        clear hK K
        refine plan_only (pl2 (by rfl) rfl rfl (fun K hK => ?_))
        obtain ⟨⟨q0, q1, q2, q3⟩, q4, q5, q6⟩ := B1_22
        go_simp
        intro nS
        have B1_22 : Zbox v1_24 v1_21.heap.size := ⟨⟨q0, q1, q2, q3⟩, q4, q5, q6⟩
        clear q0 q1 q2 q3 q4 q5 q6
        refine ⟨(((bdrew C1_24 _).setCell (by simp <;> omega) _).setCell (by simp <;> omega) _).setCell (by simp <;> omega) _, hK _ _ ?_⟩
        clear hK K
        refine plan_fin (fun nF => ?_)
        go_wp2_with fail
        go_meet
        obtain ⟨X, Y, Z⟩ := par_end (r := R0) (c := C0) C1_24 (by omega) B1_22 K1_24 (by omega) (by omega) nS nF
        exact ⟨_, _, _, _, rfl, rfl, X, Y, E1_24.out, Z⟩
      · skip
        refine pl2 (by rfl) rfl rfl (fun K hK => ?_)
        go_simp
        intro nA
        refine (toTens _ _ _ _ _ _ _ hn1 ((h1.below T1_21).drew _)).mono ?_
        rintro e v1_42 ⟨g1_42, rfl, R, A0⟩
        have A : Below v1_21.heap.size v1_21 v1_42 := (bdrew (Below.refl _ _) _).trans A0
        clear A0
        refine ⟨_, rfl, C1_21.trans (A.mono C1_21.size), hK _ _ ?_⟩
        clear hK K
        have C1_42 := C1_21.trans (A.mono C1_21.size)
        have T1_42 := T1_21.trans (A.mono T1_21.size)
        have K1_21 := K1_21.below A
        have zz1_42 := A.size
        clear A
        have K1_42 : Row v1_42 v1_21.heap.size v1_42.heap.size 33 _ _ _ := R
        clear R
        refine plan_either ?_ ?_
        · skip
          refine pl2 (by rfl) rfl rfl (fun K hK => ?_)
          go_simp
          intro nA
          refine ⟨(bdrew C1_42 _).alloc (by have := C1_42.size; simp <;> omega) _, hK _ _ ?_⟩
          clear hK K
          refine plan_at (fun v1_43 hA => ?_)
          obtain ⟨Q, A0, z0⟩ := zbox_new hA
          clear hA
          have A : Below v1_42.heap.size v1_42 v1_43 := (bdrew (Below.refl _ _) _).trans A0
          clear A0
          have Q : Zbox v1_43 v1_42.heap.size := Q
          have z0 : v1_42.heap.size < v1_43.heap.size := z0
          have B1_43 := Q
          clear Q
          have C1_43 := C1_42.trans (A.mono C1_42.size)
          have T1_43 := T1_42.trans (A.mono T1_42.size)
          have K1_21 := K1_21.below A
          have K1_42 := K1_42.below A
          have zz1_43 := A.size
          clear A
          refine plan_only (pl2 (by rfl) rfl rfl (fun K hK => ?_))
          go_simp
          intro nA
          refine (hs _ _ _ _ _ (K1_21.fs.drew _) (K1_42.fs.drew _)).mono ?_
          rintro e v1_44 ⟨b1_44, p1_44, ys1_44, rfl, R, E0, A0⟩
          have E1_44 := Lib.hid E0
          clear E0
          have A : Below v1_43.heap.size v1_43 v1_44 := (bdrew (Below.refl _ _) _).trans A0
          clear A0
          refine ⟨_, rfl, C1_43.trans (A.mono C1_43.size), hK _ _ ?_⟩
          clear hK K
          have C1_44 := C1_43.trans (A.mono C1_43.size)
          have T1_44 := T1_43.trans (A.mono T1_43.size)
          have K1_21 := K1_21.below A
          have K1_42 := K1_42.below A
          have B1_43 := B1_43.below A
          have zz1_44 := A.size
          clear A
          have K1_44 : Row v1_44 v1_43.heap.size v1_44.heap.size 33 _ _ _ := R
          clear R
          refine plan_go (pl0 (v := ?_) (by rfl) rfl rfl (fun w' hw' => ?_) (fun K hK => ?_))
          rotate_left
          · go_simp
            rfl
          go_simp
          refine hK _ _ ?_
          clear hK K
          refine plan_go (pl0 (v := ?_) (by rfl) rfl rfl (fun w' hw' => ?_) (fun K hK => ?_))
          rotate_left
          · go_simp
            rfl
          go_simp
          refine hK _ _ ?_
          clear hK K
          refine plan_go (pl0 (v := ?_) (by rfl) rfl rfl (fun w' hw' => ?_) (fun K hK => ?_))
          rotate_left
          · go_simp
            rfl
          go_simp
          refine hK _ _ ?_
          clear hK K
          refine plan_only (pl2 (by rfl) rfl rfl (fun K hK => ?_))
          obtain ⟨⟨q0, q1, q2, q3⟩, q4, q5, q6⟩ := B1_43
          go_simp
          intro nS
          have B1_43 : Zbox v1_44 v1_42.heap.size := ⟨⟨q0, q1, q2, q3⟩, q4, q5, q6⟩
          clear q0 q1 q2 q3 q4 q5 q6
          refine ⟨(((bdrew C1_44 _).setCell (by simp <;> omega) _).setCell (by simp <;> omega) _).setCell (by simp <;> omega) _, hK _ _ ?_⟩
          clear hK K
          refine plan_fin (fun nF => ?_)
          go_wp2_with fail
          go_meet
          obtain ⟨X, Y, Z⟩ := par_end (r := R0) (c := C0) C1_44 (by omega) B1_43 K1_44 (by omega) (by omega) nS nF
          exact ⟨_, _, _, _, rfl, rfl, X, Y, E1_44.out, Z⟩
        · skip
          refine pl2 (by rfl) rfl rfl (fun K hK => ?_)
          go_simp
          intro nA
          refine (hs _ _ _ _ _ (K1_21.fs.drew _) (K1_42.fs.drew _)).mono ?_
          rintro e v1_63 ⟨b1_63, p1_63, ys1_63, rfl, R, E0, A0⟩
          have E1_63 := Lib.hid E0
          clear E0
          have A : Below v1_42.heap.size v1_42 v1_63 := (bdrew (Below.refl _ _) _).trans A0
          clear A0
          refine ⟨_, rfl, C1_42.trans (A.mono C1_42.size), hK _ _ ?_⟩
          clear hK K
          have C1_63 := C1_42.trans (A.mono C1_42.size)
          have T1_63 := T1_42.trans (A.mono T1_42.size)
          have K1_21 := K1_21.below A
          have K1_42 := K1_42.below A
          have zz1_63 := A.size
          clear A
          have K1_63 : Row v1_63 v1_42.heap.size v1_63.heap.size 33 _ _ _ := R
          clear R
          refine plan_go (pl0 (v := ?_) (by rfl) rfl rfl (fun w' hw' => ?_) (fun K hK => ?_))
          rotate_left
          · go_simp
            rfl
          go_simp
          refine hK _ _ ?_
          clear hK K
          refine plan_go (pl0 (v := ?_) (by rfl) rfl rfl (fun w' hw' => ?_) (fun K hK => ?_))
          rotate_left
          · go_simp
            rfl
          go_simp
          refine hK _ _ ?_
          clear hK K
          refine plan_go (pl0 (v := ?_) (by rfl) rfl rfl (fun w' hw' => ?_) (fun K hK => ?_))
          rotate_left
          · go_simp
            rfl
          go_simp
          refine hK _ _ ?_
          clear hK K
          refine plan_only (pl2 (by rfl) rfl rfl (fun K hK => ?_))
          go_simp
          intro nA
          refine ⟨(bdrew C1_63 _).alloc (by have := C1_63.size; simp <;> omega) _, hK _ _ ?_⟩
          clear hK K
          refine plan_at (fun v1_64 hA => ?_)
          obtain ⟨Q, A0, z0⟩ := zbox_new hA
          clear hA
          have A : Below v1_63.heap.size v1_63 v1_64 := (bdrew (Below.refl _ _) _).trans A0
          clear A0
          have Q : Zbox v1_64 v1_63.heap.size := Q
          have z0 : v1_63.heap.size < v1_64.heap.size := z0
          have B1_64 := Q
          clear Q
          have C1_64 := C1_63.trans (A.mono C1_63.size)
          have T1_64 := T1_63.trans (A.mono T1_63.size)
          have K1_21 := K1_21.below A
          have K1_42 := K1_42.below A
          have K1_63 := K1_63.below A
          have zz1_64 := A.size
          clear A
          refine plan_only (pl2 (by rfl) rfl rfl (fun K hK => ?_))
          obtain ⟨⟨q0, q1, q2, q3⟩, q4, q5, q6⟩ := B1_64
          go_simp
          intro nS
          have B1_64 : Zbox v1_64 v1_63.heap.size := ⟨⟨q0, q1, q2, q3⟩, q4, q5, q6⟩
          clear q0 q1 q2 q3 q4 q5 q6
          refine ⟨(((bdrew C1_64 _).setCell (by simp <;> omega) _).setCell (by simp <;> omega) _).setCell (by simp <;> omega) _, hK _ _ ?_⟩
          clear hK K
          refine plan_fin (fun nF => ?_)
          go_wp2_with fail
          go_meet
          obtain ⟨X, Y, Z⟩ := par_end (r := R0) (c := C0) C1_64 (by omega) B1_64 K1_63 (by omega) (by omega) nS nF
          exact ⟨_, _, _, _, rfl, rfl, X, Y, E1_63.out, Z⟩
  case rest =>
  obtain ⟨bb1, b1, p1, ys1, rfl, rfl, Q, R, E0, A⟩ := hcut
  generalize wc = w5 at *
  have E1h := Lib.hid E0
  clear E0
  have lt1 := Q.lt
  have Y1 := Lib.hid Q
  clear Q
  have T := T.trans (A.mono T.size)
  have X0 := Lib.hid (X0.out.below A)
  have X1 := Lib.hid (X1.out.below A)
  have zw5 := A.size
  clear A
  have K1 := R
  clear R
  obtain ⟨X00, X01, X02, X03⟩ := X0.out
  go_wp2_with fail
  clear X00 X01 X02 X03
  refine (toTens _ _ _ _ _ _ _ hn0 (h0.below T)).mono ?_
  rintro e w6 ⟨g2, rfl, R, A⟩
  have T := T.trans (A.mono T.size)
  have K1 := K1.below A
  have X0 := Lib.hid (X0.out.below A)
  have X1 := Lib.hid (X1.out.below A)
  have Y1 := Lib.hid (Y1.out.below A)
  have zw6 := A.size
  clear A
  have K2 := R
  clear R
  obtain ⟨X10, X11, X12, X13⟩ := X1.out
  go_wp2_with fail
  clear X10 X11 X12 X13
  refine calls_at ?_
  intro w7 hA
  obtain ⟨Q, A, z1, z2⟩ := box_new (r := ro0) (c := co0) (a := (some ⟨g2, 0, none⟩)) (n := n0) (cap := n0) hA
  clear hA
  have Z0 := Lib.hid Q
  clear Q
  have T := T.trans (A.mono T.size)
  have K1 := K1.below A
  have K2 := K2.below A
  have X0 := Lib.hid (X0.out.below A)
  have X1 := Lib.hid (X1.out.below A)
  have Y1 := Lib.hid (Y1.out.below A)
  have zw7 := A.size
  clear A
  have yw7 := z1
  have xw7 := z2
  clear z1 z2
  refine (toTens _ _ _ _ _ _ _ hn1 (h1.below T)).mono ?_
  rintro e w8 ⟨g3, rfl, R, A⟩
  have T := T.trans (A.mono T.size)
  have K1 := K1.below A
  have K2 := K2.below A
  have X0 := Lib.hid (X0.out.below A)
  have X1 := Lib.hid (X1.out.below A)
  have Y1 := Lib.hid (Y1.out.below A)
  have Z0 := Lib.hid (Z0.out.below A)
  have zw8 := A.size
  clear A
  have K3 := R
  clear R
  obtain ⟨Z00, Z01, Z02, Z03⟩ := Z0.out
  go_wp2_with fail
  clear Z00 Z01 Z02 Z03
  refine calls_at ?_
  intro w9 hA
  obtain ⟨Q, A, z1, z2⟩ := box_new (r := ro1) (c := co1) (a := (some ⟨g3, 0, none⟩)) (n := n1) (cap := n1) hA
  clear hA
  have Z1 := Lib.hid Q
  clear Q
  have T := T.trans (A.mono T.size)
  have K1 := K1.below A
  have K2 := K2.below A
  have K3 := K3.below A
  have X0 := Lib.hid (X0.out.below A)
  have X1 := Lib.hid (X1.out.below A)
  have Y1 := Lib.hid (Y1.out.below A)
  have Z0 := Lib.hid (Z0.out.below A)
  have zw9 := A.size
  clear A
  have yw9 := z1
  have xw9 := z2
  clear z1 z2
  refine (hi w9 _ _ _ _ K2.fs K3.fs).mono ?_
  rintro e w10 ⟨b4, p4, ys4, rfl, R, E4, A⟩
  have T := T.trans (A.mono T.size)
  have K1 := K1.below A
  have K2 := K2.below A
  have K3 := K3.below A
  have X0 := Lib.hid (X0.out.below A)
  have X1 := Lib.hid (X1.out.below A)
  have Y1 := Lib.hid (Y1.out.below A)
  have Z0 := Lib.hid (Z0.out.below A)
  have Z1 := Lib.hid (Z1.out.below A)
  have zw10 := A.size
  clear A
  have K4 := R
  clear R
  have E4h := Lib.hid E4
  clear E4
  obtain ⟨Y10, Y11, Y12, Y13⟩ := Y1.out
  go_wp2_with fail
  clear Y10 Y11 Y12 Y13
  refine calls_at ?_
  intro w11 hA
  obtain ⟨Q, A, z1, z2⟩ := box_new (r := R0) (c := C0) (a := b4) (n := S.length) (cap := p4) hA
  clear hA
  have Y4 := Lib.hid Q
  clear Q
  have T := T.trans (A.mono T.size)
  have K1 := K1.below A
  have K2 := K2.below A
  have K3 := K3.below A
  have K4 := K4.below A
  have X0 := Lib.hid (X0.out.below A)
  have X1 := Lib.hid (X1.out.below A)
  have Y1 := Lib.hid (Y1.out.below A)
  have Z0 := Lib.hid (Z0.out.below A)
  have Z1 := Lib.hid (Z1.out.below A)
  have zw11 := A.size
  clear A
  have yw11 := z1
  have xw11 := z2
  clear z1 z2
  refine (eqTens _ _ _ _ _ _ _ _ _ _ hS K4.fs K1.fs (E4h.out.trans E1h.out.symm)).mono ?_
  rintro e w12 ⟨rfl, A⟩
  have T := T.trans (A.mono T.size)
  have K1 := K1.below A
  have K2 := K2.below A
  have K3 := K3.below A
  have K4 := K4.below A
  have X0 := Lib.hid (X0.out.below A)
  have X1 := Lib.hid (X1.out.below A)
  have Y1 := Lib.hid (Y1.out.below A)
  have Z0 := Lib.hid (Z0.out.below A)
  have Z1 := Lib.hid (Z1.out.below A)
  have Y4 := Lib.hid (Y4.out.below A)
  have zw12 := A.size
  clear A
  go_wp2_with fail
  refine wp_bl 4 [0, 0, 2, 2, 0] (by kernel_rfl) (by kernel_rfl) ?_
  simp only [List.take_succ_cons, List.take_zero, List.drop_succ_cons, List.drop_zero]
  with_reducible refine bl_step ?_
  intro K hK
  go_simp
  refine ⟨.agg #[.int .i64 ro0, .int .i64 co0, .slice (some ⟨g2, 0, none⟩) n0 n0], fun w' hw' => ?_, hK _ _ ?_⟩
  · obtain ⟨q0, q1, q2, q3⟩ := Z0.out.below hw'
    go_simp
  clear hK K
  with_reducible refine bl_step ?_
  intro K hK
  go_simp
  refine ⟨.agg #[.int .i64 ro0, .int .i64 co0, .slice a0 n0 c0], fun w' hw' => ?_, hK _ _ ?_⟩
  · obtain ⟨q0, q1, q2, q3⟩ := X0.out.below hw'
    go_simp
  clear hK K
  with_reducible refine bl_step ?_
  intro K hK
  go_simp
  intro _
  refine (toTens _ _ _ _ _ _ _ hn0 ((h0.below T).drew _)).mono ?_
  rintro e w13 ⟨g5, rfl, R, A0⟩
  have A := (bdrew (Below.refl _ _) _).trans A0
  clear A0
  refine ⟨_, rfl, A, hK _ _ ?_⟩
  clear hK K
  have BL : Below w12.heap.size w12 w13 := A
  have T := T.trans (A.mono T.size)
  have K1 := K1.below A
  have K2 := K2.below A
  have K3 := K3.below A
  have K4 := K4.below A
  have X0 := Lib.hid (X0.out.below A)
  have X1 := Lib.hid (X1.out.below A)
  have Y1 := Lib.hid (Y1.out.below A)
  have Z0 := Lib.hid (Z0.out.below A)
  have Z1 := Lib.hid (Z1.out.below A)
  have Y4 := Lib.hid (Y4.out.below A)
  have zw13 := A.size
  clear A
  have K5 := R
  clear R
  with_reducible refine bl_step ?_
  intro K hK
  go_simp
  intro _
  refine (eqTens _ _ _ _ _ _ _ _ _ _ hn0 (K2.fs.drew _) (K5.fs.drew _) rfl).mono ?_
  rintro e w14 ⟨rfl, A0⟩
  have A := (bdrew (Below.refl _ _) _).trans A0
  clear A0
  refine ⟨_, rfl, BL.trans (A.mono BL.size), hK _ _ ?_⟩
  clear hK K BL
  have T := T.trans (A.mono T.size)
  have K1 := K1.below A
  have K2 := K2.below A
  have K3 := K3.below A
  have K4 := K4.below A
  have K5 := K5.below A
  have X0 := Lib.hid (X0.out.below A)
  have X1 := Lib.hid (X1.out.below A)
  have Y1 := Lib.hid (Y1.out.below A)
  have Z0 := Lib.hid (Z0.out.below A)
  have Z1 := Lib.hid (Z1.out.below A)
  have Y4 := Lib.hid (Y4.out.below A)
  have zw14 := A.size
  clear A
  with_reducible refine wpR_nil (fun nq => ?_)
  generalize hA : w14.drewN nq = w15
  have A := below_of_drew hA.symm
  clear hA
  have T := T.trans (A.mono T.size)
  have K1 := K1.below A
  have K2 := K2.below A
  have K3 := K3.below A
  have K4 := K4.below A
  have K5 := K5.below A
  have X0 := Lib.hid (X0.out.below A)
  have X1 := Lib.hid (X1.out.below A)
  have Y1 := Lib.hid (Y1.out.below A)
  have Z0 := Lib.hid (Z0.out.below A)
  have Z1 := Lib.hid (Z1.out.below A)
  have Y4 := Lib.hid (Y4.out.below A)
  have zw15 := A.size
  clear A
  go_wp2_with fail
  refine wp_bl 4 [0, 0, 2, 2, 0] (by kernel_rfl) (by kernel_rfl) ?_
  simp only [List.take_succ_cons, List.take_zero, List.drop_succ_cons, List.drop_zero]
  with_reducible refine bl_step ?_
  intro K hK
  go_simp
  refine ⟨.agg #[.int .i64 ro1, .int .i64 co1, .slice (some ⟨g3, 0, none⟩) n1 n1], fun w' hw' => ?_, hK _ _ ?_⟩
  · obtain ⟨q0, q1, q2, q3⟩ := Z1.out.below hw'
    go_simp
  clear hK K
  with_reducible refine bl_step ?_
  intro K hK
  go_simp
  refine ⟨.agg #[.int .i64 ro1, .int .i64 co1, .slice a1 n1 c1], fun w' hw' => ?_, hK _ _ ?_⟩
  · obtain ⟨q0, q1, q2, q3⟩ := X1.out.below hw'
    go_simp
  clear hK K
  with_reducible refine bl_step ?_
  intro K hK
  go_simp
  intro _
  refine (toTens _ _ _ _ _ _ _ hn1 ((h1.below T).drew _)).mono ?_
  rintro e w16 ⟨g6, rfl, R, A0⟩
  have A := (bdrew (Below.refl _ _) _).trans A0
  clear A0
  refine ⟨_, rfl, A, hK _ _ ?_⟩
  clear hK K
  have BL : Below w15.heap.size w15 w16 := A
  have T := T.trans (A.mono T.size)
  have K1 := K1.below A
  have K2 := K2.below A
  have K3 := K3.below A
  have K4 := K4.below A
  have K5 := K5.below A
  have X0 := Lib.hid (X0.out.below A)
  have X1 := Lib.hid (X1.out.below A)
  have Y1 := Lib.hid (Y1.out.below A)
  have Z0 := Lib.hid (Z0.out.below A)
  have Z1 := Lib.hid (Z1.out.below A)
  have Y4 := Lib.hid (Y4.out.below A)
  have zw16 := A.size
  clear A
  have K6 := R
  clear R
  with_reducible refine bl_step ?_
  intro K hK
  go_simp
  intro _
  refine (eqTens _ _ _ _ _ _ _ _ _ _ hn1 (K3.fs.drew _) (K6.fs.drew _) rfl).mono ?_
  rintro e w17 ⟨rfl, A0⟩
  have A := (bdrew (Below.refl _ _) _).trans A0
  clear A0
  refine ⟨_, rfl, BL.trans (A.mono BL.size), hK _ _ ?_⟩
  clear hK K BL
  have T := T.trans (A.mono T.size)
  have K1 := K1.below A
  have K2 := K2.below A
  have K3 := K3.below A
  have K4 := K4.below A
  have K5 := K5.below A
  have K6 := K6.below A
  have X0 := Lib.hid (X0.out.below A)
  have X1 := Lib.hid (X1.out.below A)
  have Y1 := Lib.hid (Y1.out.below A)
  have Z0 := Lib.hid (Z0.out.below A)
  have Z1 := Lib.hid (Z1.out.below A)
  have Y4 := Lib.hid (Y4.out.below A)
  have zw17 := A.size
  clear A
  with_reducible refine wpR_nil (fun nq => ?_)
  generalize hA : w17.drewN nq = w18
  have A := below_of_drew hA.symm
  clear hA
  have T := T.trans (A.mono T.size)
  have K1 := K1.below A
  have K2 := K2.below A
  have K3 := K3.below A
  have K4 := K4.below A
  have K5 := K5.below A
  have K6 := K6.below A
  have X0 := Lib.hid (X0.out.below A)
  have X1 := Lib.hid (X1.out.below A)
  have Y1 := Lib.hid (Y1.out.below A)
  have Z0 := Lib.hid (Z0.out.below A)
  have Z1 := Lib.hid (Z1.out.below A)
  have Y4 := Lib.hid (Y4.out.below A)
  have zw18 := A.size
  clear A
  clear K5 K6
  obtain ⟨Z00, Z01, Z02, Z03⟩ := Z0.out
  go_wp2_with fail
  clear Z00 Z01 Z02 Z03
  refine (markTens _ _ _ _ _ _ _ _ (1) _ hn0 (by omega) K2).mono ?_
  rintro e w19 ⟨rfl, R, A⟩
  have z := A.size
  have t := T.size
  have T := T.trans (A.below (by omega) (by omega))
  have K1 := K1.keep A (by omega)
  have K3 := K3.keep A (by omega)
  have K4 := K4.keep A (by omega)
  have X0 := Lib.hid (X0.out.keep A (by omega))
  have X1 := Lib.hid (X1.out.keep A (by omega))
  have Y1 := Lib.hid (Y1.out.keep A (by omega))
  have Z0 := Lib.hid (Z0.out.keep A (by omega))
  have Z1 := Lib.hid (Z1.out.keep A (by omega))
  have Y4 := Lib.hid (Y4.out.keep A (by omega))
  have K2 := R
  have zw19 := z
  clear A R z t
  obtain ⟨Z10, Z11, Z12, Z13⟩ := Z1.out
  go_wp2_with fail
  clear Z10 Z11 Z12 Z13
  refine (markTens _ _ _ _ _ _ _ _ (1 + (n0 : Int)) _ hn1 (by omega) K3).mono ?_
  rintro e w20 ⟨rfl, R, A⟩
  have z := A.size
  have t := T.size
  have T := T.trans (A.below (by omega) (by omega))
  have K1 := K1.keep A (by omega)
  have K2 := K2.keep A (by omega)
  have K4 := K4.keep A (by omega)
  have X0 := Lib.hid (X0.out.keep A (by omega))
  have X1 := Lib.hid (X1.out.keep A (by omega))
  have Y1 := Lib.hid (Y1.out.keep A (by omega))
  have Z0 := Lib.hid (Z0.out.keep A (by omega))
  have Z1 := Lib.hid (Z1.out.keep A (by omega))
  have Y4 := Lib.hid (Y4.out.keep A (by omega))
  have K3 := R
  have zw20 := z
  clear A R z t
  obtain ⟨Y40, Y41, Y42, Y43⟩ := Y4.out
  obtain ⟨Y10, Y11, Y12, Y13⟩ := Y1.out
  go_wp2_with fail
  clear Y40 Y41 Y42 Y43 Y10 Y11 Y12 Y13
  refine (eqTens _ _ _ _ _ _ _ _ _ _ hS K4.fs K1.fs (E4h.out.trans E1h.out.symm)).mono ?_
  rintro e w21 ⟨rfl, A⟩
  have T := T.trans (A.mono T.size)
  have K1 := K1.below A
  have K2 := K2.below A
  have K3 := K3.below A
  have K4 := K4.below A
  have X0 := Lib.hid (X0.out.below A)
  have X1 := Lib.hid (X1.out.below A)
  have Y1 := Lib.hid (Y1.out.below A)
  have Z0 := Lib.hid (Z0.out.below A)
  have Z1 := Lib.hid (Z1.out.below A)
  have Y4 := Lib.hid (Y4.out.below A)
  have zw21 := A.size
  clear A
  obtain ⟨Y40, Y41, Y42, Y43⟩ := Y4.out
  go_wp2_with fail
  clear Y40 Y41 Y42 Y43
  refine (markTens _ _ _ _ _ _ _ _ 1 _ hS (by omega) K4).mono ?_
  rintro e w22 ⟨rfl, R, A⟩
  have z := A.size
  have t := T.size
  have T := T.trans (A.below (by omega) (by omega))
  have K1 := K1.keep A (by omega)
  have K2 := K2.keep A (by omega)
  have K3 := K3.keep A (by omega)
  have X0 := Lib.hid (X0.out.keep A (by omega))
  have X1 := Lib.hid (X1.out.keep A (by omega))
  have Y1 := Lib.hid (Y1.out.keep A (by omega))
  have Z0 := Lib.hid (Z0.out.keep A (by omega))
  have Z1 := Lib.hid (Z1.out.keep A (by omega))
  have Y4 := Lib.hid (Y4.out.keep A (by omega))
  have K4 := R
  have zw22 := z
  clear A R z t
  obtain ⟨Y40, Y41, Y42, Y43⟩ := Y4.out
  go_wp2_with fail
  clear Y40 Y41 Y42 Y43
  refine (heldTens _ _ _ _ _ 1 _ hS (by omega) K4.fs).mono ?_
  rintro e w23 ⟨rfl, A⟩
  have T := T.trans (A.mono T.size)
  have K1 := K1.below A
  have K2 := K2.below A
  have K3 := K3.below A
  have K4 := K4.below A
  have X0 := Lib.hid (X0.out.below A)
  have X1 := Lib.hid (X1.out.below A)
  have Y1 := Lib.hid (Y1.out.below A)
  have Z0 := Lib.hid (Z0.out.below A)
  have Z1 := Lib.hid (Z1.out.below A)
  have Y4 := Lib.hid (Y4.out.below A)
  have zw23 := A.size
  clear A
  go_wp2_with fail
  go_cut [17, 18] from 98 to 106 (fun sb sk wx => ∃ bb bq pq yq, sb = .pointer (some ⟨bb, 0, none⟩) ∧ sk = .bool ok ∧ Box wx bb R0 C0 bq S.length pq ∧ Row wx w23.heap.size wx.heap.size 33 (.slice bq S.length pq) S.length yq ∧ yq.map (cn .f32) = S.map (cn .f32) ∧ Below w23.heap.size w23 wx)
  case first =>
    refine wp_plan 11 [0, 2, 0, 2, 0, 2, 0, 0, 0, 2, 2, 0] (.go 0 (.go 2 (.go 4 (.either 9 1 (.only 1 (.only 3 (.only 5 (.go 6 (.go 7 (.go 8 (.only 10 .fin))))))) (.either 9 3 (.only 3 (.only 5 (.go 6 (.go 7 (.go 8 (.only 10 .fin)))))) (.either 9 5 (.only 5 (.go 6 (.go 7 (.go 8 (.only 10 .fin))))) (.go 6 (.go 7 (.go 8 (.only 9 (.only 10 .fin))))))))))) (Bl w23) (by kernel_rfl) (by kernel_rfl) (Bl.refl _) Bl.drew ?_
    simp only [List.drop_succ_cons, List.drop_zero]
    refine plan_go (pl0 (v := ?_) (by rfl) rfl rfl (fun w' hw' => ?_) (fun K hK => ?_))
    rotate_left
    · obtain ⟨q0, q1, q2, q3⟩ := X0.out.below hw'
      go_simp
      rfl
    go_simp
    refine hK _ _ ?_
    clear hK K
    refine plan_go (pl0 (v := ?_) (by rfl) rfl rfl (fun w' hw' => ?_) (fun K hK => ?_))
    rotate_left
    · obtain ⟨q0, q1, q2, q3⟩ := X1.out.below hw'
      go_simp
      rfl
    go_simp
    refine hK _ _ ?_
    clear hK K
    refine plan_go (pl0 (v := ?_) (by rfl) rfl rfl (fun w' hw' => ?_) (fun K hK => ?_))
    rotate_left
    · go_simp
      rfl
    go_simp
    refine hK _ _ ?_
    clear hK K
    have C7_0 : Below w23.heap.size w23 w23 := Below.refl _ _
    refine plan_either ?_ ?_
    · skip
      refine pl2 (by rfl) rfl rfl (fun K hK => ?_)
      go_simp
      intro nA
      refine ⟨(bdrew C7_0 _).alloc (by have := C7_0.size; simp <;> omega) _, hK _ _ ?_⟩
      clear hK K
      refine plan_at (fun v7_1 hA => ?_)
      obtain ⟨Q, A0, z0⟩ := zbox_new hA
      clear hA
      have A : Below w23.heap.size w23 v7_1 := (bdrew (Below.refl _ _) _).trans A0
      clear A0
      have Q : Zbox v7_1 w23.heap.size := Q
      have z0 : w23.heap.size < v7_1.heap.size := z0
      have B7_1 := Q
      clear Q
      have C7_1 := C7_0.trans (A.mono C7_0.size)
      have T7_1 := T.trans (A.mono T.size)
      have zz7_1 := A.size
      clear A
      refine plan_only (pl2 (by rfl) rfl rfl (fun K hK => ?_))
      go_simp
      intro nA
      refine (toTens _ _ _ _ _ _ _ hn0 ((h0.below T7_1).drew _)).mono ?_
      rintro e v7_2 ⟨g7_2, rfl, R, A0⟩
      have A : Below v7_1.heap.size v7_1 v7_2 := (bdrew (Below.refl _ _) _).trans A0
      clear A0
      refine ⟨_, rfl, C7_1.trans (A.mono C7_1.size), hK _ _ ?_⟩
      clear hK K
      have C7_2 := C7_1.trans (A.mono C7_1.size)
      have T7_2 := T7_1.trans (A.mono T7_1.size)
      have B7_1 := B7_1.below A
      have zz7_2 := A.size
      clear A
      have K7_2 : Row v7_2 v7_1.heap.size v7_2.heap.size 33 _ _ _ := R
      clear R
      refine plan_only (pl2 (by rfl) rfl rfl (fun K hK => ?_))
      go_simp
      intro nA
      refine (toTens _ _ _ _ _ _ _ hn1 ((h1.below T7_2).drew _)).mono ?_
      rintro e v7_3 ⟨g7_3, rfl, R, A0⟩
      have A : Below v7_2.heap.size v7_2 v7_3 := (bdrew (Below.refl _ _) _).trans A0
      clear A0
      refine ⟨_, rfl, C7_2.trans (A.mono C7_2.size), hK _ _ ?_⟩
      clear hK K
      have C7_3 := C7_2.trans (A.mono C7_2.size)
      have T7_3 := T7_2.trans (A.mono T7_2.size)
      have K7_2 := K7_2.below A
      have B7_1 := B7_1.below A
      have zz7_3 := A.size
      clear A
      have K7_3 : Row v7_3 v7_2.heap.size v7_3.heap.size 33 _ _ _ := R
      clear R
      refine plan_only (pl2 (by rfl) rfl rfl (fun K hK => ?_))
      go_simp
      intro nA
      refine (hi _ _ _ _ _ (K7_2.fs.drew _) (K7_3.fs.drew _)).mono ?_
      rintro e v7_4 ⟨b7_4, p7_4, ys7_4, rfl, R, E0, A0⟩
      have E7_4 := Lib.hid E0
      clear E0
      have A : Below v7_3.heap.size v7_3 v7_4 := (bdrew (Below.refl _ _) _).trans A0
      clear A0
      refine ⟨_, rfl, C7_3.trans (A.mono C7_3.size), hK _ _ ?_⟩
      clear hK K
      have C7_4 := C7_3.trans (A.mono C7_3.size)
      have T7_4 := T7_3.trans (A.mono T7_3.size)
      have K7_2 := K7_2.below A
      have K7_3 := K7_3.below A
      have B7_1 := B7_1.below A
      have zz7_4 := A.size
      clear A
      have K7_4 : Row v7_4 v7_3.heap.size v7_4.heap.size 33 _ _ _ := R
      clear R
      refine plan_go (pl0 (v := ?_) (by rfl) rfl rfl (fun w' hw' => ?_) (fun K hK => ?_))
      rotate_left
      · go_simp
        rfl
      go_simp
      refine hK _ _ ?_
      clear hK K
      refine plan_go (pl0 (v := ?_) (by rfl) rfl rfl (fun w' hw' => ?_) (fun K hK => ?_))
      rotate_left
      · go_simp
        rfl
      go_simp
      refine hK _ _ ?_
      clear hK K
      refine plan_go (pl0 (v := ?_) (by rfl) rfl rfl (fun w' hw' => ?_) (fun K hK => ?_))
      rotate_left
      · go_simp
        rfl
      go_simp
      refine hK _ _ ?_
      clear hK K
      refine plan_only (pl2 (by rfl) rfl rfl (fun K hK => ?_))
      obtain ⟨⟨q0, q1, q2, q3⟩, q4, q5, q6⟩ := B7_1
      go_simp
      intro nS
      have B7_1 : Zbox v7_4 w23.heap.size := ⟨⟨q0, q1, q2, q3⟩, q4, q5, q6⟩
      clear q0 q1 q2 q3 q4 q5 q6
      refine ⟨(((bdrew C7_4 _).setCell (by simp <;> omega) _).setCell (by simp <;> omega) _).setCell (by simp <;> omega) _, hK _ _ ?_⟩
      clear hK K
      refine plan_fin (fun nF => ?_)
      go_wp2_with fail
      go_meet
      obtain ⟨X, Y, Z⟩ := par_end (r := R0) (c := C0) C7_4 (by omega) B7_1 K7_4 (by omega) (by omega) nS nF
      exact ⟨_, _, _, _, rfl, rfl, X, Y, E7_4.out, Z⟩
    · skip
      refine pl2 (by rfl) rfl rfl (fun K hK => ?_)
      go_simp
      intro nA
      refine (toTens _ _ _ _ _ _ _ hn0 ((h0.below T).drew _)).mono ?_
      rintro e v7_21 ⟨g7_21, rfl, R, A0⟩
      have A : Below w23.heap.size w23 v7_21 := (bdrew (Below.refl _ _) _).trans A0
      clear A0
      refine ⟨_, rfl, C7_0.trans (A.mono C7_0.size), hK _ _ ?_⟩
      clear hK K
      have C7_21 := C7_0.trans (A.mono C7_0.size)
      have T7_21 := T.trans (A.mono T.size)
      have zz7_21 := A.size
      clear A
      have K7_21 : Row v7_21 w23.heap.size v7_21.heap.size 33 _ _ _ := R
      clear R
      refine plan_either ?_ ?_
      · skip
        refine pl2 (by rfl) rfl rfl (fun K hK => ?_)
        go_simp
        intro nA
        refine ⟨(bdrew C7_21 _).alloc (by have := C7_21.size; simp <;> omega) _, hK _ _ ?_⟩
        clear hK K
        refine plan_at (fun v7_22 hA => ?_)
        obtain ⟨Q, A0, z0⟩ := zbox_new hA
        clear hA
        have A : Below v7_21.heap.size v7_21 v7_22 := (bdrew (Below.refl _ _) _).trans A0
        clear A0
        have Q : Zbox v7_22 v7_21.heap.size := Q
        have z0 : v7_21.heap.size < v7_22.heap.size := z0
        have B7_22 := Q
        clear Q
        have C7_22 := C7_21.trans (A.mono C7_21.size)
        have T7_22 := T7_21.trans (A.mono T7_21.size)
        have K7_21 := K7_21.below A
        have zz7_22 := A.size
        clear A
        refine plan_only (pl2 (by rfl) rfl rfl (fun K hK => ?_))
        go_simp
        intro nA
        refine (toTens _ _ _ _ _ _ _ hn1 ((h1.below T7_22).drew _)).mono ?_
        rintro e v7_23 ⟨g7_23, rfl, R, A0⟩
        have A : Below v7_22.heap.size v7_22 v7_23 := (bdrew (Below.refl _ _) _).trans A0
        clear A0
        refine ⟨_, rfl, C7_22.trans (A.mono C7_22.size), hK _ _ ?_⟩
        clear hK K
        have C7_23 := C7_22.trans (A.mono C7_22.size)
        have T7_23 := T7_22.trans (A.mono T7_22.size)
        have K7_21 := K7_21.below A
        have B7_22 := B7_22.below A
        have zz7_23 := A.size
        clear A
        have K7_23 : Row v7_23 v7_22.heap.size v7_23.heap.size 33 _ _ _ := R
        clear R
        refine plan_only (pl2 (by rfl) rfl rfl (fun K hK => ?_))
        go_simp
        intro nA
        refine (hi _ _ _ _ _ (K7_21.fs.drew _) (K7_23.fs.drew _)).mono ?_
        rintro e v7_24 ⟨b7_24, p7_24, ys7_24, rfl, R, E0, A0⟩
        have E7_24 := Lib.hid E0
        clear E0
        have A : Below v7_23.heap.size v7_23 v7_24 := (bdrew (Below.refl _ _) _).trans A0
        clear A0
        refine ⟨_, rfl, C7_23.trans (A.mono C7_23.size), hK _ _ ?_⟩
        clear hK K
        have C7_24 := C7_23.trans (A.mono C7_23.size)
        have T7_24 := T7_23.trans (A.mono T7_23.size)
        have K7_21 := K7_21.below A
        have K7_23 := K7_23.below A
        have B7_22 := B7_22.below A
        have zz7_24 := A.size
        clear A
        have K7_24 : Row v7_24 v7_23.heap.size v7_24.heap.size 33 _ _ _ := R
        clear R
        refine plan_go (pl0 (v := ?_) (by rfl) rfl rfl (fun w' hw' => ?_) (fun K hK => ?_))
        rotate_left
        · go_simp
          rfl
        go_simp
        refine hK _ _ ?_
        clear hK K
        refine plan_go (pl0 (v := ?_) (by rfl) rfl rfl (fun w' hw' => ?_) (fun K hK => ?_))
        rotate_left
        · go_simp
          rfl
        go_simp
        refine hK _ _ ?_
        clear hK K
        refine plan_go (pl0 (v := ?_) (by rfl) rfl rfl (fun w' hw' => ?_) (fun K hK => ?_))
        rotate_left
        · go_simp
          rfl
        go_simp
        refine hK _ _ ?_
        clear hK K
        refine plan_only (pl2 (by rfl) rfl rfl (fun K hK => ?_))
        obtain ⟨⟨q0, q1, q2, q3⟩, q4, q5, q6⟩ := B7_22
        go_simp
        intro nS
        have B7_22 : Zbox v7_24 v7_21.heap.size := ⟨⟨q0, q1, q2, q3⟩, q4, q5, q6⟩
        clear q0 q1 q2 q3 q4 q5 q6
        refine ⟨(((bdrew C7_24 _).setCell (by simp <;> omega) _).setCell (by simp <;> omega) _).setCell (by simp <;> omega) _, hK _ _ ?_⟩
        clear hK K
        refine plan_fin (fun nF => ?_)
        go_wp2_with fail
        go_meet
        obtain ⟨X, Y, Z⟩ := par_end (r := R0) (c := C0) C7_24 (by omega) B7_22 K7_24 (by omega) (by omega) nS nF
        exact ⟨_, _, _, _, rfl, rfl, X, Y, E7_24.out, Z⟩
      · skip
        refine pl2 (by rfl) rfl rfl (fun K hK => ?_)
        go_simp
        intro nA
        refine (toTens _ _ _ _ _ _ _ hn1 ((h1.below T7_21).drew _)).mono ?_
        rintro e v7_42 ⟨g7_42, rfl, R, A0⟩
        have A : Below v7_21.heap.size v7_21 v7_42 := (bdrew (Below.refl _ _) _).trans A0
        clear A0
        refine ⟨_, rfl, C7_21.trans (A.mono C7_21.size), hK _ _ ?_⟩
        clear hK K
        have C7_42 := C7_21.trans (A.mono C7_21.size)
        have T7_42 := T7_21.trans (A.mono T7_21.size)
        have K7_21 := K7_21.below A
        have zz7_42 := A.size
        clear A
        have K7_42 : Row v7_42 v7_21.heap.size v7_42.heap.size 33 _ _ _ := R
        clear R
        refine plan_either ?_ ?_
        · skip
          refine pl2 (by rfl) rfl rfl (fun K hK => ?_)
          go_simp
          intro nA
          refine ⟨(bdrew C7_42 _).alloc (by have := C7_42.size; simp <;> omega) _, hK _ _ ?_⟩
          clear hK K
          refine plan_at (fun v7_43 hA => ?_)
          obtain ⟨Q, A0, z0⟩ := zbox_new hA
          clear hA
          have A : Below v7_42.heap.size v7_42 v7_43 := (bdrew (Below.refl _ _) _).trans A0
          clear A0
          have Q : Zbox v7_43 v7_42.heap.size := Q
          have z0 : v7_42.heap.size < v7_43.heap.size := z0
          have B7_43 := Q
          clear Q
          have C7_43 := C7_42.trans (A.mono C7_42.size)
          have T7_43 := T7_42.trans (A.mono T7_42.size)
          have K7_21 := K7_21.below A
          have K7_42 := K7_42.below A
          have zz7_43 := A.size
          clear A
          refine plan_only (pl2 (by rfl) rfl rfl (fun K hK => ?_))
          go_simp
          intro nA
          refine (hi _ _ _ _ _ (K7_21.fs.drew _) (K7_42.fs.drew _)).mono ?_
          rintro e v7_44 ⟨b7_44, p7_44, ys7_44, rfl, R, E0, A0⟩
          have E7_44 := Lib.hid E0
          clear E0
          have A : Below v7_43.heap.size v7_43 v7_44 := (bdrew (Below.refl _ _) _).trans A0
          clear A0
          refine ⟨_, rfl, C7_43.trans (A.mono C7_43.size), hK _ _ ?_⟩
          clear hK K
          have C7_44 := C7_43.trans (A.mono C7_43.size)
          have T7_44 := T7_43.trans (A.mono T7_43.size)
          have K7_21 := K7_21.below A
          have K7_42 := K7_42.below A
          have B7_43 := B7_43.below A
          have zz7_44 := A.size
          clear A
          have K7_44 : Row v7_44 v7_43.heap.size v7_44.heap.size 33 _ _ _ := R
          clear R
          refine plan_go (pl0 (v := ?_) (by rfl) rfl rfl (fun w' hw' => ?_) (fun K hK => ?_))
          rotate_left
          · go_simp
            rfl
          go_simp
          refine hK _ _ ?_
          clear hK K
          refine plan_go (pl0 (v := ?_) (by rfl) rfl rfl (fun w' hw' => ?_) (fun K hK => ?_))
          rotate_left
          · go_simp
            rfl
          go_simp
          refine hK _ _ ?_
          clear hK K
          refine plan_go (pl0 (v := ?_) (by rfl) rfl rfl (fun w' hw' => ?_) (fun K hK => ?_))
          rotate_left
          · go_simp
            rfl
          go_simp
          refine hK _ _ ?_
          clear hK K
          refine plan_only (pl2 (by rfl) rfl rfl (fun K hK => ?_))
          obtain ⟨⟨q0, q1, q2, q3⟩, q4, q5, q6⟩ := B7_43
          go_simp
          intro nS
          have B7_43 : Zbox v7_44 v7_42.heap.size := ⟨⟨q0, q1, q2, q3⟩, q4, q5, q6⟩
          clear q0 q1 q2 q3 q4 q5 q6
          refine ⟨(((bdrew C7_44 _).setCell (by simp <;> omega) _).setCell (by simp <;> omega) _).setCell (by simp <;> omega) _, hK _ _ ?_⟩
          clear hK K
          refine plan_fin (fun nF => ?_)
          go_wp2_with fail
          go_meet
          obtain ⟨X, Y, Z⟩ := par_end (r := R0) (c := C0) C7_44 (by omega) B7_43 K7_44 (by omega) (by omega) nS nF
          exact ⟨_, _, _, _, rfl, rfl, X, Y, E7_44.out, Z⟩
        · skip
          refine pl2 (by rfl) rfl rfl (fun K hK => ?_)
          go_simp
          intro nA
          refine (hi _ _ _ _ _ (K7_21.fs.drew _) (K7_42.fs.drew _)).mono ?_
          rintro e v7_63 ⟨b7_63, p7_63, ys7_63, rfl, R, E0, A0⟩
          have E7_63 := Lib.hid E0
          clear E0
          have A : Below v7_42.heap.size v7_42 v7_63 := (bdrew (Below.refl _ _) _).trans A0
          clear A0
          refine ⟨_, rfl, C7_42.trans (A.mono C7_42.size), hK _ _ ?_⟩
          clear hK K
          have C7_63 := C7_42.trans (A.mono C7_42.size)
          have T7_63 := T7_42.trans (A.mono T7_42.size)
          have K7_21 := K7_21.below A
          have K7_42 := K7_42.below A
          have zz7_63 := A.size
          clear A
          have K7_63 : Row v7_63 v7_42.heap.size v7_63.heap.size 33 _ _ _ := R
          clear R
          refine plan_go (pl0 (v := ?_) (by rfl) rfl rfl (fun w' hw' => ?_) (fun K hK => ?_))
          rotate_left
          · go_simp
            rfl
          go_simp
          refine hK _ _ ?_
          clear hK K
          refine plan_go (pl0 (v := ?_) (by rfl) rfl rfl (fun w' hw' => ?_) (fun K hK => ?_))
          rotate_left
          · go_simp
            rfl
          go_simp
          refine hK _ _ ?_
          clear hK K
          refine plan_go (pl0 (v := ?_) (by rfl) rfl rfl (fun w' hw' => ?_) (fun K hK => ?_))
          rotate_left
          · go_simp
            rfl
          go_simp
          refine hK _ _ ?_
          clear hK K
          refine plan_only (pl2 (by rfl) rfl rfl (fun K hK => ?_))
          go_simp
          intro nA
          refine ⟨(bdrew C7_63 _).alloc (by have := C7_63.size; simp <;> omega) _, hK _ _ ?_⟩
          clear hK K
          refine plan_at (fun v7_64 hA => ?_)
          obtain ⟨Q, A0, z0⟩ := zbox_new hA
          clear hA
          have A : Below v7_63.heap.size v7_63 v7_64 := (bdrew (Below.refl _ _) _).trans A0
          clear A0
          have Q : Zbox v7_64 v7_63.heap.size := Q
          have z0 : v7_63.heap.size < v7_64.heap.size := z0
          have B7_64 := Q
          clear Q
          have C7_64 := C7_63.trans (A.mono C7_63.size)
          have T7_64 := T7_63.trans (A.mono T7_63.size)
          have K7_21 := K7_21.below A
          have K7_42 := K7_42.below A
          have K7_63 := K7_63.below A
          have zz7_64 := A.size
          clear A
          refine plan_only (pl2 (by rfl) rfl rfl (fun K hK => ?_))
          obtain ⟨⟨q0, q1, q2, q3⟩, q4, q5, q6⟩ := B7_64
          go_simp
          intro nS
          have B7_64 : Zbox v7_64 v7_63.heap.size := ⟨⟨q0, q1, q2, q3⟩, q4, q5, q6⟩
          clear q0 q1 q2 q3 q4 q5 q6
          refine ⟨(((bdrew C7_64 _).setCell (by simp <;> omega) _).setCell (by simp <;> omega) _).setCell (by simp <;> omega) _, hK _ _ ?_⟩
          clear hK K
          refine plan_fin (fun nF => ?_)
          go_wp2_with fail
          go_meet
          obtain ⟨X, Y, Z⟩ := par_end (r := R0) (c := C0) C7_64 (by omega) B7_64 K7_63 (by omega) (by omega) nS nF
          exact ⟨_, _, _, _, rfl, rfl, X, Y, E7_63.out, Z⟩
  case rest =>
  obtain ⟨bb7, b7, p7, ys7, rfl, rfl, Q, R, E0, A⟩ := hcut
  generalize wc = w24 at *
  have E7h := Lib.hid E0
  clear E0
  have lt7 := Q.lt
  have Y7 := Lib.hid Q
  clear Q
  have T := T.trans (A.mono T.size)
  have K1 := K1.below A
  have K2 := K2.below A
  have K3 := K3.below A
  have K4 := K4.below A
  have X0 := Lib.hid (X0.out.below A)
  have X1 := Lib.hid (X1.out.below A)
  have Y1 := Lib.hid (Y1.out.below A)
  have Z0 := Lib.hid (Z0.out.below A)
  have Z1 := Lib.hid (Z1.out.below A)
  have Y4 := Lib.hid (Y4.out.below A)
  have zw24 := A.size
  clear A
  have K7 := R
  clear R
  obtain ⟨Y70, Y71, Y72, Y73⟩ := Y7.out
  obtain ⟨Y10, Y11, Y12, Y13⟩ := Y1.out
  go_wp2_with fail
  clear Y70 Y71 Y72 Y73 Y10 Y11 Y12 Y13
  refine (eqTens _ _ _ _ _ _ _ _ _ _ hS K7.fs K1.fs (E7h.out.trans E1h.out.symm)).mono ?_
  rintro e w25 ⟨rfl, A⟩
  have T := T.trans (A.mono T.size)
  have K1 := K1.below A
  have K2 := K2.below A
  have K3 := K3.below A
  have K4 := K4.below A
  have K7 := K7.below A
  have X0 := Lib.hid (X0.out.below A)
  have X1 := Lib.hid (X1.out.below A)
  have Y1 := Lib.hid (Y1.out.below A)
  have Z0 := Lib.hid (Z0.out.below A)
  have Z1 := Lib.hid (Z1.out.below A)
  have Y4 := Lib.hid (Y4.out.below A)
  have Y7 := Lib.hid (Y7.out.below A)
  have zw25 := A.size
  clear A
  obtain ⟨Y40, Y41, Y42, Y43⟩ := Y4.out
  go_wp2_with fail
  clear Y40 Y41 Y42 Y43
  refine (heldTens _ _ _ _ _ 1 _ hS (by omega) K4.fs).mono ?_
  rintro e w26 ⟨rfl, A⟩
  have T := T.trans (A.mono T.size)
  have K1 := K1.below A
  have K2 := K2.below A
  have K3 := K3.below A
  have K4 := K4.below A
  have K7 := K7.below A
  have X0 := Lib.hid (X0.out.below A)
  have X1 := Lib.hid (X1.out.below A)
  have Y1 := Lib.hid (Y1.out.below A)
  have Z0 := Lib.hid (Z0.out.below A)
  have Z1 := Lib.hid (Z1.out.below A)
  have Y4 := Lib.hid (Y4.out.below A)
  have Y7 := Lib.hid (Y7.out.below A)
  have zw26 := A.size
  clear A
  go_wp2
  go_ret
  exact ⟨rfl, T⟩
theorem own : ownKnob Try.prog.godebug = none := by kernel_rfl
theorem laidOut : laidOutB Try.prog = true := by kernel_rfl
set_option maxRecDepth 100000 in
theorem lifted (os : Os) (started : os.Started) (H : Type) (enc : TypeId × Value → H) :
    ReturnsInHanded {} Try.checked os 8 .any (Rows.fnExactMatMulBlocksSpec.pre6 enc Try.prog Try.f8 Rows.fnExactMatMulBlocksRow.domain false) (Rows.fnExactMatMulBlocksSpec.post enc Try.prog Try.f8 false true false false) := by
  refine returnsInHanded_of_change (C := Try.checked) own started (by kernel_rfl) Try.func8
    (ChangeSpec.witness6 (enc := enc) (C := Try.checked) false ⟨#[], #[.agg #[.int .i64 0, .int .i64 0, .slice none 0 0], .agg #[.int .i64 0, .int .i64 0, .slice none 0 0], .int .i64 0], []⟩ 8 (by kernel_rfl) (by kernel_rfl) (by kernel_rfl) (by kernel_rfl)) ?_
  intro W base args ds gs before hval0 hW hcnd _
  have hval : ∀ (j : Nat) t v, Try.f8.params[j]? = some t → args[j]? = some v → Value.okWide Try.prog W .any base t v := hval0
  have hW' := hW
  obtain ⟨p, q, hA0, hV, rfl, hfz, hnd⟩ := hW
  have hA : DataW.TrodAll enc Try.prog W 0 (fun _ => true) true Try.f8.params.toList args.toList ds p := hA0
  rw [Try.params8] at hA hval
  obtain ⟨v0, vs0, d0, ds0, p0, q0, hargs, rfl, rfl, h0, r0⟩ := trodAll_cons hA
  obtain ⟨v1, vs1, d1, ds1, p1, q1, rfl, rfl, rfl, h1, r1⟩ := trodAll_cons r0
  obtain ⟨v2, vs2, d2, ds2, p2, q2, rfl, rfl, rfl, h2, r2⟩ := trodAll_cons r1
  obtain ⟨rfl, rfl, rfl⟩ := trodAll_nil r2
  obtain rfl : args = #[v0, v1, v2] := by cases args; simp_all
  obtain ⟨rfl, rfl⟩ := trodVars_none hV
  have k0 := h0
  have lt0 : ∀ x ∈ p0, x.block < W.heap.size := by obtain ⟨m, hm⟩ := k0; exact DataW.trod_lt m _ _ _ hm
  have k1 := h1
  have lt1 : ∀ x ∈ p1, x.block < W.heap.size := by obtain ⟨m, hm⟩ := k1; exact DataW.trod_lt m _ _ _ hm
  have k2 := h2
  have lt2 : ∀ x ∈ p2, x.block < W.heap.size := by obtain ⟨m, hm⟩ := k2; exact DataW.trod_lt m _ _ _ hm
  obtain ⟨ro0, co0, a0, n0, c0, z0, rfl, f0, wr0, wc0, b0⟩ := open_tensor Try.underlying24 (by kernel_rfl) (by kernel_rfl) Try.underlying2 Try.underlying2 Try.underlying22 Try.underlying33 (by kernel_rfl) (hval 0 24 v0 rfl rfl) h0
  obtain ⟨ro1, co1, a1, n1, c1, z1, rfl, f1, wr1, wc1, b1⟩ := open_tensor Try.underlying24 (by kernel_rfl) (by kernel_rfl) Try.underlying2 Try.underlying2 Try.underlying22 Try.underlying33 (by kernel_rfl) (hval 1 24 v1 rfl rfl) h1
  obtain ⟨a2, rfl, rfl, rfl, w2⟩ := open_int Try.underlying2 (hval 2 2 v2 rfl rfl) h2
  clear hA0 hval0
  refine (walk W ro0 co0 a0 n0 c0 z0 f0 wr0 wc0 b0 ro1 co1 a1 n1 c1 z1 f1 wr1 wc1 b1 a2 w2).mono fun e W' ⟨he, bel⟩ => ?_
  subst he
  exact ⟨_, rfl, _, _, _, [], _, [], hW', trodAll_mk1 (shut_bool Try.underlying4 _), (trodAll_cons_mk (Below.trod laidOut (by kernel_rfl) (of_decide_eq_true (by kernel_rfl)) k0 bel lt0) (trodAll_cons_mk (Below.trod laidOut (by kernel_rfl) (of_decide_eq_true (by kernel_rfl)) k1 bel lt1) (trodAll_cons_mk (Below.trod laidOut (by kernel_rfl) (of_decide_eq_true (by kernel_rfl)) k2 bel lt2) trodAll_mk0))), rfl, bel.frame _, fun h => by cases h⟩

theorem over : Rows.fnExactMatMulBlocksRow.holds Try.pinned (OpenSpec.ofChange Rows.fnExactMatMulBlocksSpec) :=
  OpenClaim.holds_of_wide 8 Try.f8 rfl rfl rfl rfl rfl rfl rfl ⟨rfl, rfl, rfl, rfl, rfl⟩ rfl rfl rfl rfl rfl (by kernel_rfl) Try.func8 (by kernel_rfl)
    (of_decide_eq_true (by kernel_rfl)) (by unfold Func.isWrapper; first | (rw [if_pos (by decide +kernel)]; kernel_rfl) | (rw [if_neg (by decide +kernel)]; exact ⟨rfl, rfl⟩))
    (fun os started H enc _ => lifted os started H enc)

theorem proved : Rows.FnExactMatMulBlocksSaid := over
end Go.Proofs.Ytoeppdkhncllbaa.matMulBlocks
