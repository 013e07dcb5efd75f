/- The spec's pool: the squares of an image, their greatest numbers or their means. -/
import Derived.Test.YtfgmpodmbbnijaaPool
namespace Go.Proofs.Ytfgmpodmbbnijaa.pool
open Go.RowKit Go.Fl Go.Reg
set_option maxRecDepth 100000 in
set_option maxHeartbeats 4000000 in
theorem specY (most : Bool) (RO CO D : Nat) (a : Option Addr) (n cap b0 : Nat) (xs : List Nat) (w : World) (hR : 0 < RO * D ∧ RO * D ≤ 16) (hC : 0 < CO * D ∧ CO * D ≤ 16) (hD : 0 < D ∧ D ≤ 8) (hn : n = RO * D * (CO * D)) (hv : decide (vt ((RO * D : Nat) : Int) ((CO * D : Nat) : Int) n) = true) (h1 : Fs w a n cap xs) (Q : Box w b0 ((RO * D : Nat) : Int) ((CO * D : Nat) : Int) a n cap) :
    Calls Try.prog 37 #[.pointer (some ⟨b0, 0, none⟩), .int .i64 (D : Int), .bool most] w (RT 45 w (RO : Int) (CO : Int) (upto (tab (G xs (fun F n => Val F n most) (CO * D) D) CO) (RO * CO)) true) := by
  have HM := Lib.hid (Nat.le_trans h1.cap1 h1.cap2)
  have H1 := Lib.hid h1
  have hcap := h1.cap1
  have hcap2 := h1.cap2
  unfold maxLen at hcap2
  have hlen := h1.len
  obtain ⟨ba, oa, e1, _⟩ := h1.cell 0 (by rw [hn]; exact Nat.mul_pos hR.1 hC.1)
  subst e1
  clear h1
  have hro : RO ≤ RO * D := Nat.le_mul_of_pos_right _ hD.1
  have hco : CO ≤ CO * D := Nat.le_mul_of_pos_right _ hD.1
  have hRC : RO * CO ≤ 16 * 16 := Nat.mul_le_mul (by omega) (by omega)
  have hDD : D * D ≤ 8 * 8 := Nat.mul_le_mul hD.2 hD.2
  have hDD0 : 0 < D * D := Nat.mul_pos hD.1 hD.1
  have hnn : RO * D * (CO * D) ≤ 16 * 16 := Nat.mul_le_mul hR.2 hC.2
  have HL := Lib.hid hlen
  have HV := Lib.hid hv
  have HQ := Lib.hid Q
  have Q3 := Q.lt
  have hn1 := Nat.le_of_eq hn
  have hn2 := Nat.le_of_eq hn.symm
  clear hn hlen hv Q
  have HB : Hid (inr (D : Int) 1 8 = true) := by unfold Hid inr; simp; omega
  obtain ⟨R, hRe⟩ : ∃ R, R = RO * D := ⟨_, rfl⟩
  obtain ⟨C, hCe⟩ : ∃ C, C = CO * D := ⟨_, rfl⟩
  have hm1 : (R : Int) % (D : Int) = 0 := by rw [hRe]; simp
  have hm2 : (C : Int) % (D : Int) = 0 := by rw [hCe]; simp
  have hq1 : Int.tdiv (R : Int) (D : Int) = (RO : Int) := by rw [hRe, Int.natCast_mul]; exact Int.mul_tdiv_cancel _ (by omega)
  have hq2 : Int.tdiv (C : Int) (D : Int) = (CO : Int) := by rw [hCe, Int.natCast_mul]; exact Int.mul_tdiv_cancel _ (by omega)
  rw [← hRe] at hR hro hnn HV HQ hn1 hn2
  rw [← hCe] at hC hco hnn HV HQ hn1 hn2 ⊢
  have HRE := Lib.hid hRe
  have HCE := Lib.hid hCe
  clear hRe hCe
  go_enter Try.func37, Try.ntmps37
  go_wp2_with fail
  refine calls_at ?_
  intro w1 hA
  have A : Below w.heap.size w w1 := by rw [hA]; exact (Below.refl _ _).alloc (Nat.le_refl _) _
  have zw1 : w1.heap.size = w.heap.size + 1 := by rw [hA]; simp
  have ZR_ : Zbox w1 (w.heap.size) := by rw [hA]; exact ⟨⟨by simp [go_sem], by simp [go_sem], by simp [go_sem], by simp <;> omega⟩, by simp [go_sem], by simp [go_sem], by simp [go_sem]⟩
  clear hA
  have zw1a := Nat.le_of_eq zw1
  have zw1b := Nat.le_of_eq zw1.symm
  clear zw1
  have T := A
  clear A
  have ZR := Lib.hid ZR_
  clear ZR_
  have QB_ := HQ.out.below T
  have QB := Lib.hid QB_
  clear QB_
  refine (isT _ _ _ _ _ _ _ _ HM.out QB.out.c0 QB.out.c1 QB.out.c2).mono ?_
  rintro e w2 ⟨rfl, mm, hw⟩
  have A := below_of_drew hw
  clear hw
  have T := T.trans (A.mono T.size)
  have ZR := Lib.hid (ZR.out.below A)
  have QB := Lib.hid (QB.out.below A)
  have zw2 := A.size
  clear A
  rw [HV.out]
  obtain ⟨QB0, QB1, QB2, QB3⟩ := QB.out
  go_wp2_with fail
  clear QB0 QB1 QB2 QB3
  refine (inS _ _ _ _).mono ?_
  rintro e w2x ⟨rfl, hsame⟩
  replace hsame := hsame.symm
  subst hsame
  rw [HB.out]
  obtain ⟨QB0, QB1, QB2, QB3⟩ := QB.out
  go_wp2_with fail
  clear QB0 QB1 QB2 QB3
  clear hm1 hm2
  have hd0 : ¬ D = 0 := by omega
  have hq3 : IntKind.i64.wrap (RO : Int) = (RO : Int) := IntWalk.i64_in _ (by omega)
  have hq4 : IntKind.i64.wrap (CO : Int) = (CO : Int) := IntWalk.i64_in _ (by omega)
  go_cut [8] from 43 to 56 (fun sb wx => ∃ b g, sb = .pointer (some ⟨b, 0, none⟩) ∧ w2.heap.size ≤ b ∧ Acc w2.heap.size b 45 ((RO : Int)) ((CO : Int)) w2 wx 0 (some ⟨g, 0, none⟩) 0 [])
  case first =>
    have FACT : ∀ w', Below w2.heap.size w2 w' → w'.cell? ⟨b0, 0, none⟩ = some (.int .i64 (R : Int)) ∧ w'.cell? ⟨b0, 1, none⟩ = some (.int .i64 (C : Int)) := fun w' hb => ⟨(QB.out.below hb).c0, (QB.out.below hb).c1⟩
    have FA := Lib.hid FACT
    clear FACT
    refine wp_plan 15 [0, 0, 0, 0, 0, 0, 0, 0, 0, 0, 0, 0, 2, 0, 2, 2] (.go 0 (.go 1 (.go 2 (.go 3 (.go 4 (.go 5 (.go 6 (.go 7 (.go 8 (.go 9 (.go 10 (.go 11 (.either 12 14 (.go 13 (.only 14 .fin)) (.only 12 (.go 13 .fin))))))))))))))) (Bl w2) (by kernel_rfl) (by kernel_rfl) (Bl.refl _) Bl.drew ?_
    simp only [List.drop_succ_cons, List.drop_zero]
    refine plan_go (pl0 (v := ?_) (by rfl) rfl rfl (fun w' hw' => ?_) (fun K hK => ?_))
    rotate_left
    · obtain ⟨q0, q1⟩ := FA.out w' hw'
      go_simp
      rfl
    go_simp
    refine hK _ _ ?_
    clear hK K
    refine plan_go (pl0 (v := ?_) (by rfl) rfl rfl (fun w' hw' => ?_) (fun K hK => ?_))
    rotate_left
    · obtain ⟨q0, q1⟩ := FA.out w' hw'
      go_simp
      rfl
    go_simp
    refine hK _ _ ?_
    clear hK K
    refine plan_go (pl0 (v := ?_) (by rfl) rfl rfl (fun w' hw' => ?_) (fun K hK => ?_))
    rotate_left
    · obtain ⟨q0, q1⟩ := FA.out w' hw'
      go_simp
      rfl
    go_simp
    refine hK _ _ ?_
    clear hK K
    refine plan_go (pl0 (v := ?_) (by rfl) rfl rfl (fun w' hw' => ?_) (fun K hK => ?_))
    rotate_left
    · obtain ⟨q0, q1⟩ := FA.out w' hw'
      go_simp
      rfl
    go_simp
    refine hK _ _ ?_
    clear hK K
    refine plan_go (pl0 (v := ?_) (by rfl) rfl rfl (fun w' hw' => ?_) (fun K hK => ?_))
    rotate_left
    · obtain ⟨q0, q1⟩ := FA.out w' hw'
      go_simp
      rfl
    go_simp
    refine hK _ _ ?_
    clear hK K
    refine plan_go (pl0 (v := ?_) (by rfl) rfl rfl (fun w' hw' => ?_) (fun K hK => ?_))
    rotate_left
    · obtain ⟨q0, q1⟩ := FA.out w' hw'
      go_simp
      rfl
    go_simp
    refine hK _ _ ?_
    clear hK K
    refine plan_go (pl0 (v := ?_) (by rfl) rfl rfl (fun w' hw' => ?_) (fun K hK => ?_))
    rotate_left
    · obtain ⟨q0, q1⟩ := FA.out w' hw'
      go_simp
      rfl
    go_simp
    refine hK _ _ ?_
    clear hK K
    refine plan_go (pl0 (v := ?_) (by rfl) rfl rfl (fun w' hw' => ?_) (fun K hK => ?_))
    rotate_left
    · obtain ⟨q0, q1⟩ := FA.out w' hw'
      go_simp
      rfl
    go_simp
    refine hK _ _ ?_
    clear hK K
    refine plan_go (pl0 (v := ?_) (by rfl) rfl rfl (fun w' hw' => ?_) (fun K hK => ?_))
    rotate_left
    · obtain ⟨q0, q1⟩ := FA.out w' hw'
      go_simp
      rfl
    go_simp
    refine hK _ _ ?_
    clear hK K
    refine plan_go (pl0 (v := ?_) (by rfl) rfl rfl (fun w' hw' => ?_) (fun K hK => ?_))
    rotate_left
    · obtain ⟨q0, q1⟩ := FA.out w' hw'
      go_simp
      rfl
    go_simp
    refine hK _ _ ?_
    clear hK K
    refine plan_go (pl0 (v := ?_) (by rfl) rfl rfl (fun w' hw' => ?_) (fun K hK => ?_))
    rotate_left
    · obtain ⟨q0, q1⟩ := FA.out w' hw'
      go_simp
      rfl
    go_simp
    refine hK _ _ ?_
    clear hK K
    refine plan_go (pl0 (v := ?_) (by rfl) rfl rfl (fun w' hw' => ?_) (fun K hK => ?_))
    rotate_left
    · obtain ⟨q0, q1⟩ := FA.out w' hw'
      go_simp
      rfl
    go_simp
    refine hK _ _ ?_
    clear hK K
    refine plan_either ?_ ?_
    · skip
      refine pl2 (by rfl) rfl rfl (fun K hK => ?_)
      go_simp
      intro n1
      refine ⟨(bdrew (Below.refl _ _) _).alloc (Nat.le_refl _) _, hK _ _ ?_⟩
      clear hK K
      refine plan_go (pl0 (v := ?_) (by rfl) rfl rfl (fun w' hw' => ?_) (fun K hK => ?_))
      rotate_left
      · obtain ⟨q0, q1⟩ := FA.out w' hw'
        go_simp
        rfl
      go_simp
      refine hK _ _ ?_
      clear hK K
      refine plan_only (pl2 (by rfl) rfl rfl (fun K hK => ?_))
      go_simp
      intro n2
      refine ⟨((bdrew ((bdrew (Below.refl _ _) _).alloc (Nat.le_refl _) _) _).alloc (by simp) _), hK _ _ ?_⟩
      clear hK K
      refine plan_fin (fun n3 => ?_)
      go_wp2_with fail
      go_meet
      obtain ⟨b, g, hb, hg, ACC⟩ := accStartA (r := (RO : Int)) (c := (CO : Int)) (t := 45) (tt := 32) (Below.refl w2.heap.size w2) (Nat.le_refl _) (1 + n1) n2 n3 _ rfl
      subst hb
      subst hg
      exact ⟨_, _, rfl, by omega, ACC⟩
    · skip
      refine pl2 (by rfl) rfl rfl (fun K hK => ?_)
      go_simp
      intro n1
      refine ⟨(bdrew (Below.refl _ _) _).alloc (Nat.le_refl _) _, hK _ _ ?_⟩
      clear hK K
      refine plan_only (pl2 (by rfl) rfl rfl (fun K hK => ?_))
      go_simp
      intro n2
      refine ⟨((bdrew ((bdrew (Below.refl _ _) _).alloc (Nat.le_refl _) _) _).alloc (by simp) _), hK _ _ ?_⟩
      clear hK K
      refine plan_go (pl0 (v := ?_) (by rfl) rfl rfl (fun w' hw' => ?_) (fun K hK => ?_))
      rotate_left
      · obtain ⟨q0, q1⟩ := FA.out w' hw'
        go_simp
        rfl
      go_simp
      refine hK _ _ ?_
      clear hK K
      obtain ⟨e0, e1, e2, e3, e4, e5⟩ := frzs (w2.drewN (1 + n1)) 32
      change World.frozen? _ ⟨w2.heap.size, 0, none⟩ = _ at e0
      change World.frozen? _ ⟨w2.heap.size, 1, none⟩ = _ at e1
      change World.frozen? _ ⟨w2.heap.size, 2, none⟩ = _ at e2
      change World.cell? _ ⟨w2.heap.size, 0, none⟩ = _ at e3
      change World.cell? _ ⟨w2.heap.size, 1, none⟩ = _ at e4
      change World.cell? _ ⟨w2.heap.size, 2, none⟩ = _ at e5
      refine plan_fin (fun n3 => ?_)
      go_wp2_with fail
      go_meet
      obtain ⟨b, g, hb, hg, ACC⟩ := accStartB (r := (RO : Int)) (c := (CO : Int)) (t := 45) (tt := 32) (Below.refl w2.heap.size w2) (Nat.le_refl _) (1 + n1) n2 n3 _ rfl
      subst hb
      subst hg
      exact ⟨_, _, rfl, by omega, ACC⟩
  case rest =>
  obtain ⟨b, g, rfl, hb, ACC⟩ := hcut
  have HACC := Lib.hid ACC
  clear ACC
  clear hq1 hq2 hq3 hq4
  obtain ⟨i0, hi, hz0, hz1, hz2⟩ := info_parts infoF32
  have HI := Lib.hid hi
  have HZ0 := Lib.hid hz0
  have HZ1 := Lib.hid hz1
  have HZ2 := Lib.hid hz2
  clear hi hz0 hz1 hz2
  have hBb : w2.heap.size ≤ b := hb
  go_wp2_with fail
  obtain ⟨b0', b1', b2', b3'⟩ := HACC.out.box
  go_wp2
  clear b0' b1' b2' b3'
  go_loopw [9] (fun i w' => ∃ (r k : Nat) (a' : Option Addr) (cap' : Nat) (ys : List Nat), r ≤ RO ∧ i = .int .i64 r ∧ Hid (k = r * CO) ∧ Acc w2.heap.size b 45 (RO : Int) (CO : Int) w2 w' k a' cap' ys ∧ ys.map (cn .f32) = (upto (tab (G xs (fun F n => Val F n most) C D) CO) k).map (cn .f32)) (fun i _ => RO - (intOf i).toNat)
  case atStart => exact ⟨0, 0, _, _, _, Nat.zero_le _, rfl, (Nat.zero_mul _).symm, HACC.out, rfl⟩
  case round =>
    obtain ⟨r, k, a', cap', ys, hr, rfl, hk, acc, hys⟩ := hrel
    obtain ⟨b0', b1', b2', b3'⟩ := acc.box
    have HA := Lib.hid acc
    have HY := Lib.hid hys
    clear acc hys
    by_cases hlt : r < RO
    · go_wp2
      clear b0' b1' b2' b3'
      obtain ⟨wo, rfl⟩ : ∃ wo : World, wo = wr := ⟨_, rfl⟩
      go_loopw [10] (fun i2 w' => ∃ (c k' : Nat) (a' : Option Addr) (cap' : Nat) (ys : List Nat), c ≤ CO ∧ i2 = .int .i64 c ∧ Hid (k' = r * CO + c) ∧ Acc w2.heap.size b 45 (RO : Int) (CO : Int) w2 w' k' a' cap' ys ∧ ys.map (cn .f32) = (upto (tab (G xs (fun F n => Val F n most) C D) CO) k').map (cn .f32)) (fun i2 _ => CO - (intOf i2).toNat)
      case atStart => exact ⟨0, k, _, _, _, Nat.zero_le _, rfl, hk, HA.out, HY.out⟩
      case round =>
        clear HA HY hk
        obtain ⟨c, k, a', cap', ys, hc, rfl, hk, acc, hys⟩ := hrel
        obtain ⟨b0', b1', b2', b3'⟩ := acc.box
        have HA := Lib.hid acc
        have HY := Lib.hid hys
        have HB4 := Lib.hid (show Below w2.heap.size w2 wr from acc.below)
        have zsz : w2.heap.size ≤ wr.heap.size := acc.below.size
        clear acc hys
        by_cases hcC : c < CO
        · have hme := row_end (C := CO) hlt
          have hml : k ≤ 256 := by have := hk.out; omega
          have hFk : Hid (tab (G xs (fun F n => Val F n most) C D) CO k = G xs (fun F n => Val F n most) C D r c) := by have := hk.out; subst this; exact tab_at _ hcC
          have BJ : Below w.heap.size w wr := T.trans (HB4.out.mono (by omega))
          have HBJ := Lib.hid BJ
          have QJ := Lib.hid (HQ.out.below BJ)
          clear BJ
          go_wp2
          clear b0' b1' b2' b3'
          obtain ⟨wj, rfl⟩ : ∃ wj : World, wj = wr := ⟨_, rfl⟩
          have hrD := row_end (C := D) hlt
          have hcD := row_end (C := D) hcC
          have hRe := Nat.le_of_eq HRE.out.symm
          have hCe := Nat.le_of_eq HCE.out.symm
          go_loopw [11, 12] (fun v i3 w' => ∃ (i m : Nat) (sa : Option Addr) (sc : Nat), i ≤ D ∧ Hid (m = i * D) ∧ i3 = .int .i64 i ∧ v = .slice sa m sc ∧ OwnS wj.heap.size 45 wj w' m sa sc (upto (win xs C D (r * D) (c * D)) m)) (fun _ i3 _ => D - (intOf i3).toNat)
          case atStart => exact ⟨0, 0, _, _, Nat.zero_le _, (Nat.zero_mul _).symm, rfl, rfl, own_start wj _⟩
          case round =>
            obtain ⟨i, m, sa, sc, hi, hm, rfl, rfl, own⟩ := hrel
            have HO := Lib.hid own
            clear own
            by_cases hiD : i < D
            · have hiD2 := row_end (C := D) hiD
              have hmm : m ≤ 64 := by have := hm.out; omega
              have hrow : r * D + i < R := by omega
              have hin := in_row (R := R) (C := C) (i := r * D + i) (j := c * D) hrow (by omega)
              have hin2 := row_end (C := C) hrow
              have e1 : ((r : Int) * (D : Int)) = ((r * D : Nat) : Int) := by simp
              have e2 : ((c : Int) * (D : Int)) = ((c * D : Nat) : Int) := by simp
              have e3 : (((r : Int) * (D : Int) + (i : Int)) * (C : Int)) = (((r * D + i) * C : Nat) : Int) := by simp
              have y1 : (0 : Int) ≤ (r : Int) * (D : Int) := by rw [e1]; omega
              have y2 : (r : Int) * (D : Int) ≤ 16 := by rw [e1]; omega
              have y3 : (0 : Int) ≤ (c : Int) * (D : Int) := by rw [e2]; omega
              have y4 : (c : Int) * (D : Int) ≤ 16 := by rw [e2]; omega
              have y5 : (0 : Int) ≤ ((r : Int) * (D : Int) + (i : Int)) * (C : Int) := by rw [e3]; omega
              have y6 : ((r : Int) * (D : Int) + (i : Int)) * (C : Int) ≤ 256 := by rw [e3]; omega
              obtain ⟨q, hq⟩ : ∃ q : Nat, q = (r * D + i) * C + c * D := ⟨_, rfl⟩
              have hqi : ((r : Int) * (D : Int) + (i : Int)) * (C : Int) + (c : Int) * (D : Int) = (q : Int) := by rw [e3, e2, hq]; simp
              have HQQ := Lib.hid hq
              have hqn : q + D ≤ n := by omega
              clear hq e1 e2 e3
              have SP := Lib.hid ((H1.out.below (HBJ.out.trans (HO.out.below.mono HBJ.out.size))).sub (i := q) (j := q + D) (by omega) (by omega) (cap - q) rfl)
              have hlx : q + D ≤ xs.length := by have := HL.out; omega
              have z5 : ¬ cap = q := by omega
              have z6 : q + D - q = D := by omega
              have Z6 := Lib.hid z6
              clear z6
              obtain ⟨q0, q1, q2, q3⟩ := QJ.out.below HO.out.below
              go_wp2_with (at_builtin; refine wpList_append_own _ rfl (.tmp 89) (.tmp 98) 22 rfl wj.heap.size 45 i0 (.float .f32 0) 1 4 Try.underlying22 HI.out HZ0.out HZ1.out HZ2.out rfl (by decide) (.slice sa m sc) m (fl (upto (win xs C D (r * D) (c * D)) m)) rfl HO.out.own ⟨ba, oa + q, none⟩ (q + D - q) (cap - q) (fl ((xs.drop q).take D)) rfl ?e0 ?e1 (fl_one _) ?e3 ?e4 HO.out.le ?_)
              case e0 => rw [fl_length, Nat.mul_one, List.length_take, List.length_drop]; omega
              case e1 =>
                intro jj u hj
                have hl0 : ((xs.drop q).take D).length = D := by rw [List.length_take, List.length_drop]; omega
                have hjl : jj < D := by
                  rcases Nat.lt_or_ge jj D with h | h
                  · exact h
                  · rw [List.getElem?_eq_none (by rw [fl_length, hl0]; exact h)] at hj; cases hj
                rw [fl_get _ jj (by rw [hl0]; exact hjl)] at hj
                injection hj with hj
                subst hj
                have SP2 := SP.out
                rw [Z6.out] at SP2
                obtain ⟨b', o', e, hcl⟩ := SP2.cell jj hjl
                injection e with e; injection e with e1 e2 e3
                subst e1; subst e2
                rw [add_at]
                exact hcl
              case e3 => unfold maxLen; omega
              case e4 => omega
              intro v' w5 hown hgr _
              obtain ⟨sa2, sc2, rfl, O2_⟩ := OwnS.app0 HO.out hown hgr
              rw [show upto (win xs C D (r * D) (c * D)) m ++ ((xs.drop q).take D) = upto (win xs C D (r * D) (c * D)) (m + D) by
                have := hm.out; subst this; exact sq_row xs HQQ.out hlx] at O2_
              have O2 := Lib.hid O2_
              clear O2_ hown hgr z5 y1 y2 y3 y4 y5 y6 hqi q0 q1 q2 q3
              go_wp2
              go_roundw
              case rel => exact ⟨i + 1, m + D, sa2, sc2, by omega, (by have := hm.out; show m + D = _; rw [Nat.succ_mul]; omega), by go_num, rfl, O2.out⟩
              case measure => simp [intOf]; omega
            · have e : i = D := by omega
              have hme2 : m = D * D := hm.out.trans (by rw [e])
              clear e hm
              subst hme2
              have HA2 := Lib.hid (HA.out.next HO.out.below zsz)
              clear HA
              have SQ := Lib.hid (Fs.own HO.out.own)
              have hsc := SQ.out.cap1
              have hsc2 := SQ.out.cap2
              unfold maxLen at hsc2
              obtain ⟨g2, hsa⟩ : ∃ g2, sa = some g2 := by
                obtain ⟨b', o', e, _⟩ := SQ.out.cell 0 hDD0
                exact ⟨_, e⟩
              obtain ⟨gb, go', gp⟩ := g2
              obtain ⟨b', o', e, hcl⟩ := SQ.out.cell 0 hDD0
              rw [hsa] at e
              injection e with e; injection e with e1 e2 e3
              subst e1; subst e2; subst e3
              subst hsa
              rw [upto_get hDD0, Nat.add_zero] at hcl
              go_wp2
              clear hcl
              go_loop [14, 15] (fun xx kk => ∃ (k' : Nat), 1 ≤ k' ∧ k' ≤ D * D ∧ kk = .int .i64 k' ∧ xx = .float .f32 (gm (win xs C D (r * D) (c * D)) (k' - 1))) (fun _ kk => D * D - (intOf kk).toNat)
              case atStart => exact ⟨1, Nat.le_refl _, hDD0, rfl, rfl⟩
              case round =>
                obtain ⟨j, hj1, hj2, rfl, rfl⟩ := hrel
                obtain ⟨j, rfl⟩ : ∃ j', j = j' + 1 := ⟨j - 1, by omega⟩
                rw [Nat.add_sub_cancel]
                obtain ⟨b', o', e, hc0⟩ := SQ.out.cell j (by omega)
                injection e with e; injection e with e1 e2 e3
                subst e1; subst e2
                clear hc0
                by_cases hlt2 : j + 1 < D * D
                · obtain ⟨b', o', e, hcl⟩ := SQ.out.cell (j + 1) hlt2
                  injection e with e; injection e with e1 e2 e3
                  subst e1; subst e2
                  rw [upto_get hlt2] at hcl
                  cases ho : (FloatKind.f32.format.order (win xs C D (r * D) (c * D) (j + 1)) (gm (win xs C D (r * D) (c * D)) j) == some .gt)
                  · have HO2 := Lib.hid ho
                    go_wp2
                    go_round
                    case rel => exact ⟨j + 1 + 1, by omega, by omega, by go_num, by rw [Nat.add_sub_cancel, gm_le HO2.out]⟩
                    case measure => simp [intOf]; omega
                  · have HO2 := Lib.hid ho
                    go_wp2
                    go_round
                    case rel => exact ⟨j + 1 + 1, by omega, by omega, by go_num, by rw [Nat.add_sub_cancel, gm_gt HO2.out]⟩
                    case measure => simp [intOf]; omega
                · have ej : gm (win xs C D (r * D) (c * D)) j = gm (win xs C D (r * D) (c * D)) (D * D - 1) := by congr 1; omega
                  have EJ := Lib.hid ej
                  clear ej
                  cases most
                  · go_wp2_with fail
                    refine (specSum _ _ _ _ _ (by omega) SQ.out).mono ?_
                    rintro e ws ⟨u, ms, rfl, hws, hu⟩
                    have hcast : ((D : Int) * (D : Int)) = ((D * D : Nat) : Int) := by simp
                    have p1 : (0 : Int) ≤ (D : Int) * (D : Int) := by rw [hcast]; omega
                    have p2 : (D : Int) * (D : Int) ≤ 64 := by rw [hcast]; omega
                    have HCA := Lib.hid hcast
                    clear hcast
                    have HU := Lib.hid hu
                    clear hu
                    have acc := HA2.out.drew ms
                    rw [← hws] at acc
                    clear hws
                    have hys := HY.out
                    clear HA2 HY
                    obtain ⟨u2, hu2⟩ : ∃ u2, u2 = fres .quo .f32 u (floatOfInt .f32 ((D : Int) * (D : Int))) ws := ⟨_, rfl⟩
                    have HVV : Hid (cn .f32 u2 = cn .f32 (G xs (fun F n => Val F n false) C D r c)) := by
                      unfold Hid
                      rw [hu2, HCA.out, fres_fop, fop_l .quo HU.out]
                      rfl
                    have acc := acc.drew (fdr .quo .f32 u (floatOfInt .f32 ((D : Int) * (D : Int))))
                    have HU2 := Lib.hid hu2
                    clear hu2
                    obtain ⟨b0', b1', b2', b3'⟩ := acc.box
                    have AC := Lib.hid acc
                    have HY := Lib.hid hys
                    clear acc hys
                    have zb := AC.out.box.lt
                    have zB := AC.out.below.size
                    have zB2 : w2.heap.size ≤ ws.heap.size := zB
                    have zb2 : b < ws.heap.size := zb
                    go_wp2_with (at_builtin; refine wpList_append_own _ rfl (.tmp 129) (.tmp 131) 22 rfl (w2.heap.size) 45 i0 (.float .f32 0) 1 4 Try.underlying22 HI.out HZ0.out HZ1.out HZ2.out rfl (by decide) (.slice a' k cap') (k) (fl ys) rfl (AC.out.alloc (by omega) _).own ⟨ws.heap.size, 0, none⟩ 1 1 [.float .f32 (fres .quo .f32 u (floatOfInt .f32 ((D : Int) * (D : Int))) ws)] rfl rfl ?c1 ?c2 ?c3 ?c4 ?c5 ?_)
                    try
                      case c1 =>
                        intro j v hj
                        match j, hj with
                        | 0, hj => simp at hj; subst hj; exact cell_new _ _ _
                    case c2 => first | rfl | (intro v hv; simp at hv; subst hv; rfl)
                    case c3 => unfold maxLen; omega
                    case c4 => omega
                    case c5 => first | omega | (simp; done) | (simp; omega)
                    intro v' w2 hown hgr _
                    clear b0' b1' b2' b3'
                    obtain ⟨a2, cap2, rfl, bx, fr, cl, acc2⟩ := Acc.app (by first | omega | (simp; omega)) AC.out hown ⟨hgr.os, hgr.tape, hgr.output, hgr.size, hgr.block⟩
                    have AC2 := Lib.hid acc2
                    clear acc2 hown hgr cl
                    obtain ⟨b0', b1', b2', b3'⟩ := bx
                    go_wp2
                    go_roundw
                    case rel => exact ⟨c + 1, k + 1, a2, cap2, ys ++ [_], by omega, by go_num, (by have := hk.out; show k + 1 = _; omega), AC2.out, upto_step HY.out (by rw [hFk.out, ← HU2.out]; exact HVV.out)⟩
                    case measure => simp [intOf]; omega
                  · have HVV : Hid (cn .f32 (gm (win xs C D (r * D) (c * D)) j) = cn .f32 (G xs (fun F n => Val F n true) C D r c)) := by unfold Hid; rw [EJ.out]; rfl
                    have acc := HA2.out
                    have hys := HY.out
                    clear HA2 HY
                    obtain ⟨b0', b1', b2', b3'⟩ := acc.box
                    have AC := Lib.hid acc
                    have HY := Lib.hid hys
                    clear acc hys
                    have zb := AC.out.box.lt
                    have zB := AC.out.below.size
                    go_wp2_with (at_builtin; refine wpList_append_own _ rfl (.tmp 129) (.tmp 131) 22 rfl (w2.heap.size) 45 i0 (.float .f32 0) 1 4 Try.underlying22 HI.out HZ0.out HZ1.out HZ2.out rfl (by decide) (.slice a' k cap') (k) (fl ys) rfl (AC.out.alloc (by omega) _).own ⟨wr.heap.size, 0, none⟩ 1 1 [.float .f32 (gm (win xs C D (r * D) (c * D)) j)] rfl rfl ?d1 ?d2 ?d3 ?d4 ?d5 ?_)
                    try
                      case d1 =>
                        intro j v hj
                        match j, hj with
                        | 0, hj => simp at hj; subst hj; exact cell_new _ _ _
                    case d2 => first | rfl | (intro v hv; simp at hv; subst hv; rfl)
                    case d3 => unfold maxLen; omega
                    case d4 => omega
                    case d5 => first | omega | (simp; done) | (simp; omega)
                    intro v' w2 hown hgr _
                    clear b0' b1' b2' b3'
                    obtain ⟨a2, cap2, rfl, bx, fr, cl, acc2⟩ := Acc.app (by first | omega | (simp; omega)) AC.out hown ⟨hgr.os, hgr.tape, hgr.output, hgr.size, hgr.block⟩
                    have AC2 := Lib.hid acc2
                    clear acc2 hown hgr cl
                    obtain ⟨b0', b1', b2', b3'⟩ := bx
                    go_wp2
                    go_roundw
                    case rel => exact ⟨c + 1, k + 1, a2, cap2, ys ++ [_], by omega, by go_num, (by have := hk.out; show k + 1 = _; omega), AC2.out, upto_step HY.out (by rw [hFk.out]; exact HVV.out)⟩
                    case measure => simp [intOf]; omega
        · go_wp2
          clear b0' b1' b2' b3'
          go_roundw
          case rel => exact ⟨r + 1, k, a', cap', ys, by omega, by go_num, (by have := hk.out; have e : c = CO := (by omega); subst e; show k = _; rw [Nat.succ_mul]; exact this), HA.out, HY.out⟩
          case measure => simp [intOf]; omega
    · have e : r = RO := by omega
      have hme : k = RO * CO := by rw [← e]; exact hk
      clear hk e b0' b1' b2' b3'
      subst hme
      have BW : Below w.heap.size w wr := T.trans (HA.out.below.mono (by omega))
      have ZR := Lib.hid (ZR.out.upto HA.out.below (by omega))
      obtain ⟨b0', b1', b2', b3'⟩ := HA.out.box
      have zz := HA.out.below.size
      obtain ⟨⟨ZR0, ZR1, ZR2, ZR3⟩, ZR4, ZR5, ZR6⟩ := ZR.out
      go_wp2
      refine bodyPost_ret (v := .tuple #[.agg #[.int .i64 (RO : Int), .int .i64 (CO : Int), .slice a' (RO * CO) cap'], .bool true]) (by simp [results, Try.results37, go_sem, ZR0, ZR1, ZR2]) rfl ?_
      exact RT_end BW (by omega) (HA.out.row (by omega)) (by omega) HY.out (upto_length _ _)
end Go.Proofs.Ytfgmpodmbbnijaa.pool
