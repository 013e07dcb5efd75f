/- The reference's AttendRows on arguments that fit. -/
import Derived.Test.YtfgmpodmbbnijaaAtt
import Derived.Test.YtfgmpodmbbnijaaRowS
namespace Go.Proofs.Ytfgmpodmbbnijaa.att
open Go.RowKit Go.Fl Go.Reg
open Go.Proofs.Ytfgmpodmbbnijaa.soft (shv sh_congr get_of row_cell row_fz row_lo Post)
set_option maxRecDepth 100000 in
set_option maxHeartbeats 4000000 in
theorem attS_true (R D C : Nat) (ba oa n cap : Nat) (xs : List Nat) (bb ob n2 cap2 : Nat) (ys : List Nat) (bz oz n3 cap3 : Nat) (zs : List Nat) (w : World) (hR : 0 < R ∧ R ≤ 8) (hD : 0 < D ∧ D ≤ 16) (hC : 0 < C ∧ C ≤ 16) (hn : n = R * D) (hn2 : n2 = R * D) (hn3 : n3 = R * C) (hv1 : decide (vt (R : Int) (D : Int) n) = true) (hv2 : decide (vt (R : Int) (D : Int) n2) = true) (hv3 : decide (vt (R : Int) (C : Int) n3) = true) (h1 : Fs w (some ⟨ba, oa, none⟩) n cap xs) (h2 : Fs w (some ⟨bb, ob, none⟩) n2 cap2 ys) (h3 : Fs w (some ⟨bz, oz, none⟩) n3 cap3 zs) :
    Calls Try.prog 25 #[.agg #[.int .i64 (R : Int), .int .i64 (D : Int), .slice (some ⟨ba, oa, none⟩) n cap], .agg #[.int .i64 (R : Int), .int .i64 (D : Int), .slice (some ⟨bb, ob, none⟩) n2 cap2], .agg #[.int .i64 (R : Int), .int .i64 (C : Int), .slice (some ⟨bz, oz, none⟩) n3 cap3], .bool true] w (RT 45 w (R : Int) (C : Int) (upto (tab (AV xs ys zs D C R true) C) (R * C)) true) := by
  have H1 := Lib.hid h1
  have H2 := Lib.hid h2
  have H3 := Lib.hid h3
  have ca1 := h1.cap1
  have ca2 := h1.cap2
  have cb1 := h2.cap1
  have cb2 := h2.cap2
  have cz1 := h3.cap1
  have cz2 := h3.cap2
  have HM1 := Lib.hid (Nat.le_trans ca1 ca2)
  have HM2 := Lib.hid (Nat.le_trans cb1 cb2)
  have HM3 := Lib.hid (Nat.le_trans cz1 cz2)
  have HCA := Lib.hid ca2
  have HCB := Lib.hid cb2
  have HCZ := Lib.hid cz2
  unfold maxLen at ca2 cb2 cz2
  have qa1 := Nat.le_of_eq hn
  have qa2 := Nat.le_of_eq hn.symm
  have qb1 := Nat.le_of_eq hn2
  have qb2 := Nat.le_of_eq hn2.symm
  have qz1 := Nat.le_of_eq hn3
  have qz2 := Nat.le_of_eq hn3.symm
  have HN1 := Lib.hid hn
  have HN2 := Lib.hid hn2
  have HN3 := Lib.hid hn3
  have HV1 := Lib.hid hv1
  have HV2 := Lib.hid hv2
  have HV3 := Lib.hid hv3
  have HS1 : Hid (inr (R : Int) 1 8 = true) := by unfold Hid inr; simp; omega
  have eRD : R * D ≤ 8 * 16 := Nat.mul_le_mul hR.2 hD.2
  have eRC : R * C ≤ 8 * 16 := Nat.mul_le_mul hR.2 hC.2
  clear h1 h2 h3 hn hn2 hn3 hv1 hv2 hv3
  go_enter Try.func25, Try.ntmps25
  go_wp2_with fail
  refine calls_at ?_
  intro w1 hA
  have A : Below w.heap.size w w1 := by rw [hA]; exact ((((Below.refl _ _).alloc (Nat.le_refl _) _).alloc (by simp <;> omega) _).alloc (by simp <;> omega) _).alloc (by simp <;> omega) _
  have zw1 : w1.heap.size = w.heap.size + 1 + 1 + 1 + 1 := by rw [hA]; simp
  have QA_ : Box w1 (w.heap.size) ↑R ↑D (some ⟨ba, oa, none⟩) n cap := by rw [hA]; exact ⟨by simp [go_sem], by simp [go_sem], by simp [go_sem], by simp <;> omega⟩
  have QB_ : Box w1 (w.heap.size + 1) ↑R ↑D (some ⟨bb, ob, none⟩) n2 cap2 := by rw [hA]; exact ⟨by simp [go_sem], by simp [go_sem], by simp [go_sem], by simp <;> omega⟩
  have QC_ : Box w1 (w.heap.size + 1 + 1) ↑R ↑C (some ⟨bz, oz, none⟩) n3 cap3 := by rw [hA]; exact ⟨by simp [go_sem], by simp [go_sem], by simp [go_sem], by simp <;> omega⟩
  have ZR_ : Zbox w1 (w.heap.size + 1 + 1 + 1) := by rw [hA]; exact ⟨⟨by simp [go_sem], by simp [go_sem], by simp [go_sem], by simp <;> omega⟩, by simp [go_sem], by simp [go_sem], by simp [go_sem]⟩
  clear hA
  have zw1a := Nat.le_of_eq zw1
  have zw1b := Nat.le_of_eq zw1.symm
  clear zw1
  have T := A
  clear A
  have QA := Lib.hid QA_
  clear QA_
  have QB := Lib.hid QB_
  clear QB_
  have QC := Lib.hid QC_
  clear QC_
  have ZR := Lib.hid ZR_
  clear ZR_
  have hRI : (R : Int) ≤ 8 := by omega
  refine (isT _ _ _ _ _ _ _ _ HM1.out QA.out.c0 QA.out.c1 QA.out.c2).mono ?_
  rintro e w2 ⟨rfl, mm, hw⟩
  have A := below_of_drew hw
  clear hw
  have T := T.trans (A.mono T.size)
  have QA := Lib.hid (QA.out.below A)
  have QB := Lib.hid (QB.out.below A)
  have QC := Lib.hid (QC.out.below A)
  have ZR := Lib.hid (ZR.out.below A)
  have zw2 := A.size
  clear A
  rw [HV1.out]
  obtain ⟨QB0, QB1, QB2, QB3⟩ := QB.out
  go_wp2_with fail
  clear QB0 QB1 QB2 QB3
  refine (isT _ _ _ _ _ _ _ _ HM2.out QB.out.c0 QB.out.c1 QB.out.c2).mono ?_
  rintro e w3 ⟨rfl, mm, hw⟩
  have A := below_of_drew hw
  clear hw
  have T := T.trans (A.mono T.size)
  have QA := Lib.hid (QA.out.below A)
  have QB := Lib.hid (QB.out.below A)
  have QC := Lib.hid (QC.out.below A)
  have ZR := Lib.hid (ZR.out.below A)
  have zw3 := A.size
  clear A
  rw [HV2.out]
  obtain ⟨QC0, QC1, QC2, QC3⟩ := QC.out
  go_wp2_with fail
  clear QC0 QC1 QC2 QC3
  refine (isT _ _ _ _ _ _ _ _ HM3.out QC.out.c0 QC.out.c1 QC.out.c2).mono ?_
  rintro e w4 ⟨rfl, mm, hw⟩
  have A := below_of_drew hw
  clear hw
  have T := T.trans (A.mono T.size)
  have QA := Lib.hid (QA.out.below A)
  have QB := Lib.hid (QB.out.below A)
  have QC := Lib.hid (QC.out.below A)
  have ZR := Lib.hid (ZR.out.below A)
  have zw4 := A.size
  clear A
  rw [HV3.out]
  obtain ⟨QA0, QA1, QA2, QA3⟩ := QA.out
  obtain ⟨QB0, QB1, QB2, QB3⟩ := QB.out
  obtain ⟨QC0, QC1, QC2, QC3⟩ := QC.out
  go_wp2_with fail
  clear QA0 QA1 QA2 QA3 QB0 QB1 QB2 QB3 QC0 QC1 QC2 QC3
  refine (rootS _ _).mono ?_
  rintro e w5 ⟨ru, rfl, hru, A⟩
  have T := T.trans (A.mono T.size)
  have QA := Lib.hid (QA.out.below A)
  have QB := Lib.hid (QB.out.below A)
  have QC := Lib.hid (QC.out.below A)
  have ZR := Lib.hid (ZR.out.below A)
  have zw5 := A.size
  clear A
  have HRU := Lib.hid (rt_of D hru)
  clear hru hRI
  obtain ⟨QA0, QA1, QA2, QA3⟩ := QA.out
  obtain ⟨QC0, QC1, QC2, QC3⟩ := QC.out
  go_wp2_with fail
  clear QA0 QA1 QA2 QA3 QC0 QC1 QC2 QC3
  refine reg_at ?_
  intro wS hA
  obtain ⟨ACC, A⟩ := accStartP hA
  clear hA A
  have HACC := Lib.hid ACC
  clear ACC
  obtain ⟨i0, hi, hz0, hz1, hz2⟩ := info_parts infoF32
  have HI := Lib.hid hi
  have HZ0 := Lib.hid hz0
  have HZ1 := Lib.hid hz1
  have HZ2 := Lib.hid hz2
  clear hi hz0 hz1 hz2
  obtain ⟨b, hb⟩ : ∃ b, b = w5.heap.size + 1 := ⟨_, rfl⟩
  have hb1 := Nat.le_of_eq hb
  have hb2 := Nat.le_of_eq hb.symm
  rw [← hb] at HACC ⊢
  clear hb
  go_loopw [12] (fun i w' => ∃ (i' k : Nat) (a' : Option Addr) (cap' : Nat) (us : List Nat), i' ≤ R ∧ i = .int .i64 i' ∧ Hid (k = i' * C) ∧ Acc w5.heap.size b 45 (R : Int) (C : Int) w5 w' k a' cap' us ∧ us.map (cn .f32) = (upto (tab (AV xs ys zs D C R true) C) k).map (cn .f32)) (fun i _ => R - (intOf i).toNat)
  case atStart => exact ⟨0, 0, _, _, _, Nat.zero_le _, rfl, (Nat.zero_mul _).symm, HACC.out, rfl⟩
  case round =>
    obtain ⟨i, k, a', cap', us, hi, rfl, hk, acc, hus⟩ := hrel
    obtain ⟨p0, p1, p2, p3⟩ := QA.out.upto acc.below (by omega)
    by_cases hlt : i < R
    · have HA := Lib.hid acc
      have HY := Lib.hid hus
      clear acc hus
      obtain ⟨wi, rfl⟩ : ∃ wi : World, wi = wr := ⟨_, rfl⟩
      have BI : Below w.heap.size w wi := T.trans (HA.out.below.mono (by omega))
      have HBI := Lib.hid BI
      clear BI
      have zbi : b < wi.heap.size := HA.out.box.lt
      have IA := Lib.hid (QA.out.upto HA.out.below (by omega))
      have IB := Lib.hid (QB.out.upto HA.out.below (by omega))
      have IC := Lib.hid (QC.out.upto HA.out.below (by omega))
      have rD := row_end (C := D) hlt
      have rC := row_end (C := C) hlt
      have hkC : k + C ≤ R * C := by have := hk.out; omega
      go_wp2_with fail
      clear p0 p1 p2 p3
      obtain ⟨N, hN⟩ : ∃ N : Nat, N = i + 1 := ⟨_, rfl⟩
      have hN8 : N ≤ 8 := by omega
      have hN0 : 0 < N := by omega
      have hNR : N ≤ R := by omega
      have eN : ((i : Int) + 1) = (N : Int) := by omega
      have HN := Lib.hid (show N = ct true R i from hN)
      clear hN eN
      have ST := Lib.hid (own_start wi 45)
      go_loopw [13, 14] (fun v j w' => ∃ (j' : Nat) (sa : Option Addr) (sc' : Nat) (ss : List Nat), j' ≤ N ∧ j = .int .i64 j' ∧ v = .slice sa j' sc' ∧ OwnS wi.heap.size 45 wi w' j' sa sc' ss ∧ ss.map (cn .f32) = (upto (sc xs ys D i) j').map (cn .f32)) (fun _ j _ => N - (intOf j).toNat)
      case atStart => exact ⟨0, _, _, _, Nat.zero_le _, rfl, rfl, ST.out, rfl⟩
      case round =>
        obtain ⟨j, sa, sc', ss, hj, rfl, rfl, own, hss⟩ := hrel
        have HO := Lib.hid own
        have HSS := Lib.hid hss
        clear own hss
        have JB := Lib.hid (IB.out.upto HO.out.below (by omega))
        by_cases hlj : j < N
        · have rDj := row_end (C := D) (show j < R by omega)
          have hjR : j < R := by omega
          have hji : True := trivial
          have hji2 : j ≤ i := by have := HN.out; unfold ct at this; simp at this; omega
          have BW := Lib.hid (HBI.out.trans (HO.out.below.mono (by omega)))
          have JA := Lib.hid (IA.out.upto HO.out.below (by omega))
          have zij : wi.heap.size ≤ wr.heap.size := HO.out.le
          obtain ⟨q0, q1, q2, q3⟩ := JB.out
          clear hji
          go_wp2_with fail
          clear q0 q1 q2 q3
          refine (rowS.specRow R D i ba oa n cap _ xs _ ⟨hR.1, by omega⟩ hD hlt HN1.out (H1.out.below BW.out) JA.out).mono ?_
          rintro e v1 ⟨a1, k1, rfl, R1_, A1⟩
          have R1 := Lib.hid R1_
          have O1 := Lib.hid (HO.out.next A1)
          have JB1 := Lib.hid (JB.out.below A1)
          have BW1 := Lib.hid (BW.out.trans (A1.mono BW.out.size))
          clear R1_ A1 HO JB JA
          go_wp2_with fail
          refine (rowS.specRow R D j bb ob n2 cap2 _ ys _ ⟨hR.1, by omega⟩ hD hjR HN2.out (H2.out.below BW1.out) JB1.out).mono ?_
          rintro e v2 ⟨a2, k2, rfl, R2_, A2⟩
          have R2 := Lib.hid R2_
          have R12 := Lib.hid (R1.out.below A2)
          have O2 := Lib.hid (O1.out.next A2)
          clear R2_ A2 O1 JB1 R1
          go_wp2_with fail
          refine (dotS _ _ D _ _ (rl xs D i) (rl ys D j) _ (by omega) R12.out.fs R2.out.fs).mono ?_
          rintro e v3 ⟨du, rfl, hdu_, A3⟩
          have hdu := Lib.hid hdu_
          have O3 := Lib.hid (O2.out.next A3)
          clear hdu_ A3 O2 R12 R2
          have HU := Lib.hid (show cn .f32 (fres .quo .f32 du ru v3) = cn .f32 (sc xs ys D i j) by rw [fres_fop, fop_l .quo hdu.out, fop_r .quo HRU.out]; rfl)
          go_wp2_with (at_builtin; refine wpList_append_own _ rfl (.tmp 88) (.tmp 96) 22 rfl wi.heap.size 45 i0 (.float .f32 0) 1 4 Try.underlying22 HI.out HZ0.out HZ1.out HZ2.out rfl (by decide) (.slice sa j sc') j (fl ss) rfl ((O3.out.drew _).alloc _).own ⟨v3.heap.size, 0, none⟩ 1 1 [.float .f32 (fres .quo .f32 du ru v3)] rfl rfl ?c1 ?c2 ?c3 ?c4 ?c5 ?_)
          case c1 =>
            intro jj v hjj
            match jj, hjj with
            | 0, hjj => simp at hjj; subst hjj; exact cell_new (v3.drewN _) _ _
          case c2 => intro v hv; simp at hv; subst hv; rfl
          case c3 => unfold maxLen; omega
          case c4 => omega
          case c5 => have := O3.out.le; simp <;> omega
          intro v' w2 hown hgr _
          obtain ⟨sa2, sc2, rfl, O4_⟩ := OwnS.app (us := [fres .quo .f32 du ru v3]) (O3.out.drew _) hown hgr
          have O4 := Lib.hid O4_
          clear O4_ hown hgr
          go_wp2
          go_roundw
          case rel => exact ⟨j + 1, sa2, sc2, ss ++ [_], by omega, by go_num, rfl, O4.out, upto_step HSS.out HU.out⟩
          case measure => simp [intOf]; omega
        · have e : N = j := by omega
          subst e
          obtain ⟨wj, rfl⟩ : ∃ wj : World, wj = wr := ⟨_, rfl⟩
          have JC := Lib.hid (IC.out.upto HO.out.below (by omega))
          have BJ := Lib.hid (HBI.out.trans (HO.out.below.mono (by omega)))
          have zij : wi.heap.size ≤ wj.heap.size := HO.out.le
          have HOB := Lib.hid (show Below wi.heap.size wi wj from HO.out.below)
      
          obtain ⟨q0, q1, q2, q3⟩ := JB.out
          by_cases hNR2 : N < R
          · have hn1 : ¬ N ≤ i := by have := HN.out; unfold ct at this; simp at this; omega
            go_wp2_with fail
            clear q0 q1 q2 q3
            refine (soft.softS sa N sc' (fun q => ss[q]?.getD 0) _ ⟨hN0, by omega⟩ (fs_fun (Fs.own HO.out.own))).mono ?_
            rintro e x5 ⟨g2, cap6, hs, rfl, RS_, hsh, T5⟩
            have RS5 := Lib.hid RS_
            have HSH := Lib.hid (sh_list HSS.out hsh)
            have B5 := Lib.hid T5
            have z5 := T5.size
            have JC5 := Lib.hid (JC.out.below T5)
            clear RS_ hsh T5 HO
            obtain ⟨q0, q1, q2, q3⟩ := JC5.out
            go_wp2_with (at_make; refine wpList_make_full _ rfl _ _ 22 rfl x5.heap.size 45 i0 (.float .f32 0) 1 Try.underlying22 HI.out HZ0.out HZ1.out _ _ _ _ C rfl rfl rfl rfl (by rw [HZ2.out]; omega) (by unfold maxLen; omega) (Nat.le_refl _) ?_)
            intro x6 hown hgr
            rw [zeros_fl] at hown
            clear q0 q1 q2 q3
            have T6 := bel_grown hgr
            have R6 := Lib.hid (Row.of hown T6.size)
            have B6 := Lib.hid T6
            have z6 := T6.size
            clear hown hgr T6
            have RS := Lib.hid (RS5.out.below B6.out)
            have JC6 := Lib.hid (JC5.out.below B6.out)
            have BW6 := Lib.hid (BJ.out.trans ((B5.out.trans (B6.out.mono z5)).mono BJ.out.size))
            have zr5 : x5.heap.size < x6.heap.size := (R6.out.own.lt x5.heap.size rfl).2
            go_wp2_with fail
            go_loopw [17] (fun q w' => ∃ (q' : Nat) (rs : List Nat), q' ≤ N ∧ q = .int .i64 q' ∧ Row w' x5.heap.size x6.heap.size 45 (.slice (some ⟨x5.heap.size, 0, none⟩) C C) C rs ∧ rs.map (cn .f32) = (upto (ac xs ys zs D C N i q') C).map (cn .f32) ∧ Keep x5.heap.size x6.heap.size x6 w') (fun q _ => N - (intOf q).toNat)
            case atStart => exact ⟨0, _, Nat.zero_le _, rfl, R6.out, by rw [zeros_upto]; rfl, Keep.refl _ _ _⟩
            case round =>
              obtain ⟨q, rs, hq, rfl, RR_, hrs, KP_⟩ := hrel
              have RR := Lib.hid RR_
              have HRS := Lib.hid hrs
              have KP := Lib.hid KP_
              clear RR_ hrs KP_
              have zkp := KP.out.size
              by_cases hlq : q < N
              · have rCq := row_end (C := C) (show q < R by omega)
                have KC := Lib.hid (JC6.out.keep KP.out (.inl (by omega)))
                have KS := Lib.hid (RS.out.keep KP.out (.inl (Nat.le_refl _)))
                have BWR := Lib.hid (BW6.out.trans (KP.out.below (B := w.heap.size) (by omega) (by omega)))
                go_wp2_with fail
                refine (rowS.specRow R C q bz oz n3 cap3 _ zs _ ⟨hR.1, by omega⟩ hC (by omega) HN3.out (H3.out.below BWR.out) KC.out).mono ?_
                rintro e wk ⟨av, kv, rfl, RV_, A⟩
                have zwk := A.size
                have RV := Lib.hid RV_
                have RK := Lib.hid (RR.out.below A)
                have KK := Lib.hid (KP.out.trans (Keep.of A))
                have KS2 := Lib.hid (KS.out.below A)
                clear A RR RV_ KC KS BWR
                go_wp2_with fail
                go_loopw [113] (fun c w' => ∃ (c' : Nat) (rs : List Nat), c' ≤ C ∧ c = .int .i64 c' ∧ Row w' x5.heap.size x6.heap.size 45 (.slice (some ⟨x5.heap.size, 0, none⟩) C C) C rs ∧ rs.map (cn .f32) = (upto (mx (ac xs ys zs D C N i (q + 1)) (ac xs ys zs D C N i q) c') C).map (cn .f32) ∧ Keep x5.heap.size x6.heap.size wk w') (fun c _ => C - (intOf c).toNat)
                case atStart => exact ⟨0, _, Nat.zero_le _, rfl, RK.out, by rw [mx_start]; exact HRS.out, Keep.refl _ _ _⟩
                case round =>
                  obtain ⟨c, rs2, hc, rfl, RR_, hrs, KP_⟩ := hrel
                  have RR := Lib.hid RR_
                  have HR2 := Lib.hid hrs
                  have KP := Lib.hid KP_
                  clear RR_ hrs KP_
                  by_cases hlc : c < C
                  · obtain ⟨bv, ov, e1, cv⟩ := (RV.out.keep KP.out (.inr (by omega))).fs.cell c hlc
                    injection e1 with e1
                    subst e1
                    have hcap6 := KS2.out.fs.cap1
                    have hkv := RV.out.fs.cap1
                    have cs := row_cell (KS2.out.keep KP.out (.inl (Nat.le_refl _))) hlq
                    have co := row_cell RR.out hlc
                    have fo := row_fz RR.out c
                    go_wp2_with fail
                    refine wp_dr 14 [0, 0, 0, 0, 0, 0, 0, 0, 0, 0, 0, 0, 1, 1, 0, 0] (by kernel_rfl) (by kernel_rfl) ?_
                    simp only [List.take_succ_cons, List.take_zero, List.drop_succ_cons, List.drop_zero]
                    iterate 14 (with_reducible refine dr_step ?_; intro K hK; go_simp; (try intro _); refine hK _ _ ?_; clear hK K)
                    refine wpR_nil (fun nq => ?_)
                    go_wp2
                    go_roundw
                    case rel =>
                      have g1 := get_of HR2.out hlc
                      rw [mx_at] at g1
                      have g2 := get_of HSH.out hlq
                      exact ⟨c + 1, _, by omega, by go_num, (row_put RR.out c _).drew _, mx_step HR2.out hlc (by rw [fres_fop, fop_fres_r, fop_l .add g1, fop_l .mul g2]; rfl), Keep.drew (Keep.put KP.out (Nat.le_refl _) zr5 _) _⟩
                    case measure => simp [intOf]; omega
                  · have e : C = c := by omega
                    subst e
                    go_wp2
                    go_roundw
                    case rel => exact ⟨q + 1, rs2, by omega, by go_num, RR.out, by have := HR2.out; rwa [mx_end] at this, KK.out.trans KP.out⟩
                    case measure => simp [intOf]; omega
              · have e : N = q := by omega
                subst e
                have BX : Below wi.heap.size wi wr := HOB.out.trans (((B5.out.trans (B6.out.mono z5)).mono zij).trans (KP.out.below (by omega) (by omega)))
                have ACC2 := HA.out.next BX (by omega)
                have AC := Lib.hid ACC2
                have ZB := Lib.hid BX
                clear ACC2 BX
                obtain ⟨b0', b1', b2', b3'⟩ := AC.out.box
                go_wp2_with (at_builtin; refine wpList_append_own _ rfl (.tmp 133) (.tmp 134) 22 rfl w5.heap.size 45 i0 (.float .f32 0) 1 4 Try.underlying22 HI.out HZ0.out HZ1.out HZ2.out rfl (by decide) (.slice a' k cap') k (fl us) rfl AC.out.own ⟨x5.heap.size, 0, none⟩ C C (fl rs) rfl (by rw [fl_length, Nat.mul_one]; exact RR.out.fs.len.symm) (fs_news RR.out.fs) (fl_one _) (by unfold maxLen; omega) (by omega) (by omega) ?_)
                intro v' x7 hown hgr _
                obtain ⟨a2, cap2', rfl, bx, fr, acc2⟩ := Acc.apps (by omega) AC.out (by omega) RR.out.fs.len.symm hown hgr
                have AC2 := Lib.hid acc2
                clear acc2 hown hgr b0' b1' b2' b3'
                obtain ⟨b0', b1', b2', b3'⟩ := bx
                go_wp2
                go_roundw
                case rel => exact ⟨i + 1, k + C, a2, cap2', us ++ rs, by omega, by go_num, (by have := hk.out; show k + C = _; rw [Nat.succ_mul]; omega), AC2.out, by
                  have hk2 := hk.out
                  subst hk2
                  refine tab_row HY.out ?_
                  rw [HRS.out]
                  show _ = (upto (fun c => ac xs ys zs D C (ct true R i) i (ct true R i) c) C).map (cn .f32)
                  rw [← HN.out]⟩
                case measure => simp [intOf]; omega
          · have hn1 : N = R := by omega
            have hn2 : ¬ N < R := hNR2
            clear hn1
            go_wp2_with fail
            clear q0 q1 q2 q3
            refine (soft.softS sa N sc' (fun q => ss[q]?.getD 0) _ ⟨hN0, by omega⟩ (fs_fun (Fs.own HO.out.own))).mono ?_
            rintro e x5 ⟨g2, cap6, hs, rfl, RS_, hsh, T5⟩
            have RS5 := Lib.hid RS_
            have HSH := Lib.hid (sh_list HSS.out hsh)
            have B5 := Lib.hid T5
            have z5 := T5.size
            have JC5 := Lib.hid (JC.out.below T5)
            clear RS_ hsh T5 HO
            obtain ⟨q0, q1, q2, q3⟩ := JC5.out
            go_wp2_with (at_make; refine wpList_make_full _ rfl _ _ 22 rfl x5.heap.size 45 i0 (.float .f32 0) 1 Try.underlying22 HI.out HZ0.out HZ1.out _ _ _ _ C rfl rfl rfl rfl (by rw [HZ2.out]; omega) (by unfold maxLen; omega) (Nat.le_refl _) ?_)
            intro x6 hown hgr
            rw [zeros_fl] at hown
            clear q0 q1 q2 q3
            have T6 := bel_grown hgr
            have R6 := Lib.hid (Row.of hown T6.size)
            have B6 := Lib.hid T6
            have z6 := T6.size
            clear hown hgr T6
            have RS := Lib.hid (RS5.out.below B6.out)
            have JC6 := Lib.hid (JC5.out.below B6.out)
            have BW6 := Lib.hid (BJ.out.trans ((B5.out.trans (B6.out.mono z5)).mono BJ.out.size))
            have zr5 : x5.heap.size < x6.heap.size := (R6.out.own.lt x5.heap.size rfl).2
            go_wp2_with fail
            go_loopw [17] (fun q w' => ∃ (q' : Nat) (rs : List Nat), q' ≤ N ∧ q = .int .i64 q' ∧ Row w' x5.heap.size x6.heap.size 45 (.slice (some ⟨x5.heap.size, 0, none⟩) C C) C rs ∧ rs.map (cn .f32) = (upto (ac xs ys zs D C N i q') C).map (cn .f32) ∧ Keep x5.heap.size x6.heap.size x6 w') (fun q _ => N - (intOf q).toNat)
            case atStart => exact ⟨0, _, Nat.zero_le _, rfl, R6.out, by rw [zeros_upto]; rfl, Keep.refl _ _ _⟩
            case round =>
              obtain ⟨q, rs, hq, rfl, RR_, hrs, KP_⟩ := hrel
              have RR := Lib.hid RR_
              have HRS := Lib.hid hrs
              have KP := Lib.hid KP_
              clear RR_ hrs KP_
              have zkp := KP.out.size
              by_cases hlq : q < N
              · have rCq := row_end (C := C) (show q < R by omega)
                have KC := Lib.hid (JC6.out.keep KP.out (.inl (by omega)))
                have KS := Lib.hid (RS.out.keep KP.out (.inl (Nat.le_refl _)))
                have BWR := Lib.hid (BW6.out.trans (KP.out.below (B := w.heap.size) (by omega) (by omega)))
                go_wp2_with fail
                refine (rowS.specRow R C q bz oz n3 cap3 _ zs _ ⟨hR.1, by omega⟩ hC (by omega) HN3.out (H3.out.below BWR.out) KC.out).mono ?_
                rintro e wk ⟨av, kv, rfl, RV_, A⟩
                have zwk := A.size
                have RV := Lib.hid RV_
                have RK := Lib.hid (RR.out.below A)
                have KK := Lib.hid (KP.out.trans (Keep.of A))
                have KS2 := Lib.hid (KS.out.below A)
                clear A RR RV_ KC KS BWR
                go_wp2_with fail
                go_loopw [113] (fun c w' => ∃ (c' : Nat) (rs : List Nat), c' ≤ C ∧ c = .int .i64 c' ∧ Row w' x5.heap.size x6.heap.size 45 (.slice (some ⟨x5.heap.size, 0, none⟩) C C) C rs ∧ rs.map (cn .f32) = (upto (mx (ac xs ys zs D C N i (q + 1)) (ac xs ys zs D C N i q) c') C).map (cn .f32) ∧ Keep x5.heap.size x6.heap.size wk w') (fun c _ => C - (intOf c).toNat)
                case atStart => exact ⟨0, _, Nat.zero_le _, rfl, RK.out, by rw [mx_start]; exact HRS.out, Keep.refl _ _ _⟩
                case round =>
                  obtain ⟨c, rs2, hc, rfl, RR_, hrs, KP_⟩ := hrel
                  have RR := Lib.hid RR_
                  have HR2 := Lib.hid hrs
                  have KP := Lib.hid KP_
                  clear RR_ hrs KP_
                  by_cases hlc : c < C
                  · obtain ⟨bv, ov, e1, cv⟩ := (RV.out.keep KP.out (.inr (by omega))).fs.cell c hlc
                    injection e1 with e1
                    subst e1
                    have hcap6 := KS2.out.fs.cap1
                    have hkv := RV.out.fs.cap1
                    have cs := row_cell (KS2.out.keep KP.out (.inl (Nat.le_refl _))) hlq
                    have co := row_cell RR.out hlc
                    have fo := row_fz RR.out c
                    go_wp2_with fail
                    refine wp_dr 14 [0, 0, 0, 0, 0, 0, 0, 0, 0, 0, 0, 0, 1, 1, 0, 0] (by kernel_rfl) (by kernel_rfl) ?_
                    simp only [List.take_succ_cons, List.take_zero, List.drop_succ_cons, List.drop_zero]
                    iterate 14 (with_reducible refine dr_step ?_; intro K hK; go_simp; (try intro _); refine hK _ _ ?_; clear hK K)
                    refine wpR_nil (fun nq => ?_)
                    go_wp2
                    go_roundw
                    case rel =>
                      have g1 := get_of HR2.out hlc
                      rw [mx_at] at g1
                      have g2 := get_of HSH.out hlq
                      exact ⟨c + 1, _, by omega, by go_num, (row_put RR.out c _).drew _, mx_step HR2.out hlc (by rw [fres_fop, fop_fres_r, fop_l .add g1, fop_l .mul g2]; rfl), Keep.drew (Keep.put KP.out (Nat.le_refl _) zr5 _) _⟩
                    case measure => simp [intOf]; omega
                  · have e : C = c := by omega
                    subst e
                    go_wp2
                    go_roundw
                    case rel => exact ⟨q + 1, rs2, by omega, by go_num, RR.out, by have := HR2.out; rwa [mx_end] at this, KK.out.trans KP.out⟩
                    case measure => simp [intOf]; omega
              · have e : N = q := by omega
                subst e
                have BX : Below wi.heap.size wi wr := HOB.out.trans (((B5.out.trans (B6.out.mono z5)).mono zij).trans (KP.out.below (by omega) (by omega)))
                have ACC2 := HA.out.next BX (by omega)
                have AC := Lib.hid ACC2
                have ZB := Lib.hid BX
                clear ACC2 BX
                obtain ⟨b0', b1', b2', b3'⟩ := AC.out.box
                go_wp2_with (at_builtin; refine wpList_append_own _ rfl (.tmp 133) (.tmp 134) 22 rfl w5.heap.size 45 i0 (.float .f32 0) 1 4 Try.underlying22 HI.out HZ0.out HZ1.out HZ2.out rfl (by decide) (.slice a' k cap') k (fl us) rfl AC.out.own ⟨x5.heap.size, 0, none⟩ C C (fl rs) rfl (by rw [fl_length, Nat.mul_one]; exact RR.out.fs.len.symm) (fs_news RR.out.fs) (fl_one _) (by unfold maxLen; omega) (by omega) (by omega) ?_)
                intro v' x7 hown hgr _
                obtain ⟨a2, cap2', rfl, bx, fr, acc2⟩ := Acc.apps (by omega) AC.out (by omega) RR.out.fs.len.symm hown hgr
                have AC2 := Lib.hid acc2
                clear acc2 hown hgr b0' b1' b2' b3'
                obtain ⟨b0', b1', b2', b3'⟩ := bx
                go_wp2
                go_roundw
                case rel => exact ⟨i + 1, k + C, a2, cap2', us ++ rs, by omega, by go_num, (by have := hk.out; show k + C = _; rw [Nat.succ_mul]; omega), AC2.out, by
                  have hk2 := hk.out
                  subst hk2
                  refine tab_row HY.out ?_
                  rw [HRS.out]
                  show _ = (upto (fun c => ac xs ys zs D C (ct true R i) i (ct true R i) c) C).map (cn .f32)
                  rw [← HN.out]⟩
                case measure => simp [intOf]; omega
    · have e : i = R := by omega
      have hme : k = R * C := by rw [← e]; exact hk
      clear hk e
      subst hme
      have BW : Below w.heap.size w wr := T.trans (acc.below.mono (by omega))
      have ZR := Lib.hid (ZR.out.upto acc.below (by omega))
      obtain ⟨b0', b1', b2', b3'⟩ := acc.box
      have AC := Lib.hid acc
      have HY := Lib.hid hus
      clear acc hus
      have zz := AC.out.below.size
      obtain ⟨⟨ZR0, ZR1, ZR2, ZR3⟩, ZR4, ZR5, ZR6⟩ := ZR.out
      go_wp2
      refine bodyPost_ret (v := .tuple #[.agg #[.int .i64 (R : Int), .int .i64 (C : Int), .slice a' (R * C) cap'], .bool true]) (by simp [results, Try.results25, go_sem, ZR0, ZR1, ZR2]) rfl ?_
      exact RT_end BW (by omega) (AC.out.row (by omega)) (by omega) HY.out (upto_length _ _)
set_option maxRecDepth 100000 in
set_option maxHeartbeats 4000000 in
theorem attS_false (R D C : Nat) (ba oa n cap : Nat) (xs : List Nat) (bb ob n2 cap2 : Nat) (ys : List Nat) (bz oz n3 cap3 : Nat) (zs : List Nat) (w : World) (hR : 0 < R ∧ R ≤ 8) (hD : 0 < D ∧ D ≤ 16) (hC : 0 < C ∧ C ≤ 16) (hn : n = R * D) (hn2 : n2 = R * D) (hn3 : n3 = R * C) (hv1 : decide (vt (R : Int) (D : Int) n) = true) (hv2 : decide (vt (R : Int) (D : Int) n2) = true) (hv3 : decide (vt (R : Int) (C : Int) n3) = true) (h1 : Fs w (some ⟨ba, oa, none⟩) n cap xs) (h2 : Fs w (some ⟨bb, ob, none⟩) n2 cap2 ys) (h3 : Fs w (some ⟨bz, oz, none⟩) n3 cap3 zs) :
    Calls Try.prog 25 #[.agg #[.int .i64 (R : Int), .int .i64 (D : Int), .slice (some ⟨ba, oa, none⟩) n cap], .agg #[.int .i64 (R : Int), .int .i64 (D : Int), .slice (some ⟨bb, ob, none⟩) n2 cap2], .agg #[.int .i64 (R : Int), .int .i64 (C : Int), .slice (some ⟨bz, oz, none⟩) n3 cap3], .bool false] w (RT 45 w (R : Int) (C : Int) (upto (tab (AV xs ys zs D C R false) C) (R * C)) true) := by
  have H1 := Lib.hid h1
  have H2 := Lib.hid h2
  have H3 := Lib.hid h3
  have ca1 := h1.cap1
  have ca2 := h1.cap2
  have cb1 := h2.cap1
  have cb2 := h2.cap2
  have cz1 := h3.cap1
  have cz2 := h3.cap2
  have HM1 := Lib.hid (Nat.le_trans ca1 ca2)
  have HM2 := Lib.hid (Nat.le_trans cb1 cb2)
  have HM3 := Lib.hid (Nat.le_trans cz1 cz2)
  have HCA := Lib.hid ca2
  have HCB := Lib.hid cb2
  have HCZ := Lib.hid cz2
  unfold maxLen at ca2 cb2 cz2
  have qa1 := Nat.le_of_eq hn
  have qa2 := Nat.le_of_eq hn.symm
  have qb1 := Nat.le_of_eq hn2
  have qb2 := Nat.le_of_eq hn2.symm
  have qz1 := Nat.le_of_eq hn3
  have qz2 := Nat.le_of_eq hn3.symm
  have HN1 := Lib.hid hn
  have HN2 := Lib.hid hn2
  have HN3 := Lib.hid hn3
  have HV1 := Lib.hid hv1
  have HV2 := Lib.hid hv2
  have HV3 := Lib.hid hv3
  have HS1 : Hid (inr (R : Int) 1 8 = true) := by unfold Hid inr; simp; omega
  have eRD : R * D ≤ 8 * 16 := Nat.mul_le_mul hR.2 hD.2
  have eRC : R * C ≤ 8 * 16 := Nat.mul_le_mul hR.2 hC.2
  clear h1 h2 h3 hn hn2 hn3 hv1 hv2 hv3
  go_enter Try.func25, Try.ntmps25
  go_wp2_with fail
  refine calls_at ?_
  intro w1 hA
  have A : Below w.heap.size w w1 := by rw [hA]; exact ((((Below.refl _ _).alloc (Nat.le_refl _) _).alloc (by simp <;> omega) _).alloc (by simp <;> omega) _).alloc (by simp <;> omega) _
  have zw1 : w1.heap.size = w.heap.size + 1 + 1 + 1 + 1 := by rw [hA]; simp
  have QA_ : Box w1 (w.heap.size) ↑R ↑D (some ⟨ba, oa, none⟩) n cap := by rw [hA]; exact ⟨by simp [go_sem], by simp [go_sem], by simp [go_sem], by simp <;> omega⟩
  have QB_ : Box w1 (w.heap.size + 1) ↑R ↑D (some ⟨bb, ob, none⟩) n2 cap2 := by rw [hA]; exact ⟨by simp [go_sem], by simp [go_sem], by simp [go_sem], by simp <;> omega⟩
  have QC_ : Box w1 (w.heap.size + 1 + 1) ↑R ↑C (some ⟨bz, oz, none⟩) n3 cap3 := by rw [hA]; exact ⟨by simp [go_sem], by simp [go_sem], by simp [go_sem], by simp <;> omega⟩
  have ZR_ : Zbox w1 (w.heap.size + 1 + 1 + 1) := by rw [hA]; exact ⟨⟨by simp [go_sem], by simp [go_sem], by simp [go_sem], by simp <;> omega⟩, by simp [go_sem], by simp [go_sem], by simp [go_sem]⟩
  clear hA
  have zw1a := Nat.le_of_eq zw1
  have zw1b := Nat.le_of_eq zw1.symm
  clear zw1
  have T := A
  clear A
  have QA := Lib.hid QA_
  clear QA_
  have QB := Lib.hid QB_
  clear QB_
  have QC := Lib.hid QC_
  clear QC_
  have ZR := Lib.hid ZR_
  clear ZR_
  have hRI : (R : Int) ≤ 8 := by omega
  refine (isT _ _ _ _ _ _ _ _ HM1.out QA.out.c0 QA.out.c1 QA.out.c2).mono ?_
  rintro e w2 ⟨rfl, mm, hw⟩
  have A := below_of_drew hw
  clear hw
  have T := T.trans (A.mono T.size)
  have QA := Lib.hid (QA.out.below A)
  have QB := Lib.hid (QB.out.below A)
  have QC := Lib.hid (QC.out.below A)
  have ZR := Lib.hid (ZR.out.below A)
  have zw2 := A.size
  clear A
  rw [HV1.out]
  obtain ⟨QB0, QB1, QB2, QB3⟩ := QB.out
  go_wp2_with fail
  clear QB0 QB1 QB2 QB3
  refine (isT _ _ _ _ _ _ _ _ HM2.out QB.out.c0 QB.out.c1 QB.out.c2).mono ?_
  rintro e w3 ⟨rfl, mm, hw⟩
  have A := below_of_drew hw
  clear hw
  have T := T.trans (A.mono T.size)
  have QA := Lib.hid (QA.out.below A)
  have QB := Lib.hid (QB.out.below A)
  have QC := Lib.hid (QC.out.below A)
  have ZR := Lib.hid (ZR.out.below A)
  have zw3 := A.size
  clear A
  rw [HV2.out]
  obtain ⟨QC0, QC1, QC2, QC3⟩ := QC.out
  go_wp2_with fail
  clear QC0 QC1 QC2 QC3
  refine (isT _ _ _ _ _ _ _ _ HM3.out QC.out.c0 QC.out.c1 QC.out.c2).mono ?_
  rintro e w4 ⟨rfl, mm, hw⟩
  have A := below_of_drew hw
  clear hw
  have T := T.trans (A.mono T.size)
  have QA := Lib.hid (QA.out.below A)
  have QB := Lib.hid (QB.out.below A)
  have QC := Lib.hid (QC.out.below A)
  have ZR := Lib.hid (ZR.out.below A)
  have zw4 := A.size
  clear A
  rw [HV3.out]
  obtain ⟨QA0, QA1, QA2, QA3⟩ := QA.out
  obtain ⟨QB0, QB1, QB2, QB3⟩ := QB.out
  obtain ⟨QC0, QC1, QC2, QC3⟩ := QC.out
  go_wp2_with fail
  clear QA0 QA1 QA2 QA3 QB0 QB1 QB2 QB3 QC0 QC1 QC2 QC3
  refine (rootS _ _).mono ?_
  rintro e w5 ⟨ru, rfl, hru, A⟩
  have T := T.trans (A.mono T.size)
  have QA := Lib.hid (QA.out.below A)
  have QB := Lib.hid (QB.out.below A)
  have QC := Lib.hid (QC.out.below A)
  have ZR := Lib.hid (ZR.out.below A)
  have zw5 := A.size
  clear A
  have HRU := Lib.hid (rt_of D hru)
  clear hru hRI
  obtain ⟨QA0, QA1, QA2, QA3⟩ := QA.out
  obtain ⟨QC0, QC1, QC2, QC3⟩ := QC.out
  go_wp2_with fail
  clear QA0 QA1 QA2 QA3 QC0 QC1 QC2 QC3
  refine reg_at ?_
  intro wS hA
  obtain ⟨ACC, A⟩ := accStartP hA
  clear hA A
  have HACC := Lib.hid ACC
  clear ACC
  obtain ⟨i0, hi, hz0, hz1, hz2⟩ := info_parts infoF32
  have HI := Lib.hid hi
  have HZ0 := Lib.hid hz0
  have HZ1 := Lib.hid hz1
  have HZ2 := Lib.hid hz2
  clear hi hz0 hz1 hz2
  obtain ⟨b, hb⟩ : ∃ b, b = w5.heap.size + 1 := ⟨_, rfl⟩
  have hb1 := Nat.le_of_eq hb
  have hb2 := Nat.le_of_eq hb.symm
  rw [← hb] at HACC ⊢
  clear hb
  go_loopw [12] (fun i w' => ∃ (i' k : Nat) (a' : Option Addr) (cap' : Nat) (us : List Nat), i' ≤ R ∧ i = .int .i64 i' ∧ Hid (k = i' * C) ∧ Acc w5.heap.size b 45 (R : Int) (C : Int) w5 w' k a' cap' us ∧ us.map (cn .f32) = (upto (tab (AV xs ys zs D C R false) C) k).map (cn .f32)) (fun i _ => R - (intOf i).toNat)
  case atStart => exact ⟨0, 0, _, _, _, Nat.zero_le _, rfl, (Nat.zero_mul _).symm, HACC.out, rfl⟩
  case round =>
    obtain ⟨i, k, a', cap', us, hi, rfl, hk, acc, hus⟩ := hrel
    obtain ⟨p0, p1, p2, p3⟩ := QA.out.upto acc.below (by omega)
    by_cases hlt : i < R
    · have HA := Lib.hid acc
      have HY := Lib.hid hus
      clear acc hus
      obtain ⟨wi, rfl⟩ : ∃ wi : World, wi = wr := ⟨_, rfl⟩
      have BI : Below w.heap.size w wi := T.trans (HA.out.below.mono (by omega))
      have HBI := Lib.hid BI
      clear BI
      have zbi : b < wi.heap.size := HA.out.box.lt
      have IA := Lib.hid (QA.out.upto HA.out.below (by omega))
      have IB := Lib.hid (QB.out.upto HA.out.below (by omega))
      have IC := Lib.hid (QC.out.upto HA.out.below (by omega))
      have rD := row_end (C := D) hlt
      have rC := row_end (C := C) hlt
      have hkC : k + C ≤ R * C := by have := hk.out; omega
      go_wp2_with fail
      clear p0 p1 p2 p3
      have hN8 : R ≤ 8 := hR.2
      have hN0 : 0 < R := hR.1
      have hNR : R ≤ R := Nat.le_refl _
      have HN := Lib.hid (show R = ct false R i from rfl)
      have ST := Lib.hid (own_start wi 45)
      go_loopw [13, 14] (fun v j w' => ∃ (j' : Nat) (sa : Option Addr) (sc' : Nat) (ss : List Nat), j' ≤ R ∧ j = .int .i64 j' ∧ v = .slice sa j' sc' ∧ OwnS wi.heap.size 45 wi w' j' sa sc' ss ∧ ss.map (cn .f32) = (upto (sc xs ys D i) j').map (cn .f32)) (fun _ j _ => R - (intOf j).toNat)
      case atStart => exact ⟨0, _, _, _, Nat.zero_le _, rfl, rfl, ST.out, rfl⟩
      case round =>
        obtain ⟨j, sa, sc', ss, hj, rfl, rfl, own, hss⟩ := hrel
        have HO := Lib.hid own
        have HSS := Lib.hid hss
        clear own hss
        have JB := Lib.hid (IB.out.upto HO.out.below (by omega))
        by_cases hlj : j < R
        · have rDj := row_end (C := D) (show j < R by omega)
          have hjR : j < R := by omega
          have hji : True := trivial
          skip
          have BW := Lib.hid (HBI.out.trans (HO.out.below.mono (by omega)))
          have JA := Lib.hid (IA.out.upto HO.out.below (by omega))
          have zij : wi.heap.size ≤ wr.heap.size := HO.out.le
          obtain ⟨q0, q1, q2, q3⟩ := JB.out
          clear hji
          go_wp2_with fail
          clear q0 q1 q2 q3
          refine (rowS.specRow R D i ba oa n cap _ xs _ ⟨hR.1, by omega⟩ hD hlt HN1.out (H1.out.below BW.out) JA.out).mono ?_
          rintro e v1 ⟨a1, k1, rfl, R1_, A1⟩
          have R1 := Lib.hid R1_
          have O1 := Lib.hid (HO.out.next A1)
          have JB1 := Lib.hid (JB.out.below A1)
          have BW1 := Lib.hid (BW.out.trans (A1.mono BW.out.size))
          clear R1_ A1 HO JB JA
          go_wp2_with fail
          refine (rowS.specRow R D j bb ob n2 cap2 _ ys _ ⟨hR.1, by omega⟩ hD hjR HN2.out (H2.out.below BW1.out) JB1.out).mono ?_
          rintro e v2 ⟨a2, k2, rfl, R2_, A2⟩
          have R2 := Lib.hid R2_
          have R12 := Lib.hid (R1.out.below A2)
          have O2 := Lib.hid (O1.out.next A2)
          clear R2_ A2 O1 JB1 R1
          go_wp2_with fail
          refine (dotS _ _ D _ _ (rl xs D i) (rl ys D j) _ (by omega) R12.out.fs R2.out.fs).mono ?_
          rintro e v3 ⟨du, rfl, hdu_, A3⟩
          have hdu := Lib.hid hdu_
          have O3 := Lib.hid (O2.out.next A3)
          clear hdu_ A3 O2 R12 R2
          have HU := Lib.hid (show cn .f32 (fres .quo .f32 du ru v3) = cn .f32 (sc xs ys D i j) by rw [fres_fop, fop_l .quo hdu.out, fop_r .quo HRU.out]; rfl)
          go_wp2_with (at_builtin; refine wpList_append_own _ rfl (.tmp 88) (.tmp 96) 22 rfl wi.heap.size 45 i0 (.float .f32 0) 1 4 Try.underlying22 HI.out HZ0.out HZ1.out HZ2.out rfl (by decide) (.slice sa j sc') j (fl ss) rfl ((O3.out.drew _).alloc _).own ⟨v3.heap.size, 0, none⟩ 1 1 [.float .f32 (fres .quo .f32 du ru v3)] rfl rfl ?c1 ?c2 ?c3 ?c4 ?c5 ?_)
          case c1 =>
            intro jj v hjj
            match jj, hjj with
            | 0, hjj => simp at hjj; subst hjj; exact cell_new (v3.drewN _) _ _
          case c2 => intro v hv; simp at hv; subst hv; rfl
          case c3 => unfold maxLen; omega
          case c4 => omega
          case c5 => have := O3.out.le; simp <;> omega
          intro v' w2 hown hgr _
          obtain ⟨sa2, sc2, rfl, O4_⟩ := OwnS.app (us := [fres .quo .f32 du ru v3]) (O3.out.drew _) hown hgr
          have O4 := Lib.hid O4_
          clear O4_ hown hgr
          go_wp2
          go_roundw
          case rel => exact ⟨j + 1, sa2, sc2, ss ++ [_], by omega, by go_num, rfl, O4.out, upto_step HSS.out HU.out⟩
          case measure => simp [intOf]; omega
        · have e : R = j := by omega
          subst e
          obtain ⟨wj, rfl⟩ : ∃ wj : World, wj = wr := ⟨_, rfl⟩
          have JC := Lib.hid (IC.out.upto HO.out.below (by omega))
          have BJ := Lib.hid (HBI.out.trans (HO.out.below.mono (by omega)))
          have zij : wi.heap.size ≤ wj.heap.size := HO.out.le
          have HOB := Lib.hid (show Below wi.heap.size wi wj from HO.out.below)
      
          obtain ⟨q0, q1, q2, q3⟩ := JB.out
          go_wp2_with fail
          clear q0 q1 q2 q3
          refine (soft.softS sa R sc' (fun q => ss[q]?.getD 0) _ ⟨hN0, by omega⟩ (fs_fun (Fs.own HO.out.own))).mono ?_
          rintro e x5 ⟨g2, cap6, hs, rfl, RS_, hsh, T5⟩
          have RS5 := Lib.hid RS_
          have HSH := Lib.hid (sh_list HSS.out hsh)
          have B5 := Lib.hid T5
          have z5 := T5.size
          have JC5 := Lib.hid (JC.out.below T5)
          clear RS_ hsh T5 HO
          obtain ⟨q0, q1, q2, q3⟩ := JC5.out
          go_wp2_with (at_make; refine wpList_make_full _ rfl _ _ 22 rfl x5.heap.size 45 i0 (.float .f32 0) 1 Try.underlying22 HI.out HZ0.out HZ1.out _ _ _ _ C rfl rfl rfl rfl (by rw [HZ2.out]; omega) (by unfold maxLen; omega) (Nat.le_refl _) ?_)
          intro x6 hown hgr
          rw [zeros_fl] at hown
          clear q0 q1 q2 q3
          have T6 := bel_grown hgr
          have R6 := Lib.hid (Row.of hown T6.size)
          have B6 := Lib.hid T6
          have z6 := T6.size
          clear hown hgr T6
          have RS := Lib.hid (RS5.out.below B6.out)
          have JC6 := Lib.hid (JC5.out.below B6.out)
          have BW6 := Lib.hid (BJ.out.trans ((B5.out.trans (B6.out.mono z5)).mono BJ.out.size))
          have zr5 : x5.heap.size < x6.heap.size := (R6.out.own.lt x5.heap.size rfl).2
          go_wp2_with fail
          go_loopw [17] (fun q w' => ∃ (q' : Nat) (rs : List Nat), q' ≤ R ∧ q = .int .i64 q' ∧ Row w' x5.heap.size x6.heap.size 45 (.slice (some ⟨x5.heap.size, 0, none⟩) C C) C rs ∧ rs.map (cn .f32) = (upto (ac xs ys zs D C R i q') C).map (cn .f32) ∧ Keep x5.heap.size x6.heap.size x6 w') (fun q _ => R - (intOf q).toNat)
          case atStart => exact ⟨0, _, Nat.zero_le _, rfl, R6.out, by rw [zeros_upto]; rfl, Keep.refl _ _ _⟩
          case round =>
            obtain ⟨q, rs, hq, rfl, RR_, hrs, KP_⟩ := hrel
            have RR := Lib.hid RR_
            have HRS := Lib.hid hrs
            have KP := Lib.hid KP_
            clear RR_ hrs KP_
            have zkp := KP.out.size
            by_cases hlq : q < R
            · have rCq := row_end (C := C) (show q < R by omega)
              have KC := Lib.hid (JC6.out.keep KP.out (.inl (by omega)))
              have KS := Lib.hid (RS.out.keep KP.out (.inl (Nat.le_refl _)))
              have BWR := Lib.hid (BW6.out.trans (KP.out.below (B := w.heap.size) (by omega) (by omega)))
              go_wp2_with fail
              refine (rowS.specRow R C q bz oz n3 cap3 _ zs _ ⟨hR.1, by omega⟩ hC (by omega) HN3.out (H3.out.below BWR.out) KC.out).mono ?_
              rintro e wk ⟨av, kv, rfl, RV_, A⟩
              have zwk := A.size
              have RV := Lib.hid RV_
              have RK := Lib.hid (RR.out.below A)
              have KK := Lib.hid (KP.out.trans (Keep.of A))
              have KS2 := Lib.hid (KS.out.below A)
              clear A RR RV_ KC KS BWR
              go_wp2_with fail
              go_loopw [113] (fun c w' => ∃ (c' : Nat) (rs : List Nat), c' ≤ C ∧ c = .int .i64 c' ∧ Row w' x5.heap.size x6.heap.size 45 (.slice (some ⟨x5.heap.size, 0, none⟩) C C) C rs ∧ rs.map (cn .f32) = (upto (mx (ac xs ys zs D C R i (q + 1)) (ac xs ys zs D C R i q) c') C).map (cn .f32) ∧ Keep x5.heap.size x6.heap.size wk w') (fun c _ => C - (intOf c).toNat)
              case atStart => exact ⟨0, _, Nat.zero_le _, rfl, RK.out, by rw [mx_start]; exact HRS.out, Keep.refl _ _ _⟩
              case round =>
                obtain ⟨c, rs2, hc, rfl, RR_, hrs, KP_⟩ := hrel
                have RR := Lib.hid RR_
                have HR2 := Lib.hid hrs
                have KP := Lib.hid KP_
                clear RR_ hrs KP_
                by_cases hlc : c < C
                · obtain ⟨bv, ov, e1, cv⟩ := (RV.out.keep KP.out (.inr (by omega))).fs.cell c hlc
                  injection e1 with e1
                  subst e1
                  have hcap6 := KS2.out.fs.cap1
                  have hkv := RV.out.fs.cap1
                  have cs := row_cell (KS2.out.keep KP.out (.inl (Nat.le_refl _))) hlq
                  have co := row_cell RR.out hlc
                  have fo := row_fz RR.out c
                  go_wp2_with fail
                  refine wp_dr 14 [0, 0, 0, 0, 0, 0, 0, 0, 0, 0, 0, 0, 1, 1, 0, 0] (by kernel_rfl) (by kernel_rfl) ?_
                  simp only [List.take_succ_cons, List.take_zero, List.drop_succ_cons, List.drop_zero]
                  iterate 14 (with_reducible refine dr_step ?_; intro K hK; go_simp; (try intro _); refine hK _ _ ?_; clear hK K)
                  refine wpR_nil (fun nq => ?_)
                  go_wp2
                  go_roundw
                  case rel =>
                    have g1 := get_of HR2.out hlc
                    rw [mx_at] at g1
                    have g2 := get_of HSH.out hlq
                    exact ⟨c + 1, _, by omega, by go_num, (row_put RR.out c _).drew _, mx_step HR2.out hlc (by rw [fres_fop, fop_fres_r, fop_l .add g1, fop_l .mul g2]; rfl), Keep.drew (Keep.put KP.out (Nat.le_refl _) zr5 _) _⟩
                  case measure => simp [intOf]; omega
                · have e : C = c := by omega
                  subst e
                  go_wp2
                  go_roundw
                  case rel => exact ⟨q + 1, rs2, by omega, by go_num, RR.out, by have := HR2.out; rwa [mx_end] at this, KK.out.trans KP.out⟩
                  case measure => simp [intOf]; omega
            · have e : R = q := by omega
              subst e
              have BX : Below wi.heap.size wi wr := HOB.out.trans (((B5.out.trans (B6.out.mono z5)).mono zij).trans (KP.out.below (by omega) (by omega)))
              have ACC2 := HA.out.next BX (by omega)
              have AC := Lib.hid ACC2
              have ZB := Lib.hid BX
              clear ACC2 BX
              obtain ⟨b0', b1', b2', b3'⟩ := AC.out.box
              go_wp2_with (at_builtin; refine wpList_append_own _ rfl (.tmp 133) (.tmp 134) 22 rfl w5.heap.size 45 i0 (.float .f32 0) 1 4 Try.underlying22 HI.out HZ0.out HZ1.out HZ2.out rfl (by decide) (.slice a' k cap') k (fl us) rfl AC.out.own ⟨x5.heap.size, 0, none⟩ C C (fl rs) rfl (by rw [fl_length, Nat.mul_one]; exact RR.out.fs.len.symm) (fs_news RR.out.fs) (fl_one _) (by unfold maxLen; omega) (by omega) (by omega) ?_)
              intro v' x7 hown hgr _
              obtain ⟨a2, cap2', rfl, bx, fr, acc2⟩ := Acc.apps (by omega) AC.out (by omega) RR.out.fs.len.symm hown hgr
              have AC2 := Lib.hid acc2
              clear acc2 hown hgr b0' b1' b2' b3'
              obtain ⟨b0', b1', b2', b3'⟩ := bx
              go_wp2
              go_roundw
              case rel => exact ⟨i + 1, k + C, a2, cap2', us ++ rs, by omega, by go_num, (by have := hk.out; show k + C = _; rw [Nat.succ_mul]; omega), AC2.out, by
                have hk2 := hk.out
                subst hk2
                refine tab_row HY.out ?_
                rw [HRS.out]
                show _ = (upto (fun c => ac xs ys zs D C (ct false R i) i (ct false R i) c) C).map (cn .f32)
                rw [← HN.out]⟩
              case measure => simp [intOf]; omega
    · have e : i = R := by omega
      have hme : k = R * C := by rw [← e]; exact hk
      clear hk e
      subst hme
      have BW : Below w.heap.size w wr := T.trans (acc.below.mono (by omega))
      have ZR := Lib.hid (ZR.out.upto acc.below (by omega))
      obtain ⟨b0', b1', b2', b3'⟩ := acc.box
      have AC := Lib.hid acc
      have HY := Lib.hid hus
      clear acc hus
      have zz := AC.out.below.size
      obtain ⟨⟨ZR0, ZR1, ZR2, ZR3⟩, ZR4, ZR5, ZR6⟩ := ZR.out
      go_wp2
      refine bodyPost_ret (v := .tuple #[.agg #[.int .i64 (R : Int), .int .i64 (C : Int), .slice a' (R * C) cap'], .bool true]) (by simp [results, Try.results25, go_sem, ZR0, ZR1, ZR2]) rfl ?_
      exact RT_end BW (by omega) (AC.out.row (by omega)) (by omega) HY.out (upto_length _ _)
end Go.Proofs.Ytfgmpodmbbnijaa.att
