/- The law FnExactRoundModel holds for every input. No conditions. -/
import Derived.Test.YtclhemjanhhioaaOpenB
import Derived.ProofKit
import Derived.OpenShut
import Derived.ChangeOld
import Derived.WalkSmall
namespace Go.Proofs.Ytclhemjanhhioaa.roundModel
open Go.ChangeShapes Go.WideShapes Go.ChangeAt Go.RowKit Go.Fl Go.Reg
theorem mb_keep {lo hi : Nat} {w w' : World} {b : Nat} {a : Option Addr} {n cap : Nat} (h : MB w b a n cap) (k : Keep lo hi w w') (hd : b < lo ∨ hi ≤ b) : MB w' b a n cap :=
  ⟨(World.cell?_of_block (a := ⟨b, 0, none⟩) (k.block b h.lt hd)).trans h.c0, Nat.lt_of_lt_of_le h.lt k.size⟩
/-- RR, with the length by itself -/
def RN (w : World) (N : Nat) (ok : Bool) (L : List LD) (n : Nat) (e : Ending) (w' : World) : Prop :=
  ∃ S, Hid (CS L n S) ∧ N = S.length ∧ szs S N ≤ 1048576 ∧ ∃ a cap cs P C, e = .returned (.tuple #[.agg #[.slice a N cap], .bool ok]) ∧ Ml w' w.heap.size w'.heap.size a N cap S cs P C ∧ Below w.heap.size w w'
theorem RN.of {w w' : World} {L : List LD} {n : Nat} {e : Ending} (hs : szs L n ≤ 1048576) (h : RR w n L e w') : RN w (nR L n) (mv L n) L n e w' := by
  obtain ⟨S, hc, a, cap, cs, P, C, rfl, M, B⟩ := h
  have hl := hc.len
  have hz := hc.szs
  rw [hl] at M
  refine ⟨S, hc, hl.symm, by omega, a, cap, cs, P, C, by rw [hl], M, B⟩
set_option maxHeartbeats 8000000 in
theorem walk (w : World) (a : Option Addr) (n c : Nat) (L : List LD) (h1 : Ls w a n c L) (hb : ∀ x ∈ pm L n, x < 4294967296) :
    Calls Try.prog 8 #[.agg #[.slice a n c]] w fun e w' => e = .returned (.bool true) ∧ Below w.heap.size w w' := by
  have H1 := Lib.hid h1
  have HLN := Lib.hid h1.len
  have HB := Lib.hid hb
  clear h1 hb
  go_enter Try.func8, Try.ntmps8
  go_wp2_with fail
  refine calls_at ?_
  intro w1 hA
  obtain ⟨Q, A, z1, z2⟩ := mb_new hA
  clear hA
  have X := Lib.hid Q
  have T := A
  clear A Q
  refine (szMod _ _ _ _ _ _ (by omega) (by omega) (H1.out.below T)).mono ?_
  rintro e w2 ⟨r, rfl, k1, k2, B⟩
  have T := T.trans (B.mono T.size)
  have zs2 := B.size
  have X := Lib.hid (X.out.below B)
  clear B
  by_cases hs : (1048576 : Int) < (n : Int) + (szs L n : Int)
  · have e1 := k2 hs
    subst e1
    clear k1 k2
    go_wp2
    go_ret
    exact ⟨rfl, T⟩
  · have e1 := k1 (by omega)
    have hr : 0 ≤ r := by omega
    have hn2 : n ≤ 1048576 := by omega
    have hm2 : szs L n ≤ 1048576 := by omega
    clear k1 k2 e1 hs
    obtain ⟨N, hN⟩ : ∃ N, N = nR L n := ⟨_, rfl⟩
    obtain ⟨ok, hok⟩ : ∃ ok, ok = mv L n := ⟨_, rfl⟩
    have hS : N ≤ 1048576 := by rw [hN]; have := nR_le L n; omega
    have HN := Lib.hid hN
    have HOK := Lib.hid hok
    clear hN hok
    obtain ⟨X0, X1⟩ := X.out
    go_wp2_with fail
    clear X0 X1
    clear hr
    refine (toMod _ _ _ _ _ hn2 hm2 (H1.out.below T)).mono ?_
    rintro e w3 ⟨g1, cs1, A1, B1, C1, D1, Q1, rfl, M1_, A⟩
    have M1 := Lib.hid M1_
    clear M1_
    have T := T.trans (A.mono T.size)
    have X := Lib.hid (X.out.below A)
    have zw3 := A.size
    clear A
    go_wp2_with fail
    refine (specR _ _ _ _ _ hn2 hm2 HB.out (M1.out.lz HLN.out)).mono ?_
    rintro e w4 RR0
    have RR := RN.of hm2 RR0
    clear RR0
    rw [← HN.out, ← HOK.out] at RR
    obtain ⟨SKW, HCKW, hlKW_, hzKW, aKW, cKW, csKW, PKW, QKW, rfl, KW_, A⟩ := RR
    have KW := Lib.hid KW_
    have hlKW := Lib.hid hlKW_
    clear KW_ hlKW_
    have T := T.trans (A.mono T.size)
    have X := Lib.hid (X.out.below A)
    have M1 := Lib.hid (M1.out.below A)
    have zw4 := A.size
    clear A
    clear M1
    obtain ⟨X0, X1⟩ := X.out
    go_wp2_with fail
    clear X0 X1
    refine calls_at ?_
    intro w5 hA
    obtain ⟨Y_, A, yY1, yY2⟩ := mb_new hA
    clear hA
    have Y := Lib.hid Y_
    clear Y_
    have T := T.trans (A.mono T.size)
    have X := Lib.hid (X.out.below A)
    have KW := Lib.hid (KW.out.below A)
    have zw5 := A.size
    clear A
    refine (toMod _ _ _ _ _ hn2 hm2 (H1.out.below T)).mono ?_
    rintro e w6 ⟨g2, cs2, A2, B2, C2, D2, Q2, rfl, M2_, A⟩
    have M2 := Lib.hid M2_
    clear M2_
    have T := T.trans (A.mono T.size)
    have X := Lib.hid (X.out.below A)
    have Y := Lib.hid (Y.out.below A)
    have KW := Lib.hid (KW.out.below A)
    have zw6 := A.size
    clear A
    have hQ2 := M2.out.qn
    have hg2 := M2.out.gb
    have hb2 := (M2.out.own.lt _ rfl).1
    go_wp2_with fail
    refine calls_at ?_
    intro w7 hA
    obtain ⟨Z_, A, yZ1, yZ2⟩ := mb_new hA
    clear hA
    have Z := Lib.hid Z_
    clear Z_
    have T := T.trans (A.mono T.size)
    have X := Lib.hid (X.out.below A)
    have Y := Lib.hid (Y.out.below A)
    have KW := Lib.hid (KW.out.below A)
    have M2 := Lib.hid (M2.out.below A)
    have zw7 := A.size
    clear A
    refine (implR _ _ _ _ _ hn2 hm2 HB.out (M2.out.lz HLN.out)).mono ?_
    rintro e w8 RR0
    have RR := RN.of hm2 RR0
    clear RR0
    rw [← HN.out, ← HOK.out] at RR
    obtain ⟨SKG, HCKG, hlKG_, hzKG, aKG, cKG, csKG, PKG, QKG, rfl, KG_, A⟩ := RR
    have KG := Lib.hid KG_
    have hlKG := Lib.hid hlKG_
    clear KG_ hlKG_
    have T := T.trans (A.mono T.size)
    have X := Lib.hid (X.out.below A)
    have Y := Lib.hid (Y.out.below A)
    have Z := Lib.hid (Z.out.below A)
    have KW := Lib.hid (KW.out.below A)
    have M2 := Lib.hid (M2.out.below A)
    have zw8 := A.size
    clear A
    obtain ⟨Y0, Y1⟩ := Y.out
    go_wp2_with fail
    clear Y0 Y1
    refine calls_at ?_
    intro w9 hA
    obtain ⟨V_, A, yV1, yV2⟩ := mb_new hA
    clear hA
    have V := Lib.hid V_
    clear V_
    have T := T.trans (A.mono T.size)
    have X := Lib.hid (X.out.below A)
    have Y := Lib.hid (Y.out.below A)
    have Z := Lib.hid (Z.out.below A)
    have KW := Lib.hid (KW.out.below A)
    have M2 := Lib.hid (M2.out.below A)
    have KG := Lib.hid (KG.out.below A)
    have zw9 := A.size
    clear A
    refine (eqMod _ _ _ _ _ _ _ _ hS hzKG (KG.out.ls hlKG.out) (KW.out.ls hlKW.out) (fun j hj => HCKG.out.leq HCKW.out j (by rw [← HN.out]; exact hj))).mono ?_
    rintro e w10 ⟨rfl, A⟩
    have T := T.trans (A.mono T.size)
    have X := Lib.hid (X.out.below A)
    have Y := Lib.hid (Y.out.below A)
    have Z := Lib.hid (Z.out.below A)
    have V := Lib.hid (V.out.below A)
    have KW := Lib.hid (KW.out.below A)
    have M2 := Lib.hid (M2.out.below A)
    have KG := Lib.hid (KG.out.below A)
    have zw10 := A.size
    clear A
    go_wp2_with fail
    refine wp_bl 4 [0, 0, 2, 2, 0] (by kernel_rfl) (by kernel_rfl) ?_
    simp only [List.take_succ_cons, List.take_zero, List.drop_succ_cons, List.drop_zero]
    with_reducible refine bl_step ?_
    intro K hK
    go_simp
    first
      | (refine hK _ _ ?_)
      | (refine ⟨?_, fun w' hw' => ?_, hK _ _ ?_⟩
         rotate_left
         · obtain ⟨q0, q1⟩ := X.out.below hw'
           obtain ⟨p0, p1⟩ := Z.out.below hw'
           go_simp
           rfl
         go_simp)
    clear hK K
    with_reducible refine bl_step ?_
    intro K hK
    go_simp
    first
      | (refine hK _ _ ?_)
      | (refine ⟨?_, fun w' hw' => ?_, hK _ _ ?_⟩
         rotate_left
         · obtain ⟨q0, q1⟩ := X.out.below hw'
           obtain ⟨p0, p1⟩ := Z.out.below hw'
           go_simp
           rfl
         go_simp)
    clear hK K
    with_reducible refine bl_step ?_
    intro K hK
    go_simp
    intro _
    refine (toMod _ _ _ _ _ hn2 hm2 ((H1.out.below T).drew _)).mono ?_
    rintro e w11 ⟨g5, cs5, A5, A6, C5, C6, Q5, rfl, M5, A0⟩
    have A8 := (bdrew (Below.refl _ _) _).trans A0
    clear A0
    have T := T.trans (A8.mono T.size)
    have X := Lib.hid (X.out.below A8)
    have Y := Lib.hid (Y.out.below A8)
    have Z := Lib.hid (Z.out.below A8)
    have V := Lib.hid (V.out.below A8)
    have KW := Lib.hid (KW.out.below A8)
    have M2 := Lib.hid (M2.out.below A8)
    have KG := Lib.hid (KG.out.below A8)
    refine ⟨_, rfl, A8, hK _ _ ?_⟩
    clear hK K
    with_reducible refine bl_step ?_
    intro K hK
    go_simp
    intro _
    refine (eqMod _ _ _ _ _ _ _ _ hn2 hm2 ((M2.out.ls HLN.out).drew _) ((M5.ls HLN.out).drew _) (fun j _ => LEq.refl _)).mono ?_
    rintro e w12 ⟨rfl, A0⟩
    have A9 := (bdrew (Below.refl _ _) _).trans A0
    clear A0
    have T := T.trans (A9.mono T.size)
    have X := Lib.hid (X.out.below A9)
    have Y := Lib.hid (Y.out.below A9)
    have Z := Lib.hid (Z.out.below A9)
    have V := Lib.hid (V.out.below A9)
    have KW := Lib.hid (KW.out.below A9)
    have M2 := Lib.hid (M2.out.below A9)
    have KG := Lib.hid (KG.out.below A9)
    have zw12 := (A8.trans (A9.mono A8.size)).size
    refine ⟨_, rfl, A8.trans (A9.mono A8.size), hK _ _ ?_⟩
    clear hK K
    with_reducible refine wpR_nil (fun nq => ?_)
    clear A8 A9 M5
    generalize hA : w12.drewN nq = w13
    have A := below_of_drew hA.symm
    clear hA
    have T := T.trans (A.mono T.size)
    have X := Lib.hid (X.out.below A)
    have Y := Lib.hid (Y.out.below A)
    have Z := Lib.hid (Z.out.below A)
    have V := Lib.hid (V.out.below A)
    have KW := Lib.hid (KW.out.below A)
    have M2 := Lib.hid (M2.out.below A)
    have KG := Lib.hid (KG.out.below A)
    have zw13 := A.size
    clear A
    obtain ⟨Z0, Z1⟩ := Z.out
    go_wp2_with fail
    clear Z0 Z1
    refine (markMod _ _ _ _ w6.heap.size _ _ _ _ _ _ _ 1 _ hn2 hm2 (by omega) HLN.out M2.out hQ2 hg2 hb2).mono ?_
    rintro e w14 ⟨cs9, rfl, M9, A⟩
    clear M9
    clear M2
    have zA := A.size
    have T := T.trans (A.below (by have := T.size; omega) (by have := T.size; omega))
    have X := Lib.hid (mb_keep X.out A (by omega))
    have Y := Lib.hid (mb_keep Y.out A (by omega))
    have Z := Lib.hid (mb_keep Z.out A (by omega))
    have V := Lib.hid (mb_keep V.out A (by omega))
    have KW := Lib.hid (KW.out.keep A (by omega))
    have KG := Lib.hid (KG.out.keep A (by omega))
    clear A zA
    have hsj : 0 ≤ sj 1 L n := by unfold sj; omega
    obtain ⟨sq, hsq⟩ : ∃ sq, sq = sj 1 L n := ⟨_, rfl⟩
    rw [← hsq] at hsj ⊢
    clear hsq
    have hsd : decide (sq < 0) = false := by simp; omega
    obtain ⟨Y0, Y1⟩ := Y.out
    obtain ⟨V0, V1⟩ := V.out
    go_wp2_with fail
    clear Y0 Y1 V0 V1
    refine (eqMod _ _ _ _ _ _ _ _ hS hzKG (KG.out.ls hlKG.out) (KW.out.ls hlKW.out) (fun j hj => HCKG.out.leq HCKW.out j (by rw [← HN.out]; exact hj))).mono ?_
    rintro e w15 ⟨rfl, A⟩
    have T := T.trans (A.mono T.size)
    have X := Lib.hid (X.out.below A)
    have Y := Lib.hid (Y.out.below A)
    have Z := Lib.hid (Z.out.below A)
    have V := Lib.hid (V.out.below A)
    have KW := Lib.hid (KW.out.below A)
    have KG := Lib.hid (KG.out.below A)
    have zw15 := A.size
    clear A
    clear hsd hsj
    obtain ⟨V0, V1⟩ := V.out
    go_wp2_with fail
    clear V0 V1
    refine (markMl _ _ _ _ _ _ _ _ _ 1 _ hS hzKG (by omega) hlKG.out KG.out).mono ?_
    rintro e w16 ⟨cs10, rfl, KG_, A⟩
    have zA := A.size
    have T := T.trans (A.below (by have := T.size; omega) (by have := T.size; omega))
    have X := Lib.hid (mb_keep X.out A (by omega))
    have Y := Lib.hid (mb_keep Y.out A (by omega))
    have Z := Lib.hid (mb_keep Z.out A (by omega))
    have V := Lib.hid (mb_keep V.out A (by omega))
    have KW := Lib.hid (KW.out.keep A (by omega))
    clear A zA
    have KG := Lib.hid KG_
    clear KG_
    have hsj : 0 ≤ sj 1 SKG N := by unfold sj; omega
    obtain ⟨sq2, hsq⟩ : ∃ q, q = sj 1 SKG N := ⟨_, rfl⟩
    rw [← hsq] at hsj ⊢
    have HSQ := Lib.hid hsq
    clear hsq
    have hsd : decide (sq2 < 0) = false := by simp; omega
    obtain ⟨V0, V1⟩ := V.out
    go_wp2_with fail
    clear V0 V1
    refine (heldMod _ _ _ SKG 1 _ hS hzKG (by omega) hlKG.out (KG.out.ls (by rw [mkL_len]; exact hlKG.out))).mono ?_
    rintro e w17 ⟨rfl, A⟩
    have T := T.trans (A.mono T.size)
    have X := Lib.hid (X.out.below A)
    have Y := Lib.hid (Y.out.below A)
    have Z := Lib.hid (Z.out.below A)
    have V := Lib.hid (V.out.below A)
    have KW := Lib.hid (KW.out.below A)
    have KG := Lib.hid (KG.out.below A)
    have zw17 := A.size
    clear A
    rw [← HSQ.out]
    obtain ⟨X0, X1⟩ := X.out
    go_wp2_with fail
    clear X0 X1
    refine (toMod _ _ _ _ _ hn2 hm2 (H1.out.below T)).mono ?_
    rintro e w18 ⟨g3, cs3, A3, B3, C3, D3, Q3, rfl, M3_, A⟩
    have M3 := Lib.hid M3_
    clear M3_
    have T := T.trans (A.mono T.size)
    have X := Lib.hid (X.out.below A)
    have Y := Lib.hid (Y.out.below A)
    have Z := Lib.hid (Z.out.below A)
    have V := Lib.hid (V.out.below A)
    have KW := Lib.hid (KW.out.below A)
    have KG := Lib.hid (KG.out.below A)
    have zw18 := A.size
    clear A
    go_wp2_with fail
    refine (implR _ _ _ _ _ hn2 hm2 HB.out (M3.out.lz HLN.out)).mono ?_
    rintro e w19 RR0
    have RR := RN.of hm2 RR0
    clear RR0
    rw [← HN.out, ← HOK.out] at RR
    obtain ⟨SKH, HCKH, hlKH_, hzKH, aKH, cKH, csKH, PKH, QKH, rfl, KH_, A⟩ := RR
    have KH := Lib.hid KH_
    have hlKH := Lib.hid hlKH_
    clear KH_ hlKH_
    have T := T.trans (A.mono T.size)
    have X := Lib.hid (X.out.below A)
    have Y := Lib.hid (Y.out.below A)
    have Z := Lib.hid (Z.out.below A)
    have V := Lib.hid (V.out.below A)
    have KW := Lib.hid (KW.out.below A)
    have KG := Lib.hid (KG.out.below A)
    have M3 := Lib.hid (M3.out.below A)
    have zw19 := A.size
    clear A
    clear M3
    obtain ⟨Y0, Y1⟩ := Y.out
    go_wp2_with fail
    clear Y0 Y1
    refine calls_at ?_
    intro w20 hA
    obtain ⟨U_, A, yU1, yU2⟩ := mb_new hA
    clear hA
    have U := Lib.hid U_
    clear U_
    have T := T.trans (A.mono T.size)
    have X := Lib.hid (X.out.below A)
    have Y := Lib.hid (Y.out.below A)
    have Z := Lib.hid (Z.out.below A)
    have V := Lib.hid (V.out.below A)
    have KW := Lib.hid (KW.out.below A)
    have KG := Lib.hid (KG.out.below A)
    have KH := Lib.hid (KH.out.below A)
    have zw20 := A.size
    clear A
    refine (eqMod _ _ _ _ _ _ _ _ hS hzKH (KH.out.ls hlKH.out) (KW.out.ls hlKW.out) (fun j hj => HCKH.out.leq HCKW.out j (by rw [← HN.out]; exact hj))).mono ?_
    rintro e w21 ⟨rfl, A⟩
    have T := T.trans (A.mono T.size)
    have X := Lib.hid (X.out.below A)
    have Y := Lib.hid (Y.out.below A)
    have Z := Lib.hid (Z.out.below A)
    have V := Lib.hid (V.out.below A)
    have U := Lib.hid (U.out.below A)
    have KW := Lib.hid (KW.out.below A)
    have KG := Lib.hid (KG.out.below A)
    have KH := Lib.hid (KH.out.below A)
    have zw21 := A.size
    clear A
    obtain ⟨V0, V1⟩ := V.out
    go_wp2_with fail
    clear V0 V1
    refine (heldMod _ _ _ SKG 1 _ hS hzKG (by omega) hlKG.out (KG.out.ls (by rw [mkL_len]; exact hlKG.out))).mono ?_
    rintro e w22 ⟨rfl, A⟩
    have T := T.trans (A.mono T.size)
    have X := Lib.hid (X.out.below A)
    have Y := Lib.hid (Y.out.below A)
    have Z := Lib.hid (Z.out.below A)
    have V := Lib.hid (V.out.below A)
    have U := Lib.hid (U.out.below A)
    have KW := Lib.hid (KW.out.below A)
    have KG := Lib.hid (KG.out.below A)
    have KH := Lib.hid (KH.out.below A)
    have zw22 := A.size
    clear A
    rw [← HSQ.out]
    go_wp2
    go_ret
    exact ⟨rfl, T⟩
theorem own : ownKnob Try.prog.godebug = none := by kernel_rfl
theorem laidOut : laidOutB Try.prog = true := by kernel_rfl
set_option maxRecDepth 100000 in
set_option maxHeartbeats 2000000 in
theorem lifted (os : Os) (started : os.Started) (H : Type) (enc : TypeId × Value → H) :
    ReturnsInHanded {} Try.checked os 8 .any (Rows.fnExactRoundModelSpec.pre6 enc Try.prog Try.f8 Rows.fnExactRoundModelRow.domain false) (Rows.fnExactRoundModelSpec.post enc Try.prog Try.f8 false true false false) := by
  refine returnsInHanded_of_change (C := Try.checked) own started (by kernel_rfl) Try.func8
    (ChangeSpec.witness6 (enc := enc) (C := Try.checked) false ⟨#[], #[.agg #[.slice none 0 0]], []⟩ 8 (by kernel_rfl) (by kernel_rfl) (by kernel_rfl) (by kernel_rfl)) ?_
  intro W base args ds gs before hval0 hW hcnd _
  have hval : ∀ (j : Nat) t v, Try.f8.params[j]? = some t → args[j]? = some v → Value.okWide Try.prog W .any base t v := hval0
  have hW' := hW
  obtain ⟨p, q, hA0, hV, rfl, hfz, hnd⟩ := hW
  have hA : DataW.TrodAll enc Try.prog W 0 (fun _ => true) true Try.f8.params.toList args.toList ds p := hA0
  rw [Try.params8] at hA hval
  obtain ⟨v0, vs0, d0, ds0, p0, q0, hargs, rfl, rfl, h0, r0⟩ := trodAll_cons hA
  obtain ⟨rfl, rfl, rfl⟩ := trodAll_nil r0
  obtain rfl : args = #[v0] := by cases args; simp_all
  obtain ⟨rfl, rfl⟩ := trodVars_none hV
  have k0 := h0
  have lt0 : ∀ x ∈ p0, x.block < W.heap.size := by obtain ⟨m, hm⟩ := k0; exact DataW.trod_lt m _ _ _ hm
  obtain ⟨a0, n0, c0, L0, rfl, f0, b0⟩ := open_model2 Try.underlying33 (by kernel_rfl) (by kernel_rfl) Try.underlying31 Try.underlying24 (by kernel_rfl) (by kernel_rfl) Try.underlying2 Try.underlying2 Try.underlying2 Try.underlying22 Try.underlying22 Try.underlying67 (by kernel_rfl) (hval 0 33 v0 rfl rfl) h0
  clear hA0 hval0
  refine (walk W a0 n0 c0 L0 f0 b0).mono fun e W' ⟨he, bel⟩ => ?_
  subst he
  exact ⟨_, rfl, _, _, _, [], _, [], hW', trodAll_mk1 (shut_bool Try.underlying4 _), (trodAll_cons_mk (Below.trod laidOut (by kernel_rfl) (of_decide_eq_true (by kernel_rfl)) k0 bel lt0) trodAll_mk0), rfl, bel.frame _, fun h => by cases h⟩

theorem over : Rows.fnExactRoundModelRow.holds Try.pinned (OpenSpec.ofChange Rows.fnExactRoundModelSpec) :=
  OpenClaim.holds_of_wide 8 Try.f8 rfl rfl rfl rfl rfl rfl rfl ⟨rfl, rfl, rfl, rfl, rfl⟩ rfl rfl rfl rfl rfl (by kernel_rfl) Try.func8 (by kernel_rfl)
    (of_decide_eq_true (by kernel_rfl)) (by unfold Func.isWrapper; first | (rw [if_pos (by decide +kernel)]; kernel_rfl) | (rw [if_neg (by decide +kernel)]; exact ⟨rfl, rfl⟩))
    (fun os started H enc _ => lifted os started H enc)

theorem proved : Rows.FnExactRoundModelSaid := over
end Go.Proofs.Ytclhemjanhhioaa.roundModel
