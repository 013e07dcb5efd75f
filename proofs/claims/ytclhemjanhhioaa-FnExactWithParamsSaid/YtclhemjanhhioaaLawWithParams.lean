/- The law FnExactWithParams holds for every input. No conditions. -/
import Derived.Test.YtclhemjanhhioaaLayC
import Derived.Test.YtclhemjanhhioaaOpenM
import Derived.ProofKit
import Derived.OpenShut
import Derived.ChangeOld
import Derived.WalkSmall
namespace Go.Proofs.Ytclhemjanhhioaa.withParams
open Go.ChangeShapes Go.WideShapes Go.ChangeAt Go.RowKit Go.Fl Go.Reg
theorem mb_keep {lo hi : Nat} {w w' : World} {b : Nat} {a : Option Addr} {n cap : Nat} (h : MB w b a n cap) (k : Keep lo hi w w') (hd : b < lo ∨ hi ≤ b) : MB w' b a n cap :=
  ⟨(World.cell?_of_block (a := ⟨b, 0, none⟩) (k.block b h.lt hd)).trans h.c0, Nat.lt_of_lt_of_le h.lt k.size⟩
theorem szs_wl (L : List LD) (zs : List Nat) (n : Nat) : ∀ j, j ≤ n → szs (wl L zs n) j ≤ szs L j
  | 0, _ => Nat.le_refl _
  | j + 1, h => by
    have ih := szs_wl L zs n j (by omega)
    have e := wl_at L zs (show j < n by omega)
    show szs (wl L zs n) j + ((lat (wl L zs n) j).xs.length + (lat (wl L zs n) j).ys.length) ≤ szs L j + ((lat L j).xs.length + (lat L j).ys.length)
    rw [e]
    simp only [List.length_take]
    omega
theorem SW_ok (L : List LD) (n m : Nat) (zs : List Nat) (hn : n ≤ 1048576) (hs : szs L n ≤ 1048576) : (SW L n m zs).length ≤ 1048576 ∧ szs (SW L n m zs) (SW L n m zs).length ≤ 1048576 := by
  unfold SW
  split
  · rw [wl_len]
    exact ⟨hn, Nat.le_trans (szs_wl L zs n n (Nat.le_refl _)) hs⟩
  · exact ⟨Nat.zero_le _, Nat.zero_le _⟩
theorem nil_ls (w : World) : Ls w none 0 0 [] := ⟨rfl, Nat.le_refl _, Nat.zero_le _, fun i hi => by omega⟩
set_option maxHeartbeats 8000000 in
theorem walk (w : World) (a : Option Addr) (n c : Nat) (L : List LD) (h1 : Ls w a n c L) (x : Option Addr) (m d : Nat) (zs : List Nat) (h2 : Fs w x m d zs) (_b : ∀ y ∈ zs, y < 4294967296) :
    Calls Try.prog 7 #[.agg #[.slice a n c], .slice x m d] w fun e w' => e = .returned (.bool true) ∧ Below w.heap.size w w' := by
  have H1 := Lib.hid h1
  have H2 := Lib.hid h2
  have HLN := Lib.hid h1.len
  have hd1 := h2.cap1
  have hd2 := h2.cap2
  unfold maxLen at hd2
  clear h1 h2 _b
  by_cases g : 1048576 < m
  · go_enter Try.func7, Try.ntmps7
    go_wp2
    go_ret
    exact ⟨rfl, (Below.refl _ _).alloc (Nat.le_refl _) _⟩
  have hm : m ≤ 1048576 := by omega
  clear g
  go_enter Try.func7, Try.ntmps7
  go_wp2_with fail
  refine calls_at ?_
  intro w1 hA
  obtain ⟨Q, A, z1, z2⟩ := mb_new hA
  clear hA
  have X := Lib.hid Q
  have T := A
  clear A Q
  refine (szMod _ _ _ _ _ _ (by omega) (by omega) (H1.out.below T)).mono ?_
  rintro e w2 ⟨r, rfl, k1, k2, B⟩
  have T := T.trans (B.mono T.size)
  have zs2 := B.size
  have X := Lib.hid (X.out.below B)
  clear B
  by_cases hs : (1048576 : Int) < (n : Int) + (szs L n : Int)
  · have e1 := k2 hs
    subst e1
    clear k1 k2
    go_wp2
    go_ret
    exact ⟨rfl, T⟩
  · have e1 := k1 (by omega)
    have hr : 0 ≤ r := by omega
    have hn2 : n ≤ 1048576 := by omega
    have hm2 : szs L n ≤ 1048576 := by omega
    clear k1 k2 e1 hs
    obtain ⟨hS, hT⟩ := SW_ok L n m zs hn2 hm2
    obtain ⟨S, hSS⟩ : ∃ S, S = SW L n m zs := ⟨_, rfl⟩
    obtain ⟨ok, hok⟩ : ∃ ok, ok = okW L n m := ⟨_, rfl⟩
    rw [← hSS] at hS hT
    have HSS := Lib.hid hSS
    have HOK := Lib.hid hok
    clear hSS hok
    obtain ⟨X0, X1⟩ := X.out
    go_wp2_with fail
    clear X0 X1
    clear hr
    refine (toMod _ _ _ _ _ hn2 hm2 (H1.out.below T)).mono ?_
    rintro e w3 ⟨g1, cs1, A1, B1, C1, D1, Q1, rfl, M1_, A⟩
    have M1 := Lib.hid M1_
    clear M1_
    have T := T.trans (A.mono T.size)
    have X := Lib.hid (X.out.below A)
    have zw3 := A.size
    clear A
    go_wp2_with fail
    refine (toF32r _ _ _ _ _ hm (H2.out.below T)).mono ?_
    rintro e w4 ⟨f1, rfl, R1, A⟩
    have T := T.trans (A.mono T.size)
    have X := Lib.hid (X.out.below A)
    have M1 := Lib.hid (M1.out.below A)
    have zw4 := A.size
    clear A
    go_wp2_with fail
    refine (specW _ _ _ _ _ _ _ _ _ _ hn2 hm2 (M1.out.lz HLN.out) R1.fs).mono ?_
    rintro e w5 RR
    rw [← HSS.out, ← HOK.out] at RR
    obtain ⟨aKW, cKW, csKW, PKW, QKW, rfl, KW_, A⟩ := RR
    have KW := Lib.hid KW_
    clear KW_
    have T := T.trans (A.mono T.size)
    have R1 := R1.below A
    have X := Lib.hid (X.out.below A)
    have M1 := Lib.hid (M1.out.below A)
    have zw5 := A.size
    clear A
    clear M1 R1
    obtain ⟨X0, X1⟩ := X.out
    go_wp2_with fail
    clear X0 X1
    refine calls_at ?_
    intro w6 hA
    obtain ⟨Y_, A, yY1, yY2⟩ := mb_new hA
    clear hA
    have Y := Lib.hid Y_
    clear Y_
    have T := T.trans (A.mono T.size)
    have X := Lib.hid (X.out.below A)
    have KW := Lib.hid (KW.out.below A)
    have zw6 := A.size
    clear A
    refine (toMod _ _ _ _ _ hn2 hm2 (H1.out.below T)).mono ?_
    rintro e w7 ⟨g2, cs2, A2, B2, C2, D2, Q2, rfl, M2_, A⟩
    have M2 := Lib.hid M2_
    clear M2_
    have T := T.trans (A.mono T.size)
    have X := Lib.hid (X.out.below A)
    have Y := Lib.hid (Y.out.below A)
    have KW := Lib.hid (KW.out.below A)
    have zw7 := A.size
    clear A
    have hQ2 := M2.out.qn
    have hg2 := M2.out.gb
    have hb2 := (M2.out.own.lt _ rfl).1
    go_wp2_with fail
    refine calls_at ?_
    intro w8 hA
    obtain ⟨Z_, A, yZ1, yZ2⟩ := mb_new hA
    clear hA
    have Z := Lib.hid Z_
    clear Z_
    have T := T.trans (A.mono T.size)
    have X := Lib.hid (X.out.below A)
    have Y := Lib.hid (Y.out.below A)
    have KW := Lib.hid (KW.out.below A)
    have M2 := Lib.hid (M2.out.below A)
    have zw8 := A.size
    clear A
    refine (toF32r _ _ _ _ _ hm (H2.out.below T)).mono ?_
    rintro e w9 ⟨f2, rfl, R2, A⟩
    have T := T.trans (A.mono T.size)
    have X := Lib.hid (X.out.below A)
    have Y := Lib.hid (Y.out.below A)
    have Z := Lib.hid (Z.out.below A)
    have KW := Lib.hid (KW.out.below A)
    have M2 := Lib.hid (M2.out.below A)
    have zw9 := A.size
    clear A
    obtain ⟨Z0, Z1⟩ := Z.out
    go_wp2_with fail
    clear Z0 Z1
    refine (implW _ _ _ _ _ _ _ _ _ _ hn2 hm2 (M2.out.lz HLN.out) R2.fs).mono ?_
    rintro e w10 RR
    rw [← HSS.out, ← HOK.out] at RR
    obtain ⟨aKG, cKG, csKG, PKG, QKG, rfl, KG_, A⟩ := RR
    have KG := Lib.hid KG_
    clear KG_
    have T := T.trans (A.mono T.size)
    have R2 := R2.below A
    have X := Lib.hid (X.out.below A)
    have Y := Lib.hid (Y.out.below A)
    have Z := Lib.hid (Z.out.below A)
    have KW := Lib.hid (KW.out.below A)
    have M2 := Lib.hid (M2.out.below A)
    have zw10 := A.size
    clear A
    obtain ⟨Y0, Y1⟩ := Y.out
    go_wp2_with fail
    clear Y0 Y1
    refine calls_at ?_
    intro w11 hA
    obtain ⟨V_, A, yV1, yV2⟩ := mb_new hA
    clear hA
    have V := Lib.hid V_
    clear V_
    have T := T.trans (A.mono T.size)
    have R2 := R2.below A
    have X := Lib.hid (X.out.below A)
    have Y := Lib.hid (Y.out.below A)
    have Z := Lib.hid (Z.out.below A)
    have KW := Lib.hid (KW.out.below A)
    have M2 := Lib.hid (M2.out.below A)
    have KG := Lib.hid (KG.out.below A)
    have zw11 := A.size
    clear A
    refine (eqMod _ _ _ _ _ _ _ _ hS hT (KG.out.ls rfl) (KW.out.ls rfl) (fun j _ => LEq.refl _)).mono ?_
    rintro e w12 ⟨rfl, A⟩
    have T := T.trans (A.mono T.size)
    have R2 := R2.below A
    have X := Lib.hid (X.out.below A)
    have Y := Lib.hid (Y.out.below A)
    have Z := Lib.hid (Z.out.below A)
    have V := Lib.hid (V.out.below A)
    have KW := Lib.hid (KW.out.below A)
    have M2 := Lib.hid (M2.out.below A)
    have KG := Lib.hid (KG.out.below A)
    have zw12 := A.size
    clear A
    go_wp2_with fail
    refine wp_bl 4 [0, 0, 2, 2, 0] (by kernel_rfl) (by kernel_rfl) ?_
    simp only [List.take_succ_cons, List.take_zero, List.drop_succ_cons, List.drop_zero]
    with_reducible refine bl_step ?_
    intro K hK
    go_simp
    first
      | (refine hK _ _ ?_)
      | (refine ⟨?_, fun w' hw' => ?_, hK _ _ ?_⟩
         rotate_left
         · obtain ⟨q0, q1⟩ := X.out.below hw'
           obtain ⟨p0, p1⟩ := Z.out.below hw'
           go_simp
           rfl
         go_simp)
    clear hK K
    with_reducible refine bl_step ?_
    intro K hK
    go_simp
    first
      | (refine hK _ _ ?_)
      | (refine ⟨?_, fun w' hw' => ?_, hK _ _ ?_⟩
         rotate_left
         · obtain ⟨q0, q1⟩ := X.out.below hw'
           obtain ⟨p0, p1⟩ := Z.out.below hw'
           go_simp
           rfl
         go_simp)
    clear hK K
    with_reducible refine bl_step ?_
    intro K hK
    go_simp
    intro _
    refine (toMod _ _ _ _ _ hn2 hm2 ((H1.out.below T).drew _)).mono ?_
    rintro e w13 ⟨g5, cs5, A5, A6, C5, C6, Q5, rfl, M5, A0⟩
    have A8 := (bdrew (Below.refl _ _) _).trans A0
    clear A0
    have T := T.trans (A8.mono T.size)
    have R2 := R2.below A8
    have X := Lib.hid (X.out.below A8)
    have Y := Lib.hid (Y.out.below A8)
    have Z := Lib.hid (Z.out.below A8)
    have V := Lib.hid (V.out.below A8)
    have KW := Lib.hid (KW.out.below A8)
    have M2 := Lib.hid (M2.out.below A8)
    have KG := Lib.hid (KG.out.below A8)
    refine ⟨_, rfl, A8, hK _ _ ?_⟩
    clear hK K
    with_reducible refine bl_step ?_
    intro K hK
    go_simp
    intro _
    refine (eqMod _ _ _ _ _ _ _ _ hn2 hm2 ((M2.out.ls HLN.out).drew _) ((M5.ls HLN.out).drew _) (fun j _ => LEq.refl _)).mono ?_
    rintro e w14 ⟨rfl, A0⟩
    have A9 := (bdrew (Below.refl _ _) _).trans A0
    clear A0
    have T := T.trans (A9.mono T.size)
    have R2 := R2.below A9
    have X := Lib.hid (X.out.below A9)
    have Y := Lib.hid (Y.out.below A9)
    have Z := Lib.hid (Z.out.below A9)
    have V := Lib.hid (V.out.below A9)
    have KW := Lib.hid (KW.out.below A9)
    have M2 := Lib.hid (M2.out.below A9)
    have KG := Lib.hid (KG.out.below A9)
    have zw14 := (A8.trans (A9.mono A8.size)).size
    refine ⟨_, rfl, A8.trans (A9.mono A8.size), hK _ _ ?_⟩
    clear hK K
    with_reducible refine wpR_nil (fun nq => ?_)
    clear A8 A9 M5
    generalize hA : w14.drewN nq = w15
    have A := below_of_drew hA.symm
    clear hA
    have T := T.trans (A.mono T.size)
    have R2 := R2.below A
    have X := Lib.hid (X.out.below A)
    have Y := Lib.hid (Y.out.below A)
    have Z := Lib.hid (Z.out.below A)
    have V := Lib.hid (V.out.below A)
    have KW := Lib.hid (KW.out.below A)
    have M2 := Lib.hid (M2.out.below A)
    have KG := Lib.hid (KG.out.below A)
    have zw15 := A.size
    clear A
    go_wp2_with fail
    refine (toF32r _ _ _ _ _ hm (H2.out.below T)).mono ?_
    rintro e w16 ⟨f3, rfl, R3, A⟩
    have T := T.trans (A.mono T.size)
    have R2 := R2.below A
    have X := Lib.hid (X.out.below A)
    have Y := Lib.hid (Y.out.below A)
    have Z := Lib.hid (Z.out.below A)
    have V := Lib.hid (V.out.below A)
    have KW := Lib.hid (KW.out.below A)
    have M2 := Lib.hid (M2.out.below A)
    have KG := Lib.hid (KG.out.below A)
    have zw16 := A.size
    clear A
    go_wp2_with fail
    refine (eqF32r _ _ _ _ _ _ _ _ hm R2.fs R3.fs rfl).mono ?_
    rintro e w17 ⟨rfl, A⟩
    have T := T.trans (A.mono T.size)
    have R2 := R2.below A
    have R3 := R3.below A
    have X := Lib.hid (X.out.below A)
    have Y := Lib.hid (Y.out.below A)
    have Z := Lib.hid (Z.out.below A)
    have V := Lib.hid (V.out.below A)
    have KW := Lib.hid (KW.out.below A)
    have M2 := Lib.hid (M2.out.below A)
    have KG := Lib.hid (KG.out.below A)
    have zw17 := A.size
    clear A
    clear R3
    obtain ⟨Z0, Z1⟩ := Z.out
    go_wp2_with fail
    clear Z0 Z1
    refine (markMod _ _ _ _ w7.heap.size _ _ _ _ _ _ _ 1 _ hn2 hm2 (by omega) HLN.out M2.out hQ2 hg2 hb2).mono ?_
    rintro e w18 ⟨cs9, rfl, M9, A⟩
    clear M9
    clear M2
    have zA := A.size
    have T := T.trans (A.below (by have := T.size; omega) (by have := T.size; omega))
    have R2 := R2.keep A (by omega)
    have X := Lib.hid (mb_keep X.out A (by omega))
    have Y := Lib.hid (mb_keep Y.out A (by omega))
    have Z := Lib.hid (mb_keep Z.out A (by omega))
    have V := Lib.hid (mb_keep V.out A (by omega))
    have KW := Lib.hid (KW.out.keep A (by omega))
    have KG := Lib.hid (KG.out.keep A (by omega))
    clear A zA
    have hsj : 0 ≤ sj 1 L n ∧ sj 1 L n ≤ 4294967296 := by unfold sj; omega
    obtain ⟨sq, hsq⟩ : ∃ sq, sq = sj 1 L n := ⟨_, rfl⟩
    rw [← hsq] at hsj ⊢
    clear hsq
    go_wp2_with fail
    refine (markF32 _ _ _ _ _ _ sq _ hm hsj R2).mono ?_
    rintro e w19 ⟨rfl, R9, A⟩
    clear R9
    clear R2
    have zA := A.size
    have T := T.trans (A.below (by have := T.size; omega) (by have := T.size; omega))
    have X := Lib.hid (mb_keep X.out A (by omega))
    have Y := Lib.hid (mb_keep Y.out A (by omega))
    have Z := Lib.hid (mb_keep Z.out A (by omega))
    have V := Lib.hid (mb_keep V.out A (by omega))
    have KW := Lib.hid (KW.out.keep A (by omega))
    have KG := Lib.hid (KG.out.keep A (by omega))
    clear A zA
    have hsd : decide (sq + (m : Int) < 0) = false := by simp; omega
    obtain ⟨Y0, Y1⟩ := Y.out
    obtain ⟨V0, V1⟩ := V.out
    go_wp2_with fail
    clear Y0 Y1 V0 V1
    refine (eqMod _ _ _ _ _ _ _ _ hS hT (KG.out.ls rfl) (KW.out.ls rfl) (fun j _ => LEq.refl _)).mono ?_
    rintro e w20 ⟨rfl, A⟩
    have T := T.trans (A.mono T.size)
    have X := Lib.hid (X.out.below A)
    have Y := Lib.hid (Y.out.below A)
    have Z := Lib.hid (Z.out.below A)
    have V := Lib.hid (V.out.below A)
    have KW := Lib.hid (KW.out.below A)
    have KG := Lib.hid (KG.out.below A)
    have zw20 := A.size
    clear A
    clear hsd hsj
    obtain ⟨V0, V1⟩ := V.out
    go_wp2_with fail
    clear V0 V1
    refine (markMl _ _ _ _ _ _ _ _ _ 1 _ hS hT (by omega) rfl KG.out).mono ?_
    rintro e w21 ⟨cs10, rfl, KG_, A⟩
    have zA := A.size
    have T := T.trans (A.below (by have := T.size; omega) (by have := T.size; omega))
    have X := Lib.hid (mb_keep X.out A (by omega))
    have Y := Lib.hid (mb_keep Y.out A (by omega))
    have Z := Lib.hid (mb_keep Z.out A (by omega))
    have V := Lib.hid (mb_keep V.out A (by omega))
    have KW := Lib.hid (KW.out.keep A (by omega))
    clear A zA
    have KG := Lib.hid KG_
    clear KG_
    have hsj : 0 ≤ sj 1 S S.length := by unfold sj; omega
    obtain ⟨sq2, hsq⟩ : ∃ q, q = sj 1 S S.length := ⟨_, rfl⟩
    rw [← hsq] at hsj ⊢
    have HSQ := Lib.hid hsq
    clear hsq
    have hsd : decide (sq2 < 0) = false := by simp; omega
    obtain ⟨V0, V1⟩ := V.out
    go_wp2_with fail
    clear V0 V1
    refine (heldMod _ _ _ S 1 _ hS hT (by omega) rfl (KG.out.ls (mkL_len _ _ _).symm)).mono ?_
    rintro e w22 ⟨rfl, A⟩
    have T := T.trans (A.mono T.size)
    have X := Lib.hid (X.out.below A)
    have Y := Lib.hid (Y.out.below A)
    have Z := Lib.hid (Z.out.below A)
    have V := Lib.hid (V.out.below A)
    have KW := Lib.hid (KW.out.below A)
    have KG := Lib.hid (KG.out.below A)
    have zw22 := A.size
    clear A
    rw [← HSQ.out]
    obtain ⟨X0, X1⟩ := X.out
    go_wp2_with fail
    clear X0 X1
    refine (toMod _ _ _ _ _ hn2 hm2 (H1.out.below T)).mono ?_
    rintro e w23 ⟨g3, cs3, A3, B3, C3, D3, Q3, rfl, M3_, A⟩
    have M3 := Lib.hid M3_
    clear M3_
    have T := T.trans (A.mono T.size)
    have X := Lib.hid (X.out.below A)
    have Y := Lib.hid (Y.out.below A)
    have Z := Lib.hid (Z.out.below A)
    have V := Lib.hid (V.out.below A)
    have KW := Lib.hid (KW.out.below A)
    have KG := Lib.hid (KG.out.below A)
    have zw23 := A.size
    clear A
    go_wp2_with fail
    refine (toF32r _ _ _ _ _ hm (H2.out.below T)).mono ?_
    rintro e w24 ⟨f4, rfl, R4, A⟩
    have T := T.trans (A.mono T.size)
    have X := Lib.hid (X.out.below A)
    have Y := Lib.hid (Y.out.below A)
    have Z := Lib.hid (Z.out.below A)
    have V := Lib.hid (V.out.below A)
    have KW := Lib.hid (KW.out.below A)
    have KG := Lib.hid (KG.out.below A)
    have M3 := Lib.hid (M3.out.below A)
    have zw24 := A.size
    clear A
    go_wp2_with fail
    refine (implW _ _ _ _ _ _ _ _ _ _ hn2 hm2 (M3.out.lz HLN.out) R4.fs).mono ?_
    rintro e w25 RR
    rw [← HSS.out, ← HOK.out] at RR
    obtain ⟨aKH, cKH, csKH, PKH, QKH, rfl, KH_, A⟩ := RR
    have KH := Lib.hid KH_
    clear KH_
    have T := T.trans (A.mono T.size)
    have R4 := R4.below A
    have X := Lib.hid (X.out.below A)
    have Y := Lib.hid (Y.out.below A)
    have Z := Lib.hid (Z.out.below A)
    have V := Lib.hid (V.out.below A)
    have KW := Lib.hid (KW.out.below A)
    have KG := Lib.hid (KG.out.below A)
    have M3 := Lib.hid (M3.out.below A)
    have zw25 := A.size
    clear A
    clear M3 R4
    obtain ⟨Y0, Y1⟩ := Y.out
    go_wp2_with fail
    clear Y0 Y1
    refine calls_at ?_
    intro w26 hA
    obtain ⟨U_, A, yU1, yU2⟩ := mb_new hA
    clear hA
    have U := Lib.hid U_
    clear U_
    have T := T.trans (A.mono T.size)
    have X := Lib.hid (X.out.below A)
    have Y := Lib.hid (Y.out.below A)
    have Z := Lib.hid (Z.out.below A)
    have V := Lib.hid (V.out.below A)
    have KW := Lib.hid (KW.out.below A)
    have KG := Lib.hid (KG.out.below A)
    have KH := Lib.hid (KH.out.below A)
    have zw26 := A.size
    clear A
    refine (eqMod _ _ _ _ _ _ _ _ hS hT (KH.out.ls rfl) (KW.out.ls rfl) (fun j _ => LEq.refl _)).mono ?_
    rintro e w27 ⟨rfl, A⟩
    have T := T.trans (A.mono T.size)
    have X := Lib.hid (X.out.below A)
    have Y := Lib.hid (Y.out.below A)
    have Z := Lib.hid (Z.out.below A)
    have V := Lib.hid (V.out.below A)
    have U := Lib.hid (U.out.below A)
    have KW := Lib.hid (KW.out.below A)
    have KG := Lib.hid (KG.out.below A)
    have KH := Lib.hid (KH.out.below A)
    have zw27 := A.size
    clear A
    obtain ⟨V0, V1⟩ := V.out
    go_wp2_with fail
    clear V0 V1
    refine (heldMod _ _ _ S 1 _ hS hT (by omega) rfl (KG.out.ls (mkL_len _ _ _).symm)).mono ?_
    rintro e w28 ⟨rfl, A⟩
    have T := T.trans (A.mono T.size)
    have X := Lib.hid (X.out.below A)
    have Y := Lib.hid (Y.out.below A)
    have Z := Lib.hid (Z.out.below A)
    have V := Lib.hid (V.out.below A)
    have U := Lib.hid (U.out.below A)
    have KW := Lib.hid (KW.out.below A)
    have KG := Lib.hid (KG.out.below A)
    have KH := Lib.hid (KH.out.below A)
    have zw28 := A.size
    clear A
    rw [← HSQ.out]
    go_wp2
    go_ret
    exact ⟨rfl, T⟩
theorem own : ownKnob Try.prog.godebug = none := by kernel_rfl
theorem laidOut : laidOutB Try.prog = true := by kernel_rfl
set_option maxRecDepth 100000 in
set_option maxHeartbeats 2000000 in
theorem lifted (os : Os) (started : os.Started) (H : Type) (enc : TypeId × Value → H) :
    ReturnsInHanded {} Try.checked os 7 .any (Rows.fnExactWithParamsSpec.pre6 enc Try.prog Try.f7 Rows.fnExactWithParamsRow.domain false) (Rows.fnExactWithParamsSpec.post enc Try.prog Try.f7 false true false false) := by
  refine returnsInHanded_of_change (C := Try.checked) own started (by kernel_rfl) Try.func7
    (ChangeSpec.witness6 (enc := enc) (C := Try.checked) false ⟨#[], #[.agg #[.slice none 0 0], .slice none 0 0], []⟩ 8 (by kernel_rfl) (by kernel_rfl) (by kernel_rfl) (by kernel_rfl)) ?_
  intro W base args ds gs before hval0 hW hcnd _
  have hval : ∀ (j : Nat) t v, Try.f7.params[j]? = some t → args[j]? = some v → Value.okWide Try.prog W .any base t v := hval0
  have hW' := hW
  obtain ⟨p, q, hA0, hV, rfl, hfz, hnd⟩ := hW
  have hA : DataW.TrodAll enc Try.prog W 0 (fun _ => true) true Try.f7.params.toList args.toList ds p := hA0
  rw [Try.params7] at hA hval
  obtain ⟨v0, vs0, d0, ds0, p0, q0, hargs, rfl, rfl, h0, r0⟩ := trodAll_cons hA
  obtain ⟨v1, vs1, d1, ds1, p1, q1, rfl, rfl, rfl, h1, r1⟩ := trodAll_cons r0
  obtain ⟨rfl, rfl, rfl⟩ := trodAll_nil r1
  obtain rfl : args = #[v0, v1] := by cases args; simp_all
  obtain ⟨rfl, rfl⟩ := trodVars_none hV
  have k0 := h0
  have lt0 : ∀ x ∈ p0, x.block < W.heap.size := by obtain ⟨m, hm⟩ := k0; exact DataW.trod_lt m _ _ _ hm
  have k1 := h1
  have lt1 : ∀ x ∈ p1, x.block < W.heap.size := by obtain ⟨m, hm⟩ := k1; exact DataW.trod_lt m _ _ _ hm
  obtain ⟨a0, n0, c0, L0, rfl, f0⟩ := open_model Try.underlying33 (by kernel_rfl) (by kernel_rfl) Try.underlying31 Try.underlying24 (by kernel_rfl) (by kernel_rfl) Try.underlying2 Try.underlying2 Try.underlying2 Try.underlying22 Try.underlying22 Try.underlying67 (by kernel_rfl) (hval 0 33 v0 rfl rfl) h0
  obtain ⟨a1, n1, c1, z1, rfl, f1, b1⟩ := open_floats Try.underlying22 Try.underlying67 (by kernel_rfl) (hval 1 22 v1 rfl rfl) h1
  clear hA0 hval0
  refine (walk W a0 n0 c0 L0 f0 a1 n1 c1 z1 f1 b1).mono fun e W' ⟨he, bel⟩ => ?_
  subst he
  exact ⟨_, rfl, _, _, _, [], _, [], hW', trodAll_mk1 (shut_bool Try.underlying4 _), (trodAll_cons_mk (Below.trod laidOut (by kernel_rfl) (of_decide_eq_true (by kernel_rfl)) k0 bel lt0) (trodAll_cons_mk (Below.trod laidOut (by kernel_rfl) (of_decide_eq_true (by kernel_rfl)) k1 bel lt1) trodAll_mk0)), rfl, bel.frame _, fun h => by cases h⟩

theorem over : Rows.fnExactWithParamsRow.holds Try.pinned (OpenSpec.ofChange Rows.fnExactWithParamsSpec) :=
  OpenClaim.holds_of_wide 7 Try.f7 rfl rfl rfl rfl rfl rfl rfl ⟨rfl, rfl, rfl, rfl, rfl⟩ rfl rfl rfl rfl rfl (by kernel_rfl) Try.func7 (by kernel_rfl)
    (of_decide_eq_true (by kernel_rfl)) (by unfold Func.isWrapper; first | (rw [if_pos (by decide +kernel)]; kernel_rfl) | (rw [if_neg (by decide +kernel)]; exact ⟨rfl, rfl⟩))
    (fun os started H enc _ => lifted os started H enc)

theorem proved : Rows.FnExactWithParamsSaid := over
end Go.Proofs.Ytclhemjanhhioaa.withParams
