/- The law FnExactParamsOf holds for every input. No conditions. -/
import Derived.Test.YtclhemjanhhioaaLayV
import Derived.Test.YtclhemjanhhioaaLayO
import Derived.Test.YtclhemjanhhioaaLayK
import Derived.Test.YtclhemjanhhioaaOpenM
import Derived.Test.YtclhemjanhhioaaLayP
import Derived.ProofKit
import Derived.OpenShut
import Derived.ChangeOld
import Derived.WalkSmall
namespace Go.Proofs.Ytclhemjanhhioaa.paramsOf
open Go.ChangeShapes Go.WideShapes Go.ChangeAt Go.RowKit Go.Fl Go.Reg
def S (L : List LD) (n : Nat) : List Nat := if mv L n = true then pm L n else []
theorem S_len (L : List LD) (n : Nat) (hs : szs L n ≤ 1048576) : (S L n).length ≤ 1048576 := by
  unfold S; split
  · rw [pm_len]; exact hs
  · exact Nat.zero_le _
theorem RL_no {t : TypeId} {w wr : World} (B : Below w.heap.size w wr) : RL t w [] false (.returned (.tuple #[.slice none 0 0, .bool false])) wr := ⟨none, 0, [], rfl, Row.nil _ _ _ B.size, rfl, B⟩
theorem RL_pp {t : TypeId} {w w2 wr : World} {ys : List Nat} {a : Option Addr} {n cap : Nat} (T : Below w.heap.size w w2) (O : OwnS w2.heap.size t w2 wr n a cap ys) : RL t w ys true (.returned (.tuple #[.slice a n cap, .bool true])) wr := by
  have hl := O.len
  subst hl
  exact ⟨a, cap, ys, rfl, (Row.of O.own O.le).down T.size, rfl, T.trans (O.below.mono T.size)⟩
theorem mb_keep {lo hi : Nat} {w w' : World} {b : Nat} {a : Option Addr} {n cap : Nat} (h : MB w b a n cap) (k : Keep lo hi w w') (hd : b < lo ∨ hi ≤ b) : MB w' b a n cap :=
  ⟨(World.cell?_of_block (a := ⟨b, 0, none⟩) (k.block b h.lt hd)).trans h.c0, Nat.lt_of_lt_of_le h.lt k.size⟩
theorem specV (a : Option Addr) (n cap : Nat) (L : List LD) (w : World) (hs : szs L n ≤ 1048576) (h : Lz w a n cap L) :
    Calls Try.prog 21 #[.agg #[.slice a n cap]] w (RL 67 w (S L n) (mv L n)) := by
  have H := Lib.hid h
  clear h
  cases hv : mv L n
  · skip
    rw [show S L n = [] from if_neg (by rw [hv]; simp)]
    have HV := Lib.hid hv
    clear hv
    go_enter Try.func21, Try.ntmps21
    go_wp2_with fail
    refine calls_at ?_
    intro w1 hA
    obtain ⟨Q, A, z1, z2⟩ := mb_new hA
    clear hA
    have HQ := Lib.hid Q
    refine (isM _ _ _ _ _ _ (H.out.below A).ls Q).mono ?_
    rintro e w2 ⟨rfl, B⟩
    have T := A.trans (B.mono A.size)
    have HQ := Lib.hid (HQ.out.below B)
    clear A B Q
    rw [HV.out]
    go_wp2
    go_ret2
    exact RL_no T
  · skip
    rw [show S L n = pm L n from if_pos hv]
    have HV := Lib.hid hv
    clear hv
    go_enter Try.func21, Try.ntmps21
    go_wp2_with fail
    refine calls_at ?_
    intro w1 hA
    obtain ⟨Q, A, z1, z2⟩ := mb_new hA
    clear hA
    have HQ := Lib.hid Q
    refine (isM _ _ _ _ _ _ (H.out.below A).ls Q).mono ?_
    rintro e w2 ⟨rfl, B⟩
    have T := A.trans (B.mono A.size)
    have HQ := Lib.hid (HQ.out.below B)
    clear A B Q
    rw [HV.out]
    go_wp2_with fail
    refine (parS _ _ _ _ _ _ hs (H.out.below T) HQ.out).mono ?_
    rintro e w3 ⟨a3, cap3, rfl, O⟩
    have HO := Lib.hid O
    have HT := Lib.hid T
    clear O T
    go_wp2
    go_ret2
    exact RL_pp HT.out HO.out
theorem implV (a : Option Addr) (n cap : Nat) (L : List LD) (w : World) (hs : szs L n ≤ 1048576) (h : Lz w a n cap L) :
    Calls Try.prog 22 #[.agg #[.slice a n cap]] w (RL 67 w (S L n) (mv L n)) := by
  have H := Lib.hid h
  clear h
  cases hv : mv L n
  · skip
    rw [show S L n = [] from if_neg (by rw [hv]; simp)]
    have HV := Lib.hid hv
    clear hv
    go_enter Try.func22, Try.ntmps22
    go_wp2_with fail
    refine calls_at ?_
    intro w1 hA
    obtain ⟨Q, A, z1, z2⟩ := mb_new hA
    clear hA
    have HQ := Lib.hid Q
    refine (validM _ _ _ _ _ (H.out.below A).ls).mono ?_
    rintro e w2 ⟨rfl, B⟩
    have T := A.trans (B.mono A.size)
    have HQ := Lib.hid (HQ.out.below B)
    clear A B Q
    rw [HV.out]
    go_wp2
    go_ret2
    exact RL_no T
  · skip
    rw [show S L n = pm L n from if_pos hv]
    have HV := Lib.hid hv
    clear hv
    go_enter Try.func22, Try.ntmps22
    go_wp2_with fail
    refine calls_at ?_
    intro w1 hA
    obtain ⟨Q, A, z1, z2⟩ := mb_new hA
    clear hA
    have HQ := Lib.hid Q
    refine (validM _ _ _ _ _ (H.out.below A).ls).mono ?_
    rintro e w2 ⟨rfl, B⟩
    have T := A.trans (B.mono A.size)
    have HQ := Lib.hid (HQ.out.below B)
    clear A B Q
    rw [HV.out]
    obtain ⟨q0, q1⟩ := HQ.out
    go_wp2_with fail
    refine (parI _ _ _ _ _ hs (H.out.below T)).mono ?_
    rintro e w3 ⟨a3, cap3, rfl, O⟩
    have HO := Lib.hid O
    have HT := Lib.hid T
    clear O T
    go_wp2
    go_ret2
    exact RL_pp HT.out HO.out
set_option maxHeartbeats 4000000 in
theorem walk (w : World) (a : Option Addr) (n c : Nat) (L : List LD) (h1 : Ls w a n c L) :
    Calls Try.prog 6 #[.agg #[.slice a n c]] w fun e w' => e = .returned (.bool true) ∧ Below w.heap.size w w' := by
  have H1 := Lib.hid h1
  have HLN := Lib.hid h1.len
  clear h1
  go_enter Try.func6, Try.ntmps6
  go_wp2_with fail
  refine calls_at ?_
  intro w1 hA
  obtain ⟨Q, A, z1, z2⟩ := mb_new hA
  clear hA
  have X := Lib.hid Q
  have T := A
  clear A Q
  refine (szMod _ _ _ _ _ _ (by omega) (by omega) (H1.out.below T)).mono ?_
  rintro e w2 ⟨r, rfl, k1, k2, B⟩
  have T := T.trans (B.mono T.size)
  have zs := B.size
  have X := Lib.hid (X.out.below B)
  clear B
  by_cases hs : (1048576 : Int) < (n : Int) + (szs L n : Int)
  · have e1 := k2 hs
    subst e1
    clear k1 k2
    go_wp2
    go_ret
    exact ⟨rfl, T⟩
  · have e1 := k1 (by omega)
    have hr : 0 ≤ r := by omega
    have hn2 : n ≤ 1048576 := by omega
    have hm2 : szs L n ≤ 1048576 := by omega
    clear k1 k2 e1 hs
    have hS := S_len L n hm2
    obtain ⟨SS, hSS⟩ : ∃ SS, SS = S L n := ⟨_, rfl⟩
    obtain ⟨ok, hok⟩ : ∃ ok, ok = mv L n := ⟨_, rfl⟩
    rw [← hSS] at hS
    have HSS := Lib.hid hSS
    have HOK := Lib.hid hok
    clear hSS hok
    obtain ⟨X0, X1⟩ := X.out
    go_wp2_with fail
    clear X0 X1
    clear hr
    refine (toMod _ _ _ _ _ hn2 hm2 (H1.out.below T)).mono ?_
    rintro e w3 ⟨g1, cs1, A1, B1, C1, D1, Q1, rfl, M1_, A⟩
    have M1 := Lib.hid M1_
    clear M1_
    have T := T.trans (A.mono T.size)
    have X := Lib.hid (X.out.below A)
    have zw3 := A.size
    clear A
    go_wp2_with fail
    refine (specV _ _ _ _ _ hm2 (M1.out.lz HLN.out)).mono ?_
    rintro e w4 ⟨b1, p1, ys1, he1, R, E1_, A⟩
    rw [← HSS.out] at he1 R E1_
    rw [← HOK.out] at he1
    subst he1
    have E1 := Lib.hid E1_
    clear E1_
    have T := T.trans (A.mono T.size)
    have X := Lib.hid (X.out.below A)
    have zw4 := A.size
    clear A
    have KW := R
    clear R
    clear M1
    obtain ⟨X0, X1⟩ := X.out
    go_wp2_with fail
    clear X0 X1
    refine (toMod _ _ _ _ _ hn2 hm2 (H1.out.below T)).mono ?_
    rintro e w5 ⟨g2, cs2, A2, B2, C2, D2, Q2, rfl, M2_, A⟩
    have M2 := Lib.hid M2_
    clear M2_
    have T := T.trans (A.mono T.size)
    have KW := KW.below A
    have X := Lib.hid (X.out.below A)
    have zw5 := A.size
    clear A
    have hQ2 := M2.out.qn
    have hg2 := M2.out.gb
    have hb2 := (M2.out.own.lt _ rfl).1
    go_wp2_with fail
    refine calls_at ?_
    intro w6 hA
    obtain ⟨Z_, A, zz1, zz2⟩ := mb_new hA
    clear hA
    have Z := Lib.hid Z_
    clear Z_
    have T := T.trans (A.mono T.size)
    have KW := KW.below A
    have X := Lib.hid (X.out.below A)
    have M2 := Lib.hid (M2.out.below A)
    have zw6 := A.size
    clear A
    refine (implV _ _ _ _ _ hm2 (M2.out.lz HLN.out)).mono ?_
    rintro e w7 ⟨b2, p2, ys2, he2, R, E2_, A⟩
    rw [← HSS.out] at he2 R E2_
    rw [← HOK.out] at he2
    subst he2
    have E2 := Lib.hid E2_
    clear E2_
    have T := T.trans (A.mono T.size)
    have KW := KW.below A
    have X := Lib.hid (X.out.below A)
    have Z := Lib.hid (Z.out.below A)
    have M2 := Lib.hid (M2.out.below A)
    have zw7 := A.size
    clear A
    have KG := R
    clear R
    go_wp2_with fail
    refine (eqF32r _ _ _ _ _ _ _ _ hS KG.fs KW.fs (E2.out.trans E1.out.symm)).mono ?_
    rintro e w8 ⟨rfl, A⟩
    have T := T.trans (A.mono T.size)
    have KW := KW.below A
    have KG := KG.below A
    have X := Lib.hid (X.out.below A)
    have Z := Lib.hid (Z.out.below A)
    have M2 := Lib.hid (M2.out.below A)
    have zw8 := A.size
    clear A
    go_wp2_with fail
    refine wp_bl 4 [0, 0, 2, 2, 0] (by kernel_rfl) (by kernel_rfl) ?_
    simp only [List.take_succ_cons, List.take_zero, List.drop_succ_cons, List.drop_zero]
    with_reducible refine bl_step ?_
    intro K hK
    go_simp
    first
      | (refine hK _ _ ?_)
      | (refine ⟨?_, fun w' hw' => ?_, hK _ _ ?_⟩
         rotate_left
         · obtain ⟨q0, q1⟩ := X.out.below hw'
           obtain ⟨p0, p1⟩ := Z.out.below hw'
           go_simp
           rfl
         go_simp)
    clear hK K
    with_reducible refine bl_step ?_
    intro K hK
    go_simp
    first
      | (refine hK _ _ ?_)
      | (refine ⟨?_, fun w' hw' => ?_, hK _ _ ?_⟩
         rotate_left
         · obtain ⟨q0, q1⟩ := X.out.below hw'
           obtain ⟨p0, p1⟩ := Z.out.below hw'
           go_simp
           rfl
         go_simp)
    clear hK K
    with_reducible refine bl_step ?_
    intro K hK
    go_simp
    intro _
    refine (toMod _ _ _ _ _ hn2 hm2 ((H1.out.below T).drew _)).mono ?_
    rintro e w9 ⟨g5, cs5, A5, A6, C5, C6, Q5, rfl, M5, A0⟩
    have A8 := (bdrew (Below.refl _ _) _).trans A0
    clear A0
    have T := T.trans (A8.mono T.size)
    have KW := KW.below A8
    have KG := KG.below A8
    have X := Lib.hid (X.out.below A8)
    have Z := Lib.hid (Z.out.below A8)
    have M2 := Lib.hid (M2.out.below A8)
    refine ⟨_, rfl, A8, hK _ _ ?_⟩
    clear hK K
    with_reducible refine bl_step ?_
    intro K hK
    go_simp
    intro _
    refine (eqMod _ _ _ _ _ _ _ _ hn2 hm2 ((M2.out.ls HLN.out).drew _) ((M5.ls HLN.out).drew _) (fun j _ => LEq.refl _)).mono ?_
    rintro e w10 ⟨rfl, A0⟩
    have A9 := (bdrew (Below.refl _ _) _).trans A0
    clear A0
    have T := T.trans (A9.mono T.size)
    have KW := KW.below A9
    have KG := KG.below A9
    have X := Lib.hid (X.out.below A9)
    have Z := Lib.hid (Z.out.below A9)
    have M2 := Lib.hid (M2.out.below A9)
    have zw10 := (A8.trans (A9.mono A8.size)).size
    refine ⟨_, rfl, A8.trans (A9.mono A8.size), hK _ _ ?_⟩
    clear hK K
    with_reducible refine wpR_nil (fun nq => ?_)
    clear A8 A9 M5
    generalize hA : w10.drewN nq = w11
    have A := below_of_drew hA.symm
    clear hA
    have T := T.trans (A.mono T.size)
    have KW := KW.below A
    have KG := KG.below A
    have X := Lib.hid (X.out.below A)
    have Z := Lib.hid (Z.out.below A)
    have M2 := Lib.hid (M2.out.below A)
    have zw11 := A.size
    clear A
    obtain ⟨Z0, Z1⟩ := Z.out
    go_wp2_with fail
    clear Z0 Z1
    refine (markMod _ _ _ _ w5.heap.size _ _ _ _ _ _ _ 1 _ hn2 hm2 (by omega) HLN.out M2.out hQ2 hg2 hb2).mono ?_
    rintro e w12 ⟨cs9, rfl, M9, A⟩
    clear M9
    have zA := A.size
    have T := T.trans (A.below (by have := T.size; omega) (by have := T.size; omega))
    have KW := KW.keep A (by omega)
    have KG := KG.keep A (by omega)
    have X := Lib.hid (mb_keep X.out A (by omega))
    have Z := Lib.hid (mb_keep Z.out A (by omega))
    clear A M2
    have hsj : 0 ≤ sj 1 L n := by unfold sj; omega
    obtain ⟨sq, hsq⟩ : ∃ sq, sq = sj 1 L n := ⟨_, rfl⟩
    rw [← hsq] at hsj ⊢
    clear hsq
    have hsd : decide (sq < 0) = false := by simp; omega
    go_wp2_with fail
    refine (eqF32r _ _ _ _ _ _ _ _ hS KG.fs KW.fs (E2.out.trans E1.out.symm)).mono ?_
    rintro e w13 ⟨rfl, A⟩
    have T := T.trans (A.mono T.size)
    have KW := KW.below A
    have KG := KG.below A
    have X := Lib.hid (X.out.below A)
    have Z := Lib.hid (Z.out.below A)
    have zw13 := A.size
    clear A
    clear hsj hsd
    go_wp2_with fail
    refine (markF32 _ _ _ _ _ _ 1 _ hS (by omega) KG).mono ?_
    rintro e w14 ⟨rfl, R, A⟩
    have zB := A.size
    have T := T.trans (A.below (by have := T.size; omega) (by have := T.size; omega))
    have KW := KW.keep A (by omega)
    have X := Lib.hid (mb_keep X.out A (by omega))
    have KG := R
    clear R A Z
    go_wp2_with fail
    refine (heldF32r _ _ _ 1 _ hS (by omega) KG.fs).mono ?_
    rintro e w15 ⟨rfl, A⟩
    have T := T.trans (A.mono T.size)
    have KW := KW.below A
    have KG := KG.below A
    have X := Lib.hid (X.out.below A)
    have zw15 := A.size
    clear A
    obtain ⟨X0, X1⟩ := X.out
    go_wp2_with fail
    clear X0 X1
    refine (toMod _ _ _ _ _ hn2 hm2 (H1.out.below T)).mono ?_
    rintro e w16 ⟨g3, cs3, A3, B3, C3, D3, Q3, rfl, M3_, A⟩
    have M3 := Lib.hid M3_
    clear M3_
    have T := T.trans (A.mono T.size)
    have KW := KW.below A
    have KG := KG.below A
    have X := Lib.hid (X.out.below A)
    have zw16 := A.size
    clear A
    go_wp2_with fail
    refine (implV _ _ _ _ _ hm2 (M3.out.lz HLN.out)).mono ?_
    rintro e w17 ⟨b3, p3, ys3, he3, R, E3_, A⟩
    rw [← HSS.out] at he3 R E3_
    rw [← HOK.out] at he3
    subst he3
    have E3 := Lib.hid E3_
    clear E3_
    have T := T.trans (A.mono T.size)
    have KW := KW.below A
    have KG := KG.below A
    have X := Lib.hid (X.out.below A)
    have zw17 := A.size
    clear A
    have KH := R
    clear R
    clear M3
    go_wp2_with fail
    refine (eqF32r _ _ _ _ _ _ _ _ hS KH.fs KW.fs (E3.out.trans E1.out.symm)).mono ?_
    rintro e w18 ⟨rfl, A⟩
    have T := T.trans (A.mono T.size)
    have KW := KW.below A
    have KG := KG.below A
    have KH := KH.below A
    have X := Lib.hid (X.out.below A)
    have zw18 := A.size
    clear A
    go_wp2_with fail
    refine (heldF32r _ _ _ 1 _ hS (by omega) KG.fs).mono ?_
    rintro e w19 ⟨rfl, A⟩
    have T := T.trans (A.mono T.size)
    have KW := KW.below A
    have KG := KG.below A
    have KH := KH.below A
    have X := Lib.hid (X.out.below A)
    have zw19 := A.size
    clear A
    go_wp2
    go_ret
    exact ⟨rfl, T⟩
theorem own : ownKnob Try.prog.godebug = none := by kernel_rfl
theorem laidOut : laidOutB Try.prog = true := by kernel_rfl
set_option maxRecDepth 100000 in
set_option maxHeartbeats 2000000 in
theorem lifted (os : Os) (started : os.Started) (H : Type) (enc : TypeId × Value → H) :
    ReturnsInHanded {} Try.checked os 6 .any (Rows.fnExactParamsOfSpec.pre6 enc Try.prog Try.f6 Rows.fnExactParamsOfRow.domain false) (Rows.fnExactParamsOfSpec.post enc Try.prog Try.f6 false true false false) := by
  refine returnsInHanded_of_change (C := Try.checked) own started (by kernel_rfl) Try.func6
    (ChangeSpec.witness6 (enc := enc) (C := Try.checked) false ⟨#[], #[.agg #[.slice none 0 0]], []⟩ 8 (by kernel_rfl) (by kernel_rfl) (by kernel_rfl) (by kernel_rfl)) ?_
  intro W base args ds gs before hval0 hW hcnd _
  have hval : ∀ (j : Nat) t v, Try.f6.params[j]? = some t → args[j]? = some v → Value.okWide Try.prog W .any base t v := hval0
  have hW' := hW
  obtain ⟨p, q, hA0, hV, rfl, hfz, hnd⟩ := hW
  have hA : DataW.TrodAll enc Try.prog W 0 (fun _ => true) true Try.f6.params.toList args.toList ds p := hA0
  rw [Try.params6] at hA hval
  obtain ⟨v0, vs0, d0, ds0, p0, q0, hargs, rfl, rfl, h0, r0⟩ := trodAll_cons hA
  obtain ⟨rfl, rfl, rfl⟩ := trodAll_nil r0
  obtain rfl : args = #[v0] := by cases args; simp_all
  obtain ⟨rfl, rfl⟩ := trodVars_none hV
  have k0 := h0
  have lt0 : ∀ x ∈ p0, x.block < W.heap.size := by obtain ⟨m, hm⟩ := k0; exact DataW.trod_lt m _ _ _ hm
  obtain ⟨a0, n0, c0, L0, rfl, f0⟩ := open_model Try.underlying33 (by kernel_rfl) (by kernel_rfl) Try.underlying31 Try.underlying24 (by kernel_rfl) (by kernel_rfl) Try.underlying2 Try.underlying2 Try.underlying2 Try.underlying22 Try.underlying22 Try.underlying67 (by kernel_rfl) (hval 0 33 v0 rfl rfl) h0
  clear hA0 hval0
  refine (walk W a0 n0 c0 L0 f0).mono fun e W' ⟨he, bel⟩ => ?_
  subst he
  exact ⟨_, rfl, _, _, _, [], _, [], hW', trodAll_mk1 (shut_bool Try.underlying4 _), (trodAll_cons_mk (Below.trod laidOut (by kernel_rfl) (of_decide_eq_true (by kernel_rfl)) k0 bel lt0) trodAll_mk0), rfl, bel.frame _, fun h => by cases h⟩

theorem over : Rows.fnExactParamsOfRow.holds Try.pinned (OpenSpec.ofChange Rows.fnExactParamsOfSpec) :=
  OpenClaim.holds_of_wide 6 Try.f6 rfl rfl rfl rfl rfl rfl rfl ⟨rfl, rfl, rfl, rfl, rfl⟩ rfl rfl rfl rfl rfl (by kernel_rfl) Try.func6 (by kernel_rfl)
    (of_decide_eq_true (by kernel_rfl)) (by unfold Func.isWrapper; first | (rw [if_pos (by decide +kernel)]; kernel_rfl) | (rw [if_neg (by decide +kernel)]; exact ⟨rfl, rfl⟩))
    (fun os started H enc _ => lifted os started H enc)

theorem proved : Rows.FnExactParamsOfSaid := over
end Go.Proofs.Ytclhemjanhhioaa.paramsOf
