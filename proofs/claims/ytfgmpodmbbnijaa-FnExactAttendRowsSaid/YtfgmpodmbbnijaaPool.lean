/- Pools: the squares of an image, their greatest numbers and their means. -/
import Derived.Test.YtfgmpodmbbnijaaValid
import Derived.Test.YtfgmpodmbbnijaaFin
import Derived.Test.YtfgmpodmbbnijaaRowT
import Derived.Test.YtfgmpodmbbnijaaConv
import Derived.Test.YtfgmpodmbbnijaaOwnS
import Derived.Test.YtfgmpodmbbnijaaCmp
import Derived.Test.YtfgmpodmbbnijaaSums
import Derived.Test.YtfgmpodmbbnijaaClone
import Derived.Deep.CutRange
namespace Go.Proofs.Ytfgmpodmbbnijaa.pool
open Go.RowKit Go.Fl Go.Reg
/-- the greatest of F 0 .. F k, as the program finds it -/
def gm (F : Nat → Nat) : Nat → Nat
  | 0 => F 0
  | k + 1 => if FloatKind.f32.format.order (F (k + 1)) (gm F k) == some .gt then F (k + 1) else gm F k
theorem gm_gt {F : Nat → Nat} {k : Nat} (h : (FloatKind.f32.format.order (F (k + 1)) (gm F k) == some .gt) = true) : gm F (k + 1) = F (k + 1) := by show (if _ then _ else _) = _; rw [if_pos h]
theorem gm_le {F : Nat → Nat} {k : Nat} (h : (FloatKind.f32.format.order (F (k + 1)) (gm F k) == some .gt) = false) : gm F (k + 1) = gm F k := by show (if _ then _ else _) = _; rw [if_neg (by rw [h]; simp)]
def mean (F : Nat → Nat) (n : Nat) : Nat := fop .quo .f32 (sumTo (upto F n) n) (floatOfInt .f32 (n : Int))
theorem upto_get {F : Nat → Nat} {n j : Nat} (h : j < n) : (upto F n)[j]?.getD 0 = F j := by unfold upto; simp [h]
theorem upto_add (F : Nat → Nat) (n m : Nat) : upto F (n + m) = upto F n ++ (List.range m).map (fun j => F (n + j)) := by
  unfold upto
  rw [List.range_add, List.map_append, List.map_map]
  rfl
/-- one row more of a square -/
theorem sq_row (xs : List Nat) {C Q r c i from_ : Nat} (hf : from_ = (r + i) * C + c) (hl : from_ + Q ≤ xs.length) : upto (win xs C Q r c) (i * Q) ++ (xs.drop from_).take Q = upto (win xs C Q r c) (i * Q + Q) := by
  rw [upto_add]
  congr 1
  apply List.ext_getElem?
  intro j
  by_cases hj : j < Q
  · rw [List.getElem?_take, if_pos hj, List.getElem?_drop, List.getElem?_map, List.getElem?_range hj]
    simp only [Option.map_some]
    rw [win_at xs hj, hf, Nat.add_assoc]
    have : (r + i) * C + (c + j) < xs.length := by omega
    rw [List.getElem?_eq_getElem this]; rfl
  · rw [List.getElem?_eq_none (by simp; omega), List.getElem?_eq_none (by simp; omega)]
set_option maxHeartbeats 1000000 in
theorem greatI (a : Option Addr) (n cap : Nat) (F : Nat → Nat) (w : World) (hn : 0 < n ∧ n ≤ 256) (h1 : Fs w a n cap (upto F n)) :
    Calls Try.prog 42 #[.slice a n cap] w fun e w' => ∃ b : Nat, e = .returned (.int .i64 b) ∧ b < n ∧ F b = gm F (n - 1) ∧ w = w' := by
  have HC := Lib.hid h1.cell
  have hcap := h1.cap1
  have hcap2 := h1.cap2
  unfold maxLen at hcap2
  clear h1
  go_enter Try.func42, Try.ntmps42
  go_wp2
  go_loop [3, 8] (fun bb i => ∃ (k b : Nat), k ≤ n ∧ b < n ∧ i = .int .i64 k ∧ bb = .int .i64 b ∧ Hid (F b = gm F (k - 1))) (fun _ i => n - (intOf i).toNat)
  case atStart => exact ⟨0, 0, Nat.zero_le _, hn.1, rfl, rfl, rfl⟩
  case round =>
    obtain ⟨k, b, hk, hb, rfl, rfl, hg⟩ := hrel
    by_cases hlt : k < n
    · obtain ⟨ba, oa, rfl, hca⟩ := HC.out k hlt
      obtain ⟨ba', oa', ea, hcb⟩ := HC.out b hb
      injection ea with ea; injection ea with ea1 ea2 ea3
      subst ea1; subst ea2
      rw [upto_get hlt] at hca
      rw [upto_get hb] at hcb
      cases ho : (FloatKind.f32.format.order (F k) (F b) == some .gt)
      · have HO := Lib.hid ho
        go_wp2
        go_round
        case rel =>
          refine ⟨k + 1, b, by omega, hb, by go_num, rfl, ?_⟩
          show F b = gm F k
          cases k with
          | zero => exact hg.out
          | succ k =>
            have h2 : F b = gm F k := hg.out
            rw [gm_le (by rw [← h2]; exact HO.out)]; exact h2
        case measure => simp [intOf]; omega
      · have HO := Lib.hid ho
        go_wp2
        go_round
        case rel =>
          refine ⟨k + 1, k, by omega, hlt, by go_num, rfl, ?_⟩
          show F k = gm F k
          cases k with
          | zero => rfl
          | succ k =>
            have h2 : F b = gm F k := hg.out
            rw [gm_gt (by rw [← h2]; exact HO.out)]
        case measure => simp [intOf]; omega
    · have e : k = n := by omega
      have hgn : F b = gm F (n - 1) := by rw [← e]; exact hg.out
      have HG := Lib.hid hgn
      clear hg hgn e
      go_wp2
      go_ret
      exact ⟨b, rfl, hb, HG.out, rfl⟩
def Val (F : Nat → Nat) (n : Nat) (most : Bool) : Nat := if most then gm F (n - 1) else mean F n
def FV (w : World) (s : Nat) (e : Ending) (w' : World) : Prop := ∃ u, e = .returned (.float .f32 u) ∧ cn .f32 u = cn .f32 s ∧ Below w.heap.size w w'
theorem mostI (a : Option Addr) (n cap : Nat) (F : Nat → Nat) (w : World) (hn : 0 < n ∧ n ≤ 256) (h1 : Fs w a n cap (upto F n)) :
    Calls Try.prog 41 #[.slice a n cap] w (FV w (Val F n true)) := by
  have H1 := Lib.hid h1
  have hcap := h1.cap1
  have hcap2 := h1.cap2
  unfold maxLen at hcap2
  clear h1
  go_enter Try.func41, Try.ntmps41
  go_wp2_with fail
  refine (greatI a n cap F w hn H1.out).mono ?_
  rintro e w' ⟨b, rfl, hb, hg, rfl⟩
  obtain ⟨ba, oa, rfl, hcb⟩ := H1.out.cell b hb
  rw [upto_get hb] at hcb
  have HG := Lib.hid hg
  clear hg
  go_wp2
  go_ret
  exact ⟨_, rfl, by rw [HG.out]; rfl, Below.refl _ _⟩
theorem meanI (a : Option Addr) (n cap : Nat) (F : Nat → Nat) (w : World) (hn : 0 < n ∧ n ≤ 256) (h1 : Fs w a n cap (upto F n)) :
    Calls Try.prog 39 #[.slice a n cap] w (FV w (Val F n false)) := by
  have H1 := Lib.hid h1
  have hcap := h1.cap1
  have hcap2 := h1.cap2
  unfold maxLen at hcap2
  clear h1
  go_enter Try.func39, Try.ntmps39
  go_wp2_with fail
  refine (implSum _ _ _ _ _ (by omega) H1.out).mono ?_
  rintro e w' ⟨u, m, rfl, rfl, hu⟩
  have HU := Lib.hid hu
  clear hu
  go_wp2
  go_ret
  exact ⟨_, rfl, by unfold Val mean; rw [fres_fop, fop_l .quo HU.out]; rfl, bdrew (Below.refl _ _) _⟩
theorem kernI (x : Int) (w : World) : Calls Try.prog 30 #[.int .i64 x] w fun e w' => e = .returned (.bool (inr x 1 8)) ∧ w' = w := by
  go_enter Try.func30, Try.ntmps30
  go_wp2_with fail
  refine (inI _ _ _ _).mono ?_
  rintro e w1 ⟨rfl, rfl⟩
  go_wp2
  go_ret
  exact ⟨rfl, rfl⟩
theorem accStartQ {w w' : World} {t tt : TypeId} {r c : Int} {p s : Nat} {Z : Array Value} (hZ : Z = #[.int .i64 0, .int .i64 0, .slice none 0 0]) (h : w' = (((((w.drewN p).alloc (.cells Z tt)).drewN s).setCell ⟨w.heap.size, 0, none⟩ (.int .i64 r)).setCell ⟨w.heap.size, 1, none⟩ (.int .i64 c)).setCell ⟨w.heap.size, 2, none⟩ (.slice none 0 0)) :
    Acc w.heap.size w.heap.size t r c w' w' 0 none 0 [] ∧ Below w.heap.size w w' := by
  subst hZ
  have B : Below w.heap.size w w' := by
    rw [h]
    exact (((bdrew ((bdrew (Below.refl _ _) p).alloc (Nat.le_refl _) _) s).setCell (Nat.le_refl _) _).setCell (Nat.le_refl _) _).setCell (Nat.le_refl _) _
  obtain ⟨X, _, _, _⟩ := box_new (w := w.drewN p) (r := 0) (c := 0) (a := none) (n := 0) (cap := 0) (t := tt) rfl
  have hf : ((w.drewN p).alloc (.cells #[.int .i64 0, .int .i64 0, .slice none 0 0] tt)).frozen? ⟨w.heap.size, 2, none⟩ = false := frz (w.drewN p) tt
  have X2 : Box (((w.drewN p).alloc (.cells #[.int .i64 0, .int .i64 0, .slice none 0 0] tt)).drewN s) w.heap.size 0 0 none 0 0 := ⟨X.c0, X.c1, X.c2, X.lt⟩
  have hf2 : (((w.drewN p).alloc (.cells #[.int .i64 0, .int .i64 0, .slice none 0 0] tt)).drewN s).frozen? ⟨w.heap.size, 2, none⟩ = false := hf
  clear hf X
  generalize ((w.drewN p).alloc (.cells #[.int .i64 0, .int .i64 0, .slice none 0 0] tt)).drewN s = w2 at *
  refine ⟨accHere t ?_ ?_, B⟩
  · rw [h]; exact box_set X2
  · rw [h]; simp [go_sem, hf2]
def ok (r c : Int) (n : Nat) (k : Int) : Bool := decide (vt r c n) && (inr k 1 8 && (decide (r % k = 0) && decide (c % k = 0)))
theorem ok_yes {r c : Int} {n : Nat} {k : Int} (h : ok r c n k = true) : ∃ RO CO K : Nat, r = ((RO * K : Nat) : Int) ∧ c = ((CO * K : Nat) : Int) ∧ k = (K : Int) ∧ (0 < RO * K ∧ RO * K ≤ 16) ∧ (0 < CO * K ∧ CO * K ≤ 16) ∧ (0 < K ∧ K ≤ 8) ∧ n = RO * K * (CO * K) := by
  unfold ok inr at h
  simp only [Bool.and_eq_true, decide_eq_true_eq] at h
  obtain ⟨h1, ⟨h2, h3⟩, h4, h5⟩ := h
  obtain ⟨R, C, rfl, rfl, hR, hC, hn⟩ := nat_of h1
  obtain ⟨K, rfl⟩ := Int.eq_ofNat_of_zero_le (a := k) (by omega)
  have e1 : R % K = 0 := by exact_mod_cast h4
  have e2 : C % K = 0 := by exact_mod_cast h5
  obtain ⟨RO, hr⟩ := Nat.dvd_of_mod_eq_zero e1
  obtain ⟨CO, hc⟩ := Nat.dvd_of_mod_eq_zero e2
  rw [Nat.mul_comm] at hr hc
  subst hr; subst hc
  exact ⟨RO, CO, K, rfl, rfl, rfl, hR, hC, by omega, hn⟩
def G (xs : List Nat) (V : (Nat → Nat) → Nat → Nat) (C K r c : Nat) : Nat := V (win xs C K (r * K) (c * K)) (K * K)
set_option maxHeartbeats 4000000 in
theorem poolY (f : FuncId) (V : (Nat → Nat) → Nat → Nat) (RO CO D : Nat) (a : Option Addr) (n cap : Nat) (xs : List Nat) (w : World) (hR : 0 < RO * D ∧ RO * D ≤ 16) (hC : 0 < CO * D ∧ CO * D ≤ 16) (hD : 0 < D ∧ D ≤ 8) (hn : n = RO * D * (CO * D)) (hv : decide (vt ((RO * D : Nat) : Int) ((CO * D : Nat) : Int) n) = true) (h1 : Fs w a n cap xs)
    (HR : ∀ args w, Sem.run Try.prog (callFunc f args) w = .ok (.enter f args) w)
    (hf : ∀ w' a cap F, Fs w' a (D * D) cap (upto F (D * D)) → Calls Try.prog f #[.slice a (D * D) cap] w' (FV w' (V F (D * D)))) :
    Calls Try.prog 38 #[.agg #[.int .i64 ((RO * D : Nat) : Int), .int .i64 ((CO * D : Nat) : Int), .slice a n cap], .int .i64 (D : Int), .func (.func f) #[] #[]] w (RT 45 w (RO : Int) (CO : Int) (upto (tab (G xs V (CO * D) D) CO) (RO * CO)) true) := by
  have HM := Lib.hid (Nat.le_trans h1.cap1 h1.cap2)
  have H1 := Lib.hid h1
  have HF := Lib.hid hf
  have hcap := h1.cap1
  have hcap2 := h1.cap2
  have HC2 := Lib.hid hcap2
  unfold maxLen at hcap2
  have hlen := h1.len
  obtain ⟨ba, oa, e1, _⟩ := h1.cell 0 (by rw [hn]; exact Nat.mul_pos hR.1 hC.1)
  subst e1
  clear h1 hf
  have hro : RO ≤ RO * D := Nat.le_mul_of_pos_right _ hD.1
  have hco : CO ≤ CO * D := Nat.le_mul_of_pos_right _ hD.1
  have hRC : RO * CO ≤ 16 * 16 := Nat.mul_le_mul (by omega) (by omega)
  have hDD : D * D ≤ 8 * 8 := Nat.mul_le_mul hD.2 hD.2
  have hnn : RO * D * (CO * D) ≤ 16 * 16 := Nat.mul_le_mul hR.2 hC.2
  have HN := Lib.hid hn
  have HL := Lib.hid hlen
  have HV := Lib.hid hv
  have hn1 := Nat.le_of_eq hn
  have hn2 := Nat.le_of_eq hn.symm
  clear hn hlen hv
  have HB : Hid (inr (D : Int) 1 8 = true) := by unfold Hid inr; simp; omega
  obtain ⟨R, hRe⟩ : ∃ R, R = RO * D := ⟨_, rfl⟩
  obtain ⟨C, hCe⟩ : ∃ C, C = CO * D := ⟨_, rfl⟩
  have hm1 : (R : Int) % (D : Int) = 0 := by rw [hRe]; simp
  have hm2 : (C : Int) % (D : Int) = 0 := by rw [hCe]; simp
  have hq1 : Int.tdiv (R : Int) (D : Int) = (RO : Int) := by rw [hRe, Int.natCast_mul]; exact Int.mul_tdiv_cancel _ (by omega)
  have hq2 : Int.tdiv (C : Int) (D : Int) = (CO : Int) := by rw [hCe, Int.natCast_mul]; exact Int.mul_tdiv_cancel _ (by omega)
  rw [← hRe] at hR hro hnn HN HV hn1 hn2 ⊢
  rw [← hCe] at hC hco hnn HN HV hn1 hn2 ⊢
  have HRE := Lib.hid hRe
  have HCE := Lib.hid hCe
  clear hRe hCe
  go_enter Try.func38, Try.ntmps38
  go_wp2_with fail
  refine calls_at ?_
  intro w1 hA
  have A : Below w.heap.size w w1 := by rw [hA]; exact ((Below.refl _ _).alloc (Nat.le_refl _) _).alloc (by simp <;> omega) _
  have zw1 : w1.heap.size = w.heap.size + 1 + 1 := by rw [hA]; simp
  have QB_ : Box w1 (w.heap.size) ↑R ↑C (some ⟨ba, oa, none⟩) n cap := by rw [hA]; exact ⟨by simp [go_sem], by simp [go_sem], by simp [go_sem], by simp <;> omega⟩
  have ZR_ : Zbox w1 (w.heap.size + 1) := by rw [hA]; exact ⟨⟨by simp [go_sem], by simp [go_sem], by simp [go_sem], by simp <;> omega⟩, by simp [go_sem], by simp [go_sem], by simp [go_sem]⟩
  clear hA
  have zw1a := Nat.le_of_eq zw1
  have zw1b := Nat.le_of_eq zw1.symm
  clear zw1
  have T := A
  clear A
  have QB := Lib.hid QB_
  clear QB_
  have ZR := Lib.hid ZR_
  clear ZR_
  refine (validT _ _ _ _ _ _ HM.out).mono ?_
  rintro e w2 ⟨rfl, A⟩
  have T := T.trans (A.mono T.size)
  have QB := Lib.hid (QB.out.below A)
  have ZR := Lib.hid (ZR.out.below A)
  have zw2 := A.size
  clear A
  rw [HV.out]
  obtain ⟨QB0, QB1, QB2, QB3⟩ := QB.out
  go_wp2_with fail
  clear QB0 QB1 QB2 QB3
  refine (kernI _ _).mono ?_
  rintro e w2x ⟨rfl, hsame⟩
  replace hsame := hsame.symm
  subst hsame
  rw [HB.out]
  obtain ⟨QB0, QB1, QB2, QB3⟩ := QB.out
  go_wp2_with fail
  clear QB0 QB1 QB2 QB3
  have QB2 := QB
  have ZR2 := ZR
  have T2 := T
  have FACT : ∀ w', Below w2.heap.size w2 w' → w'.cell? ⟨w.heap.size, 0, none⟩ = some (.int .i64 (R : Int)) ∧ w'.cell? ⟨w.heap.size, 1, none⟩ = some (.int .i64 (C : Int)) := fun w' hb => ⟨(QB2.out.below hb).c0, (QB2.out.below hb).c1⟩
  have FA := Lib.hid FACT
  clear FACT hm1 hm2
  have hd0 : ¬ D = 0 := by omega
  have hq3 : IntKind.i64.wrap (RO : Int) = (RO : Int) := IntWalk.i64_in _ (by omega)
  have hq4 : IntKind.i64.wrap (CO : Int) = (CO : Int) := IntWalk.i64_in _ (by omega)
  refine wp_plan 10 [0, 0, 0, 0, 0, 0, 0, 0, 0, 2, 2] (.go 0 (.go 1 (.go 2 (.go 3 (.go 4 (.go 5 (.go 6 (.go 7 (.go 8 (.only 9 .fin)))))))))) (Bl w2) (by kernel_rfl) (by kernel_rfl) (Bl.refl _) Bl.drew ?_
  simp only [List.drop_succ_cons, List.drop_zero]
  refine plan_go (pl0 (v := ?_) (by rfl) rfl rfl (fun w' hw' => ?_) (fun K hK => ?_))
  rotate_left
  · obtain ⟨q0, q1⟩ := FA.out w' hw'
    go_simp
    rfl
  go_simp
  refine hK _ _ ?_
  clear hK K
  refine plan_go (pl0 (v := ?_) (by rfl) rfl rfl (fun w' hw' => ?_) (fun K hK => ?_))
  rotate_left
  · obtain ⟨q0, q1⟩ := FA.out w' hw'
    go_simp
    rfl
  go_simp
  refine hK _ _ ?_
  clear hK K
  refine plan_go (pl0 (v := ?_) (by rfl) rfl rfl (fun w' hw' => ?_) (fun K hK => ?_))
  rotate_left
  · obtain ⟨q0, q1⟩ := FA.out w' hw'
    go_simp
    rfl
  go_simp
  refine hK _ _ ?_
  clear hK K
  refine plan_go (pl0 (v := ?_) (by rfl) rfl rfl (fun w' hw' => ?_) (fun K hK => ?_))
  rotate_left
  · obtain ⟨q0, q1⟩ := FA.out w' hw'
    go_simp
    rfl
  go_simp
  refine hK _ _ ?_
  clear hK K
  refine plan_go (pl0 (v := ?_) (by rfl) rfl rfl (fun w' hw' => ?_) (fun K hK => ?_))
  rotate_left
  · obtain ⟨q0, q1⟩ := FA.out w' hw'
    go_simp
    rfl
  go_simp
  refine hK _ _ ?_
  clear hK K
  refine plan_go (pl0 (v := ?_) (by rfl) rfl rfl (fun w' hw' => ?_) (fun K hK => ?_))
  rotate_left
  · obtain ⟨q0, q1⟩ := FA.out w' hw'
    go_simp
    rfl
  go_simp
  refine hK _ _ ?_
  clear hK K
  refine plan_go (pl0 (v := ?_) (by rfl) rfl rfl (fun w' hw' => ?_) (fun K hK => ?_))
  rotate_left
  · obtain ⟨q0, q1⟩ := FA.out w' hw'
    go_simp
    rfl
  go_simp
  refine hK _ _ ?_
  clear hK K
  refine plan_go (pl0 (v := ?_) (by rfl) rfl rfl (fun w' hw' => ?_) (fun K hK => ?_))
  rotate_left
  · obtain ⟨q0, q1⟩ := FA.out w' hw'
    go_simp
    rfl
  go_simp
  refine hK _ _ ?_
  clear hK K
  refine plan_go (pl0 (v := ?_) (by rfl) rfl rfl (fun w' hw' => ?_) (fun K hK => ?_))
  rotate_left
  · obtain ⟨q0, q1⟩ := FA.out w' hw'
    go_simp
    rfl
  go_simp
  refine hK _ _ ?_
  clear hK K
  refine plan_only (pl2 (by rfl) rfl rfl (fun K hK => ?_))
  go_simp
  intro n1
  refine ⟨(bdrew (Below.refl _ _) _).alloc (Nat.le_refl _) _, hK _ _ ?_⟩
  clear hK K
  obtain ⟨e0, e1, e2, e3, e4, e5⟩ := frzs (w2.drewN (1 + n1)) 32
  change World.frozen? _ ⟨w2.heap.size, 0, none⟩ = _ at e0
  change World.frozen? _ ⟨w2.heap.size, 1, none⟩ = _ at e1
  change World.frozen? _ ⟨w2.heap.size, 2, none⟩ = _ at e2
  change World.cell? _ ⟨w2.heap.size, 0, none⟩ = _ at e3
  change World.cell? _ ⟨w2.heap.size, 1, none⟩ = _ at e4
  change World.cell? _ ⟨w2.heap.size, 2, none⟩ = _ at e5
  refine plan_fin (fun nF => ?_)
  clear hq1 hq2 hq3 hq4
  go_wp2
  clear e0 e1 e2 e3 e4 e5
  refine reg_at ?_
  intro w4 hA
  have AA := accStartQ (t := 45) (tt := 32) (r := (RO : Int)) (c := (CO : Int)) (w := w2) (Z := #[.int .i64 0, .int .i64 0, .slice none 0 0]) rfl hA
  obtain ⟨ACC, A⟩ := AA
  clear hA
  have HACC := Lib.hid ACC
  clear ACC
  have T := T.trans (A.mono T.size)
  have QB := Lib.hid (QB.out.below A)
  have ZR := Lib.hid (ZR.out.below A)
  have zw4 := A.size
  clear A
  obtain ⟨i0, hi, hz0, hz1, hz2⟩ := info_parts infoF32
  have HI := Lib.hid hi
  have HZ0 := Lib.hid hz0
  have HZ1 := Lib.hid hz1
  have HZ2 := Lib.hid hz2
  clear hi hz0 hz1 hz2
  obtain ⟨b, hb⟩ : ∃ b, b = w2.heap.size := ⟨_, rfl⟩
  have hb1 := Nat.le_of_eq hb
  have hb2 := Nat.le_of_eq hb.symm
  rw [← hb] at HACC ⊢
  clear hb QB2 ZR2 T2 FA
  go_loopw [47] (fun i w' => ∃ (r k : Nat) (a' : Option Addr) (cap' : Nat) (ys : List Nat), r ≤ RO ∧ i = .int .i64 r ∧ Hid (k = r * CO) ∧ Acc b b 45 (RO : Int) (CO : Int) w4 w' k a' cap' ys ∧ ys.map (cn .f32) = (upto (tab (G xs V C D) CO) k).map (cn .f32)) (fun i _ => RO - (intOf i).toNat)
  case atStart => exact ⟨0, 0, _, _, _, Nat.zero_le _, rfl, (Nat.zero_mul _).symm, HACC.out, rfl⟩
  case round =>
    obtain ⟨r, k, a', cap', ys, hr, rfl, hk, acc, hys⟩ := hrel
    obtain ⟨b0', b1', b2', b3'⟩ := acc.box
    have HA := Lib.hid acc
    have HY := Lib.hid hys
    clear acc hys
    by_cases hlt : r < RO
    · go_wp2
      clear b0' b1' b2' b3'
      obtain ⟨wo, rfl⟩ : ∃ wo : World, wo = wr := ⟨_, rfl⟩
      go_loopw [52] (fun i2 w' => ∃ (c k' : Nat) (a' : Option Addr) (cap' : Nat) (ys : List Nat), c ≤ CO ∧ i2 = .int .i64 c ∧ Hid (k' = r * CO + c) ∧ Acc b b 45 (RO : Int) (CO : Int) w4 w' k' a' cap' ys ∧ ys.map (cn .f32) = (upto (tab (G xs V C D) CO) k').map (cn .f32)) (fun i2 _ => CO - (intOf i2).toNat)
      case atStart => exact ⟨0, k, _, _, _, Nat.zero_le _, rfl, hk, HA.out, HY.out⟩
      case round =>
        clear HA HY hk
        obtain ⟨c, k, a', cap', ys, hc, rfl, hk, acc, hys⟩ := hrel
        have HA := Lib.hid acc
        have HY := Lib.hid hys
        have HB4 := Lib.hid (show Below b w4 wr from acc.below)
        have zsz : b ≤ wr.heap.size := by have := acc.below.size; omega
        clear acc hys
        by_cases hcC : c < CO
        · have hme := row_end (C := CO) hlt
          have hml : k ≤ 256 := by have := hk.out; omega
          have hFk : Hid (tab (G xs V C D) CO k = G xs V C D r c) := by have := hk.out; subst this; exact tab_at _ hcC
          have BJ : Below w.heap.size w wr := T.trans (HB4.out.mono (by omega))
          have HBJ := Lib.hid BJ
          have QJ := Lib.hid (QB.out.upto HB4.out (by omega))
          clear BJ
          go_wp2
          obtain ⟨wj, rfl⟩ : ∃ wj : World, wj = wr := ⟨_, rfl⟩
          have hrD := row_end (C := D) hlt
          have hcD := row_end (C := D) hcC
          have hRe := Nat.le_of_eq HRE.out.symm
          have hCe := Nat.le_of_eq HCE.out.symm
          go_loopw [11, 57] (fun v i3 w' => ∃ (i m : Nat) (sa : Option Addr) (sc : Nat), i ≤ D ∧ Hid (m = i * D) ∧ i3 = .int .i64 i ∧ v = .slice sa m sc ∧ OwnS wj.heap.size 45 wj w' m sa sc (upto (win xs C D (r * D) (c * D)) m)) (fun _ i3 _ => D - (intOf i3).toNat)
          case atStart => exact ⟨0, 0, _, _, Nat.zero_le _, (Nat.zero_mul _).symm, rfl, rfl, own_start wj _⟩
          case round =>
            obtain ⟨i, m, sa, sc, hi, hm, rfl, rfl, own⟩ := hrel
            have HO := Lib.hid own
            clear own
            by_cases hiD : i < D
            · have hiD2 := row_end (C := D) hiD
              have hmm : m ≤ 64 := by have := hm.out; omega
              have hrow : r * D + i < R := by omega
              have hin := in_row (R := R) (C := C) (i := r * D + i) (j := c * D) hrow (by omega)
              have hin2 := row_end (C := C) hrow
              have e1 : ((r : Int) * (D : Int)) = ((r * D : Nat) : Int) := by simp
              have e2 : ((c : Int) * (D : Int)) = ((c * D : Nat) : Int) := by simp
              have e3 : (((c : Int) + 1) * (D : Int)) = ((c * D + D : Nat) : Int) := by rw [Int.add_mul, e2]; simp
              have y1 : (0 : Int) ≤ (r : Int) * (D : Int) := by rw [e1]; omega
              have y2 : (r : Int) * (D : Int) ≤ 16 := by rw [e1]; omega
              have y3 : (0 : Int) ≤ (c : Int) * (D : Int) := by rw [e2]; omega
              have y4 : (c : Int) * (D : Int) ≤ 16 := by rw [e2]; omega
              have y5 : (0 : Int) ≤ ((c : Int) + 1) * (D : Int) := by rw [e3]; omega
              have y6 : ((c : Int) + 1) * (D : Int) ≤ 16 := by rw [e3]; omega
              have E1 := Lib.hid e1
              have E2 := Lib.hid e2
              have E3 := Lib.hid e3
              clear e1 e2 e3
              obtain ⟨q0, q1, q2, q3⟩ := QJ.out.below HO.out.below
              go_wp2_with fail
              clear q0 q1 q2 q3 y1 y2
              refine (rowI R C (r * D + i) ba oa n cap _ HN.out hrow hR.2 hC.2 hC.1 hcap HC2.out).mono ?_
              rintro e wk ⟨rfl, A⟩
              have O1 := Lib.hid (HO.out.next A)
              clear A HO
              have z0 : c * D + D ≤ cap - (r * D + i) * C := by omega
              have SP := Lib.hid ((H1.out.below (HBJ.out.trans (O1.out.below.mono HBJ.out.size))).sub (i := (r * D + i) * C + c * D) (j := (r * D + i) * C + c * D + D) (by omega) (by omega) (cap - ((r * D + i) * C + c * D)) rfl)
              have hlx : (r * D + i) * C + c * D + D ≤ xs.length := by have := HL.out; omega
              generalize hcc : cap - (r * D + i) * C = cc at z0 ⊢
              clear hcc
              have z1 : ((c : Int) + 1) * (D : Int) ≤ (cc : Int) := by rw [E3.out]; omega
              have z2 : (c : Int) * (D : Int) ≤ ((c : Int) + 1) * (D : Int) := by rw [E3.out, E2.out]; omega
              have t1 : ((c : Int) * (D : Int)).toNat = c * D := by rw [E2.out]; rfl
              have t2 : (((c : Int) + 1) * (D : Int)).toNat = c * D + D := by rw [E3.out]; rfl
              have z5 : ¬ cc = c * D := by omega
              have z6 : c * D + D - c * D = D := by omega
              go_wp2_with (at_builtin; refine wpList_append_own _ rfl (.tmp 60) (.tmp 75) 22 rfl wj.heap.size 45 i0 (.float .f32 0) 1 4 Try.underlying22 HI.out HZ0.out HZ1.out HZ2.out rfl (by decide) (.slice sa m sc) m (fl (upto (win xs C D (r * D) (c * D)) m)) rfl O1.out.own ⟨ba, oa + (r * D + i) * C + c * D, none⟩ D (cc - c * D) (fl ((xs.drop ((r * D + i) * C + c * D)).take D)) rfl ?c0 ?c1 (fl_one _) ?c3 ?c4 O1.out.le ?_)
              case c0 => rw [fl_length, Nat.mul_one, List.length_take, List.length_drop]; omega
              case c1 =>
                intro jj u hj
                have hl0 : ((xs.drop ((r * D + i) * C + c * D)).take D).length = D := by rw [List.length_take, List.length_drop]; omega
                have hjl : jj < D := by
                  rcases Nat.lt_or_ge jj D with h | h
                  · exact h
                  · rw [List.getElem?_eq_none (by rw [fl_length, hl0]; exact h)] at hj; cases hj
                rw [fl_get _ jj (by rw [hl0]; exact hjl)] at hj
                injection hj with hj
                subst hj
                have h6 : (r * D + i) * C + c * D + D - ((r * D + i) * C + c * D) = D := by omega
                have SP2 := SP.out
                rw [h6] at SP2
                obtain ⟨b', o', e, hcl⟩ := SP2.cell jj hjl
                injection e with e; injection e with e1 e2 e3
                subst e1; subst e2
                rw [add_at, show oa + (r * D + i) * C + c * D + jj = oa + ((r * D + i) * C + c * D) + jj by omega]
                exact hcl
              case c3 => unfold maxLen; omega
              case c4 => omega
              intro v' w5 hown hgr _
              obtain ⟨sa2, sc2, rfl, O2_⟩ := OwnS.app0 O1.out hown hgr
              rw [show upto (win xs C D (r * D) (c * D)) m ++ ((xs.drop ((r * D + i) * C + c * D)).take D) = upto (win xs C D (r * D) (c * D)) (m + D) by
                have := hm.out; subst this; exact sq_row xs rfl hlx] at O2_
              have O2 := Lib.hid O2_
              clear O2_ hown hgr z1 z2 t1 t2 z5 z6 y3 y4 y5 y6
              go_wp2
              go_roundw
              case rel => exact ⟨i + 1, m + D, sa2, sc2, by omega, (by have := hm.out; show m + D = _; rw [Nat.succ_mul]; omega), by go_num, rfl, O2.out⟩
              case measure => simp [intOf]; omega
            · have e : i = D := by omega
              have hme2 : m = D * D := hm.out.trans (by rw [e])
              clear e hm
              subst hme2
              have acc := HA.out.next HO.out.below zsz
              have hys := HY.out
              have SQ := Lib.hid (Fs.own HO.out.own)
              clear HA HY
              have FACT : ∀ w', Cl (b) b wr w' → w'.cell? ⟨b, 2, none⟩ = some (.slice a' k cap') := fun w' h => h.cell (.inr rfl) acc.box.c2
              have FA := Lib.hid FACT
              have AC := Lib.hid acc
              have HY := Lib.hid hys
              clear FACT acc hys
              go_wp2_with fail
              have zb := AC.out.box.lt
              have zB := AC.out.below.size
              refine wp_plan 7 [0, 0, 0, 0, 2, 2, 2, 0, 2] (.go 0 (.go 1 (.go 2 (.go 3 (.only 4 (.only 5 (.only 6 .fin))))))) (Cl (b) b wr) (by kernel_rfl) (by kernel_rfl) (Cl.refl _ _ _) Cl.drew ?_
              simp only [List.drop_succ_cons, List.drop_zero]
              refine plan_go (pl0 (v := ?_) (by rfl) rfl rfl (fun w' hw' => ?_) (fun K hK => ?_))
              rotate_left
              · have q0 := FA.out w' hw'
                go_simp
                rfl
              go_simp
              refine hK _ _ ?_
              clear hK K
              refine plan_go (pl0 (v := ?_) (by rfl) rfl rfl (fun w' hw' => ?_) (fun K hK => ?_))
              rotate_left
              · have q0 := FA.out w' hw'
                go_simp
                rfl
              go_simp
              refine hK _ _ ?_
              clear hK K
              refine plan_go (pl0 (v := ?_) (by rfl) rfl rfl (fun w' hw' => ?_) (fun K hK => ?_))
              rotate_left
              · have q0 := FA.out w' hw'
                go_simp
                rfl
              go_simp
              refine hK _ _ ?_
              clear hK K
              refine plan_go (pl0 (v := ?_) (by rfl) rfl rfl (fun w' hw' => ?_) (fun K hK => ?_))
              rotate_left
              · have q0 := FA.out w' hw'
                go_simp
                rfl
              go_simp
              refine hK _ _ ?_
              clear hK K
              refine plan_only (pl2 (by rfl) rfl rfl (fun K hK => ?_))
              go_simp
              intro m4
              refine (HF.out (wr.drewN _) sa sc (win xs C D (r * D) (c * D)) (SQ.out.drew _)).mono ?_
              rintro e v4 ⟨u, rfl, hu, A0⟩
              have A : Below wr.heap.size wr v4 := (bdrew (Below.refl _ _) _).trans A0
              clear A0
              have AC4 := Lib.hid (AC.out.next A (by omega))
              have z4 := A.size
              have C4 := Lib.hid (show Cl (b) b wr v4 from (Cl.refl _ _ _).trans ⟨A.mono (by omega), A.block _ (by omega)⟩)
              refine ⟨_, rfl, C4.out, hK _ _ ?_⟩
              clear hK K A
              refine plan_only (pl2 (by rfl) rfl rfl (fun K hK => ?_))
              go_simp
              intro n1
              refine ⟨(Cl.drew _ _ C4.out).alloc (by simp <;> omega) (by simp <;> omega) _, hK _ _ ?_⟩
              clear hK K
              refine plan_only (pl2 (by rfl) rfl rfl (fun K hK n2 => ?_))
              refine uponV_append (.tmp 79) (.tmp 83) 22 rfl (b) 45 i0 (.float .f32 0) 1 4 Try.underlying22 HI.out HZ0.out HZ1.out HZ2.out rfl (by decide) (.slice a' k cap') (k) (fl ys) rfl (((AC4.out.drew (n1)).alloc (by simp <;> omega) _).drew n2).own ⟨v4.heap.size, 0, none⟩ 1 1 [.float .f32 u] rfl rfl ?c1 ?c2 ?c3 ?c4 ?c5 ?_
              case c1 =>
                intro j v hj
                match j, hj with
                | 0, hj => simp at hj; subst hj; exact cell_new (v4.drewN (n1)) _ _
              case c2 => intro v hv; simp at hv; subst hv; rfl
              case c3 => unfold maxLen; omega
              case c4 => omega
              case c5 => simp <;> omega
              intro v' w2 hown hgr
              obtain ⟨a2, cap2, rfl, bx, fr, cl, acc2⟩ := Acc.app (by first | omega | (simp; omega)) (AC4.out.drew (n1)) hown ⟨hgr.os, hgr.tape, hgr.output, hgr.size, hgr.block⟩
              refine ⟨C4.out.trans ⟨⟨cl.below.os, cl.below.tape, cl.below.output, cl.below.size, cl.below.block⟩, cl.box⟩, ?_⟩
              go_simp
              refine hK _ _ ?_
              clear hK K hown hgr cl
              have AC2 := Lib.hid acc2
              clear acc2
              refine plan_fin (fun n3 => ?_)
              obtain ⟨b0', b1', b2', b3'⟩ := bx
              go_wp2
              go_roundw
              case rel => exact ⟨c + 1, k + 1, a2, cap2, ys ++ [u], by omega, by go_num, (by have := hk.out; show k + 1 = _; omega), AC2.out.drew n3, upto_step HY.out (by rw [hu, hFk.out]; rfl)⟩
              case measure => simp [intOf]; omega
        · go_wp2
          go_roundw
          case rel => exact ⟨r + 1, k, a', cap', ys, by omega, by go_num, (by have := hk.out; have e : c = CO := (by omega); subst e; show k = _; rw [Nat.succ_mul]; exact this), HA.out, HY.out⟩
          case measure => simp [intOf]; omega
    · have e : r = RO := by omega
      have hme : k = RO * CO := by rw [← e]; exact hk
      clear hk e b0' b1' b2' b3'
      subst hme
      have BW : Below w.heap.size w wr := T.trans (HA.out.below.mono (by omega))
      have ZR := Lib.hid (ZR.out.upto HA.out.below (by omega))
      obtain ⟨b0', b1', b2', b3'⟩ := HA.out.box
      have zz := HA.out.below.size
      obtain ⟨⟨ZR0, ZR1, ZR2, ZR3⟩, ZR4, ZR5, ZR6⟩ := ZR.out
      go_wp2
      refine bodyPost_ret (v := .tuple #[.agg #[.int .i64 (RO : Int), .int .i64 (CO : Int), .slice a' (RO * CO) cap'], .bool true]) (by simp [results, Try.results38, go_sem, ZR0, ZR1, ZR2]) rfl ?_
      exact RT_end BW (by omega) (HA.out.row (by omega)) (by omega) HY.out (upto_length _ _)
set_option maxHeartbeats 2000000 in
theorem poolN (fv : Value) (r c : Int) (a : Option Addr) (n cap : Nat) (k : Int) (w : World) (hm : n ≤ maxLen) (ho : ok r c n k = false) :
    Calls Try.prog 38 #[.agg #[.int .i64 r, .int .i64 c, .slice a n cap], .int .i64 k, fv] w (RT 45 w 0 0 [] false) := by
  have HM := Lib.hid hm
  clear hm
  unfold ok at ho
  cases hv : decide (vt r c n)
  · have HV := Lib.hid hv
    clear hv ho
    go_enter Try.func38, Try.ntmps38
    go_wp2_with fail
    refine calls_at ?_
    intro w1 hA
    have A : Below w.heap.size w w1 := by rw [hA]; exact ((Below.refl _ _).alloc (Nat.le_refl _) _).alloc (by simp <;> omega) _
    have zw1 : w1.heap.size = w.heap.size + 1 + 1 := by rw [hA]; simp
    have Q_ : Box w1 (w.heap.size) r c a n cap := by rw [hA]; exact ⟨by simp [go_sem], by simp [go_sem], by simp [go_sem], by simp <;> omega⟩
    have ZR_ : Zbox w1 (w.heap.size + 1) := by rw [hA]; exact ⟨⟨by simp [go_sem], by simp [go_sem], by simp [go_sem], by simp <;> omega⟩, by simp [go_sem], by simp [go_sem], by simp [go_sem]⟩
    clear hA
    have zw1a := Nat.le_of_eq zw1
    have zw1b := Nat.le_of_eq zw1.symm
    clear zw1
    have T := A
    clear A
    have Q := Lib.hid Q_
    clear Q_
    have ZR := Lib.hid ZR_
    clear ZR_
    refine (validT _ _ _ _ _ _ HM.out).mono ?_
    rintro e w2 ⟨rfl, A⟩
    have T := T.trans (A.mono T.size)
    have Q := Lib.hid (Q.out.below A)
    have ZR := Lib.hid (ZR.out.below A)
    have zw2 := A.size
    clear A
    rw [HV.out]
    obtain ⟨⟨ZR0, ZR1, ZR2, ZR3⟩, ZR4, ZR5, ZR6⟩ := ZR.out
    go_wp2
    refine bodyPost_ret (v := .tuple #[.agg #[.int .i64 0, .int .i64 0, .slice none 0 0], .bool false]) (by simp [results, Try.results38, go_sem, ZR0, ZR1, ZR2]) rfl ?_
    exact RT_no T (by omega)
  · cases hu : inr k 1 8
    · have HV := Lib.hid hv
      have HU := Lib.hid hu
      clear hv hu ho
      go_enter Try.func38, Try.ntmps38
      go_wp2_with fail
      refine calls_at ?_
      intro w1 hA
      have A : Below w.heap.size w w1 := by rw [hA]; exact ((Below.refl _ _).alloc (Nat.le_refl _) _).alloc (by simp <;> omega) _
      have zw1 : w1.heap.size = w.heap.size + 1 + 1 := by rw [hA]; simp
      have Q_ : Box w1 (w.heap.size) r c a n cap := by rw [hA]; exact ⟨by simp [go_sem], by simp [go_sem], by simp [go_sem], by simp <;> omega⟩
      have ZR_ : Zbox w1 (w.heap.size + 1) := by rw [hA]; exact ⟨⟨by simp [go_sem], by simp [go_sem], by simp [go_sem], by simp <;> omega⟩, by simp [go_sem], by simp [go_sem], by simp [go_sem]⟩
      clear hA
      have zw1a := Nat.le_of_eq zw1
      have zw1b := Nat.le_of_eq zw1.symm
      clear zw1
      have T := A
      clear A
      have Q := Lib.hid Q_
      clear Q_
      have ZR := Lib.hid ZR_
      clear ZR_
      refine (validT _ _ _ _ _ _ HM.out).mono ?_
      rintro e w2 ⟨rfl, A⟩
      have T := T.trans (A.mono T.size)
      have Q := Lib.hid (Q.out.below A)
      have ZR := Lib.hid (ZR.out.below A)
      have zw2 := A.size
      clear A
      rw [HV.out]
      obtain ⟨Q0, Q1, Q2, Q3⟩ := Q.out
      go_wp2_with fail
      clear Q0 Q1 Q2 Q3
      refine (kernI _ _).mono ?_
      rintro e w2x ⟨rfl, hsame⟩
      replace hsame := hsame.symm
      subst hsame
      rw [HU.out]
      obtain ⟨⟨ZR0, ZR1, ZR2, ZR3⟩, ZR4, ZR5, ZR6⟩ := ZR.out
      go_wp2
      refine bodyPost_ret (v := .tuple #[.agg #[.int .i64 0, .int .i64 0, .slice none 0 0], .bool false]) (by simp [results, Try.results38, go_sem, ZR0, ZR1, ZR2]) rfl ?_
      exact RT_no T (by omega)
    · rw [hv, hu, Bool.true_and, Bool.true_and] at ho
      obtain ⟨R, C, rfl, rfl, hR, hC, hnRC⟩ := nat_of (of_decide_eq_true hv)
      clear hnRC
      have hk : 1 ≤ k ∧ k ≤ 8 := by unfold inr at hu; simp at hu; omega
      obtain ⟨D, rfl⟩ := Int.eq_ofNat_of_zero_le (a := k) (by omega)
      have hD : 1 ≤ D ∧ D ≤ 8 := by omega
      clear hk
      have HV := Lib.hid hv
      have HU := Lib.hid hu
      clear hv hu
      by_cases hpr : (R : Int) % (D : Int) = 0
      · have hqc : ¬ (C : Int) % (D : Int) = 0 := by intro h; rw [decide_eq_true hpr, decide_eq_true h] at ho; cases ho
        have g1 : ((R : Int) % (D : Int) == 0) = true := by simpa using hpr
        have g2 : ((C : Int) % (D : Int) == 0) = false := by simpa using hqc
        have g3 : ((C : Int) % (D : Int) != 0) = true := by simpa using hqc
        have g4 : ((R : Int) % (D : Int) != 0) = false := by simpa using hpr
        clear ho hpr hqc
        go_enter Try.func38, Try.ntmps38
        go_wp2_with fail
        refine calls_at ?_
        intro w1 hA
        have A : Below w.heap.size w w1 := by rw [hA]; exact ((Below.refl _ _).alloc (Nat.le_refl _) _).alloc (by simp <;> omega) _
        have zw1 : w1.heap.size = w.heap.size + 1 + 1 := by rw [hA]; simp
        have Q_ : Box w1 (w.heap.size) (R : Int) (C : Int) a n cap := by rw [hA]; exact ⟨by simp [go_sem], by simp [go_sem], by simp [go_sem], by simp <;> omega⟩
        have ZR_ : Zbox w1 (w.heap.size + 1) := by rw [hA]; exact ⟨⟨by simp [go_sem], by simp [go_sem], by simp [go_sem], by simp <;> omega⟩, by simp [go_sem], by simp [go_sem], by simp [go_sem]⟩
        clear hA
        have zw1a := Nat.le_of_eq zw1
        have zw1b := Nat.le_of_eq zw1.symm
        clear zw1
        have T := A
        clear A
        have Q := Lib.hid Q_
        clear Q_
        have ZR := Lib.hid ZR_
        clear ZR_
        refine (validT _ _ _ _ _ _ HM.out).mono ?_
        rintro e w2 ⟨rfl, A⟩
        have T := T.trans (A.mono T.size)
        have Q := Lib.hid (Q.out.below A)
        have ZR := Lib.hid (ZR.out.below A)
        have zw2 := A.size
        clear A
        rw [HV.out]
        obtain ⟨Q0, Q1, Q2, Q3⟩ := Q.out
        go_wp2_with fail
        clear Q0 Q1 Q2 Q3
        refine (kernI _ _).mono ?_
        rintro e w2x ⟨rfl, hsame⟩
        replace hsame := hsame.symm
        subst hsame
        rw [HU.out]
        obtain ⟨Q0, Q1, Q2, Q3⟩ := Q.out
        obtain ⟨⟨ZR0, ZR1, ZR2, ZR3⟩, ZR4, ZR5, ZR6⟩ := ZR.out
        go_wp2
        refine bodyPost_ret (v := .tuple #[.agg #[.int .i64 0, .int .i64 0, .slice none 0 0], .bool false]) (by simp [results, Try.results38, go_sem, ZR0, ZR1, ZR2]) rfl ?_
        exact RT_no T (by omega)
      · have g1 : ((R : Int) % (D : Int) == 0) = false := by simpa using hpr
        have g3 : ((R : Int) % (D : Int) != 0) = true := by simpa using hpr
        clear ho hpr
        go_enter Try.func38, Try.ntmps38
        go_wp2_with fail
        refine calls_at ?_
        intro w1 hA
        have A : Below w.heap.size w w1 := by rw [hA]; exact ((Below.refl _ _).alloc (Nat.le_refl _) _).alloc (by simp <;> omega) _
        have zw1 : w1.heap.size = w.heap.size + 1 + 1 := by rw [hA]; simp
        have Q_ : Box w1 (w.heap.size) (R : Int) (C : Int) a n cap := by rw [hA]; exact ⟨by simp [go_sem], by simp [go_sem], by simp [go_sem], by simp <;> omega⟩
        have ZR_ : Zbox w1 (w.heap.size + 1) := by rw [hA]; exact ⟨⟨by simp [go_sem], by simp [go_sem], by simp [go_sem], by simp <;> omega⟩, by simp [go_sem], by simp [go_sem], by simp [go_sem]⟩
        clear hA
        have zw1a := Nat.le_of_eq zw1
        have zw1b := Nat.le_of_eq zw1.symm
        clear zw1
        have T := A
        clear A
        have Q := Lib.hid Q_
        clear Q_
        have ZR := Lib.hid ZR_
        clear ZR_
        refine (validT _ _ _ _ _ _ HM.out).mono ?_
        rintro e w2 ⟨rfl, A⟩
        have T := T.trans (A.mono T.size)
        have Q := Lib.hid (Q.out.below A)
        have ZR := Lib.hid (ZR.out.below A)
        have zw2 := A.size
        clear A
        rw [HV.out]
        obtain ⟨Q0, Q1, Q2, Q3⟩ := Q.out
        go_wp2_with fail
        clear Q0 Q1 Q2 Q3
        refine (kernI _ _).mono ?_
        rintro e w2x ⟨rfl, hsame⟩
        replace hsame := hsame.symm
        subst hsame
        rw [HU.out]
        obtain ⟨Q0, Q1, Q2, Q3⟩ := Q.out
        obtain ⟨⟨ZR0, ZR1, ZR2, ZR3⟩, ZR4, ZR5, ZR6⟩ := ZR.out
        go_wp2
        refine bodyPost_ret (v := .tuple #[.agg #[.int .i64 0, .int .i64 0, .slice none 0 0], .bool false]) (by simp [results, Try.results38, go_sem, ZR0, ZR1, ZR2]) rfl ?_
        exact RT_no T (by omega)
set_option maxRecDepth 100000 in
set_option maxHeartbeats 2000000 in
theorem specN (r c : Int) (a : Option Addr) (n cap b0 : Nat) (k : Int) (most : Bool) (w : World) (hm : n ≤ maxLen) (QB : Box w b0 r c a n cap) (ho : ok r c n k = false) :
    Calls Try.prog 37 #[.pointer (some ⟨b0, 0, none⟩), .int .i64 k, .bool most] w (RT 45 w 0 0 [] false) := by
  have HM := Lib.hid hm
  clear hm
  unfold ok at ho
  have HQ := Lib.hid QB
  have Q3 := QB.lt
  clear QB
  cases hv : decide (vt r c n)
  · have HV := Lib.hid hv
    clear hv ho
    go_enter Try.func37, Try.ntmps37
    go_wp2_with fail
    refine calls_at ?_
    intro w1 hA
    have A : Below w.heap.size w w1 := by rw [hA]; exact (Below.refl _ _).alloc (Nat.le_refl _) _
    have zw1 : w1.heap.size = w.heap.size + 1 := by rw [hA]; simp
    have ZR_ : Zbox w1 (w.heap.size) := by rw [hA]; exact ⟨⟨by simp [go_sem], by simp [go_sem], by simp [go_sem], by simp <;> omega⟩, by simp [go_sem], by simp [go_sem], by simp [go_sem]⟩
    clear hA
    have zw1a := Nat.le_of_eq zw1
    have zw1b := Nat.le_of_eq zw1.symm
    clear zw1
    have T := A
    clear A
    have ZR := Lib.hid ZR_
    clear ZR_
    have QB_ := HQ.out.below T
    have Q := Lib.hid QB_
    clear QB_
    refine (isT r c a n cap _ _ _ HM.out Q.out.c0 Q.out.c1 Q.out.c2).mono ?_
    rintro e w2 ⟨rfl, mm, hw⟩
    have A := below_of_drew hw
    clear hw
    have T := T.trans (A.mono T.size)
    have ZR := Lib.hid (ZR.out.below A)
    have Q := Lib.hid (Q.out.below A)
    have zw2 := A.size
    clear A
    rw [HV.out]
    obtain ⟨⟨ZR0, ZR1, ZR2, ZR3⟩, ZR4, ZR5, ZR6⟩ := ZR.out
    go_wp2
    refine bodyPost_ret (v := .tuple #[.agg #[.int .i64 0, .int .i64 0, .slice none 0 0], .bool false]) (by simp [results, Try.results37, go_sem, ZR0, ZR1, ZR2]) rfl ?_
    exact RT_no T (by omega)
  · cases hu : inr k 1 8
    · have HV := Lib.hid hv
      have HU := Lib.hid hu
      clear hv hu ho
      go_enter Try.func37, Try.ntmps37
      go_wp2_with fail
      refine calls_at ?_
      intro w1 hA
      have A : Below w.heap.size w w1 := by rw [hA]; exact (Below.refl _ _).alloc (Nat.le_refl _) _
      have zw1 : w1.heap.size = w.heap.size + 1 := by rw [hA]; simp
      have ZR_ : Zbox w1 (w.heap.size) := by rw [hA]; exact ⟨⟨by simp [go_sem], by simp [go_sem], by simp [go_sem], by simp <;> omega⟩, by simp [go_sem], by simp [go_sem], by simp [go_sem]⟩
      clear hA
      have zw1a := Nat.le_of_eq zw1
      have zw1b := Nat.le_of_eq zw1.symm
      clear zw1
      have T := A
      clear A
      have ZR := Lib.hid ZR_
      clear ZR_
      have QB_ := HQ.out.below T
      have Q := Lib.hid QB_
      clear QB_
      refine (isT r c a n cap _ _ _ HM.out Q.out.c0 Q.out.c1 Q.out.c2).mono ?_
      rintro e w2 ⟨rfl, mm, hw⟩
      have A := below_of_drew hw
      clear hw
      have T := T.trans (A.mono T.size)
      have ZR := Lib.hid (ZR.out.below A)
      have Q := Lib.hid (Q.out.below A)
      have zw2 := A.size
      clear A
      rw [HV.out]
      obtain ⟨Q0, Q1, Q2, Q3⟩ := Q.out
      go_wp2_with fail
      clear Q0 Q1 Q2 Q3
      refine (inS _ _ _ _).mono ?_
      rintro e w2x ⟨rfl, hsame⟩
      replace hsame := hsame.symm
      subst hsame
      rw [HU.out]
      obtain ⟨⟨ZR0, ZR1, ZR2, ZR3⟩, ZR4, ZR5, ZR6⟩ := ZR.out
      go_wp2
      refine bodyPost_ret (v := .tuple #[.agg #[.int .i64 0, .int .i64 0, .slice none 0 0], .bool false]) (by simp [results, Try.results37, go_sem, ZR0, ZR1, ZR2]) rfl ?_
      exact RT_no T (by omega)
    · rw [hv, hu, Bool.true_and, Bool.true_and] at ho
      obtain ⟨R, C, rfl, rfl, hR, hC, hnRC⟩ := nat_of (of_decide_eq_true hv)
      clear hnRC
      have hk : 1 ≤ k ∧ k ≤ 8 := by unfold inr at hu; simp at hu; omega
      obtain ⟨D, rfl⟩ := Int.eq_ofNat_of_zero_le (a := k) (by omega)
      have hD : 1 ≤ D ∧ D ≤ 8 := by omega
      clear hk
      have HV := Lib.hid hv
      have HU := Lib.hid hu
      clear hv hu
      by_cases hpr : (R : Int) % (D : Int) = 0
      · have hqc : ¬ (C : Int) % (D : Int) = 0 := by intro h; rw [decide_eq_true hpr, decide_eq_true h] at ho; cases ho
        have g1 : ((R : Int) % (D : Int) == 0) = true := by simpa using hpr
        have g2 : ((C : Int) % (D : Int) == 0) = false := by simpa using hqc
        have g3 : ((C : Int) % (D : Int) != 0) = true := by simpa using hqc
        have g4 : ((R : Int) % (D : Int) != 0) = false := by simpa using hpr
        clear ho hpr hqc
        go_enter Try.func37, Try.ntmps37
        go_wp2_with fail
        refine calls_at ?_
        intro w1 hA
        have A : Below w.heap.size w w1 := by rw [hA]; exact (Below.refl _ _).alloc (Nat.le_refl _) _
        have zw1 : w1.heap.size = w.heap.size + 1 := by rw [hA]; simp
        have ZR_ : Zbox w1 (w.heap.size) := by rw [hA]; exact ⟨⟨by simp [go_sem], by simp [go_sem], by simp [go_sem], by simp <;> omega⟩, by simp [go_sem], by simp [go_sem], by simp [go_sem]⟩
        clear hA
        have zw1a := Nat.le_of_eq zw1
        have zw1b := Nat.le_of_eq zw1.symm
        clear zw1
        have T := A
        clear A
        have ZR := Lib.hid ZR_
        clear ZR_
        have QB_ := HQ.out.below T
        have Q := Lib.hid QB_
        clear QB_
        refine (isT (R : Int) (C : Int) a n cap _ _ _ HM.out Q.out.c0 Q.out.c1 Q.out.c2).mono ?_
        rintro e w2 ⟨rfl, mm, hw⟩
        have A := below_of_drew hw
        clear hw
        have T := T.trans (A.mono T.size)
        have ZR := Lib.hid (ZR.out.below A)
        have Q := Lib.hid (Q.out.below A)
        have zw2 := A.size
        clear A
        rw [HV.out]
        obtain ⟨Q0, Q1, Q2, Q3⟩ := Q.out
        go_wp2_with fail
        clear Q0 Q1 Q2 Q3
        refine (inS _ _ _ _).mono ?_
        rintro e w2x ⟨rfl, hsame⟩
        replace hsame := hsame.symm
        subst hsame
        rw [HU.out]
        obtain ⟨Q0, Q1, Q2, Q3⟩ := Q.out
        obtain ⟨⟨ZR0, ZR1, ZR2, ZR3⟩, ZR4, ZR5, ZR6⟩ := ZR.out
        go_wp2
        refine bodyPost_ret (v := .tuple #[.agg #[.int .i64 0, .int .i64 0, .slice none 0 0], .bool false]) (by simp [results, Try.results37, go_sem, ZR0, ZR1, ZR2]) rfl ?_
        exact RT_no T (by omega)
      · have g1 : ((R : Int) % (D : Int) == 0) = false := by simpa using hpr
        have g3 : ((R : Int) % (D : Int) != 0) = true := by simpa using hpr
        clear ho hpr
        go_enter Try.func37, Try.ntmps37
        go_wp2_with fail
        refine calls_at ?_
        intro w1 hA
        have A : Below w.heap.size w w1 := by rw [hA]; exact (Below.refl _ _).alloc (Nat.le_refl _) _
        have zw1 : w1.heap.size = w.heap.size + 1 := by rw [hA]; simp
        have ZR_ : Zbox w1 (w.heap.size) := by rw [hA]; exact ⟨⟨by simp [go_sem], by simp [go_sem], by simp [go_sem], by simp <;> omega⟩, by simp [go_sem], by simp [go_sem], by simp [go_sem]⟩
        clear hA
        have zw1a := Nat.le_of_eq zw1
        have zw1b := Nat.le_of_eq zw1.symm
        clear zw1
        have T := A
        clear A
        have ZR := Lib.hid ZR_
        clear ZR_
        have QB_ := HQ.out.below T
        have Q := Lib.hid QB_
        clear QB_
        refine (isT (R : Int) (C : Int) a n cap _ _ _ HM.out Q.out.c0 Q.out.c1 Q.out.c2).mono ?_
        rintro e w2 ⟨rfl, mm, hw⟩
        have A := below_of_drew hw
        clear hw
        have T := T.trans (A.mono T.size)
        have ZR := Lib.hid (ZR.out.below A)
        have Q := Lib.hid (Q.out.below A)
        have zw2 := A.size
        clear A
        rw [HV.out]
        obtain ⟨Q0, Q1, Q2, Q3⟩ := Q.out
        go_wp2_with fail
        clear Q0 Q1 Q2 Q3
        refine (inS _ _ _ _).mono ?_
        rintro e w2x ⟨rfl, hsame⟩
        replace hsame := hsame.symm
        subst hsame
        rw [HU.out]
        obtain ⟨Q0, Q1, Q2, Q3⟩ := Q.out
        obtain ⟨⟨ZR0, ZR1, ZR2, ZR3⟩, ZR4, ZR5, ZR6⟩ := ZR.out
        go_wp2
        refine bodyPost_ret (v := .tuple #[.agg #[.int .i64 0, .int .i64 0, .slice none 0 0], .bool false]) (by simp [results, Try.results37, go_sem, ZR0, ZR1, ZR2]) rfl ?_
        exact RT_no T (by omega)
end Go.Proofs.Ytfgmpodmbbnijaa.pool
