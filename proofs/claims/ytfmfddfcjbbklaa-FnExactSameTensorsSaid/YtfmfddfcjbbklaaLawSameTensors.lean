/- The law FnExactSameTensors holds for every input. No conditions. -/
import Derived.Test.YtfmfddfcjbbklaaValid
import Derived.Test.YtfmfddfcjbbklaaLike
import Derived.Test.YtfmfddfcjbbklaaFin
import Derived.Test.YtfmfddfcjbbklaaBits
import Derived.Deep.CutRange
import Derived.Test.YtfmfddfcjbbklaaOpen
import Derived.ProofKit
import Derived.OpenShut
import Derived.ChangeOld
import Derived.WalkSmall
namespace Go.Proofs.Ytfmfddfcjbbklaa.sameTensors
open Go.ChangeShapes Go.WideShapes Go.ChangeAt Go.RowKit Go.Fl Go.Reg
def sm (a b : Nat) : Bool := decide (cn .f32 a = cn .f32 b)
theorem sm_fin {a b : Nat} (na : isNaN .f32 a = false) (nb : isNaN .f32 b = false) : sm a b = decide (a = b) := by unfold sm; rw [cn_of_not na, cn_of_not nb]
theorem sm_l {a b : Nat} (na : isNaN .f32 a = true) (nb : isNaN .f32 b = false) : sm a b = false := by
  unfold sm; rw [cn_of_nan na, cn_of_not nb]
  exact decide_eq_false (fun h => by rw [← h, isNaN_qn] at nb; cases nb)
theorem sm_r {a b : Nat} (na : isNaN .f32 a = false) (nb : isNaN .f32 b = true) : sm a b = false := by
  unfold sm; rw [cn_of_not na, cn_of_nan nb]
  exact decide_eq_false (fun h => by rw [h, isNaN_qn] at na; cases na)
theorem sm_nan {a b : Nat} (na : isNaN .f32 a = true) (nb : isNaN .f32 b = true) : sm a b = true := by
  unfold sm; rw [cn_of_nan na, cn_of_nan nb]; exact decide_eq_true rfl
theorem sameS (a b : Nat) (w : World) (ha' : a < 4294967296) (hb' : b < 4294967296) : Calls Try.prog 84 #[.float .f32 a, .float .f32 b] w (BN w (sm a b)) := by
  cases na : isNaN .f32 a
  · cases nb : isNaN .f32 b
    · rw [sm_fin na nb]
      by_cases hab : a = b
      · subst hab
        rw [decide_eq_true rfl]
        go_enter Try.func84, Try.ntmps84
        go_wp2_with go_in
        go_ret
        exact ⟨rfl, Below.refl _ _⟩
      · rw [decide_eq_false hab]
        have g2 : ((a : Int) == b) = false := by simp; omega
        clear hab
        go_enter Try.func84, Try.ntmps84
        go_wp2_with go_in
        go_ret
        exact ⟨rfl, Below.refl _ _⟩
    · rw [sm_r na nb]
      have g2 : ((a : Int) == 2143289344) = false := by
        have := nan_le na
        simp; omega
      go_enter Try.func84, Try.ntmps84
      go_wp2_with go_in
      go_ret
      exact ⟨rfl, Below.refl _ _⟩
  · cases nb : isNaN .f32 b
    · rw [sm_l na nb]
      have g2 : ((2143289344 : Int) == b) = false := by
        have := nan_le nb
        simp; omega
      go_enter Try.func84, Try.ntmps84
      go_wp2_with go_in
      go_ret
      exact ⟨rfl, Below.refl _ _⟩
    · rw [sm_nan na nb]
      go_enter Try.func84, Try.ntmps84
      go_wp2_with go_in
      go_ret
      exact ⟨rfl, Below.refl _ _⟩
theorem sameI (a b : Nat) (w : World) (ha' : a < 4294967296) (hb' : b < 4294967296) : Calls Try.prog 86 #[.float .f32 a, .float .f32 b] w (BN w (sm a b)) := by
  cases na : isNaN .f32 a
  · cases nb : isNaN .f32 b
    · rw [sm_fin na nb]
      have h1 := fwid_of na
      have h2 := fwid_of nb
      have h3 := wdr_of na
      have h4 := wdr_of nb
      by_cases hab : a = b
      · subst hab
        rw [decide_eq_true rfl]
        have g := order_self na
        go_enter Try.func86, Try.ntmps86
        go_wp2_with go_in
        go_ret
        exact ⟨rfl, below_drewN (Below.refl _ _) 0⟩
      · rw [decide_eq_false hab]
        cases ho : (FloatKind.f32.format.order a b == some .eq)
        · clear hab
          go_enter Try.func86, Try.ntmps86
          go_wp2_with go_in
          go_ret
          exact ⟨rfl, below_drewN (Below.refl _ _) 0⟩
        · rcases order_eq (k := .f32) ha' hb' na nb (by simpa using ho) with h | ⟨za, zb⟩
          · exact absurd h hab
          · have : (a = 0 ∧ b = 2147483648) ∨ (a = 2147483648 ∧ b = 0) := by
              have za' : a % 2147483648 = 0 := za
              have zb' : b % 2147483648 = 0 := zb
              omega
            rcases this with ⟨rfl, rfl⟩ | ⟨rfl, rfl⟩
            all_goals
              have e0 : wid 0 = 0 := by decide +kernel
              have e1 : wid 2147483648 = 9223372036854775808 := by decide +kernel
              have ew : wrap64 9223372036854775808 < 0 := by decide +kernel
              clear hab za zb
              go_enter Try.func86, Try.ntmps86
              go_wp2_with go_in
              go_ret
              exact ⟨rfl, below_drewN (Below.refl _ _) 0⟩
    · rw [sm_r na nb]
      go_enter Try.func86, Try.ntmps86
      go_wp2_with go_in
      go_ret
      exact ⟨rfl, below_drewN (Below.refl _ _) 0⟩
  · cases nb : isNaN .f32 b
    · rw [sm_l na nb]
      go_enter Try.func86, Try.ntmps86
      go_wp2_with go_in
      go_ret
      exact ⟨rfl, below_drewN (Below.refl _ _) 0⟩
    · rw [sm_nan na nb]
      go_enter Try.func86, Try.ntmps86
      go_wp2_with go_in
      go_ret
      exact ⟨rfl, below_drewN (Below.refl _ _) 0⟩
/-- the first n numbers of both are the same -/
def eqB (xs ys : List Nat) (n : Nat) : Bool := (List.range n).all fun j => sm (xs[j]?.getD 0) (ys[j]?.getD 0)
theorem eqB_no {xs ys : List Nat} {n k : Nat} (hk : k < n) (h : sm (xs[k]?.getD 0) (ys[k]?.getD 0) = false) : eqB xs ys n = false := by
  unfold eqB
  rw [List.all_eq_false]
  exact ⟨k, List.mem_range.2 hk, by rw [h]; simp⟩
theorem eqB_yes {xs ys : List Nat} {n : Nat} (h : ∀ j, j < n → sm (xs[j]?.getD 0) (ys[j]?.getD 0) = true) : eqB xs ys n = true := by
  unfold eqB
  rw [List.all_eq_true]
  exact fun j hj => h j (List.mem_range.1 hj)
theorem small {xs : List Nat} (h : ∀ x ∈ xs, x < 4294967296) (k : Nat) : xs[k]?.getD 0 < 4294967296 := by
  cases hg : xs[k]? with
  | none => simp
  | some x => simpa using h x (List.mem_of_getElem? hg)
theorem allS (a1 a2 : Option Addr) (n c1 c2 : Nat) (xs ys : List Nat) (w : World) (h1 : Fs w a1 n c1 xs) (h2 : Fs w a2 n c2 ys) (b1 : ∀ x ∈ xs, x < 4294967296) (b2 : ∀ x ∈ ys, x < 4294967296) (hn : n ≤ 256) :
    Calls Try.prog 65 #[.slice a1 n c1, .slice a2 n c2] w (BN w (eqB xs ys n)) := by
  have HX := Lib.hid h1.cell
  have HY := Lib.hid h2.cell
  have hc1 := h1.cap1
  have hc2 := h2.cap1
  have s1 := Lib.hid (small b1)
  have s2 := Lib.hid (small b2)
  clear h1 h2 b1 b2
  go_enter Try.func65, Try.ntmps65
  go_wp2
  go_loopw [5] (fun i w' => ∃ k : Nat, k ≤ n ∧ i = .int .i64 k ∧ Hid (∀ j, j < k → sm (xs[j]?.getD 0) (ys[j]?.getD 0) = true) ∧ Below w.heap.size w w') (fun i _ => n - (intOf i).toNat)
  case atStart => exact ⟨0, Nat.zero_le _, rfl, fun j hj => absurd hj (Nat.not_lt_zero _), Below.refl _ _⟩
  case round =>
    obtain ⟨k, hk, rfl, hall, BW⟩ := hrel
    by_cases hlt : k < n
    · obtain ⟨ba, oa, rfl, hca⟩ := HX.out k hlt
      obtain ⟨bb, ob, rfl, hcb⟩ := HY.out k hlt
      have ca := (BW.cell (p := ⟨ba, oa + k, none⟩) (World.block_lt_of_cell? w _ hca)).trans hca
      have cb := (BW.cell (p := ⟨bb, ob + k, none⟩) (World.block_lt_of_cell? w _ hcb)).trans hcb
      clear hca hcb
      have la := World.block_lt_of_cell? wr _ ca
      have lb := World.block_lt_of_cell? wr _ cb
      have CA := Lib.hid ca
      have CB := Lib.hid cb
      clear ca cb
      have T := BW
      go_wp2_with fail
      have FACT : ∀ w', Below wr.heap.size wr w' → w'.cell? ⟨ba, oa + k, none⟩ = some (.float .f32 (xs[k]?.getD 0)) ∧ w'.cell? ⟨bb, ob + k, none⟩ = some (.float .f32 (ys[k]?.getD 0)) := fun w' hb => ⟨(hb.cell (p := ⟨ba, oa + k, none⟩) la).trans CA.out, (hb.cell (p := ⟨bb, ob + k, none⟩) lb).trans CB.out⟩
      have FA := Lib.hid FACT
      clear FACT
      refine wp_plan 9 [0, 0, 0, 0, 0, 0, 0, 0, 2, 0] (.go 0 (.go 1 (.go 2 (.go 3 (.go 4 (.go 5 (.go 6 (.go 7 (.only 8 .fin))))))))) (Bl wr) (by kernel_rfl) (by kernel_rfl) (Bl.refl _) Bl.drew ?_
      simp only [List.drop_succ_cons, List.drop_zero]
      refine plan_go (pl0 (v := ?_) (by rfl) rfl rfl (fun w' hw' => ?_) (fun K hK => ?_))
      rotate_left
      · obtain ⟨q0, q1⟩ := FA.out w' hw'
        go_simp
        rfl
      go_simp
      refine hK _ _ ?_
      clear hK K
      refine plan_go (pl0 (v := ?_) (by rfl) rfl rfl (fun w' hw' => ?_) (fun K hK => ?_))
      rotate_left
      · obtain ⟨q0, q1⟩ := FA.out w' hw'
        go_simp
        rfl
      go_simp
      refine hK _ _ ?_
      clear hK K
      refine plan_go (pl0 (v := ?_) (by rfl) rfl rfl (fun w' hw' => ?_) (fun K hK => ?_))
      rotate_left
      · obtain ⟨q0, q1⟩ := FA.out w' hw'
        go_simp
        rfl
      go_simp
      refine hK _ _ ?_
      clear hK K
      refine plan_go (pl0 (v := ?_) (by rfl) rfl rfl (fun w' hw' => ?_) (fun K hK => ?_))
      rotate_left
      · obtain ⟨q0, q1⟩ := FA.out w' hw'
        go_simp
        rfl
      go_simp
      refine hK _ _ ?_
      clear hK K
      refine plan_go (pl0 (v := ?_) (by rfl) rfl rfl (fun w' hw' => ?_) (fun K hK => ?_))
      rotate_left
      · obtain ⟨q0, q1⟩ := FA.out w' hw'
        go_simp
        rfl
      go_simp
      refine hK _ _ ?_
      clear hK K
      refine plan_go (pl0 (v := ?_) (by rfl) rfl rfl (fun w' hw' => ?_) (fun K hK => ?_))
      rotate_left
      · obtain ⟨q0, q1⟩ := FA.out w' hw'
        go_simp
        rfl
      go_simp
      refine hK _ _ ?_
      clear hK K
      refine plan_go (pl0 (v := ?_) (by rfl) rfl rfl (fun w' hw' => ?_) (fun K hK => ?_))
      rotate_left
      · obtain ⟨q0, q1⟩ := FA.out w' hw'
        go_simp
        rfl
      go_simp
      refine hK _ _ ?_
      clear hK K
      refine plan_go (pl0 (v := ?_) (by rfl) rfl rfl (fun w' hw' => ?_) (fun K hK => ?_))
      rotate_left
      · obtain ⟨q0, q1⟩ := FA.out w' hw'
        go_simp
        rfl
      go_simp
      refine hK _ _ ?_
      clear hK K
      refine plan_only (pl2 (by rfl) rfl rfl (fun K hK => ?_))
      go_simp
      intro m8
      refine (sameS _ _ _ (s1.out k) (s2.out k)).mono ?_
      rintro e w1 ⟨rfl, A0⟩
      have A : Below wr.heap.size wr w1 := (bdrew (Below.refl _ _) _).trans A0
      clear A0
      have Bw1 : Below wr.heap.size wr w1 := A
      refine ⟨_, rfl, Bw1, hK _ _ ?_⟩
      clear hK K
      have T := T.trans (A.mono T.size)
      have zw1 := A.size
      clear A
      refine plan_fin (fun nF => ?_)
      cases hs : sm (xs[k]?.getD 0) (ys[k]?.getD 0)
      · have HS := Lib.hid hs
        clear hs
        go_wp2
        go_ret
        exact ⟨by rw [eqB_no hlt HS.out]; rfl, bdrew T _⟩
      · have HS := Lib.hid hs
        clear hs
        go_wp2
        go_roundw
        case rel => exact ⟨k + 1, by omega, by go_num, (fun j hj => by rcases Nat.lt_succ_iff_lt_or_eq.1 hj with h | h; exact hall.out j h; subst h; exact HS.out), bdrew T _⟩
        case measure => simp [intOf]; omega
    · have e : k = n := by omega
      subst e
      go_wp2
      go_ret
      exact ⟨by rw [eqB_yes hall.out]; rfl, BW⟩
theorem allI (a1 a2 : Option Addr) (n c1 c2 : Nat) (xs ys : List Nat) (w : World) (h1 : Fs w a1 n c1 xs) (h2 : Fs w a2 n c2 ys) (b1 : ∀ x ∈ xs, x < 4294967296) (b2 : ∀ x ∈ ys, x < 4294967296) (hn : n ≤ 256) :
    Calls Try.prog 85 #[.slice a1 n c1, .slice a2 n c2, .func (.func 86) #[] #[]] w (BN w (eqB xs ys n)) := by
  have HX := Lib.hid h1.cell
  have HY := Lib.hid h2.cell
  have hc1 := h1.cap1
  have hc2 := h2.cap1
  have s1 := Lib.hid (small b1)
  have s2 := Lib.hid (small b2)
  clear h1 h2 b1 b2
  go_enter Try.func85, Try.ntmps85
  go_wp2
  go_loopw [17] (fun i w' => ∃ k : Nat, k ≤ n ∧ i = .int .i64 k ∧ Hid (∀ j, j < k → sm (xs[j]?.getD 0) (ys[j]?.getD 0) = true) ∧ Below w.heap.size w w') (fun i _ => n - (intOf i).toNat)
  case atStart => exact ⟨0, Nat.zero_le _, rfl, fun j hj => absurd hj (Nat.not_lt_zero _), Below.refl _ _⟩
  case round =>
    obtain ⟨k, hk, rfl, hall, BW⟩ := hrel
    by_cases hlt : k < n
    · obtain ⟨ba, oa, rfl, hca⟩ := HX.out k hlt
      obtain ⟨bb, ob, rfl, hcb⟩ := HY.out k hlt
      have ca := (BW.cell (p := ⟨ba, oa + k, none⟩) (World.block_lt_of_cell? w _ hca)).trans hca
      have cb := (BW.cell (p := ⟨bb, ob + k, none⟩) (World.block_lt_of_cell? w _ hcb)).trans hcb
      clear hca hcb
      have T := BW
      go_wp2_with fail
      clear ca cb
      refine (sameI _ _ _ (s1.out k) (s2.out k)).mono ?_
      rintro e w1 ⟨rfl, A⟩
      have T := T.trans (A.mono T.size)
      clear A
      cases hs : sm (xs[k]?.getD 0) (ys[k]?.getD 0)
      · have HS := Lib.hid hs
        clear hs
        go_wp2
        go_ret
        exact ⟨by rw [eqB_no hlt HS.out]; rfl, T⟩
      · have HS := Lib.hid hs
        clear hs
        go_wp2
        go_roundw
        case rel => exact ⟨k + 1, by omega, by go_num, (fun j hj => by rcases Nat.lt_succ_iff_lt_or_eq.1 hj with h | h; exact hall.out j h; subst h; exact HS.out), T⟩
        case measure => simp [intOf]; omega
    · have e : k = n := by omega
      subst e
      go_wp2
      go_ret
      exact ⟨by rw [eqB_yes hall.out]; rfl, BW⟩
def ok (r c : Int) (n : Nat) (xs : List Nat) (r2 c2 : Int) (n2 : Nat) (ys : List Nat) : Bool := lk r c n r2 c2 n2 && eqB xs ys n
theorem ok_no (xs ys : List Nat) {r c : Int} {n : Nat} {r2 c2 : Int} {n2 : Nat} (h : lk r c n r2 c2 n2 = false) : ok r c n xs r2 c2 n2 ys = false := by unfold ok; rw [h]; rfl
theorem ok_yes (xs ys : List Nat) {r c : Int} {n : Nat} {r2 c2 : Int} {n2 : Nat} (h : lk r c n r2 c2 n2 = true) : ok r c n xs r2 c2 n2 ys = eqB xs ys n := by unfold ok; rw [h]; rfl
theorem shapeI (r c : Int) (a : Option Addr) (n cap : Nat) (r2 c2 : Int) (a2 : Option Addr) (n2 cap2 : Nat) (w : World) :
    Calls Try.prog 66 #[.agg #[.int .i64 r, .int .i64 c, .slice a n cap], .agg #[.int .i64 r2, .int .i64 c2, .slice a2 n2 cap2]] w (BN w (decide (r = r2) && decide (c = c2))) := by
  by_cases h : r = r2
  · subst h
    rw [decide_eq_true rfl, Bool.true_and]
    go_enter Try.func66, Try.ntmps66
    go_wp2
    go_ret
    exact ⟨rfl, ((Below.refl _ _).alloc (Nat.le_refl _) _).alloc (by simp) _⟩
  · have g : (r == r2) = false := by simpa using h
    rw [decide_eq_false h, Bool.false_and]
    clear h
    go_enter Try.func66, Try.ntmps66
    go_wp2
    go_ret
    exact ⟨rfl, ((Below.refl _ _).alloc (Nat.le_refl _) _).alloc (by simp) _⟩
theorem specS (r c : Int) (a : Option Addr) (n cap : Nat) (xs : List Nat) (r2 c2 : Int) (x2 : Option Addr) (n2 cap2 : Nat) (zs : List Nat) (w : World) (b1 : ∀ x ∈ xs, x < 4294967296) (b2 : ∀ x ∈ zs, x < 4294967296) (h1 : Fs w a n cap xs) (h2 : Fs w x2 n2 cap2 zs) :
    Calls Try.prog 33 #[.agg #[.int .i64 r, .int .i64 c, .slice a n cap], .agg #[.int .i64 r2, .int .i64 c2, .slice x2 n2 cap2]] w (BN w (ok r c n xs r2 c2 n2 zs)) := by
  have HM := Lib.hid (Nat.le_trans h1.cap1 h1.cap2)
  have HM2 := Lib.hid (Nat.le_trans h2.cap1 h2.cap2)
  have H1 := Lib.hid h1
  have H2 := Lib.hid h2
  clear h1 h2
  cases hv : lk r c n r2 c2 n2
  · rw [ok_no xs zs hv]
    have HV := Lib.hid hv
    clear hv
    go_enter Try.func33, Try.ntmps33
    go_wp2_with fail
    refine calls_at ?_
    intro w1 hA
    have A : Below w.heap.size w w1 := by rw [hA]; exact ((Below.refl _ _).alloc (Nat.le_refl _) _).alloc (by simp <;> omega) _
    have zw1 : w1.heap.size = w.heap.size + 1 + 1 := by rw [hA]; simp
    have Q_ : Box w1 (w.heap.size) r c a n cap := by rw [hA]; exact ⟨by simp [go_sem], by simp [go_sem], by simp [go_sem], by simp <;> omega⟩
    have P_ : Box w1 (w.heap.size + 1) r2 c2 x2 n2 cap2 := by rw [hA]; exact ⟨by simp [go_sem], by simp [go_sem], by simp [go_sem], by simp <;> omega⟩
    clear hA
    have zw1a := Nat.le_of_eq zw1
    have zw1b := Nat.le_of_eq zw1.symm
    clear zw1
    have T := A
    clear A
    have Q := Lib.hid Q_
    clear Q_
    have P := Lib.hid P_
    clear P_
    refine (likeS r c a n cap _ r2 c2 x2 n2 cap2 _ _ HM.out HM2.out Q.out P.out).mono ?_
    rintro e w2 ⟨rfl, mm, hw⟩
    have A := below_of_drew hw
    clear hw
    have T := T.trans (A.mono T.size)
    have Q := Lib.hid (Q.out.below A)
    have P := Lib.hid (P.out.below A)
    have zw2 := A.size
    clear A
    rw [HV.out]
    go_wp2
    go_ret
    exact ⟨rfl, T⟩
  · rw [ok_yes xs zs hv]
    obtain ⟨v1, e1, e2, e3⟩ := lk_yes hv
    have e1 := e1.symm
    have e2 := e2.symm
    have e3 := e3.symm
    subst e1 e2 e3
    have hn := (vt_le v1).2
    have HV := Lib.hid hv
    clear hv v1
    go_enter Try.func33, Try.ntmps33
    go_wp2_with fail
    refine calls_at ?_
    intro w1 hA
    have A : Below w.heap.size w w1 := by rw [hA]; exact ((Below.refl _ _).alloc (Nat.le_refl _) _).alloc (by simp <;> omega) _
    have zw1 : w1.heap.size = w.heap.size + 1 + 1 := by rw [hA]; simp
    have Q_ : Box w1 (w.heap.size) r c a n cap := by rw [hA]; exact ⟨by simp [go_sem], by simp [go_sem], by simp [go_sem], by simp <;> omega⟩
    have P_ : Box w1 (w.heap.size + 1) r c x2 n cap2 := by rw [hA]; exact ⟨by simp [go_sem], by simp [go_sem], by simp [go_sem], by simp <;> omega⟩
    clear hA
    have zw1a := Nat.le_of_eq zw1
    have zw1b := Nat.le_of_eq zw1.symm
    clear zw1
    have T := A
    clear A
    have Q := Lib.hid Q_
    clear Q_
    have P := Lib.hid P_
    clear P_
    refine (likeS r c a n cap _ r c x2 n cap2 _ _ HM.out HM2.out Q.out P.out).mono ?_
    rintro e w2 ⟨rfl, mm, hw⟩
    have A := below_of_drew hw
    clear hw
    have T := T.trans (A.mono T.size)
    have Q := Lib.hid (Q.out.below A)
    have P := Lib.hid (P.out.below A)
    have zw2 := A.size
    clear A
    rw [HV.out]
    obtain ⟨Q0, Q1, Q2, Q3⟩ := Q.out
    obtain ⟨P0, P1, P2, P3⟩ := P.out
    go_wp2_with fail
    clear Q0 Q1 Q2 Q3 P0 P1 P2 P3
    refine (allS a x2 n cap cap2 xs zs _ (H1.out.below T) (H2.out.below T) b1 b2 hn).mono ?_
    rintro e w3 ⟨rfl, A⟩
    have T := T.trans (A.mono T.size)
    have Q := Lib.hid (Q.out.below A)
    have P := Lib.hid (P.out.below A)
    have zw3 := A.size
    clear A
    go_wp2
    go_ret
    exact ⟨rfl, T⟩
theorem listI (a x2 : Option Addr) (n cap cap2 : Nat) (xs zs : List Nat) (w : World) (h1 : Fs w a n cap xs) (h2 : Fs w x2 n cap2 zs) (b1 : ∀ x ∈ xs, x < 4294967296) (b2 : ∀ x ∈ zs, x < 4294967296) (hn : n ≤ 256) :
    Calls Try.prog 67 #[.slice a n cap, .slice x2 n cap2] w (BN w (eqB xs zs n)) := by
  go_enter Try.func67, Try.ntmps67
  go_wp2_with fail
  refine (allI _ _ _ _ _ xs zs _ h1 h2 b1 b2 hn).mono ?_
  rintro e w1 ⟨rfl, A⟩
  go_wp2
  go_ret
  exact ⟨rfl, A⟩
theorem implS (r c : Int) (a : Option Addr) (n cap : Nat) (xs : List Nat) (r2 c2 : Int) (x2 : Option Addr) (n2 cap2 : Nat) (zs : List Nat) (w : World) (b1 : ∀ x ∈ xs, x < 4294967296) (b2 : ∀ x ∈ zs, x < 4294967296) (h1 : Fs w a n cap xs) (h2 : Fs w x2 n2 cap2 zs) :
    Calls Try.prog 34 #[.agg #[.int .i64 r, .int .i64 c, .slice a n cap], .agg #[.int .i64 r2, .int .i64 c2, .slice x2 n2 cap2]] w (BN w (ok r c n xs r2 c2 n2 zs)) := by
  have HM := Lib.hid (Nat.le_trans h1.cap1 h1.cap2)
  have HM2 := Lib.hid (Nat.le_trans h2.cap1 h2.cap2)
  have H1 := Lib.hid h1
  have H2 := Lib.hid h2
  clear h1 h2
  cases hd1 : decide (vt r c n)
  · rw [ok_no xs zs (by unfold lk; rw [hd1]; rfl)]
    have HV := Lib.hid hd1
    clear hd1
    go_enter Try.func34, Try.ntmps34
    go_wp2_with fail
    refine calls_at ?_
    intro w1 hA
    have A : Below w.heap.size w w1 := by rw [hA]; exact ((Below.refl _ _).alloc (Nat.le_refl _) _).alloc (by simp <;> omega) _
    have zw1 : w1.heap.size = w.heap.size + 1 + 1 := by rw [hA]; simp
    have Q_ : Box w1 (w.heap.size) r c a n cap := by rw [hA]; exact ⟨by simp [go_sem], by simp [go_sem], by simp [go_sem], by simp <;> omega⟩
    have P_ : Box w1 (w.heap.size + 1) r2 c2 x2 n2 cap2 := by rw [hA]; exact ⟨by simp [go_sem], by simp [go_sem], by simp [go_sem], by simp <;> omega⟩
    clear hA
    have zw1a := Nat.le_of_eq zw1
    have zw1b := Nat.le_of_eq zw1.symm
    clear zw1
    have T := A
    clear A
    have Q := Lib.hid Q_
    clear Q_
    have P := Lib.hid P_
    clear P_
    refine (validT r c a n cap _ HM.out).mono ?_
    rintro e w2 ⟨rfl, A⟩
    have T := T.trans (A.mono T.size)
    have Q := Lib.hid (Q.out.below A)
    have P := Lib.hid (P.out.below A)
    have zw2 := A.size
    clear A
    rw [HV.out]
    go_wp2
    go_ret
    exact ⟨rfl, T⟩
  · cases hd2 : decide (vt r2 c2 n2)
    · rw [ok_no xs zs (by unfold lk; rw [hd1, hd2]; rfl)]
      have HV := Lib.hid hd1
      have HV2 := Lib.hid hd2
      clear hd1 hd2
      go_enter Try.func34, Try.ntmps34
      go_wp2_with fail
      refine calls_at ?_
      intro w1 hA
      have A : Below w.heap.size w w1 := by rw [hA]; exact ((Below.refl _ _).alloc (Nat.le_refl _) _).alloc (by simp <;> omega) _
      have zw1 : w1.heap.size = w.heap.size + 1 + 1 := by rw [hA]; simp
      have Q_ : Box w1 (w.heap.size) r c a n cap := by rw [hA]; exact ⟨by simp [go_sem], by simp [go_sem], by simp [go_sem], by simp <;> omega⟩
      have P_ : Box w1 (w.heap.size + 1) r2 c2 x2 n2 cap2 := by rw [hA]; exact ⟨by simp [go_sem], by simp [go_sem], by simp [go_sem], by simp <;> omega⟩
      clear hA
      have zw1a := Nat.le_of_eq zw1
      have zw1b := Nat.le_of_eq zw1.symm
      clear zw1
      have T := A
      clear A
      have Q := Lib.hid Q_
      clear Q_
      have P := Lib.hid P_
      clear P_
      refine (validT r c a n cap _ HM.out).mono ?_
      rintro e w2 ⟨rfl, A⟩
      have T := T.trans (A.mono T.size)
      have Q := Lib.hid (Q.out.below A)
      have P := Lib.hid (P.out.below A)
      have zw2 := A.size
      clear A
      rw [HV.out]
      obtain ⟨Q0, Q1, Q2, Q3⟩ := Q.out
      obtain ⟨P0, P1, P2, P3⟩ := P.out
      go_wp2_with fail
      clear Q0 Q1 Q2 Q3 P0 P1 P2 P3
      refine (validT r2 c2 x2 n2 cap2 _ HM2.out).mono ?_
      rintro e w3 ⟨rfl, A⟩
      have T := T.trans (A.mono T.size)
      have Q := Lib.hid (Q.out.below A)
      have P := Lib.hid (P.out.below A)
      have zw3 := A.size
      clear A
      rw [HV2.out]
      go_wp2
      go_ret
      exact ⟨rfl, T⟩
    · cases hs : (decide (r = r2) && decide (c = c2))
      · rw [ok_no xs zs (by unfold lk; rw [hd1, hd2, hs]; rfl)]
        have HV := Lib.hid hd1
        have HV2 := Lib.hid hd2
        have HS := Lib.hid hs
        clear hd1 hd2 hs
        go_enter Try.func34, Try.ntmps34
        go_wp2_with fail
        refine calls_at ?_
        intro w1 hA
        have A : Below w.heap.size w w1 := by rw [hA]; exact ((Below.refl _ _).alloc (Nat.le_refl _) _).alloc (by simp <;> omega) _
        have zw1 : w1.heap.size = w.heap.size + 1 + 1 := by rw [hA]; simp
        have Q_ : Box w1 (w.heap.size) r c a n cap := by rw [hA]; exact ⟨by simp [go_sem], by simp [go_sem], by simp [go_sem], by simp <;> omega⟩
        have P_ : Box w1 (w.heap.size + 1) r2 c2 x2 n2 cap2 := by rw [hA]; exact ⟨by simp [go_sem], by simp [go_sem], by simp [go_sem], by simp <;> omega⟩
        clear hA
        have zw1a := Nat.le_of_eq zw1
        have zw1b := Nat.le_of_eq zw1.symm
        clear zw1
        have T := A
        clear A
        have Q := Lib.hid Q_
        clear Q_
        have P := Lib.hid P_
        clear P_
        refine (validT r c a n cap _ HM.out).mono ?_
        rintro e w2 ⟨rfl, A⟩
        have T := T.trans (A.mono T.size)
        have Q := Lib.hid (Q.out.below A)
        have P := Lib.hid (P.out.below A)
        have zw2 := A.size
        clear A
        rw [HV.out]
        obtain ⟨Q0, Q1, Q2, Q3⟩ := Q.out
        obtain ⟨P0, P1, P2, P3⟩ := P.out
        go_wp2_with fail
        clear Q0 Q1 Q2 Q3 P0 P1 P2 P3
        refine (validT r2 c2 x2 n2 cap2 _ HM2.out).mono ?_
        rintro e w3 ⟨rfl, A⟩
        have T := T.trans (A.mono T.size)
        have Q := Lib.hid (Q.out.below A)
        have P := Lib.hid (P.out.below A)
        have zw3 := A.size
        clear A
        rw [HV2.out]
        obtain ⟨Q0, Q1, Q2, Q3⟩ := Q.out
        obtain ⟨P0, P1, P2, P3⟩ := P.out
        go_wp2_with fail
        clear Q0 Q1 Q2 Q3 P0 P1 P2 P3
        refine (shapeI r c a n cap r2 c2 x2 n2 cap2 _).mono ?_
        rintro e w4 ⟨rfl, A⟩
        have T := T.trans (A.mono T.size)
        have Q := Lib.hid (Q.out.below A)
        have P := Lib.hid (P.out.below A)
        have zw4 := A.size
        clear A
        rw [HS.out]
        go_wp2
        go_ret
        exact ⟨rfl, T⟩
      · have hv : lk r c n r2 c2 n2 = true := by unfold lk; rw [hd1, hd2, hs]; rfl
        rw [ok_yes xs zs hv]
        obtain ⟨v1, e1, e2, e3⟩ := lk_yes hv
        have e1 := e1.symm
        have e2 := e2.symm
        have e3 := e3.symm
        subst e1 e2 e3
        have hn := (vt_le v1).2
        have HV := Lib.hid hd1
        have HV2 := Lib.hid hd2
        clear hv hd1 hd2 hs v1
        go_enter Try.func34, Try.ntmps34
        go_wp2_with fail
        refine calls_at ?_
        intro w1 hA
        have A : Below w.heap.size w w1 := by rw [hA]; exact ((Below.refl _ _).alloc (Nat.le_refl _) _).alloc (by simp <;> omega) _
        have zw1 : w1.heap.size = w.heap.size + 1 + 1 := by rw [hA]; simp
        have Q_ : Box w1 (w.heap.size) r c a n cap := by rw [hA]; exact ⟨by simp [go_sem], by simp [go_sem], by simp [go_sem], by simp <;> omega⟩
        have P_ : Box w1 (w.heap.size + 1) r c x2 n cap2 := by rw [hA]; exact ⟨by simp [go_sem], by simp [go_sem], by simp [go_sem], by simp <;> omega⟩
        clear hA
        have zw1a := Nat.le_of_eq zw1
        have zw1b := Nat.le_of_eq zw1.symm
        clear zw1
        have T := A
        clear A
        have Q := Lib.hid Q_
        clear Q_
        have P := Lib.hid P_
        clear P_
        refine (validT r c a n cap _ HM.out).mono ?_
        rintro e w2 ⟨rfl, A⟩
        have T := T.trans (A.mono T.size)
        have Q := Lib.hid (Q.out.below A)
        have P := Lib.hid (P.out.below A)
        have zw2 := A.size
        clear A
        rw [HV.out]
        obtain ⟨Q0, Q1, Q2, Q3⟩ := Q.out
        obtain ⟨P0, P1, P2, P3⟩ := P.out
        go_wp2_with fail
        clear Q0 Q1 Q2 Q3 P0 P1 P2 P3
        refine (validT r c x2 n cap2 _ HM2.out).mono ?_
        rintro e w3 ⟨rfl, A⟩
        have T := T.trans (A.mono T.size)
        have Q := Lib.hid (Q.out.below A)
        have P := Lib.hid (P.out.below A)
        have zw3 := A.size
        clear A
        rw [HV2.out]
        obtain ⟨Q0, Q1, Q2, Q3⟩ := Q.out
        obtain ⟨P0, P1, P2, P3⟩ := P.out
        go_wp2_with fail
        clear Q0 Q1 Q2 Q3 P0 P1 P2 P3
        refine (shapeI r c a n cap r c x2 n cap2 _).mono ?_
        rintro e w4 ⟨rfl, A⟩
        have T := T.trans (A.mono T.size)
        have Q := Lib.hid (Q.out.below A)
        have P := Lib.hid (P.out.below A)
        have zw4 := A.size
        clear A
        rw [show (decide (r = r) && decide (c = c)) = true by simp]
        obtain ⟨Q0, Q1, Q2, Q3⟩ := Q.out
        obtain ⟨P0, P1, P2, P3⟩ := P.out
        go_wp2_with fail
        clear Q0 Q1 Q2 Q3 P0 P1 P2 P3
        refine (listI a x2 n cap cap2 xs zs _ (H1.out.below T) (H2.out.below T) b1 b2 hn).mono ?_
        rintro e w5 ⟨rfl, A⟩
        have T := T.trans (A.mono T.size)
        have Q := Lib.hid (Q.out.below A)
        have P := Lib.hid (P.out.below A)
        have zw5 := A.size
        clear A
        go_wp2
        go_ret
        exact ⟨rfl, T⟩
theorem both (r c : Int) (n : Nat) (xs : List Nat) (r2 c2 : Int) (n2 : Nat) (zs : List Nat) (_hn : n ≤ 1048576) (_hl : n = xs.length) (_wr : (Lit.int .i64 r).wf = true) (_wc : (Lit.int .i64 c).wf = true) (b1 : ∀ x ∈ xs, x < 4294967296) (_hn2 : n2 ≤ 1048576) (_hl2 : n2 = zs.length) (_wr2 : (Lit.int .i64 r2).wf = true) (_wc2 : (Lit.int .i64 c2).wf = true) (b2 : ∀ x ∈ zs, x < 4294967296) :
    ∃ ok, (∀ w a cap x2 cap2, Fs w a n cap xs → Fs w x2 n2 cap2 zs → Calls Try.prog 33 #[.agg #[.int .i64 r, .int .i64 c, .slice a n cap], .agg #[.int .i64 r2, .int .i64 c2, .slice x2 n2 cap2]] w (BN w ok)) ∧ (∀ w a cap x2 cap2, Fs w a n cap xs → Fs w x2 n2 cap2 zs → Calls Try.prog 34 #[.agg #[.int .i64 r, .int .i64 c, .slice a n cap], .agg #[.int .i64 r2, .int .i64 c2, .slice x2 n2 cap2]] w (BN w ok)) :=
  ⟨_, fun w a cap x2 cap2 h1 h2 => specS r c a n cap xs r2 c2 x2 n2 cap2 zs w b1 b2 h1 h2, fun w a cap x2 cap2 h1 h2 => implS r c a n cap xs r2 c2 x2 n2 cap2 zs w b1 b2 h1 h2⟩
set_option maxHeartbeats 4000000 in
theorem walk (w : World) (ro0 co0 : Int) (a0 : Option Addr) (n0 c0 : Nat) (xs0 : List Nat) (h0 : Fs w a0 n0 c0 xs0) (_wr0 : (Lit.int .i64 ro0).wf = true) (_wc0 : (Lit.int .i64 co0).wf = true) (_b0 : ∀ x ∈ xs0, x < 4294967296) (ro1 co1 : Int) (a1 : Option Addr) (n1 c1 : Nat) (xs1 : List Nat) (h1 : Fs w a1 n1 c1 xs1) (_wr1 : (Lit.int .i64 ro1).wf = true) (_wc1 : (Lit.int .i64 co1).wf = true) (_b1 : ∀ x ∈ xs1, x < 4294967296) :
    Calls Try.prog 8 #[.agg #[.int .i64 ro0, .int .i64 co0, .slice a0 n0 c0], .agg #[.int .i64 ro1, .int .i64 co1, .slice a1 n1 c1]] w fun e w' => e = .returned (.bool true) ∧ Below w.heap.size w w' := by
  have m0 := h0.cap2
  have q0 := h0.cap1
  have m1 := h1.cap2
  have q1 := h1.cap1
  unfold maxLen at m0 m1
  by_cases g0 : 1048576 < n0
  · go_enter Try.func8, Try.ntmps8
    have T := Below.refl w.heap.size w
    go_wp2_with fail
    refine calls_at ?_
    intro w2 hA
    obtain ⟨w1, hB⟩ : ∃ v, v = w.alloc (.cells #[.int .i64 ro0, .int .i64 co0, .slice a0 n0 c0] 24) := ⟨_, rfl⟩
    rw [← hB] at hA
    obtain ⟨Q, A, z1, z2⟩ := box_new hB
    clear hB
    have X0 := Lib.hid Q
    clear Q
    have T := T.trans (A.mono T.size)
    have zw1 := A.size
    clear A
    have yw1 := z1
    have xw1 := z2
    clear z1 z2
    obtain ⟨Q, A, z1, z2⟩ := box_new hA
    clear hA
    have eb : w1.heap.size = w.heap.size + 1 := by omega
    rw [eb] at Q
    clear eb
    have X1 := Lib.hid Q
    clear Q
    have T := T.trans (A.mono T.size)
    have X0 := Lib.hid (X0.out.below A)
    have zw2 := A.size
    clear A
    have yw2 := z1
    have xw2 := z2
    clear z1 z2
    refine (szNo _ _ _ _ _ _ _ (Nat.le_trans h0.cap1 h0.cap2) (by omega) (by omega)).mono ?_
    rintro e wz ⟨rfl, A⟩
    have T := T.trans (A.mono T.size)
    go_wp2
    go_ret
    exact ⟨rfl, T⟩
  by_cases g1 : 1048576 < n0 + n1
  · go_enter Try.func8, Try.ntmps8
    have T := Below.refl w.heap.size w
    go_wp2_with fail
    refine calls_at ?_
    intro w2 hA
    obtain ⟨w1, hB⟩ : ∃ v, v = w.alloc (.cells #[.int .i64 ro0, .int .i64 co0, .slice a0 n0 c0] 24) := ⟨_, rfl⟩
    rw [← hB] at hA
    obtain ⟨Q, A, z1, z2⟩ := box_new hB
    clear hB
    have X0 := Lib.hid Q
    clear Q
    have T := T.trans (A.mono T.size)
    have zw1 := A.size
    clear A
    have yw1 := z1
    have xw1 := z2
    clear z1 z2
    obtain ⟨Q, A, z1, z2⟩ := box_new hA
    clear hA
    have eb : w1.heap.size = w.heap.size + 1 := by omega
    rw [eb] at Q
    clear eb
    have X1 := Lib.hid Q
    clear Q
    have T := T.trans (A.mono T.size)
    have X0 := Lib.hid (X0.out.below A)
    have zw2 := A.size
    clear A
    have yw2 := z1
    have xw2 := z2
    clear z1 z2
    refine (szYes _ _ _ _ _ _ _ (by omega) (by omega)).mono ?_
    rintro e w3 ⟨rfl, A⟩
    have T := T.trans (A.mono T.size)
    have X0 := Lib.hid (X0.out.below A)
    have X1 := Lib.hid (X1.out.below A)
    have zw3 := A.size
    clear A
    obtain ⟨X10, X11, X12, X13⟩ := X1.out
    go_wp2_with fail
    clear X10 X11 X12 X13
    refine (szNo _ _ _ _ _ _ _ (Nat.le_trans h1.cap1 h1.cap2) (by omega) (by omega)).mono ?_
    rintro e wz ⟨rfl, A⟩
    have T := T.trans (A.mono T.size)
    go_wp2
    go_ret
    exact ⟨rfl, T⟩
  have hn0 : n0 ≤ 1048576 := by omega
  have hn1 : n1 ≤ 1048576 := by omega
  obtain ⟨ok, hs, hi⟩ := both ro0 co0 n0 xs0 ro1 co1 n1 xs1 hn0 h0.len _wr0 _wc0 _b0 hn1 h1.len _wr1 _wc1 _b1
  go_enter Try.func8, Try.ntmps8
  have T := Below.refl w.heap.size w
  go_wp2_with fail
  refine calls_at ?_
  intro w2 hA
  obtain ⟨w1, hB⟩ : ∃ v, v = w.alloc (.cells #[.int .i64 ro0, .int .i64 co0, .slice a0 n0 c0] 24) := ⟨_, rfl⟩
  rw [← hB] at hA
  obtain ⟨Q, A, z1, z2⟩ := box_new hB
  clear hB
  have X0 := Lib.hid Q
  clear Q
  have T := T.trans (A.mono T.size)
  have zw1 := A.size
  clear A
  have yw1 := z1
  have xw1 := z2
  clear z1 z2
  obtain ⟨Q, A, z1, z2⟩ := box_new hA
  clear hA
  have eb : w1.heap.size = w.heap.size + 1 := by omega
  rw [eb] at Q
  clear eb
  have X1 := Lib.hid Q
  clear Q
  have T := T.trans (A.mono T.size)
  have X0 := Lib.hid (X0.out.below A)
  have zw2 := A.size
  clear A
  have yw2 := z1
  have xw2 := z2
  clear z1 z2
  refine (szYes _ _ _ _ _ _ _ (by omega) (by omega)).mono ?_
  rintro e w3 ⟨rfl, A⟩
  have T := T.trans (A.mono T.size)
  have X0 := Lib.hid (X0.out.below A)
  have X1 := Lib.hid (X1.out.below A)
  have zw3 := A.size
  clear A
  obtain ⟨X10, X11, X12, X13⟩ := X1.out
  go_wp2_with fail
  clear X10 X11 X12 X13
  refine (szYes _ _ _ _ _ _ _ (by omega) (by omega)).mono ?_
  rintro e w4 ⟨rfl, A⟩
  have T := T.trans (A.mono T.size)
  have X0 := Lib.hid (X0.out.below A)
  have X1 := Lib.hid (X1.out.below A)
  have zw4 := A.size
  clear A
  go_wp2_with fail
  refine wp_plan 5 [0, 2, 0, 2, 2, 0] (.go 0 (.go 2 (.only 1 (.only 3 (.only 4 .fin))))) (Bl w4) (by kernel_rfl) (by kernel_rfl) (Bl.refl _) Bl.drew ?_
  simp only [List.drop_succ_cons, List.drop_zero]
  refine plan_go (pl0 (v := ?_) (by rfl) rfl rfl (fun w' hw' => ?_) (fun K hK => ?_))
  rotate_left
  · obtain ⟨q0, q1, q2, q3⟩ := X0.out.below hw'
    go_simp
    rfl
  go_simp
  refine hK _ _ ?_
  clear hK K
  refine plan_go (pl0 (v := ?_) (by rfl) rfl rfl (fun w' hw' => ?_) (fun K hK => ?_))
  rotate_left
  · obtain ⟨q0, q1, q2, q3⟩ := X1.out.below hw'
    go_simp
    rfl
  go_simp
  refine hK _ _ ?_
  clear hK K
  have C1_0 : Below w4.heap.size w4 w4 := Below.refl _ _
  refine plan_only (pl2 (by rfl) rfl rfl (fun K hK => ?_))
  go_simp
  intro nA
  refine (toTens _ _ _ _ _ _ _ hn0 ((h0.below T).drew _)).mono ?_
  rintro e v1_1 ⟨g1_1, rfl, R, A0⟩
  have A : Below w4.heap.size w4 v1_1 := (bdrew (Below.refl _ _) _).trans A0
  clear A0
  refine ⟨_, rfl, C1_0.trans (A.mono C1_0.size), hK _ _ ?_⟩
  clear hK K
  have C1_1 := C1_0.trans (A.mono C1_0.size)
  have T1_1 := T.trans (A.mono T.size)
  have zz1_1 := A.size
  clear A
  have K1_1 : Row v1_1 w4.heap.size v1_1.heap.size 31 _ _ _ := R
  clear R
  refine plan_only (pl2 (by rfl) rfl rfl (fun K hK => ?_))
  go_simp
  intro nA
  refine (toTens _ _ _ _ _ _ _ hn1 ((h1.below T1_1).drew _)).mono ?_
  rintro e v1_2 ⟨g1_2, rfl, R, A0⟩
  have A : Below v1_1.heap.size v1_1 v1_2 := (bdrew (Below.refl _ _) _).trans A0
  clear A0
  refine ⟨_, rfl, C1_1.trans (A.mono C1_1.size), hK _ _ ?_⟩
  clear hK K
  have C1_2 := C1_1.trans (A.mono C1_1.size)
  have T1_2 := T1_1.trans (A.mono T1_1.size)
  have K1_1 := K1_1.below A
  have zz1_2 := A.size
  clear A
  have K1_2 : Row v1_2 v1_1.heap.size v1_2.heap.size 31 _ _ _ := R
  clear R
  refine plan_only (pl2 (by rfl) rfl rfl (fun K hK => ?_))
  go_simp
  intro nA
  refine (hs _ _ _ _ _ (K1_1.fs.drew _) (K1_2.fs.drew _)).mono ?_
  rintro e v1_3 ⟨rfl, A0⟩
  have A : Below v1_2.heap.size v1_2 v1_3 := (bdrew (Below.refl _ _) _).trans A0
  clear A0
  refine ⟨_, rfl, C1_2.trans (A.mono C1_2.size), hK _ _ ?_⟩
  clear hK K
  have C1_3 := C1_2.trans (A.mono C1_2.size)
  have T1_3 := T1_2.trans (A.mono T1_2.size)
  have K1_1 := K1_1.below A
  have K1_2 := K1_2.below A
  have zz1_3 := A.size
  clear A
  refine plan_fin (fun nF => ?_)
  generalize hA : v1_3.drewN nF = w5
  have A0 := below_of_drew hA.symm
  clear hA
  have A : Below w4.heap.size w4 w5 := C1_3.trans (A0.mono C1_3.size)
  clear A0
  have T := T.trans (A.mono T.size)
  have X0 := Lib.hid (X0.out.below A)
  have X1 := Lib.hid (X1.out.below A)
  have zw5 := A.size
  clear A
  obtain ⟨X00, X01, X02, X03⟩ := X0.out
  go_wp2_with fail
  clear X00 X01 X02 X03
  refine (toTens _ _ _ _ _ _ _ hn0 (h0.below T)).mono ?_
  rintro e w6 ⟨g2, rfl, R, A⟩
  have T := T.trans (A.mono T.size)
  have X0 := Lib.hid (X0.out.below A)
  have X1 := Lib.hid (X1.out.below A)
  have zw6 := A.size
  clear A
  have K2 := R
  clear R
  obtain ⟨X10, X11, X12, X13⟩ := X1.out
  go_wp2_with fail
  clear X10 X11 X12 X13
  refine calls_at ?_
  intro w7 hA
  obtain ⟨Q, A, z1, z2⟩ := box_new (r := ro0) (c := co0) (a := (some ⟨g2, 0, none⟩)) (n := n0) (cap := n0) hA
  clear hA
  have Z0 := Lib.hid Q
  clear Q
  have T := T.trans (A.mono T.size)
  have K2 := K2.below A
  have X0 := Lib.hid (X0.out.below A)
  have X1 := Lib.hid (X1.out.below A)
  have zw7 := A.size
  clear A
  have yw7 := z1
  have xw7 := z2
  clear z1 z2
  refine (toTens _ _ _ _ _ _ _ hn1 (h1.below T)).mono ?_
  rintro e w8 ⟨g3, rfl, R, A⟩
  have T := T.trans (A.mono T.size)
  have K2 := K2.below A
  have X0 := Lib.hid (X0.out.below A)
  have X1 := Lib.hid (X1.out.below A)
  have Z0 := Lib.hid (Z0.out.below A)
  have zw8 := A.size
  clear A
  have K3 := R
  clear R
  obtain ⟨Z00, Z01, Z02, Z03⟩ := Z0.out
  go_wp2_with fail
  clear Z00 Z01 Z02 Z03
  refine calls_at ?_
  intro w9 hA
  obtain ⟨Q, A, z1, z2⟩ := box_new (r := ro1) (c := co1) (a := (some ⟨g3, 0, none⟩)) (n := n1) (cap := n1) hA
  clear hA
  have Z1 := Lib.hid Q
  clear Q
  have T := T.trans (A.mono T.size)
  have K2 := K2.below A
  have K3 := K3.below A
  have X0 := Lib.hid (X0.out.below A)
  have X1 := Lib.hid (X1.out.below A)
  have Z0 := Lib.hid (Z0.out.below A)
  have zw9 := A.size
  clear A
  have yw9 := z1
  have xw9 := z2
  clear z1 z2
  refine (hi w9 _ _ _ _ K2.fs K3.fs).mono ?_
  rintro e w10 ⟨rfl, A⟩
  have T := T.trans (A.mono T.size)
  have K2 := K2.below A
  have K3 := K3.below A
  have X0 := Lib.hid (X0.out.below A)
  have X1 := Lib.hid (X1.out.below A)
  have Z0 := Lib.hid (Z0.out.below A)
  have Z1 := Lib.hid (Z1.out.below A)
  have zw10 := A.size
  clear A
  go_wp2_with fail
  refine wp_bl 4 [0, 0, 2, 2, 0] (by kernel_rfl) (by kernel_rfl) ?_
  simp only [List.take_succ_cons, List.take_zero, List.drop_succ_cons, List.drop_zero]
  with_reducible refine bl_step ?_
  intro K hK
  go_simp
  refine ⟨.agg #[.int .i64 ro0, .int .i64 co0, .slice (some ⟨g2, 0, none⟩) n0 n0], fun w' hw' => ?_, hK _ _ ?_⟩
  · obtain ⟨q0, q1, q2, q3⟩ := Z0.out.below hw'
    go_simp
  clear hK K
  with_reducible refine bl_step ?_
  intro K hK
  go_simp
  refine ⟨.agg #[.int .i64 ro0, .int .i64 co0, .slice a0 n0 c0], fun w' hw' => ?_, hK _ _ ?_⟩
  · obtain ⟨q0, q1, q2, q3⟩ := X0.out.below hw'
    go_simp
  clear hK K
  with_reducible refine bl_step ?_
  intro K hK
  go_simp
  intro _
  refine (toTens _ _ _ _ _ _ _ hn0 ((h0.below T).drew _)).mono ?_
  rintro e w11 ⟨g5, rfl, R, A0⟩
  have A := (bdrew (Below.refl _ _) _).trans A0
  clear A0
  refine ⟨_, rfl, A, hK _ _ ?_⟩
  clear hK K
  have BL : Below w10.heap.size w10 w11 := A
  have T := T.trans (A.mono T.size)
  have K2 := K2.below A
  have K3 := K3.below A
  have X0 := Lib.hid (X0.out.below A)
  have X1 := Lib.hid (X1.out.below A)
  have Z0 := Lib.hid (Z0.out.below A)
  have Z1 := Lib.hid (Z1.out.below A)
  have zw11 := A.size
  clear A
  have K5 := R
  clear R
  with_reducible refine bl_step ?_
  intro K hK
  go_simp
  intro _
  refine (eqTens _ _ _ _ _ _ _ _ _ _ hn0 (K2.fs.drew _) (K5.fs.drew _) rfl).mono ?_
  rintro e w12 ⟨rfl, A0⟩
  have A := (bdrew (Below.refl _ _) _).trans A0
  clear A0
  refine ⟨_, rfl, BL.trans (A.mono BL.size), hK _ _ ?_⟩
  clear hK K BL
  have T := T.trans (A.mono T.size)
  have K2 := K2.below A
  have K3 := K3.below A
  have K5 := K5.below A
  have X0 := Lib.hid (X0.out.below A)
  have X1 := Lib.hid (X1.out.below A)
  have Z0 := Lib.hid (Z0.out.below A)
  have Z1 := Lib.hid (Z1.out.below A)
  have zw12 := A.size
  clear A
  with_reducible refine wpR_nil (fun nq => ?_)
  generalize hA : w12.drewN nq = w13
  have A := below_of_drew hA.symm
  clear hA
  have T := T.trans (A.mono T.size)
  have K2 := K2.below A
  have K3 := K3.below A
  have K5 := K5.below A
  have X0 := Lib.hid (X0.out.below A)
  have X1 := Lib.hid (X1.out.below A)
  have Z0 := Lib.hid (Z0.out.below A)
  have Z1 := Lib.hid (Z1.out.below A)
  have zw13 := A.size
  clear A
  go_wp2_with fail
  refine wp_bl 4 [0, 0, 2, 2, 0] (by kernel_rfl) (by kernel_rfl) ?_
  simp only [List.take_succ_cons, List.take_zero, List.drop_succ_cons, List.drop_zero]
  with_reducible refine bl_step ?_
  intro K hK
  go_simp
  refine ⟨.agg #[.int .i64 ro1, .int .i64 co1, .slice (some ⟨g3, 0, none⟩) n1 n1], fun w' hw' => ?_, hK _ _ ?_⟩
  · obtain ⟨q0, q1, q2, q3⟩ := Z1.out.below hw'
    go_simp
  clear hK K
  with_reducible refine bl_step ?_
  intro K hK
  go_simp
  refine ⟨.agg #[.int .i64 ro1, .int .i64 co1, .slice a1 n1 c1], fun w' hw' => ?_, hK _ _ ?_⟩
  · obtain ⟨q0, q1, q2, q3⟩ := X1.out.below hw'
    go_simp
  clear hK K
  with_reducible refine bl_step ?_
  intro K hK
  go_simp
  intro _
  refine (toTens _ _ _ _ _ _ _ hn1 ((h1.below T).drew _)).mono ?_
  rintro e w14 ⟨g6, rfl, R, A0⟩
  have A := (bdrew (Below.refl _ _) _).trans A0
  clear A0
  refine ⟨_, rfl, A, hK _ _ ?_⟩
  clear hK K
  have BL : Below w13.heap.size w13 w14 := A
  have T := T.trans (A.mono T.size)
  have K2 := K2.below A
  have K3 := K3.below A
  have K5 := K5.below A
  have X0 := Lib.hid (X0.out.below A)
  have X1 := Lib.hid (X1.out.below A)
  have Z0 := Lib.hid (Z0.out.below A)
  have Z1 := Lib.hid (Z1.out.below A)
  have zw14 := A.size
  clear A
  have K6 := R
  clear R
  with_reducible refine bl_step ?_
  intro K hK
  go_simp
  intro _
  refine (eqTens _ _ _ _ _ _ _ _ _ _ hn1 (K3.fs.drew _) (K6.fs.drew _) rfl).mono ?_
  rintro e w15 ⟨rfl, A0⟩
  have A := (bdrew (Below.refl _ _) _).trans A0
  clear A0
  refine ⟨_, rfl, BL.trans (A.mono BL.size), hK _ _ ?_⟩
  clear hK K BL
  have T := T.trans (A.mono T.size)
  have K2 := K2.below A
  have K3 := K3.below A
  have K5 := K5.below A
  have K6 := K6.below A
  have X0 := Lib.hid (X0.out.below A)
  have X1 := Lib.hid (X1.out.below A)
  have Z0 := Lib.hid (Z0.out.below A)
  have Z1 := Lib.hid (Z1.out.below A)
  have zw15 := A.size
  clear A
  with_reducible refine wpR_nil (fun nq => ?_)
  generalize hA : w15.drewN nq = w16
  have A := below_of_drew hA.symm
  clear hA
  have T := T.trans (A.mono T.size)
  have K2 := K2.below A
  have K3 := K3.below A
  have K5 := K5.below A
  have K6 := K6.below A
  have X0 := Lib.hid (X0.out.below A)
  have X1 := Lib.hid (X1.out.below A)
  have Z0 := Lib.hid (Z0.out.below A)
  have Z1 := Lib.hid (Z1.out.below A)
  have zw16 := A.size
  clear A
  go_wp2
  go_ret
  exact ⟨rfl, T⟩
theorem own : ownKnob Try.prog.godebug = none := by kernel_rfl
theorem laidOut : laidOutB Try.prog = true := by kernel_rfl
set_option maxRecDepth 100000 in
theorem lifted (os : Os) (started : os.Started) (H : Type) (enc : TypeId × Value → H) :
    ReturnsInHanded {} Try.checked os 8 .any (Rows.fnExactSameTensorsSpec.pre6 enc Try.prog Try.f8 Rows.fnExactSameTensorsRow.domain false) (Rows.fnExactSameTensorsSpec.post enc Try.prog Try.f8 false true false false) := by
  refine returnsInHanded_of_change (C := Try.checked) own started (by kernel_rfl) Try.func8
    (ChangeSpec.witness6 (enc := enc) (C := Try.checked) false ⟨#[], #[.agg #[.int .i64 0, .int .i64 0, .slice none 0 0], .agg #[.int .i64 0, .int .i64 0, .slice none 0 0]], []⟩ 8 (by kernel_rfl) (by kernel_rfl) (by kernel_rfl) (by kernel_rfl)) ?_
  intro W base args ds gs before hval0 hW hcnd _
  have hval : ∀ (j : Nat) t v, Try.f8.params[j]? = some t → args[j]? = some v → Value.okWide Try.prog W .any base t v := hval0
  have hW' := hW
  obtain ⟨p, q, hA0, hV, rfl, hfz, hnd⟩ := hW
  have hA : DataW.TrodAll enc Try.prog W 0 (fun _ => true) true Try.f8.params.toList args.toList ds p := hA0
  rw [Try.params8] at hA hval
  obtain ⟨v0, vs0, d0, ds0, p0, q0, hargs, rfl, rfl, h0, r0⟩ := trodAll_cons hA
  obtain ⟨v1, vs1, d1, ds1, p1, q1, rfl, rfl, rfl, h1, r1⟩ := trodAll_cons r0
  obtain ⟨rfl, rfl, rfl⟩ := trodAll_nil r1
  obtain rfl : args = #[v0, v1] := by cases args; simp_all
  obtain ⟨rfl, rfl⟩ := trodVars_none hV
  have k0 := h0
  have lt0 : ∀ x ∈ p0, x.block < W.heap.size := by obtain ⟨m, hm⟩ := k0; exact DataW.trod_lt m _ _ _ hm
  have k1 := h1
  have lt1 : ∀ x ∈ p1, x.block < W.heap.size := by obtain ⟨m, hm⟩ := k1; exact DataW.trod_lt m _ _ _ hm
  obtain ⟨ro0, co0, a0, n0, c0, z0, rfl, f0, wr0, wc0, b0⟩ := open_tensor Try.underlying24 (by kernel_rfl) (by kernel_rfl) Try.underlying2 Try.underlying2 Try.underlying22 Try.underlying31 (by kernel_rfl) (hval 0 24 v0 rfl rfl) h0
  obtain ⟨ro1, co1, a1, n1, c1, z1, rfl, f1, wr1, wc1, b1⟩ := open_tensor Try.underlying24 (by kernel_rfl) (by kernel_rfl) Try.underlying2 Try.underlying2 Try.underlying22 Try.underlying31 (by kernel_rfl) (hval 1 24 v1 rfl rfl) h1
  clear hA0 hval0
  refine (walk W ro0 co0 a0 n0 c0 z0 f0 wr0 wc0 b0 ro1 co1 a1 n1 c1 z1 f1 wr1 wc1 b1).mono fun e W' ⟨he, bel⟩ => ?_
  subst he
  exact ⟨_, rfl, _, _, _, [], _, [], hW', trodAll_mk1 (shut_bool Try.underlying4 _), (trodAll_cons_mk (Below.trod laidOut (by kernel_rfl) (of_decide_eq_true (by kernel_rfl)) k0 bel lt0) (trodAll_cons_mk (Below.trod laidOut (by kernel_rfl) (of_decide_eq_true (by kernel_rfl)) k1 bel lt1) trodAll_mk0)), rfl, bel.frame _, fun h => by cases h⟩

theorem over : Rows.fnExactSameTensorsRow.holds Try.pinned (OpenSpec.ofChange Rows.fnExactSameTensorsSpec) :=
  OpenClaim.holds_of_wide 8 Try.f8 rfl rfl rfl rfl rfl rfl rfl ⟨rfl, rfl, rfl, rfl, rfl⟩ rfl rfl rfl rfl rfl (by kernel_rfl) Try.func8 (by kernel_rfl)
    (of_decide_eq_true (by kernel_rfl)) (by unfold Func.isWrapper; first | (rw [if_pos (by decide +kernel)]; kernel_rfl) | (rw [if_neg (by decide +kernel)]; exact ⟨rfl, rfl⟩))
    (fun os started H enc _ => lifted os started H enc)

theorem proved : Rows.FnExactSameTensorsSaid := over
end Go.Proofs.Ytfmfddfcjbbklaa.sameTensors
