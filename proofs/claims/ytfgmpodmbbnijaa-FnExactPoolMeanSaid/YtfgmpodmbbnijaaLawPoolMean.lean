/- The law FnExactPoolMean holds for every input. No conditions. -/
import Derived.Test.YtfgmpodmbbnijaaValid
import Derived.Test.YtfgmpodmbbnijaaFin
import Derived.Test.YtfgmpodmbbnijaaPoolS
import Derived.Deep.CutRange
import Derived.Test.YtfgmpodmbbnijaaOpen
import Derived.ProofKit
import Derived.OpenShut
import Derived.ChangeOld
import Derived.WalkSmall
namespace Go.Proofs.Ytfgmpodmbbnijaa.poolMean
open Go.ChangeShapes Go.WideShapes Go.ChangeAt Go.RowKit Go.Fl Go.Reg
open Go.Proofs.Ytfgmpodmbbnijaa.pool
/-- what the pooling hands back -/
def S (r c : Int) (n : Nat) (xs : List Nat) (k : Int) : List Nat :=
  if ok r c n k = true then upto (tab (G xs (fun F n => Val F n false) c.toNat k.toNat) (c / k).toNat) ((r / k).toNat * (c / k).toNat) else []
def RO (r c : Int) (n : Nat) (k : Int) : Int := if ok r c n k = true then r / k else 0
def CO (r c : Int) (n : Nat) (k : Int) : Int := if ok r c n k = true then c / k else 0
theorem div_k {a D : Nat} (h : 0 < D) : ((a * D : Nat) : Int) / (D : Int) = (a : Int) := by rw [Int.natCast_mul]; exact Int.mul_ediv_cancel _ (by omega)
theorem S_yes {ro co D n : Nat} (xs : List Nat) (hD : 0 < D) (h : ok ((ro * D : Nat) : Int) ((co * D : Nat) : Int) n (D : Int) = true) : S ((ro * D : Nat) : Int) ((co * D : Nat) : Int) n xs (D : Int) = upto (tab (G xs (fun F n => Val F n false) (co * D) D) co) (ro * co) ∧ RO ((ro * D : Nat) : Int) ((co * D : Nat) : Int) n (D : Int) = (ro : Int) ∧ CO ((ro * D : Nat) : Int) ((co * D : Nat) : Int) n (D : Int) = (co : Int) := by
  unfold S RO CO
  rw [if_pos h, if_pos h, if_pos h, div_k hD, div_k hD]
  exact ⟨rfl, rfl, rfl⟩
theorem S_no {r c : Int} {n : Nat} (xs : List Nat) {k : Int} (h : ok r c n k = false) : S r c n xs k = [] ∧ RO r c n k = 0 ∧ CO r c n k = 0 := by
  unfold S RO CO; rw [h]; exact ⟨rfl, rfl, rfl⟩
theorem S_len (r c : Int) (n : Nat) (xs : List Nat) (k : Int) : (S r c n xs k).length ≤ 1048576 := by
  cases h : ok r c n k
  · rw [(S_no xs h).1]; simp
  · obtain ⟨ro, co, D, rfl, rfl, rfl, hR, hC, hD, hn⟩ := ok_yes h
    rw [(S_yes xs hD.1 h).1, upto_length]
    have h1 : ro ≤ ro * D := Nat.le_mul_of_pos_right _ hD.1
    have h2 : co ≤ co * D := Nat.le_mul_of_pos_right _ hD.1
    have : ro * co ≤ 16 * 16 := Nat.mul_le_mul (by omega) (by omega)
    omega
/-- the result's cells are written, whatever the flag -/
theorem RT_any {w wr : World} {rb lo : Nat} {t : TypeId} {r c : Int} {a : Option Addr} {cap : Nat} {ys S : List Nat} {b : Bool} (B : Below w.heap.size w wr) (hr : w.heap.size ≤ rb) (R : Row wr lo wr.heap.size t (.slice a S.length cap) S.length ys) (hlo : rb < lo) (hy : ys.map (cn .f32) = S.map (cn .f32)) :
    RT t w r c S b (.returned (.tuple #[.agg #[.int .i64 r, .int .i64 c, .slice a S.length cap], .bool b])) (((wr.setCell ⟨rb, 0, none⟩ (.int .i64 r)).setCell ⟨rb, 1, none⟩ (.int .i64 c)).setCell ⟨rb, 2, none⟩ (.slice a S.length cap)) :=
  ⟨a, cap, ys, rfl, (row_set (row_set (row_set R (p := ⟨rb, 0, none⟩) hlo _) (p := ⟨rb, 1, none⟩) hlo _) (p := ⟨rb, 2, none⟩) hlo _).down (by omega), hy, ((B.setCell (p := ⟨rb, 0, none⟩) hr _).setCell (p := ⟨rb, 1, none⟩) hr _).setCell (p := ⟨rb, 2, none⟩) hr _⟩
theorem innerS (r c : Int) (a : Option Addr) (n cap b0 : Nat) (xs : List Nat) (k : Int) (w : World) (h1 : Fs w a n cap xs) (Q : Box w b0 r c a n cap) :
    Calls Try.prog 37 #[.pointer (some ⟨b0, 0, none⟩), .int .i64 k, .bool false] w (RT 45 w (RO r c n k) (CO r c n k) (S r c n xs k) (ok r c n k)) := by
  cases ho : ok r c n k
  · obtain ⟨e1, e2, e3⟩ := S_no xs ho
    rw [e1, e2, e3]
    exact specN r c a n cap b0 k false w (Nat.le_trans h1.cap1 h1.cap2) Q ho
  · obtain ⟨ro, co, D, rfl, rfl, rfl, hR, hC, hD, hn⟩ := ok_yes ho
    obtain ⟨e1, e2, e3⟩ := S_yes xs hD.1 ho
    rw [e1, e2, e3]
    have hv : decide (vt ((ro * D : Nat) : Int) ((co * D : Nat) : Int) n) = true := by unfold ok at ho; simp only [Bool.and_eq_true] at ho; exact ho.1
    exact specY false ro co D a n cap b0 xs w hR hC hD hn hv h1 Q
theorem innerI (r c : Int) (a : Option Addr) (n cap : Nat) (xs : List Nat) (k : Int) (w : World) (h1 : Fs w a n cap xs) :
    Calls Try.prog 38 #[.agg #[.int .i64 r, .int .i64 c, .slice a n cap], .int .i64 k, .func (.func 39) #[] #[]] w (RT 45 w (RO r c n k) (CO r c n k) (S r c n xs k) (ok r c n k)) := by
  cases ho : ok r c n k
  · obtain ⟨e1, e2, e3⟩ := S_no xs ho
    rw [e1, e2, e3]
    exact poolN _ r c a n cap k w (Nat.le_trans h1.cap1 h1.cap2) ho
  · obtain ⟨ro, co, D, rfl, rfl, rfl, hR, hC, hD, hn⟩ := ok_yes ho
    obtain ⟨e1, e2, e3⟩ := S_yes xs hD.1 ho
    rw [e1, e2, e3]
    have hv : decide (vt ((ro * D : Nat) : Int) ((co * D : Nat) : Int) n) = true := by unfold ok at ho; simp only [Bool.and_eq_true] at ho; exact ho.1
    have hDD : D * D ≤ 8 * 8 := Nat.mul_le_mul hD.2 hD.2
    have hDD0 : 0 < D * D := Nat.mul_pos hD.1 hD.1
    exact poolY 39 (fun F n => Val F n false) ro co D a n cap xs w hR hC hD hn hv h1 (fun _ _ => rfl) (fun w' a' cap' F h => meanI a' (D * D) cap' F w' ⟨hDD0, by omega⟩ h)
set_option maxHeartbeats 2000000 in
theorem specS (r c : Int) (a : Option Addr) (n cap : Nat) (xs : List Nat) (k : Int) (w : World) (h1 : Fs w a n cap xs) :
    Calls Try.prog 21 #[.agg #[.int .i64 r, .int .i64 c, .slice a n cap], .int .i64 k] w (RT 45 w (RO r c n k) (CO r c n k) (S r c n xs k) (ok r c n k)) := by
  have H1 := Lib.hid h1
  clear h1
  go_enter Try.func21, Try.ntmps21
  go_wp2_with fail
  refine calls_at ?_
  intro w1 hA
  have A : Below w.heap.size w w1 := by rw [hA]; exact ((Below.refl _ _).alloc (Nat.le_refl _) _).alloc (by simp <;> omega) _
  have zw1 : w1.heap.size = w.heap.size + 1 + 1 := by rw [hA]; simp
  have Q_ : Box w1 (w.heap.size) r c a n cap := by rw [hA]; exact ⟨by simp [go_sem], by simp [go_sem], by simp [go_sem], by simp <;> omega⟩
  have ZR_ : Zbox w1 (w.heap.size + 1) := by rw [hA]; exact ⟨⟨by simp [go_sem], by simp [go_sem], by simp [go_sem], by simp <;> omega⟩, by simp [go_sem], by simp [go_sem], by simp [go_sem]⟩
  clear hA
  have zw1a := Nat.le_of_eq zw1
  have zw1b := Nat.le_of_eq zw1.symm
  clear zw1
  have T := A
  clear A
  have Q := Lib.hid Q_
  clear Q_
  have ZR := Lib.hid ZR_
  clear ZR_
  refine (innerS r c a n cap _ xs k _ (H1.out.below T) Q.out).mono ?_
  rintro e w2 ⟨a2, cap2, ys, rfl, R, hy, A⟩
  have T := T.trans (A.mono T.size)
  have Q := Lib.hid (Q.out.below A)
  have ZR := Lib.hid (ZR.out.below A)
  have zw2 := A.size
  clear A
  have RR := Lib.hid R
  have HY := Lib.hid hy
  clear R hy
  obtain ⟨⟨ZR0, ZR1, ZR2, ZR3⟩, ZR4, ZR5, ZR6⟩ := ZR.out
  go_wp2
  refine bodyPost_ret (v := .tuple #[.agg #[.int .i64 (RO r c n k), .int .i64 (CO r c n k), .slice a2 (S r c n xs k).length cap2], .bool (ok r c n k)]) (by simp [results, Try.results21, go_sem, ZR0, ZR1, ZR2]) rfl ?_
  exact RT_any (rb := w.heap.size + 1) T (by omega) RR.out (by omega) HY.out
set_option maxHeartbeats 2000000 in
theorem implS (r c : Int) (a : Option Addr) (n cap : Nat) (xs : List Nat) (k : Int) (w : World) (h1 : Fs w a n cap xs) :
    Calls Try.prog 22 #[.agg #[.int .i64 r, .int .i64 c, .slice a n cap], .int .i64 k] w (RT 45 w (RO r c n k) (CO r c n k) (S r c n xs k) (ok r c n k)) := by
  have H1 := Lib.hid h1
  clear h1
  go_enter Try.func22, Try.ntmps22
  go_wp2_with fail
  refine calls_at ?_
  intro w1 hA
  have A : Below w.heap.size w w1 := by rw [hA]; exact ((Below.refl _ _).alloc (Nat.le_refl _) _).alloc (by simp <;> omega) _
  have zw1 : w1.heap.size = w.heap.size + 1 + 1 := by rw [hA]; simp
  have Q_ : Box w1 (w.heap.size) r c a n cap := by rw [hA]; exact ⟨by simp [go_sem], by simp [go_sem], by simp [go_sem], by simp <;> omega⟩
  have ZR_ : Zbox w1 (w.heap.size + 1) := by rw [hA]; exact ⟨⟨by simp [go_sem], by simp [go_sem], by simp [go_sem], by simp <;> omega⟩, by simp [go_sem], by simp [go_sem], by simp [go_sem]⟩
  clear hA
  have zw1a := Nat.le_of_eq zw1
  have zw1b := Nat.le_of_eq zw1.symm
  clear zw1
  have T := A
  clear A
  have Q := Lib.hid Q_
  clear Q_
  have ZR := Lib.hid ZR_
  clear ZR_
  refine (innerI r c a n cap xs k _ (H1.out.below T)).mono ?_
  rintro e w2 ⟨a2, cap2, ys, rfl, R, hy, A⟩
  have T := T.trans (A.mono T.size)
  have Q := Lib.hid (Q.out.below A)
  have ZR := Lib.hid (ZR.out.below A)
  have zw2 := A.size
  clear A
  have RR := Lib.hid R
  have HY := Lib.hid hy
  clear R hy
  obtain ⟨⟨ZR0, ZR1, ZR2, ZR3⟩, ZR4, ZR5, ZR6⟩ := ZR.out
  go_wp2
  refine bodyPost_ret (v := .tuple #[.agg #[.int .i64 (RO r c n k), .int .i64 (CO r c n k), .slice a2 (S r c n xs k).length cap2], .bool (ok r c n k)]) (by simp [results, Try.results22, go_sem, ZR0, ZR1, ZR2]) rfl ?_
  exact RT_any (rb := w.heap.size + 1) T (by omega) RR.out (by omega) HY.out
theorem both (r c : Int) (n : Nat) (xs : List Nat) (k : Int) (_hn : n ≤ 1048576) (_hl : n = xs.length) (_wr : (Lit.int .i64 r).wf = true) (_wc : (Lit.int .i64 c).wf = true) (_w : (Lit.int .i64 k).wf = true) :
    ∃ ok R0 C0 S, S.length ≤ 1048576 ∧ (∀ w a cap, Fs w a n cap xs → Calls Try.prog 21 #[.agg #[.int .i64 r, .int .i64 c, .slice a n cap], .int .i64 k] w (RT 45 w R0 C0 S ok)) ∧ (∀ w a cap, Fs w a n cap xs → Calls Try.prog 22 #[.agg #[.int .i64 r, .int .i64 c, .slice a n cap], .int .i64 k] w (RT 45 w R0 C0 S ok)) :=
  ⟨_, _, _, _, S_len r c n xs k, fun w a cap h1 => specS r c a n cap xs k w h1, fun w a cap h1 => implS r c a n cap xs k w h1⟩
set_option maxHeartbeats 4000000 in
theorem walk (w : World) (ro0 co0 : Int) (a0 : Option Addr) (n0 c0 : Nat) (xs0 : List Nat) (h0 : Fs w a0 n0 c0 xs0) (_wr0 : (Lit.int .i64 ro0).wf = true) (_wc0 : (Lit.int .i64 co0).wf = true) (_b0 : ∀ x ∈ xs0, x < 4294967296) (a1 : Int) (_w1 : (Lit.int .i64 a1).wf = true) :
    Calls Try.prog 5 #[.agg #[.int .i64 ro0, .int .i64 co0, .slice a0 n0 c0], .int .i64 a1] w fun e w' => e = .returned (.bool true) ∧ Below w.heap.size w w' := by
  have m0 := h0.cap2
  have q0 := h0.cap1
  unfold maxLen at m0
  by_cases g0 : 1048576 < n0
  · go_enter Try.func5, Try.ntmps5
    have T := Below.refl w.heap.size w
    go_wp2_with fail
    refine calls_at ?_
    intro w1 hA
    obtain ⟨Q, A, z1, z2⟩ := box_new hA
    clear hA
    have X0 := Lib.hid Q
    clear Q
    have T := T.trans (A.mono T.size)
    have zw1 := A.size
    clear A
    have yw1 := z1
    have xw1 := z2
    clear z1 z2
    refine (szNo _ _ _ _ _ _ _ (Nat.le_trans h0.cap1 h0.cap2) (by omega) (by omega)).mono ?_
    rintro e wz ⟨rfl, A⟩
    have T := T.trans (A.mono T.size)
    go_wp2
    go_ret
    exact ⟨rfl, T⟩
  have hn0 : n0 ≤ 1048576 := by omega
  obtain ⟨ok, R0, C0, S, hS, hs, hi⟩ := both ro0 co0 n0 xs0 a1 hn0 h0.len _wr0 _wc0 _w1
  go_enter Try.func5, Try.ntmps5
  have T := Below.refl w.heap.size w
  go_wp2_with fail
  refine calls_at ?_
  intro w1 hA
  obtain ⟨Q, A, z1, z2⟩ := box_new hA
  clear hA
  have X0 := Lib.hid Q
  clear Q
  have T := T.trans (A.mono T.size)
  have zw1 := A.size
  clear A
  have yw1 := z1
  have xw1 := z2
  clear z1 z2
  refine (szYes _ _ _ _ _ _ _ (by omega) (by omega)).mono ?_
  rintro e w2 ⟨rfl, A⟩
  have T := T.trans (A.mono T.size)
  have X0 := Lib.hid (X0.out.below A)
  have zw2 := A.size
  clear A
  obtain ⟨X00, X01, X02, X03⟩ := X0.out
  go_wp2_with fail
  clear X00 X01 X02 X03
  refine (toTens _ _ _ _ _ _ _ hn0 (h0.below T)).mono ?_
  rintro e w3 ⟨g1, rfl, R, A⟩
  have T := T.trans (A.mono T.size)
  have X0 := Lib.hid (X0.out.below A)
  have zw3 := A.size
  clear A
  have K1 := R
  clear R
  go_wp2_with fail
  refine (hs w3 _ _ K1.fs).mono ?_
  rintro e w4 ⟨b2, p2, ys2, rfl, R, E2, A⟩
  have T := T.trans (A.mono T.size)
  have K1 := K1.below A
  have X0 := Lib.hid (X0.out.below A)
  have zw4 := A.size
  clear A
  have K2 := R
  clear R
  have E2h := Lib.hid E2
  clear E2
  obtain ⟨X00, X01, X02, X03⟩ := X0.out
  go_wp2_with fail
  clear X00 X01 X02 X03
  refine calls_at ?_
  intro w5 hA
  obtain ⟨Q, A, z1, z2⟩ := box_new (r := R0) (c := C0) (a := b2) (n := S.length) (cap := p2) hA
  clear hA
  have Y2 := Lib.hid Q
  clear Q
  have T := T.trans (A.mono T.size)
  have K1 := K1.below A
  have K2 := K2.below A
  have X0 := Lib.hid (X0.out.below A)
  have zw5 := A.size
  clear A
  have yw5 := z1
  have xw5 := z2
  clear z1 z2
  refine (toTens _ _ _ _ _ _ _ hn0 (h0.below T)).mono ?_
  rintro e w6 ⟨g3, rfl, R, A⟩
  have T := T.trans (A.mono T.size)
  have K1 := K1.below A
  have K2 := K2.below A
  have X0 := Lib.hid (X0.out.below A)
  have Y2 := Lib.hid (Y2.out.below A)
  have zw6 := A.size
  clear A
  have K3 := R
  clear R
  go_wp2_with fail
  refine calls_at ?_
  intro w7 hA
  obtain ⟨Q, A, z1, z2⟩ := box_new (r := ro0) (c := co0) (a := (some ⟨g3, 0, none⟩)) (n := n0) (cap := n0) hA
  clear hA
  have Z0 := Lib.hid Q
  clear Q
  have T := T.trans (A.mono T.size)
  have K1 := K1.below A
  have K2 := K2.below A
  have K3 := K3.below A
  have X0 := Lib.hid (X0.out.below A)
  have Y2 := Lib.hid (Y2.out.below A)
  have zw7 := A.size
  clear A
  have yw7 := z1
  have xw7 := z2
  clear z1 z2
  refine (hi w7 _ _ K3.fs).mono ?_
  rintro e w8 ⟨b4, p4, ys4, rfl, R, E4, A⟩
  have T := T.trans (A.mono T.size)
  have K1 := K1.below A
  have K2 := K2.below A
  have K3 := K3.below A
  have X0 := Lib.hid (X0.out.below A)
  have Y2 := Lib.hid (Y2.out.below A)
  have Z0 := Lib.hid (Z0.out.below A)
  have zw8 := A.size
  clear A
  have K4 := R
  clear R
  have E4h := Lib.hid E4
  clear E4
  obtain ⟨Y20, Y21, Y22, Y23⟩ := Y2.out
  go_wp2_with fail
  clear Y20 Y21 Y22 Y23
  refine calls_at ?_
  intro w9 hA
  obtain ⟨Q, A, z1, z2⟩ := box_new (r := R0) (c := C0) (a := b4) (n := S.length) (cap := p4) hA
  clear hA
  have Y4 := Lib.hid Q
  clear Q
  have T := T.trans (A.mono T.size)
  have K1 := K1.below A
  have K2 := K2.below A
  have K3 := K3.below A
  have K4 := K4.below A
  have X0 := Lib.hid (X0.out.below A)
  have Y2 := Lib.hid (Y2.out.below A)
  have Z0 := Lib.hid (Z0.out.below A)
  have zw9 := A.size
  clear A
  have yw9 := z1
  have xw9 := z2
  clear z1 z2
  refine (eqTens _ _ _ _ _ _ _ _ _ _ hS K4.fs K2.fs (E4h.out.trans E2h.out.symm)).mono ?_
  rintro e w10 ⟨rfl, A⟩
  have T := T.trans (A.mono T.size)
  have K1 := K1.below A
  have K2 := K2.below A
  have K3 := K3.below A
  have K4 := K4.below A
  have X0 := Lib.hid (X0.out.below A)
  have Y2 := Lib.hid (Y2.out.below A)
  have Z0 := Lib.hid (Z0.out.below A)
  have Y4 := Lib.hid (Y4.out.below A)
  have zw10 := A.size
  clear A
  go_wp2_with fail
  refine wp_bl 4 [0, 0, 2, 2, 0] (by kernel_rfl) (by kernel_rfl) ?_
  simp only [List.take_succ_cons, List.take_zero, List.drop_succ_cons, List.drop_zero]
  with_reducible refine bl_step ?_
  intro K hK
  go_simp
  refine ⟨.agg #[.int .i64 ro0, .int .i64 co0, .slice (some ⟨g3, 0, none⟩) n0 n0], fun w' hw' => ?_, hK _ _ ?_⟩
  · obtain ⟨q0, q1, q2, q3⟩ := Z0.out.below hw'
    go_simp
  clear hK K
  with_reducible refine bl_step ?_
  intro K hK
  go_simp
  refine ⟨.agg #[.int .i64 ro0, .int .i64 co0, .slice a0 n0 c0], fun w' hw' => ?_, hK _ _ ?_⟩
  · obtain ⟨q0, q1, q2, q3⟩ := X0.out.below hw'
    go_simp
  clear hK K
  with_reducible refine bl_step ?_
  intro K hK
  go_simp
  intro _
  refine (toTens _ _ _ _ _ _ _ hn0 ((h0.below T).drew _)).mono ?_
  rintro e w11 ⟨g5, rfl, R, A0⟩
  have A := (bdrew (Below.refl _ _) _).trans A0
  clear A0
  refine ⟨_, rfl, A, hK _ _ ?_⟩
  clear hK K
  have BL : Below w10.heap.size w10 w11 := A
  have T := T.trans (A.mono T.size)
  have K1 := K1.below A
  have K2 := K2.below A
  have K3 := K3.below A
  have K4 := K4.below A
  have X0 := Lib.hid (X0.out.below A)
  have Y2 := Lib.hid (Y2.out.below A)
  have Z0 := Lib.hid (Z0.out.below A)
  have Y4 := Lib.hid (Y4.out.below A)
  have zw11 := A.size
  clear A
  have K5 := R
  clear R
  with_reducible refine bl_step ?_
  intro K hK
  go_simp
  intro _
  refine (eqTens _ _ _ _ _ _ _ _ _ _ hn0 (K3.fs.drew _) (K5.fs.drew _) rfl).mono ?_
  rintro e w12 ⟨rfl, A0⟩
  have A := (bdrew (Below.refl _ _) _).trans A0
  clear A0
  refine ⟨_, rfl, BL.trans (A.mono BL.size), hK _ _ ?_⟩
  clear hK K BL
  have T := T.trans (A.mono T.size)
  have K1 := K1.below A
  have K2 := K2.below A
  have K3 := K3.below A
  have K4 := K4.below A
  have K5 := K5.below A
  have X0 := Lib.hid (X0.out.below A)
  have Y2 := Lib.hid (Y2.out.below A)
  have Z0 := Lib.hid (Z0.out.below A)
  have Y4 := Lib.hid (Y4.out.below A)
  have zw12 := A.size
  clear A
  with_reducible refine wpR_nil (fun nq => ?_)
  generalize hA : w12.drewN nq = w13
  have A := below_of_drew hA.symm
  clear hA
  have T := T.trans (A.mono T.size)
  have K1 := K1.below A
  have K2 := K2.below A
  have K3 := K3.below A
  have K4 := K4.below A
  have K5 := K5.below A
  have X0 := Lib.hid (X0.out.below A)
  have Y2 := Lib.hid (Y2.out.below A)
  have Z0 := Lib.hid (Z0.out.below A)
  have Y4 := Lib.hid (Y4.out.below A)
  have zw13 := A.size
  clear A
  clear K1 K5
  obtain ⟨Z00, Z01, Z02, Z03⟩ := Z0.out
  go_wp2_with fail
  clear Z00 Z01 Z02 Z03
  refine (markTens _ _ _ _ _ _ _ _ (1) _ hn0 (by omega) K3).mono ?_
  rintro e w14 ⟨rfl, R, A⟩
  have z := A.size
  have t := T.size
  have T := T.trans (A.below (by omega) (by omega))
  have K2 := K2.keep A (by omega)
  have K4 := K4.keep A (by omega)
  have X0 := Lib.hid (X0.out.keep A (by omega))
  have Y2 := Lib.hid (Y2.out.keep A (by omega))
  have Z0 := Lib.hid (Z0.out.keep A (by omega))
  have Y4 := Lib.hid (Y4.out.keep A (by omega))
  have K3 := R
  have zw14 := z
  clear A R z t
  obtain ⟨Y40, Y41, Y42, Y43⟩ := Y4.out
  obtain ⟨Y20, Y21, Y22, Y23⟩ := Y2.out
  go_wp2_with fail
  clear Y40 Y41 Y42 Y43 Y20 Y21 Y22 Y23
  refine (eqTens _ _ _ _ _ _ _ _ _ _ hS K4.fs K2.fs (E4h.out.trans E2h.out.symm)).mono ?_
  rintro e w15 ⟨rfl, A⟩
  have T := T.trans (A.mono T.size)
  have K2 := K2.below A
  have K3 := K3.below A
  have K4 := K4.below A
  have X0 := Lib.hid (X0.out.below A)
  have Y2 := Lib.hid (Y2.out.below A)
  have Z0 := Lib.hid (Z0.out.below A)
  have Y4 := Lib.hid (Y4.out.below A)
  have zw15 := A.size
  clear A
  obtain ⟨Y40, Y41, Y42, Y43⟩ := Y4.out
  go_wp2_with fail
  clear Y40 Y41 Y42 Y43
  refine (markTens _ _ _ _ _ _ _ _ 1 _ hS (by omega) K4).mono ?_
  rintro e w16 ⟨rfl, R, A⟩
  have z := A.size
  have t := T.size
  have T := T.trans (A.below (by omega) (by omega))
  have K2 := K2.keep A (by omega)
  have K3 := K3.keep A (by omega)
  have X0 := Lib.hid (X0.out.keep A (by omega))
  have Y2 := Lib.hid (Y2.out.keep A (by omega))
  have Z0 := Lib.hid (Z0.out.keep A (by omega))
  have Y4 := Lib.hid (Y4.out.keep A (by omega))
  have K4 := R
  have zw16 := z
  clear A R z t
  obtain ⟨Y40, Y41, Y42, Y43⟩ := Y4.out
  go_wp2_with fail
  clear Y40 Y41 Y42 Y43
  refine (heldTens _ _ _ _ _ 1 _ hS (by omega) K4.fs).mono ?_
  rintro e w17 ⟨rfl, A⟩
  have T := T.trans (A.mono T.size)
  have K2 := K2.below A
  have K3 := K3.below A
  have K4 := K4.below A
  have X0 := Lib.hid (X0.out.below A)
  have Y2 := Lib.hid (Y2.out.below A)
  have Z0 := Lib.hid (Z0.out.below A)
  have Y4 := Lib.hid (Y4.out.below A)
  have zw17 := A.size
  clear A
  obtain ⟨X00, X01, X02, X03⟩ := X0.out
  go_wp2_with fail
  clear X00 X01 X02 X03
  refine (toTens _ _ _ _ _ _ _ hn0 (h0.below T)).mono ?_
  rintro e w18 ⟨g6, rfl, R, A⟩
  have T := T.trans (A.mono T.size)
  have K2 := K2.below A
  have K3 := K3.below A
  have K4 := K4.below A
  have X0 := Lib.hid (X0.out.below A)
  have Y2 := Lib.hid (Y2.out.below A)
  have Z0 := Lib.hid (Z0.out.below A)
  have Y4 := Lib.hid (Y4.out.below A)
  have zw18 := A.size
  clear A
  have K6 := R
  clear R
  go_wp2_with fail
  refine (hi w18 _ _ K6.fs).mono ?_
  rintro e w19 ⟨b7, p7, ys7, rfl, R, E7, A⟩
  have T := T.trans (A.mono T.size)
  have K2 := K2.below A
  have K3 := K3.below A
  have K4 := K4.below A
  have K6 := K6.below A
  have X0 := Lib.hid (X0.out.below A)
  have Y2 := Lib.hid (Y2.out.below A)
  have Z0 := Lib.hid (Z0.out.below A)
  have Y4 := Lib.hid (Y4.out.below A)
  have zw19 := A.size
  clear A
  have K7 := R
  clear R
  have E7h := Lib.hid E7
  clear E7
  obtain ⟨Y20, Y21, Y22, Y23⟩ := Y2.out
  go_wp2_with fail
  clear Y20 Y21 Y22 Y23
  refine calls_at ?_
  intro w20 hA
  obtain ⟨Q, A, z1, z2⟩ := box_new (r := R0) (c := C0) (a := b7) (n := S.length) (cap := p7) hA
  clear hA
  have Y7 := Lib.hid Q
  clear Q
  have T := T.trans (A.mono T.size)
  have K2 := K2.below A
  have K3 := K3.below A
  have K4 := K4.below A
  have K6 := K6.below A
  have K7 := K7.below A
  have X0 := Lib.hid (X0.out.below A)
  have Y2 := Lib.hid (Y2.out.below A)
  have Z0 := Lib.hid (Z0.out.below A)
  have Y4 := Lib.hid (Y4.out.below A)
  have zw20 := A.size
  clear A
  have yw20 := z1
  have xw20 := z2
  clear z1 z2
  refine (eqTens _ _ _ _ _ _ _ _ _ _ hS K7.fs K2.fs (E7h.out.trans E2h.out.symm)).mono ?_
  rintro e w21 ⟨rfl, A⟩
  have T := T.trans (A.mono T.size)
  have K2 := K2.below A
  have K3 := K3.below A
  have K4 := K4.below A
  have K6 := K6.below A
  have K7 := K7.below A
  have X0 := Lib.hid (X0.out.below A)
  have Y2 := Lib.hid (Y2.out.below A)
  have Z0 := Lib.hid (Z0.out.below A)
  have Y4 := Lib.hid (Y4.out.below A)
  have Y7 := Lib.hid (Y7.out.below A)
  have zw21 := A.size
  clear A
  obtain ⟨Y40, Y41, Y42, Y43⟩ := Y4.out
  go_wp2_with fail
  clear Y40 Y41 Y42 Y43
  refine (heldTens _ _ _ _ _ 1 _ hS (by omega) K4.fs).mono ?_
  rintro e w22 ⟨rfl, A⟩
  have T := T.trans (A.mono T.size)
  have K2 := K2.below A
  have K3 := K3.below A
  have K4 := K4.below A
  have K6 := K6.below A
  have K7 := K7.below A
  have X0 := Lib.hid (X0.out.below A)
  have Y2 := Lib.hid (Y2.out.below A)
  have Z0 := Lib.hid (Z0.out.below A)
  have Y4 := Lib.hid (Y4.out.below A)
  have Y7 := Lib.hid (Y7.out.below A)
  have zw22 := A.size
  clear A
  go_wp2
  go_ret
  exact ⟨rfl, T⟩
theorem own : ownKnob Try.prog.godebug = none := by kernel_rfl
theorem laidOut : laidOutB Try.prog = true := by kernel_rfl
set_option maxRecDepth 100000 in
theorem lifted (os : Os) (started : os.Started) (H : Type) (enc : TypeId × Value → H) :
    ReturnsInHanded {} Try.checked os 5 .any (Rows.fnExactPoolMeanSpec.pre6 enc Try.prog Try.f5 Rows.fnExactPoolMeanRow.domain false) (Rows.fnExactPoolMeanSpec.post enc Try.prog Try.f5 false true false false) := by
  refine returnsInHanded_of_change (C := Try.checked) own started (by kernel_rfl) Try.func5
    (ChangeSpec.witness6 (enc := enc) (C := Try.checked) false ⟨#[], #[.agg #[.int .i64 0, .int .i64 0, .slice none 0 0], .int .i64 0], []⟩ 8 (by kernel_rfl) (by kernel_rfl) (by kernel_rfl) (by kernel_rfl)) ?_
  intro W base args ds gs before hval0 hW hcnd _
  have hval : ∀ (j : Nat) t v, Try.f5.params[j]? = some t → args[j]? = some v → Value.okWide Try.prog W .any base t v := hval0
  have hW' := hW
  obtain ⟨p, q, hA0, hV, rfl, hfz, hnd⟩ := hW
  have hA : DataW.TrodAll enc Try.prog W 0 (fun _ => true) true Try.f5.params.toList args.toList ds p := hA0
  rw [Try.params5] at hA hval
  obtain ⟨v0, vs0, d0, ds0, p0, q0, hargs, rfl, rfl, h0, r0⟩ := trodAll_cons hA
  obtain ⟨v1, vs1, d1, ds1, p1, q1, rfl, rfl, rfl, h1, r1⟩ := trodAll_cons r0
  obtain ⟨rfl, rfl, rfl⟩ := trodAll_nil r1
  obtain rfl : args = #[v0, v1] := by cases args; simp_all
  obtain ⟨rfl, rfl⟩ := trodVars_none hV
  have k0 := h0
  have lt0 : ∀ x ∈ p0, x.block < W.heap.size := by obtain ⟨m, hm⟩ := k0; exact DataW.trod_lt m _ _ _ hm
  have k1 := h1
  have lt1 : ∀ x ∈ p1, x.block < W.heap.size := by obtain ⟨m, hm⟩ := k1; exact DataW.trod_lt m _ _ _ hm
  obtain ⟨ro0, co0, a0, n0, c0, z0, rfl, f0, wr0, wc0, b0⟩ := open_tensor Try.underlying30 (by kernel_rfl) (by kernel_rfl) Try.underlying2 Try.underlying2 Try.underlying22 Try.underlying45 (by kernel_rfl) (hval 0 30 v0 rfl rfl) h0
  obtain ⟨a1, rfl, rfl, rfl, w1⟩ := open_int Try.underlying2 (hval 1 2 v1 rfl rfl) h1
  clear hA0 hval0
  refine (walk W ro0 co0 a0 n0 c0 z0 f0 wr0 wc0 b0 a1 w1).mono fun e W' ⟨he, bel⟩ => ?_
  subst he
  exact ⟨_, rfl, _, _, _, [], _, [], hW', trodAll_mk1 (shut_bool Try.underlying4 _), (trodAll_cons_mk (Below.trod laidOut (by kernel_rfl) (of_decide_eq_true (by kernel_rfl)) k0 bel lt0) (trodAll_cons_mk (Below.trod laidOut (by kernel_rfl) (of_decide_eq_true (by kernel_rfl)) k1 bel lt1) trodAll_mk0)), rfl, bel.frame _, fun h => by cases h⟩

theorem over : Rows.fnExactPoolMeanRow.holds Try.pinned (OpenSpec.ofChange Rows.fnExactPoolMeanSpec) :=
  OpenClaim.holds_of_wide 5 Try.f5 rfl rfl rfl rfl rfl rfl rfl ⟨rfl, rfl, rfl, rfl, rfl⟩ rfl rfl rfl rfl rfl (by kernel_rfl) Try.func5 (by kernel_rfl)
    (of_decide_eq_true (by kernel_rfl)) (by unfold Func.isWrapper; first | (rw [if_pos (by decide +kernel)]; kernel_rfl) | (rw [if_neg (by decide +kernel)]; exact ⟨rfl, rfl⟩))
    (fun os started H enc _ => lifted os started H enc)

theorem proved : Rows.FnExactPoolMeanSaid := over
end Go.Proofs.Ytfgmpodmbbnijaa.poolMean
