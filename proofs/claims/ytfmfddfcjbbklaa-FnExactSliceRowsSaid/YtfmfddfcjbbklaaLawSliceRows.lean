/- The law FnExactSliceRows holds for every input. No conditions. -/
import Derived.Test.YtfmfddfcjbbklaaValid
import Derived.Test.YtfmfddfcjbbklaaFin
import Derived.Test.YtfmfddfcjbbklaaRowT
import Derived.Test.YtfmfddfcjbbklaaClone
import Derived.Deep.CutRange
import Derived.Test.YtfmfddfcjbbklaaOpen
import Derived.ProofKit
import Derived.OpenShut
import Derived.ChangeOld
import Derived.WalkSmall
namespace Go.Proofs.Ytfmfddfcjbbklaa.sliceRows
open Go.ChangeShapes Go.WideShapes Go.ChangeAt Go.RowKit Go.Fl Go.Reg
def part (C i k : Nat) (xs : List Nat) : List Nat := (xs.drop (i * C)).take (k * C)
theorem part_end {R C i k : Nat} (h : i + k ≤ R) : i * C + k * C ≤ R * C := by rw [← Nat.add_mul]; exact Nat.mul_le_mul_right _ h
theorem specInner (R C i k : Nat) (b o n cap b0 : Nat) (xs : List Nat) (w : World) (hR : 0 < R ∧ R ≤ 16) (hC : 0 < C ∧ C ≤ 16) (hk : 1 ≤ k) (hik : i + k ≤ R) (hn : n = R * C) (h1 : Fs w (some ⟨b, o, none⟩) n cap xs) (Q : Box w b0 (R : Int) (C : Int) (some ⟨b, o, none⟩) n cap) :
    Calls Try.prog 68 #[.pointer (some ⟨b0, 0, none⟩), .int .i64 (i : Int), .int .i64 (k : Int)] w (RT1 31 w (k : Int) (C : Int) (part C i k xs)) := by
  have HL := Lib.hid (by rw [← hn]; exact h1.len : R * C = xs.length)
  have e1 := part_end (C := C) hik
  have e3 : R * C ≤ 16 * 16 := Nat.mul_le_mul hR.2 hC.2
  have e4 : 1 * 1 ≤ k * C := Nat.mul_le_mul hk hC.1
  have HSUB := h1.sub (i := i * C) (j := i * C + k * C) (by omega) (by omega) (cap - i * C) rfl
  rw [show i * C + k * C - i * C = k * C by omega] at HSUB
  have HS := Lib.hid HSUB
  have hcap := h1.cap1
  have hcap2 := h1.cap2
  unfold maxLen at hcap2
  clear h1 HSUB
  have q1 : ((i : Int) * (C : Int)) = ((i * C : Nat) : Int) := by simp
  have q2 : (((i : Int) + (k : Int)) * (C : Int)) = ((i * C + k * C : Nat) : Int) := by rw [Int.add_mul, q1]; simp
  have q3 : (i : Int) * (C : Int) + (k : Int) * (C : Int) = ((i * C + k * C : Nat) : Int) := by simp
  have p1 : (0 : Int) ≤ (i : Int) * (C : Int) ∧ (i : Int) * (C : Int) ≤ 256 := by rw [q1]; omega
  have p2 : (0 : Int) ≤ ((i : Int) + (k : Int)) * (C : Int) ∧ ((i : Int) + (k : Int)) * (C : Int) ≤ 256 := by rw [q2]; omega
  have w1' : IntKind.i64.wrap ((i : Int) * (C : Int)) = (i : Int) * (C : Int) := IntWalk.i64_in _ (by omega)
  have w2' : IntKind.i64.wrap ((i : Int) + (k : Int)) = (i : Int) + (k : Int) := IntWalk.i64_in _ (by omega)
  have w3' : IntKind.i64.wrap (((i : Int) + (k : Int)) * (C : Int)) = ((i : Int) + (k : Int)) * (C : Int) := IntWalk.i64_in _ (by omega)
  have t1 : ((i : Int) * (C : Int)).toNat = i * C := by rw [q1]; rfl
  have t2 : (((i : Int) + (k : Int)) * (C : Int)).toNat = i * C + k * C := by rw [q2]; rfl
  have t3 : i * C + k * C - i * C = k * C := by omega
  have p3 : (((i : Int) + (k : Int)) * (C : Int)) ≤ (cap : Int) := by rw [q2]; omega
  have p4 : (i : Int) * (C : Int) ≤ ((i : Int) + (k : Int)) * (C : Int) := by rw [q1, q2]; omega
  have p5 : ¬ cap = i * C := by omega
  have p6 : (i : Int) * (C : Int) ≤ (i : Int) * (C : Int) + (k : Int) * (C : Int) := by rw [q3, q1]; omega
  obtain ⟨p1a, p1b⟩ := p1
  obtain ⟨p2a, p2b⟩ := p2
  clear q1 q2 q3
  subst hn
  have HQ := Lib.hid Q
  have Q3 := Q.lt
  clear Q
  go_enter Try.func68, Try.ntmps68
  go_wp2_with fail
  refine reg_at ?_
  intro w1 hA
  have A : Below w.heap.size w w1 := by rw [hA]; exact (Below.refl _ _).alloc (Nat.le_refl _) _
  have zw1 : w1.heap.size = w.heap.size + 1 := by rw [hA]; simp
  have ZR_ : Zbox w1 (w.heap.size) := by rw [hA]; exact ⟨⟨by simp [go_sem], by simp [go_sem], by simp [go_sem], by simp <;> omega⟩, by simp [go_sem], by simp [go_sem], by simp [go_sem]⟩
  clear hA
  have zw1a := Nat.le_of_eq zw1
  have zw1b := Nat.le_of_eq zw1.symm
  clear zw1
  have T := A
  clear A
  have ZR := Lib.hid ZR_
  clear ZR_
  have FACT : ∀ w', Below w1.heap.size w1 w' → w'.cell? ⟨b0, 1, none⟩ = some (.int .i64 (C : Int)) ∧ w'.cell? ⟨b0, 2, none⟩ = some (.slice (some ⟨b, o, none⟩) (R * C) cap) := fun w' hb => ⟨((HQ.out.below T).below hb).c1, ((HQ.out.below T).below hb).c2⟩
  have FA := Lib.hid FACT
  clear FACT
  refine wp_plan 26 [0, 0, 0, 0, 0, 0, 0, 0, 0, 0, 0, 0, 0, 0, 0, 0, 0, 0, 0, 0, 0, 0, 0, 0, 2, 0, 2] (.go 0 (.go 1 (.go 2 (.go 3 (.go 4 (.go 5 (.go 6 (.go 7 (.go 8 (.go 9 (.go 10 (.go 11 (.go 12 (.go 13 (.go 14 (.go 15 (.go 16 (.go 17 (.go 18 (.go 19 (.go 20 (.go 21 (.go 22 (.go 23 (.only 24 (.go 25 .fin)))))))))))))))))))))))))) (Bl w1) (by kernel_rfl) (by kernel_rfl) (Bl.refl _) Bl.drew ?_
  simp only [List.drop_succ_cons, List.drop_zero]
  refine plan_go (pl0 (v := ?_) (by rfl) rfl rfl (fun w' hw' => ?_) (fun K hK => ?_))
  rotate_left
  · obtain ⟨q0, q1⟩ := FA.out w' hw'
    go_simp
    rfl
  go_simp
  refine hK _ _ ?_
  clear hK K
  refine plan_go (pl0 (v := ?_) (by rfl) rfl rfl (fun w' hw' => ?_) (fun K hK => ?_))
  rotate_left
  · obtain ⟨q0, q1⟩ := FA.out w' hw'
    go_simp
    rfl
  go_simp
  refine hK _ _ ?_
  clear hK K
  refine plan_go (pl0 (v := ?_) (by rfl) rfl rfl (fun w' hw' => ?_) (fun K hK => ?_))
  rotate_left
  · obtain ⟨q0, q1⟩ := FA.out w' hw'
    go_simp
    rfl
  go_simp
  refine hK _ _ ?_
  clear hK K
  refine plan_go (pl0 (v := ?_) (by rfl) rfl rfl (fun w' hw' => ?_) (fun K hK => ?_))
  rotate_left
  · obtain ⟨q0, q1⟩ := FA.out w' hw'
    go_simp
    rfl
  go_simp
  refine hK _ _ ?_
  clear hK K
  refine plan_go (pl0 (v := ?_) (by rfl) rfl rfl (fun w' hw' => ?_) (fun K hK => ?_))
  rotate_left
  · obtain ⟨q0, q1⟩ := FA.out w' hw'
    go_simp
    rfl
  go_simp
  refine hK _ _ ?_
  clear hK K
  refine plan_go (pl0 (v := ?_) (by rfl) rfl rfl (fun w' hw' => ?_) (fun K hK => ?_))
  rotate_left
  · obtain ⟨q0, q1⟩ := FA.out w' hw'
    go_simp
    rfl
  go_simp
  refine hK _ _ ?_
  clear hK K
  refine plan_go (pl0 (v := ?_) (by rfl) rfl rfl (fun w' hw' => ?_) (fun K hK => ?_))
  rotate_left
  · obtain ⟨q0, q1⟩ := FA.out w' hw'
    go_simp
    rfl
  go_simp
  refine hK _ _ ?_
  clear hK K
  refine plan_go (pl0 (v := ?_) (by rfl) rfl rfl (fun w' hw' => ?_) (fun K hK => ?_))
  rotate_left
  · obtain ⟨q0, q1⟩ := FA.out w' hw'
    go_simp
    rfl
  go_simp
  refine hK _ _ ?_
  clear hK K
  refine plan_go (pl0 (v := ?_) (by rfl) rfl rfl (fun w' hw' => ?_) (fun K hK => ?_))
  rotate_left
  · obtain ⟨q0, q1⟩ := FA.out w' hw'
    go_simp
    rfl
  go_simp
  refine hK _ _ ?_
  clear hK K
  refine plan_go (pl0 (v := ?_) (by rfl) rfl rfl (fun w' hw' => ?_) (fun K hK => ?_))
  rotate_left
  · obtain ⟨q0, q1⟩ := FA.out w' hw'
    go_simp
    rfl
  go_simp
  refine hK _ _ ?_
  clear hK K
  refine plan_go (pl0 (v := ?_) (by rfl) rfl rfl (fun w' hw' => ?_) (fun K hK => ?_))
  rotate_left
  · obtain ⟨q0, q1⟩ := FA.out w' hw'
    go_simp
    rfl
  go_simp
  refine hK _ _ ?_
  clear hK K
  refine plan_go (pl0 (v := ?_) (by rfl) rfl rfl (fun w' hw' => ?_) (fun K hK => ?_))
  rotate_left
  · obtain ⟨q0, q1⟩ := FA.out w' hw'
    go_simp
    rfl
  go_simp
  refine hK _ _ ?_
  clear hK K
  refine plan_go (pl0 (v := ?_) (by rfl) rfl rfl (fun w' hw' => ?_) (fun K hK => ?_))
  rotate_left
  · obtain ⟨q0, q1⟩ := FA.out w' hw'
    go_simp
    rfl
  go_simp
  refine hK _ _ ?_
  clear hK K
  refine plan_go (pl0 (v := ?_) (by rfl) rfl rfl (fun w' hw' => ?_) (fun K hK => ?_))
  rotate_left
  · obtain ⟨q0, q1⟩ := FA.out w' hw'
    go_simp
    rfl
  go_simp
  refine hK _ _ ?_
  clear hK K
  refine plan_go (pl0 (v := ?_) (by rfl) rfl rfl (fun w' hw' => ?_) (fun K hK => ?_))
  rotate_left
  · obtain ⟨q0, q1⟩ := FA.out w' hw'
    go_simp
    rfl
  go_simp
  refine hK _ _ ?_
  clear hK K
  refine plan_go (pl0 (v := ?_) (by rfl) rfl rfl (fun w' hw' => ?_) (fun K hK => ?_))
  rotate_left
  · obtain ⟨q0, q1⟩ := FA.out w' hw'
    go_simp
    rfl
  go_simp
  refine hK _ _ ?_
  clear hK K
  refine plan_go (pl0 (v := ?_) (by rfl) rfl rfl (fun w' hw' => ?_) (fun K hK => ?_))
  rotate_left
  · obtain ⟨q0, q1⟩ := FA.out w' hw'
    go_simp
    rfl
  go_simp
  refine hK _ _ ?_
  clear hK K
  refine plan_go (pl0 (v := ?_) (by rfl) rfl rfl (fun w' hw' => ?_) (fun K hK => ?_))
  rotate_left
  · obtain ⟨q0, q1⟩ := FA.out w' hw'
    go_simp
    rfl
  go_simp
  refine hK _ _ ?_
  clear hK K
  refine plan_go (pl0 (v := ?_) (by rfl) rfl rfl (fun w' hw' => ?_) (fun K hK => ?_))
  rotate_left
  · obtain ⟨q0, q1⟩ := FA.out w' hw'
    go_simp
    rfl
  go_simp
  refine hK _ _ ?_
  clear hK K
  refine plan_go (pl0 (v := ?_) (by rfl) rfl rfl (fun w' hw' => ?_) (fun K hK => ?_))
  rotate_left
  · obtain ⟨q0, q1⟩ := FA.out w' hw'
    go_simp
    rfl
  go_simp
  refine hK _ _ ?_
  clear hK K
  refine plan_go (pl0 (v := ?_) (by rfl) rfl rfl (fun w' hw' => ?_) (fun K hK => ?_))
  rotate_left
  · obtain ⟨q0, q1⟩ := FA.out w' hw'
    go_simp
    rfl
  go_simp
  refine hK _ _ ?_
  clear hK K
  refine plan_go (pl0 (v := ?_) (by rfl) rfl rfl (fun w' hw' => ?_) (fun K hK => ?_))
  rotate_left
  · obtain ⟨q0, q1⟩ := FA.out w' hw'
    go_simp
    rfl
  go_simp
  refine hK _ _ ?_
  clear hK K
  refine plan_go (pl0 (v := ?_) (by rfl) rfl rfl (fun w' hw' => ?_) (fun K hK => ?_))
  rotate_left
  · obtain ⟨q0, q1⟩ := FA.out w' hw'
    go_simp
    rfl
  go_simp
  refine hK _ _ ?_
  clear hK K
  refine plan_go (pl0 (v := ?_) (by rfl) rfl rfl (fun w' hw' => ?_) (fun K hK => ?_))
  rotate_left
  · obtain ⟨q0, q1⟩ := FA.out w' hw'
    go_simp
    rfl
  go_simp
  refine hK _ _ ?_
  clear hK K
  refine plan_only (pl2 (by rfl) rfl rfl (fun K hK => ?_))
  go_simp
  intro m24
  refine (ownS b (o + i * C) (k * C) (cap - i * C) (part C i k xs) (w1.drewN _) (by omega) ((HS.out.below T).drew _)).mono ?_
  rintro e w2 ⟨a2, cap2, rfl, RR, A0⟩
  have A : Below w1.heap.size w1 w2 := (bdrew (Below.refl _ _) _).trans A0
  clear A0
  have Bw2 : Below w1.heap.size w1 w2 := A
  refine ⟨_, rfl, Bw2, hK _ _ ?_⟩
  clear hK K
  have T := T.trans (A.mono T.size)
  have ZR := Lib.hid (ZR.out.below A)
  have zw2 := A.size
  clear A
  refine plan_go (pl0 (v := ?_) (by rfl) rfl rfl (fun w' hw' => ?_) (fun K hK => ?_))
  rotate_left
  · obtain ⟨q0, q1⟩ := FA.out w' hw'
    go_simp
    rfl
  go_simp
  refine hK _ _ ?_
  clear hK K
  refine plan_fin (fun nF => ?_)
  clear w1' w2' w3' t1 t2 t3 p5 p6
  have HR := Lib.hid (RR.down (lo' := w1.heap.size) (Nat.le_refl _))
  clear RR
  have T := bdrew T nF
  have ZR := Lib.hid (ZR.out.below (below_of_drew (rfl : _ = w2.drewN nF)))
  obtain ⟨⟨ZR0, ZR1, ZR2, ZR3⟩, ZR4, ZR5, ZR6⟩ := ZR.out
  go_wp2
  refine bodyPost_ret (v := .agg #[.int .i64 (k : Int), .int .i64 (C : Int), .slice (some a2) (k * C) cap2]) (by simp [results, Try.results68, go_sem, ZR0, ZR1, ZR2]) rfl ?_
  exact RT1_end T (by omega) (HR.out.drew nF) (by omega) rfl (by unfold part; rw [List.length_take, List.length_drop]; have := HL.out; omega)
def ok (r c : Int) (n : Nat) (i k : Int) : Bool := decide (vt r c n) && (inr i 0 (r - 1) && inr k 1 (r - i))
def S (r c : Int) (n : Nat) (i k : Int) (xs : List Nat) : List Nat := if ok r c n i k = true then part c.toNat i.toNat k.toNat xs else []
theorem S_no {r c : Int} {n : Nat} {i k : Int} (xs : List Nat) (h : ok r c n i k = false) : S r c n i k xs = [] := by unfold S; rw [h]; rfl
theorem S_yes {R C i k : Nat} (xs : List Nat) (h : ok (R : Int) (C : Int) (R * C) (i : Int) (k : Int) = true) : S (R : Int) (C : Int) (R * C) (i : Int) (k : Int) xs = part C i k xs := by unfold S; rw [if_pos h]; rfl
theorem S_len (r c : Int) (n : Nat) (i k : Int) (xs : List Nat) (hn : n ≤ 1048576) (hl : n = xs.length) : (S r c n i k xs).length ≤ 1048576 := by
  unfold S; split
  · unfold part; rw [List.length_take, List.length_drop]; omega
  · simp
theorem specS (r c : Int) (a : Option Addr) (n cap : Nat) (xs : List Nat) (i k : Int) (w : World) (_hw : (Lit.int .i64 i).wf = true) (_hw2 : (Lit.int .i64 k).wf = true) (h1 : Fs w a n cap xs) :
    Calls Try.prog 35 #[.agg #[.int .i64 r, .int .i64 c, .slice a n cap], .int .i64 i, .int .i64 k] w (RT 31 w (if ok r c n i k = true then k else 0) (if ok r c n i k = true then c else 0) (S r c n i k xs) (ok r c n i k)) := by
  have HM : Hid (n ≤ maxLen) := Nat.le_trans h1.cap1 h1.cap2
  have H1 := Lib.hid h1
  clear h1
  cases hv : decide (vt r c n)
  · have ho : ok r c n i k = false := by unfold ok; rw [hv]; rfl
    rw [S_no xs ho, ho, if_neg (by simp), if_neg (by simp)]
    have HV := Lib.hid hv
    clear hv ho
    go_enter Try.func35, Try.ntmps35
    go_wp2_with fail
    refine calls_at ?_
    intro w1 hA
    have A : Below w.heap.size w w1 := by rw [hA]; exact ((Below.refl _ _).alloc (Nat.le_refl _) _).alloc (by simp <;> omega) _
    have zw1 : w1.heap.size = w.heap.size + 1 + 1 := by rw [hA]; simp
    have Q_ : Box w1 (w.heap.size) r c a n cap := by rw [hA]; exact ⟨by simp [go_sem], by simp [go_sem], by simp [go_sem], by simp <;> omega⟩
    have ZR_ : Zbox w1 (w.heap.size + 1) := by rw [hA]; exact ⟨⟨by simp [go_sem], by simp [go_sem], by simp [go_sem], by simp <;> omega⟩, by simp [go_sem], by simp [go_sem], by simp [go_sem]⟩
    clear hA
    have zw1a := Nat.le_of_eq zw1
    have zw1b := Nat.le_of_eq zw1.symm
    clear zw1
    have T := A
    clear A
    have Q := Lib.hid Q_
    clear Q_
    have ZR := Lib.hid ZR_
    clear ZR_
    refine (isT r c a _ cap _ _ _ HM.out Q.out.c0 Q.out.c1 Q.out.c2).mono ?_
    rintro e w2 ⟨rfl, mm, hw⟩
    have A := below_of_drew hw
    clear hw
    have T := T.trans (A.mono T.size)
    have Q := Lib.hid (Q.out.below A)
    have ZR := Lib.hid (ZR.out.below A)
    have zw2 := A.size
    clear A
    rw [HV.out]
    obtain ⟨⟨ZR0, ZR1, ZR2, ZR3⟩, ZR4, ZR5, ZR6⟩ := ZR.out
    go_wp2
    refine bodyPost_ret (v := .tuple #[.agg #[.int .i64 0, .int .i64 0, .slice none 0 0], .bool false]) (by simp [results, Try.results35, go_sem, ZR0, ZR1, ZR2]) rfl ?_
    exact RT_no T (by omega)
  · have hv' := of_decide_eq_true hv
    have b1 : 1 ≤ r := hv'.1
    have b2 : r ≤ 16 := hv'.2.1
    cases hb : inr i 0 (r - 1)
    · have ho : ok r c n i k = false := by unfold ok; rw [hb, Bool.false_and, Bool.and_false]
      rw [S_no xs ho, ho, if_neg (by simp), if_neg (by simp)]
      have HV := Lib.hid hv
      have HB := Lib.hid hb
      clear hv ho hb hv'
      go_enter Try.func35, Try.ntmps35
      go_wp2_with fail
      refine calls_at ?_
      intro w1 hA
      have A : Below w.heap.size w w1 := by rw [hA]; exact ((Below.refl _ _).alloc (Nat.le_refl _) _).alloc (by simp <;> omega) _
      have zw1 : w1.heap.size = w.heap.size + 1 + 1 := by rw [hA]; simp
      have Q_ : Box w1 (w.heap.size) r c a n cap := by rw [hA]; exact ⟨by simp [go_sem], by simp [go_sem], by simp [go_sem], by simp <;> omega⟩
      have ZR_ : Zbox w1 (w.heap.size + 1) := by rw [hA]; exact ⟨⟨by simp [go_sem], by simp [go_sem], by simp [go_sem], by simp <;> omega⟩, by simp [go_sem], by simp [go_sem], by simp [go_sem]⟩
      clear hA
      have zw1a := Nat.le_of_eq zw1
      have zw1b := Nat.le_of_eq zw1.symm
      clear zw1
      have T := A
      clear A
      have Q := Lib.hid Q_
      clear Q_
      have ZR := Lib.hid ZR_
      clear ZR_
      refine (isT r c a _ cap _ _ _ HM.out Q.out.c0 Q.out.c1 Q.out.c2).mono ?_
      rintro e w2 ⟨rfl, mm, hw⟩
      have A := below_of_drew hw
      clear hw
      have T := T.trans (A.mono T.size)
      have Q := Lib.hid (Q.out.below A)
      have ZR := Lib.hid (ZR.out.below A)
      have zw2 := A.size
      clear A
      rw [HV.out]
      obtain ⟨Q0, Q1, Q2, Q3⟩ := Q.out
      go_wp2_with fail
      clear Q0 Q1 Q2 Q3
      refine (inS _ _ _ _).mono ?_
      rintro e w2x ⟨rfl, hsame⟩
      replace hsame := hsame.symm
      subst hsame
      rw [HB.out]
      obtain ⟨⟨ZR0, ZR1, ZR2, ZR3⟩, ZR4, ZR5, ZR6⟩ := ZR.out
      go_wp2
      refine bodyPost_ret (v := .tuple #[.agg #[.int .i64 0, .int .i64 0, .slice none 0 0], .bool false]) (by simp [results, Try.results35, go_sem, ZR0, ZR1, ZR2]) rfl ?_
      exact RT_no T (by omega)
    · have hb1 : 0 ≤ i ∧ i ≤ r - 1 := by unfold inr at hb; simp at hb; omega
      obtain ⟨hb1, hb2⟩ := hb1
      cases hd : inr k 1 (r - i)
      · have ho : ok r c n i k = false := by unfold ok; rw [hd, Bool.and_false, Bool.and_false]
        rw [S_no xs ho, ho, if_neg (by simp), if_neg (by simp)]
        have HV := Lib.hid hv
        have HB := Lib.hid hb
        have HD := Lib.hid hd
        clear hv ho hb hd hv'
        go_enter Try.func35, Try.ntmps35
        go_wp2_with fail
        refine calls_at ?_
        intro w1 hA
        have A : Below w.heap.size w w1 := by rw [hA]; exact ((Below.refl _ _).alloc (Nat.le_refl _) _).alloc (by simp <;> omega) _
        have zw1 : w1.heap.size = w.heap.size + 1 + 1 := by rw [hA]; simp
        have Q_ : Box w1 (w.heap.size) r c a n cap := by rw [hA]; exact ⟨by simp [go_sem], by simp [go_sem], by simp [go_sem], by simp <;> omega⟩
        have ZR_ : Zbox w1 (w.heap.size + 1) := by rw [hA]; exact ⟨⟨by simp [go_sem], by simp [go_sem], by simp [go_sem], by simp <;> omega⟩, by simp [go_sem], by simp [go_sem], by simp [go_sem]⟩
        clear hA
        have zw1a := Nat.le_of_eq zw1
        have zw1b := Nat.le_of_eq zw1.symm
        clear zw1
        have T := A
        clear A
        have Q := Lib.hid Q_
        clear Q_
        have ZR := Lib.hid ZR_
        clear ZR_
        refine (isT r c a _ cap _ _ _ HM.out Q.out.c0 Q.out.c1 Q.out.c2).mono ?_
        rintro e w2 ⟨rfl, mm, hw⟩
        have A := below_of_drew hw
        clear hw
        have T := T.trans (A.mono T.size)
        have Q := Lib.hid (Q.out.below A)
        have ZR := Lib.hid (ZR.out.below A)
        have zw2 := A.size
        clear A
        rw [HV.out]
        obtain ⟨Q0, Q1, Q2, Q3⟩ := Q.out
        go_wp2_with fail
        clear Q0 Q1 Q2 Q3
        refine (inS _ _ _ _).mono ?_
        rintro e w2x ⟨rfl, hsame⟩
        replace hsame := hsame.symm
        subst hsame
        rw [HB.out]
        obtain ⟨Q0, Q1, Q2, Q3⟩ := Q.out
        go_wp2_with fail
        clear Q0 Q1 Q2 Q3
        refine (inS _ _ _ _).mono ?_
        rintro e w2x ⟨rfl, hsame⟩
        replace hsame := hsame.symm
        subst hsame
        rw [HD.out]
        obtain ⟨⟨ZR0, ZR1, ZR2, ZR3⟩, ZR4, ZR5, ZR6⟩ := ZR.out
        go_wp2
        refine bodyPost_ret (v := .tuple #[.agg #[.int .i64 0, .int .i64 0, .slice none 0 0], .bool false]) (by simp [results, Try.results35, go_sem, ZR0, ZR1, ZR2]) rfl ?_
        exact RT_no T (by omega)
      · have ho : ok r c n i k = true := by unfold ok; rw [hb, hv, hd]; rfl
        obtain ⟨R, C, rfl, rfl, hR, hC, rfl⟩ := nat_of hv'
        have hd1 : 1 ≤ k ∧ k ≤ (R : Int) - i := by unfold inr at hd; simp at hd; omega
        obtain ⟨hd1, hd2⟩ := hd1
        obtain ⟨i, rfl⟩ := Int.eq_ofNat_of_zero_le hb1
        obtain ⟨k, rfl⟩ := Int.eq_ofNat_of_zero_le (a := k) (by omega)
        have hk : 1 ≤ k := by omega
        have hik : i + k ≤ R := by omega
        rw [S_yes xs ho, ho, if_pos rfl, if_pos rfl]
        have HV := Lib.hid hv
        have HB := Lib.hid hb
        have HD := Lib.hid hd
        clear hv ho hb hd hv'
        have e1 := part_end (C := C) hik
        have e4 : 1 * 1 ≤ k * C := Nat.mul_le_mul hk hC.1
        obtain ⟨b, o, ha, _⟩ := H1.out.cell 0 (by omega)
        subst ha
        have HL := Lib.hid H1.out.len
        go_enter Try.func35, Try.ntmps35
        go_wp2_with fail
        refine calls_at ?_
        intro w1 hA
        have A : Below w.heap.size w w1 := by rw [hA]; exact ((Below.refl _ _).alloc (Nat.le_refl _) _).alloc (by simp <;> omega) _
        have zw1 : w1.heap.size = w.heap.size + 1 + 1 := by rw [hA]; simp
        have Q_ : Box w1 (w.heap.size) ↑R ↑C (some ⟨b, o, none⟩) (R * C) cap := by rw [hA]; exact ⟨by simp [go_sem], by simp [go_sem], by simp [go_sem], by simp <;> omega⟩
        have ZR_ : Zbox w1 (w.heap.size + 1) := by rw [hA]; exact ⟨⟨by simp [go_sem], by simp [go_sem], by simp [go_sem], by simp <;> omega⟩, by simp [go_sem], by simp [go_sem], by simp [go_sem]⟩
        clear hA
        have zw1a := Nat.le_of_eq zw1
        have zw1b := Nat.le_of_eq zw1.symm
        clear zw1
        have T := A
        clear A
        have Q := Lib.hid Q_
        clear Q_
        have ZR := Lib.hid ZR_
        clear ZR_
        refine (isT ↑R ↑C _ _ cap _ _ _ HM.out Q.out.c0 Q.out.c1 Q.out.c2).mono ?_
        rintro e w2 ⟨rfl, mm, hw⟩
        have A := below_of_drew hw
        clear hw
        have T := T.trans (A.mono T.size)
        have Q := Lib.hid (Q.out.below A)
        have ZR := Lib.hid (ZR.out.below A)
        have zw2 := A.size
        clear A
        rw [HV.out]
        obtain ⟨Q0, Q1, Q2, Q3⟩ := Q.out
        go_wp2_with fail
        clear Q0 Q1 Q2 Q3
        refine (inS _ _ _ _).mono ?_
        rintro e w2x ⟨rfl, hsame⟩
        replace hsame := hsame.symm
        subst hsame
        rw [HB.out]
        obtain ⟨Q0, Q1, Q2, Q3⟩ := Q.out
        go_wp2_with fail
        clear Q0 Q1 Q2 Q3
        refine (inS _ _ _ _).mono ?_
        rintro e w2x ⟨rfl, hsame⟩
        replace hsame := hsame.symm
        subst hsame
        rw [HD.out]
        obtain ⟨Q0, Q1, Q2, Q3⟩ := Q.out
        go_wp2_with fail
        clear Q0 Q1 Q2 Q3
        refine (specInner R C i k b o _ cap _ xs _ hR hC hk hik rfl (H1.out.below T) Q.out).mono ?_
        rintro e w3 ⟨a2, cap2, ys, rfl, RR, hy, A⟩
        have T := T.trans (A.mono T.size)
        have Q := Lib.hid (Q.out.below A)
        have ZR := Lib.hid (ZR.out.below A)
        have zw3 := A.size
        clear A
        have HR := Lib.hid RR
        have HY := Lib.hid hy
        clear RR hy
        have hlen : (part C i k xs).length = k * C := by unfold part; rw [List.length_take, List.length_drop]; have := HL.out; omega
        have HLN := Lib.hid hlen
        clear hlen
        obtain ⟨⟨ZR0, ZR1, ZR2, ZR3⟩, ZR4, ZR5, ZR6⟩ := ZR.out
        go_wp2
        refine bodyPost_ret (v := .tuple #[.agg #[.int .i64 (k : Int), .int .i64 (C : Int), .slice a2 (part C i k xs).length cap2], .bool true]) (by simp [results, Try.results35, go_sem, ZR0, ZR1, ZR2]) rfl ?_
        exact RT_end T (by omega) HR.out (by omega) HY.out (rfl)
theorem implS (r c : Int) (a : Option Addr) (n cap : Nat) (xs : List Nat) (i k : Int) (w : World) (_hw : (Lit.int .i64 i).wf = true) (_hw2 : (Lit.int .i64 k).wf = true) (h1 : Fs w a n cap xs) :
    Calls Try.prog 36 #[.agg #[.int .i64 r, .int .i64 c, .slice a n cap], .int .i64 i, .int .i64 k] w (RT 31 w (if ok r c n i k = true then k else 0) (if ok r c n i k = true then c else 0) (S r c n i k xs) (ok r c n i k)) := by
  have HM : Hid (n ≤ maxLen) := Nat.le_trans h1.cap1 h1.cap2
  have H1 := Lib.hid h1
  clear h1
  cases hv : decide (vt r c n)
  · have ho : ok r c n i k = false := by unfold ok; rw [hv]; rfl
    rw [S_no xs ho, ho, if_neg (by simp), if_neg (by simp)]
    have HV := Lib.hid hv
    clear hv ho
    go_enter Try.func36, Try.ntmps36
    go_wp2_with fail
    refine calls_at ?_
    intro w1 hA
    have A : Below w.heap.size w w1 := by rw [hA]; exact ((Below.refl _ _).alloc (Nat.le_refl _) _).alloc (by simp <;> omega) _
    have zw1 : w1.heap.size = w.heap.size + 1 + 1 := by rw [hA]; simp
    have Q_ : Box w1 (w.heap.size) r c a n cap := by rw [hA]; exact ⟨by simp [go_sem], by simp [go_sem], by simp [go_sem], by simp <;> omega⟩
    have ZR_ : Zbox w1 (w.heap.size + 1) := by rw [hA]; exact ⟨⟨by simp [go_sem], by simp [go_sem], by simp [go_sem], by simp <;> omega⟩, by simp [go_sem], by simp [go_sem], by simp [go_sem]⟩
    clear hA
    have zw1a := Nat.le_of_eq zw1
    have zw1b := Nat.le_of_eq zw1.symm
    clear zw1
    have T := A
    clear A
    have Q := Lib.hid Q_
    clear Q_
    have ZR := Lib.hid ZR_
    clear ZR_
    refine (validT r c a _ cap _ HM.out).mono ?_
    rintro e w2 ⟨rfl, A⟩
    have T := T.trans (A.mono T.size)
    have Q := Lib.hid (Q.out.below A)
    have ZR := Lib.hid (ZR.out.below A)
    have zw2 := A.size
    clear A
    rw [HV.out]
    obtain ⟨⟨ZR0, ZR1, ZR2, ZR3⟩, ZR4, ZR5, ZR6⟩ := ZR.out
    go_wp2
    refine bodyPost_ret (v := .tuple #[.agg #[.int .i64 0, .int .i64 0, .slice none 0 0], .bool false]) (by simp [results, Try.results36, go_sem, ZR0, ZR1, ZR2]) rfl ?_
    exact RT_no T (by omega)
  · have hv' := of_decide_eq_true hv
    have b1 : 1 ≤ r := hv'.1
    have b2 : r ≤ 16 := hv'.2.1
    cases hb : inr i 0 (r - 1)
    · have ho : ok r c n i k = false := by unfold ok; rw [hb, Bool.false_and, Bool.and_false]
      rw [S_no xs ho, ho, if_neg (by simp), if_neg (by simp)]
      have HV := Lib.hid hv
      have HB := Lib.hid hb
      clear hv ho hb hv'
      go_enter Try.func36, Try.ntmps36
      go_wp2_with fail
      refine calls_at ?_
      intro w1 hA
      have A : Below w.heap.size w w1 := by rw [hA]; exact ((Below.refl _ _).alloc (Nat.le_refl _) _).alloc (by simp <;> omega) _
      have zw1 : w1.heap.size = w.heap.size + 1 + 1 := by rw [hA]; simp
      have Q_ : Box w1 (w.heap.size) r c a n cap := by rw [hA]; exact ⟨by simp [go_sem], by simp [go_sem], by simp [go_sem], by simp <;> omega⟩
      have ZR_ : Zbox w1 (w.heap.size + 1) := by rw [hA]; exact ⟨⟨by simp [go_sem], by simp [go_sem], by simp [go_sem], by simp <;> omega⟩, by simp [go_sem], by simp [go_sem], by simp [go_sem]⟩
      clear hA
      have zw1a := Nat.le_of_eq zw1
      have zw1b := Nat.le_of_eq zw1.symm
      clear zw1
      have T := A
      clear A
      have Q := Lib.hid Q_
      clear Q_
      have ZR := Lib.hid ZR_
      clear ZR_
      refine (validT r c a _ cap _ HM.out).mono ?_
      rintro e w2 ⟨rfl, A⟩
      have T := T.trans (A.mono T.size)
      have Q := Lib.hid (Q.out.below A)
      have ZR := Lib.hid (ZR.out.below A)
      have zw2 := A.size
      clear A
      rw [HV.out]
      obtain ⟨Q0, Q1, Q2, Q3⟩ := Q.out
      go_wp2_with fail
      clear Q0 Q1 Q2 Q3
      refine (inI _ _ _ _).mono ?_
      rintro e w2x ⟨rfl, hsame⟩
      replace hsame := hsame.symm
      subst hsame
      rw [HB.out]
      obtain ⟨⟨ZR0, ZR1, ZR2, ZR3⟩, ZR4, ZR5, ZR6⟩ := ZR.out
      go_wp2
      refine bodyPost_ret (v := .tuple #[.agg #[.int .i64 0, .int .i64 0, .slice none 0 0], .bool false]) (by simp [results, Try.results36, go_sem, ZR0, ZR1, ZR2]) rfl ?_
      exact RT_no T (by omega)
    · have hb1 : 0 ≤ i ∧ i ≤ r - 1 := by unfold inr at hb; simp at hb; omega
      obtain ⟨hb1, hb2⟩ := hb1
      cases hd : inr k 1 (r - i)
      · have ho : ok r c n i k = false := by unfold ok; rw [hd, Bool.and_false, Bool.and_false]
        rw [S_no xs ho, ho, if_neg (by simp), if_neg (by simp)]
        have HV := Lib.hid hv
        have HB := Lib.hid hb
        have HD := Lib.hid hd
        clear hv ho hb hd hv'
        go_enter Try.func36, Try.ntmps36
        go_wp2_with fail
        refine calls_at ?_
        intro w1 hA
        have A : Below w.heap.size w w1 := by rw [hA]; exact ((Below.refl _ _).alloc (Nat.le_refl _) _).alloc (by simp <;> omega) _
        have zw1 : w1.heap.size = w.heap.size + 1 + 1 := by rw [hA]; simp
        have Q_ : Box w1 (w.heap.size) r c a n cap := by rw [hA]; exact ⟨by simp [go_sem], by simp [go_sem], by simp [go_sem], by simp <;> omega⟩
        have ZR_ : Zbox w1 (w.heap.size + 1) := by rw [hA]; exact ⟨⟨by simp [go_sem], by simp [go_sem], by simp [go_sem], by simp <;> omega⟩, by simp [go_sem], by simp [go_sem], by simp [go_sem]⟩
        clear hA
        have zw1a := Nat.le_of_eq zw1
        have zw1b := Nat.le_of_eq zw1.symm
        clear zw1
        have T := A
        clear A
        have Q := Lib.hid Q_
        clear Q_
        have ZR := Lib.hid ZR_
        clear ZR_
        refine (validT r c a _ cap _ HM.out).mono ?_
        rintro e w2 ⟨rfl, A⟩
        have T := T.trans (A.mono T.size)
        have Q := Lib.hid (Q.out.below A)
        have ZR := Lib.hid (ZR.out.below A)
        have zw2 := A.size
        clear A
        rw [HV.out]
        obtain ⟨Q0, Q1, Q2, Q3⟩ := Q.out
        go_wp2_with fail
        clear Q0 Q1 Q2 Q3
        refine (inI _ _ _ _).mono ?_
        rintro e w2x ⟨rfl, hsame⟩
        replace hsame := hsame.symm
        subst hsame
        rw [HB.out]
        obtain ⟨Q0, Q1, Q2, Q3⟩ := Q.out
        go_wp2_with fail
        clear Q0 Q1 Q2 Q3
        refine (inI _ _ _ _).mono ?_
        rintro e w2x ⟨rfl, hsame⟩
        replace hsame := hsame.symm
        subst hsame
        rw [HD.out]
        obtain ⟨⟨ZR0, ZR1, ZR2, ZR3⟩, ZR4, ZR5, ZR6⟩ := ZR.out
        go_wp2
        refine bodyPost_ret (v := .tuple #[.agg #[.int .i64 0, .int .i64 0, .slice none 0 0], .bool false]) (by simp [results, Try.results36, go_sem, ZR0, ZR1, ZR2]) rfl ?_
        exact RT_no T (by omega)
      · have ho : ok r c n i k = true := by unfold ok; rw [hb, hv, hd]; rfl
        obtain ⟨R, C, rfl, rfl, hR, hC, rfl⟩ := nat_of hv'
        have hd1 : 1 ≤ k ∧ k ≤ (R : Int) - i := by unfold inr at hd; simp at hd; omega
        obtain ⟨hd1, hd2⟩ := hd1
        obtain ⟨i, rfl⟩ := Int.eq_ofNat_of_zero_le hb1
        obtain ⟨k, rfl⟩ := Int.eq_ofNat_of_zero_le (a := k) (by omega)
        have hk : 1 ≤ k := by omega
        have hik : i + k ≤ R := by omega
        rw [S_yes xs ho, ho, if_pos rfl, if_pos rfl]
        have HV := Lib.hid hv
        have HB := Lib.hid hb
        have HD := Lib.hid hd
        clear hv ho hb hd hv'
        have e1 := part_end (C := C) hik
        have e4 : 1 * 1 ≤ k * C := Nat.mul_le_mul hk hC.1
        obtain ⟨b, o, ha, _⟩ := H1.out.cell 0 (by omega)
        subst ha
        have HL := Lib.hid H1.out.len
        have h1 := H1.out
        have e1 := part_end (C := C) hik
        have e3 : R * C ≤ 16 * 16 := Nat.mul_le_mul hR.2 hC.2
        have e4 : 1 * 1 ≤ k * C := Nat.mul_le_mul hk hC.1
        have HSUB := h1.sub (i := i * C) (j := i * C + k * C) (by omega) (by omega) (cap - i * C) rfl
        rw [show i * C + k * C - i * C = k * C by omega] at HSUB
        have HS := Lib.hid HSUB
        have hcap := h1.cap1
        have hcap2 := h1.cap2
        unfold maxLen at hcap2
        clear h1 HSUB
        have q1 : ((i : Int) * (C : Int)) = ((i * C : Nat) : Int) := by simp
        have q2 : (((i : Int) + (k : Int)) * (C : Int)) = ((i * C + k * C : Nat) : Int) := by rw [Int.add_mul, q1]; simp
        have q3 : (i : Int) * (C : Int) + (k : Int) * (C : Int) = ((i * C + k * C : Nat) : Int) := by simp
        have p1 : (0 : Int) ≤ (i : Int) * (C : Int) ∧ (i : Int) * (C : Int) ≤ 256 := by rw [q1]; omega
        have p2 : (0 : Int) ≤ ((i : Int) + (k : Int)) * (C : Int) ∧ ((i : Int) + (k : Int)) * (C : Int) ≤ 256 := by rw [q2]; omega
        have w1' : IntKind.i64.wrap ((i : Int) * (C : Int)) = (i : Int) * (C : Int) := IntWalk.i64_in _ (by omega)
        have w2' : IntKind.i64.wrap ((i : Int) + (k : Int)) = (i : Int) + (k : Int) := IntWalk.i64_in _ (by omega)
        have w3' : IntKind.i64.wrap (((i : Int) + (k : Int)) * (C : Int)) = ((i : Int) + (k : Int)) * (C : Int) := IntWalk.i64_in _ (by omega)
        have t1 : ((i : Int) * (C : Int)).toNat = i * C := by rw [q1]; rfl
        have t2 : (((i : Int) + (k : Int)) * (C : Int)).toNat = i * C + k * C := by rw [q2]; rfl
        have t3 : i * C + k * C - i * C = k * C := by omega
        have p3 : (((i : Int) + (k : Int)) * (C : Int)) ≤ (cap : Int) := by rw [q2]; omega
        have p4 : (i : Int) * (C : Int) ≤ ((i : Int) + (k : Int)) * (C : Int) := by rw [q1, q2]; omega
        have p5 : ¬ cap = i * C := by omega
        have p6 : (i : Int) * (C : Int) ≤ (i : Int) * (C : Int) + (k : Int) * (C : Int) := by rw [q3, q1]; omega
        obtain ⟨p1a, p1b⟩ := p1
        obtain ⟨p2a, p2b⟩ := p2
        clear q1 q2 q3
        go_enter Try.func36, Try.ntmps36
        go_wp2_with fail
        refine calls_at ?_
        intro w1 hA
        have A : Below w.heap.size w w1 := by rw [hA]; exact ((Below.refl _ _).alloc (Nat.le_refl _) _).alloc (by simp <;> omega) _
        have zw1 : w1.heap.size = w.heap.size + 1 + 1 := by rw [hA]; simp
        have Q_ : Box w1 (w.heap.size) ↑R ↑C (some ⟨b, o, none⟩) (R * C) cap := by rw [hA]; exact ⟨by simp [go_sem], by simp [go_sem], by simp [go_sem], by simp <;> omega⟩
        have ZR_ : Zbox w1 (w.heap.size + 1) := by rw [hA]; exact ⟨⟨by simp [go_sem], by simp [go_sem], by simp [go_sem], by simp <;> omega⟩, by simp [go_sem], by simp [go_sem], by simp [go_sem]⟩
        clear hA
        have zw1a := Nat.le_of_eq zw1
        have zw1b := Nat.le_of_eq zw1.symm
        clear zw1
        have T := A
        clear A
        have Q := Lib.hid Q_
        clear Q_
        have ZR := Lib.hid ZR_
        clear ZR_
        refine (validT ↑R ↑C _ _ cap _ HM.out).mono ?_
        rintro e w2 ⟨rfl, A⟩
        have T := T.trans (A.mono T.size)
        have Q := Lib.hid (Q.out.below A)
        have ZR := Lib.hid (ZR.out.below A)
        have zw2 := A.size
        clear A
        rw [HV.out]
        obtain ⟨Q0, Q1, Q2, Q3⟩ := Q.out
        go_wp2_with fail
        clear Q0 Q1 Q2 Q3
        refine (inI _ _ _ _).mono ?_
        rintro e w2x ⟨rfl, hsame⟩
        replace hsame := hsame.symm
        subst hsame
        rw [HB.out]
        obtain ⟨Q0, Q1, Q2, Q3⟩ := Q.out
        go_wp2_with fail
        clear Q0 Q1 Q2 Q3
        refine (inI _ _ _ _).mono ?_
        rintro e w2x ⟨rfl, hsame⟩
        replace hsame := hsame.symm
        subst hsame
        rw [HD.out]
        obtain ⟨Q0, Q1, Q2, Q3⟩ := Q.out
        go_wp2_with fail
        clear Q0 Q1 Q2 Q3
        have FACT : ∀ w', Below w2.heap.size w2 w' → w'.cell? ⟨w.heap.size, 0, none⟩ = some (.int .i64 (R : Int)) ∧ w'.cell? ⟨w.heap.size, 1, none⟩ = some (.int .i64 (C : Int)) ∧ w'.cell? ⟨w.heap.size, 2, none⟩ = some (.slice (some ⟨b, o, none⟩) (R * C) cap) := fun w' hb => ⟨(Q.out.below hb).c0, (Q.out.below hb).c1, (Q.out.below hb).c2⟩
        have FA := Lib.hid FACT
        clear FACT
        refine wp_plan 18 [0, 0, 0, 0, 0, 0, 0, 0, 0, 0, 0, 0, 0, 0, 0, 0, 2, 0, 2, 0] (.go 0 (.go 1 (.go 2 (.go 3 (.go 4 (.go 5 (.go 6 (.go 7 (.go 8 (.go 9 (.go 10 (.go 11 (.go 12 (.go 13 (.go 14 (.go 15 (.only 16 (.go 17 .fin)))))))))))))))))) (Bl w2) (by kernel_rfl) (by kernel_rfl) (Bl.refl _) Bl.drew ?_
        simp only [List.drop_succ_cons, List.drop_zero]
        refine plan_go (pl0 (v := ?_) (by rfl) rfl rfl (fun w' hw' => ?_) (fun K hK => ?_))
        rotate_left
        · obtain ⟨q0, q1, q2⟩ := FA.out w' hw'
          go_simp
          rfl
        go_simp
        refine hK _ _ ?_
        clear hK K
        refine plan_go (pl0 (v := ?_) (by rfl) rfl rfl (fun w' hw' => ?_) (fun K hK => ?_))
        rotate_left
        · obtain ⟨q0, q1, q2⟩ := FA.out w' hw'
          go_simp
          rfl
        go_simp
        refine hK _ _ ?_
        clear hK K
        refine plan_go (pl0 (v := ?_) (by rfl) rfl rfl (fun w' hw' => ?_) (fun K hK => ?_))
        rotate_left
        · obtain ⟨q0, q1, q2⟩ := FA.out w' hw'
          go_simp
          rfl
        go_simp
        refine hK _ _ ?_
        clear hK K
        refine plan_go (pl0 (v := ?_) (by rfl) rfl rfl (fun w' hw' => ?_) (fun K hK => ?_))
        rotate_left
        · obtain ⟨q0, q1, q2⟩ := FA.out w' hw'
          go_simp
          rfl
        go_simp
        refine hK _ _ ?_
        clear hK K
        refine plan_go (pl0 (v := ?_) (by rfl) rfl rfl (fun w' hw' => ?_) (fun K hK => ?_))
        rotate_left
        · obtain ⟨q0, q1, q2⟩ := FA.out w' hw'
          go_simp
          rfl
        go_simp
        refine hK _ _ ?_
        clear hK K
        refine plan_go (pl0 (v := ?_) (by rfl) rfl rfl (fun w' hw' => ?_) (fun K hK => ?_))
        rotate_left
        · obtain ⟨q0, q1, q2⟩ := FA.out w' hw'
          go_simp
          rfl
        go_simp
        refine hK _ _ ?_
        clear hK K
        refine plan_go (pl0 (v := ?_) (by rfl) rfl rfl (fun w' hw' => ?_) (fun K hK => ?_))
        rotate_left
        · obtain ⟨q0, q1, q2⟩ := FA.out w' hw'
          go_simp
          rfl
        go_simp
        refine hK _ _ ?_
        clear hK K
        refine plan_go (pl0 (v := ?_) (by rfl) rfl rfl (fun w' hw' => ?_) (fun K hK => ?_))
        rotate_left
        · obtain ⟨q0, q1, q2⟩ := FA.out w' hw'
          go_simp
          rfl
        go_simp
        refine hK _ _ ?_
        clear hK K
        refine plan_go (pl0 (v := ?_) (by rfl) rfl rfl (fun w' hw' => ?_) (fun K hK => ?_))
        rotate_left
        · obtain ⟨q0, q1, q2⟩ := FA.out w' hw'
          go_simp
          rfl
        go_simp
        refine hK _ _ ?_
        clear hK K
        refine plan_go (pl0 (v := ?_) (by rfl) rfl rfl (fun w' hw' => ?_) (fun K hK => ?_))
        rotate_left
        · obtain ⟨q0, q1, q2⟩ := FA.out w' hw'
          go_simp
          rfl
        go_simp
        refine hK _ _ ?_
        clear hK K
        refine plan_go (pl0 (v := ?_) (by rfl) rfl rfl (fun w' hw' => ?_) (fun K hK => ?_))
        rotate_left
        · obtain ⟨q0, q1, q2⟩ := FA.out w' hw'
          go_simp
          rfl
        go_simp
        refine hK _ _ ?_
        clear hK K
        refine plan_go (pl0 (v := ?_) (by rfl) rfl rfl (fun w' hw' => ?_) (fun K hK => ?_))
        rotate_left
        · obtain ⟨q0, q1, q2⟩ := FA.out w' hw'
          go_simp
          rfl
        go_simp
        refine hK _ _ ?_
        clear hK K
        refine plan_go (pl0 (v := ?_) (by rfl) rfl rfl (fun w' hw' => ?_) (fun K hK => ?_))
        rotate_left
        · obtain ⟨q0, q1, q2⟩ := FA.out w' hw'
          go_simp
          rfl
        go_simp
        refine hK _ _ ?_
        clear hK K
        refine plan_go (pl0 (v := ?_) (by rfl) rfl rfl (fun w' hw' => ?_) (fun K hK => ?_))
        rotate_left
        · obtain ⟨q0, q1, q2⟩ := FA.out w' hw'
          go_simp
          rfl
        go_simp
        refine hK _ _ ?_
        clear hK K
        refine plan_go (pl0 (v := ?_) (by rfl) rfl rfl (fun w' hw' => ?_) (fun K hK => ?_))
        rotate_left
        · obtain ⟨q0, q1, q2⟩ := FA.out w' hw'
          go_simp
          rfl
        go_simp
        refine hK _ _ ?_
        clear hK K
        refine plan_go (pl0 (v := ?_) (by rfl) rfl rfl (fun w' hw' => ?_) (fun K hK => ?_))
        rotate_left
        · obtain ⟨q0, q1, q2⟩ := FA.out w' hw'
          go_simp
          rfl
        go_simp
        refine hK _ _ ?_
        clear hK K
        refine plan_only (pl2 (by rfl) rfl rfl (fun K hK => ?_))
        go_simp
        intro m16
        refine (cloneI b (o + i * C) (k * C) (cap - i * C) (part C i k xs) (w2.drewN _) (by omega) ((HS.out.below T).drew _)).mono ?_
        rintro e w3 ⟨a2, cap2, rfl, RR, A0⟩
        have A : Below w2.heap.size w2 w3 := (bdrew (Below.refl _ _) _).trans A0
        clear A0
        have Bw3 : Below w2.heap.size w2 w3 := A
        refine ⟨_, rfl, Bw3, hK _ _ ?_⟩
        clear hK K
        have T := T.trans (A.mono T.size)
        have Q := Lib.hid (Q.out.below A)
        have ZR := Lib.hid (ZR.out.below A)
        have zw3 := A.size
        clear A
        refine plan_go (pl0 (v := ?_) (by rfl) rfl rfl (fun w' hw' => ?_) (fun K hK => ?_))
        rotate_left
        · obtain ⟨q0, q1, q2⟩ := FA.out w' hw'
          go_simp
          rfl
        go_simp
        refine hK _ _ ?_
        clear hK K
        refine plan_fin (fun nF => ?_)
        clear w1' w2' w3' t1 t2 t3 p5 p6
        have HR := Lib.hid (RR.down (lo' := w2.heap.size) (Nat.le_refl _))
        clear RR
        have T := bdrew T nF
        have ZR := Lib.hid (ZR.out.below (below_of_drew (rfl : _ = w3.drewN nF)))
        obtain ⟨⟨ZR0, ZR1, ZR2, ZR3⟩, ZR4, ZR5, ZR6⟩ := ZR.out
        go_wp2
        refine bodyPost_ret (v := .tuple #[.agg #[.int .i64 (k : Int), .int .i64 (C : Int), .slice (some a2) (k * C) cap2], .bool true]) (by simp [results, Try.results36, go_sem, ZR0, ZR1, ZR2]) rfl ?_
        exact RT_end T (by omega) (HR.out.drew nF) (by omega) rfl (by unfold part; rw [List.length_take, List.length_drop]; have := HL.out; omega)
theorem both (r c : Int) (n : Nat) (xs : List Nat) (i k : Int) (_hn : n ≤ 1048576) (_hl : n = xs.length) (_wr : (Lit.int .i64 r).wf = true) (_wc : (Lit.int .i64 c).wf = true) (_w : (Lit.int .i64 i).wf = true) (_w2 : (Lit.int .i64 k).wf = true) :
    ∃ ok R0 C0 S, S.length ≤ 1048576 ∧ (∀ w a cap, Fs w a n cap xs → Calls Try.prog 35 #[.agg #[.int .i64 r, .int .i64 c, .slice a n cap], .int .i64 i, .int .i64 k] w (RT 31 w R0 C0 S ok)) ∧ (∀ w a cap, Fs w a n cap xs → Calls Try.prog 36 #[.agg #[.int .i64 r, .int .i64 c, .slice a n cap], .int .i64 i, .int .i64 k] w (RT 31 w R0 C0 S ok)) :=
  ⟨_, _, _, _, S_len r c n i k xs _hn _hl, fun w a cap h1 => specS r c a n cap xs i k w _w _w2 h1, fun w a cap h1 => implS r c a n cap xs i k w _w _w2 h1⟩
set_option maxHeartbeats 4000000 in
theorem walk (w : World) (ro0 co0 : Int) (a0 : Option Addr) (n0 c0 : Nat) (xs0 : List Nat) (h0 : Fs w a0 n0 c0 xs0) (_wr0 : (Lit.int .i64 ro0).wf = true) (_wc0 : (Lit.int .i64 co0).wf = true) (_b0 : ∀ x ∈ xs0, x < 4294967296) (a1 : Int) (_w1 : (Lit.int .i64 a1).wf = true) (a2 : Int) (_w2 : (Lit.int .i64 a2).wf = true) :
    Calls Try.prog 9 #[.agg #[.int .i64 ro0, .int .i64 co0, .slice a0 n0 c0], .int .i64 a1, .int .i64 a2] w fun e w' => e = .returned (.bool true) ∧ Below w.heap.size w w' := by
  have m0 := h0.cap2
  have q0 := h0.cap1
  unfold maxLen at m0
  by_cases g0 : 1048576 < n0
  · go_enter Try.func9, Try.ntmps9
    have T := Below.refl w.heap.size w
    go_wp2_with fail
    refine calls_at ?_
    intro w1 hA
    obtain ⟨Q, A, z1, z2⟩ := box_new hA
    clear hA
    have X0 := Lib.hid Q
    clear Q
    have T := T.trans (A.mono T.size)
    have zw1 := A.size
    clear A
    have yw1 := z1
    have xw1 := z2
    clear z1 z2
    refine (szNo _ _ _ _ _ _ _ (Nat.le_trans h0.cap1 h0.cap2) (by omega) (by omega)).mono ?_
    rintro e wz ⟨rfl, A⟩
    have T := T.trans (A.mono T.size)
    go_wp2
    go_ret
    exact ⟨rfl, T⟩
  have hn0 : n0 ≤ 1048576 := by omega
  obtain ⟨ok, R0, C0, S, hS, hs, hi⟩ := both ro0 co0 n0 xs0 a1 a2 hn0 h0.len _wr0 _wc0 _w1 _w2
  go_enter Try.func9, Try.ntmps9
  have T := Below.refl w.heap.size w
  go_wp2_with fail
  refine calls_at ?_
  intro w1 hA
  obtain ⟨Q, A, z1, z2⟩ := box_new hA
  clear hA
  have X0 := Lib.hid Q
  clear Q
  have T := T.trans (A.mono T.size)
  have zw1 := A.size
  clear A
  have yw1 := z1
  have xw1 := z2
  clear z1 z2
  refine (szYes _ _ _ _ _ _ _ (by omega) (by omega)).mono ?_
  rintro e w2 ⟨rfl, A⟩
  have T := T.trans (A.mono T.size)
  have X0 := Lib.hid (X0.out.below A)
  have zw2 := A.size
  clear A
  obtain ⟨X00, X01, X02, X03⟩ := X0.out
  go_wp2_with fail
  clear X00 X01 X02 X03
  refine (toTens _ _ _ _ _ _ _ hn0 (h0.below T)).mono ?_
  rintro e w3 ⟨g1, rfl, R, A⟩
  have T := T.trans (A.mono T.size)
  have X0 := Lib.hid (X0.out.below A)
  have zw3 := A.size
  clear A
  have K1 := R
  clear R
  go_wp2_with fail
  refine (hs w3 _ _ K1.fs).mono ?_
  rintro e w4 ⟨b2, p2, ys2, rfl, R, E2, A⟩
  have T := T.trans (A.mono T.size)
  have K1 := K1.below A
  have X0 := Lib.hid (X0.out.below A)
  have zw4 := A.size
  clear A
  have K2 := R
  clear R
  have E2h := Lib.hid E2
  clear E2
  obtain ⟨X00, X01, X02, X03⟩ := X0.out
  go_wp2_with fail
  clear X00 X01 X02 X03
  refine calls_at ?_
  intro w5 hA
  obtain ⟨Q, A, z1, z2⟩ := box_new (r := R0) (c := C0) (a := b2) (n := S.length) (cap := p2) hA
  clear hA
  have Y2 := Lib.hid Q
  clear Q
  have T := T.trans (A.mono T.size)
  have K1 := K1.below A
  have K2 := K2.below A
  have X0 := Lib.hid (X0.out.below A)
  have zw5 := A.size
  clear A
  have yw5 := z1
  have xw5 := z2
  clear z1 z2
  refine (toTens _ _ _ _ _ _ _ hn0 (h0.below T)).mono ?_
  rintro e w6 ⟨g3, rfl, R, A⟩
  have T := T.trans (A.mono T.size)
  have K1 := K1.below A
  have K2 := K2.below A
  have X0 := Lib.hid (X0.out.below A)
  have Y2 := Lib.hid (Y2.out.below A)
  have zw6 := A.size
  clear A
  have K3 := R
  clear R
  go_wp2_with fail
  refine calls_at ?_
  intro w7 hA
  obtain ⟨Q, A, z1, z2⟩ := box_new (r := ro0) (c := co0) (a := (some ⟨g3, 0, none⟩)) (n := n0) (cap := n0) hA
  clear hA
  have Z0 := Lib.hid Q
  clear Q
  have T := T.trans (A.mono T.size)
  have K1 := K1.below A
  have K2 := K2.below A
  have K3 := K3.below A
  have X0 := Lib.hid (X0.out.below A)
  have Y2 := Lib.hid (Y2.out.below A)
  have zw7 := A.size
  clear A
  have yw7 := z1
  have xw7 := z2
  clear z1 z2
  refine (hi w7 _ _ K3.fs).mono ?_
  rintro e w8 ⟨b4, p4, ys4, rfl, R, E4, A⟩
  have T := T.trans (A.mono T.size)
  have K1 := K1.below A
  have K2 := K2.below A
  have K3 := K3.below A
  have X0 := Lib.hid (X0.out.below A)
  have Y2 := Lib.hid (Y2.out.below A)
  have Z0 := Lib.hid (Z0.out.below A)
  have zw8 := A.size
  clear A
  have K4 := R
  clear R
  have E4h := Lib.hid E4
  clear E4
  obtain ⟨Y20, Y21, Y22, Y23⟩ := Y2.out
  go_wp2_with fail
  clear Y20 Y21 Y22 Y23
  refine calls_at ?_
  intro w9 hA
  obtain ⟨Q, A, z1, z2⟩ := box_new (r := R0) (c := C0) (a := b4) (n := S.length) (cap := p4) hA
  clear hA
  have Y4 := Lib.hid Q
  clear Q
  have T := T.trans (A.mono T.size)
  have K1 := K1.below A
  have K2 := K2.below A
  have K3 := K3.below A
  have K4 := K4.below A
  have X0 := Lib.hid (X0.out.below A)
  have Y2 := Lib.hid (Y2.out.below A)
  have Z0 := Lib.hid (Z0.out.below A)
  have zw9 := A.size
  clear A
  have yw9 := z1
  have xw9 := z2
  clear z1 z2
  refine (eqTens _ _ _ _ _ _ _ _ _ _ hS K4.fs K2.fs (E4h.out.trans E2h.out.symm)).mono ?_
  rintro e w10 ⟨rfl, A⟩
  have T := T.trans (A.mono T.size)
  have K1 := K1.below A
  have K2 := K2.below A
  have K3 := K3.below A
  have K4 := K4.below A
  have X0 := Lib.hid (X0.out.below A)
  have Y2 := Lib.hid (Y2.out.below A)
  have Z0 := Lib.hid (Z0.out.below A)
  have Y4 := Lib.hid (Y4.out.below A)
  have zw10 := A.size
  clear A
  go_wp2_with fail
  refine wp_bl 4 [0, 0, 2, 2, 0] (by kernel_rfl) (by kernel_rfl) ?_
  simp only [List.take_succ_cons, List.take_zero, List.drop_succ_cons, List.drop_zero]
  with_reducible refine bl_step ?_
  intro K hK
  go_simp
  refine ⟨.agg #[.int .i64 ro0, .int .i64 co0, .slice (some ⟨g3, 0, none⟩) n0 n0], fun w' hw' => ?_, hK _ _ ?_⟩
  · obtain ⟨q0, q1, q2, q3⟩ := Z0.out.below hw'
    go_simp
  clear hK K
  with_reducible refine bl_step ?_
  intro K hK
  go_simp
  refine ⟨.agg #[.int .i64 ro0, .int .i64 co0, .slice a0 n0 c0], fun w' hw' => ?_, hK _ _ ?_⟩
  · obtain ⟨q0, q1, q2, q3⟩ := X0.out.below hw'
    go_simp
  clear hK K
  with_reducible refine bl_step ?_
  intro K hK
  go_simp
  intro _
  refine (toTens _ _ _ _ _ _ _ hn0 ((h0.below T).drew _)).mono ?_
  rintro e w11 ⟨g5, rfl, R, A0⟩
  have A := (bdrew (Below.refl _ _) _).trans A0
  clear A0
  refine ⟨_, rfl, A, hK _ _ ?_⟩
  clear hK K
  have BL : Below w10.heap.size w10 w11 := A
  have T := T.trans (A.mono T.size)
  have K1 := K1.below A
  have K2 := K2.below A
  have K3 := K3.below A
  have K4 := K4.below A
  have X0 := Lib.hid (X0.out.below A)
  have Y2 := Lib.hid (Y2.out.below A)
  have Z0 := Lib.hid (Z0.out.below A)
  have Y4 := Lib.hid (Y4.out.below A)
  have zw11 := A.size
  clear A
  have K5 := R
  clear R
  with_reducible refine bl_step ?_
  intro K hK
  go_simp
  intro _
  refine (eqTens _ _ _ _ _ _ _ _ _ _ hn0 (K3.fs.drew _) (K5.fs.drew _) rfl).mono ?_
  rintro e w12 ⟨rfl, A0⟩
  have A := (bdrew (Below.refl _ _) _).trans A0
  clear A0
  refine ⟨_, rfl, BL.trans (A.mono BL.size), hK _ _ ?_⟩
  clear hK K BL
  have T := T.trans (A.mono T.size)
  have K1 := K1.below A
  have K2 := K2.below A
  have K3 := K3.below A
  have K4 := K4.below A
  have K5 := K5.below A
  have X0 := Lib.hid (X0.out.below A)
  have Y2 := Lib.hid (Y2.out.below A)
  have Z0 := Lib.hid (Z0.out.below A)
  have Y4 := Lib.hid (Y4.out.below A)
  have zw12 := A.size
  clear A
  with_reducible refine wpR_nil (fun nq => ?_)
  generalize hA : w12.drewN nq = w13
  have A := below_of_drew hA.symm
  clear hA
  have T := T.trans (A.mono T.size)
  have K1 := K1.below A
  have K2 := K2.below A
  have K3 := K3.below A
  have K4 := K4.below A
  have K5 := K5.below A
  have X0 := Lib.hid (X0.out.below A)
  have Y2 := Lib.hid (Y2.out.below A)
  have Z0 := Lib.hid (Z0.out.below A)
  have Y4 := Lib.hid (Y4.out.below A)
  have zw13 := A.size
  clear A
  clear K1 K5
  obtain ⟨Z00, Z01, Z02, Z03⟩ := Z0.out
  go_wp2_with fail
  clear Z00 Z01 Z02 Z03
  refine (markTens _ _ _ _ _ _ _ _ (1) _ hn0 (by omega) K3).mono ?_
  rintro e w14 ⟨rfl, R, A⟩
  have z := A.size
  have t := T.size
  have T := T.trans (A.below (by omega) (by omega))
  have K2 := K2.keep A (by omega)
  have K4 := K4.keep A (by omega)
  have X0 := Lib.hid (X0.out.keep A (by omega))
  have Y2 := Lib.hid (Y2.out.keep A (by omega))
  have Z0 := Lib.hid (Z0.out.keep A (by omega))
  have Y4 := Lib.hid (Y4.out.keep A (by omega))
  have K3 := R
  have zw14 := z
  clear A R z t
  obtain ⟨Y40, Y41, Y42, Y43⟩ := Y4.out
  obtain ⟨Y20, Y21, Y22, Y23⟩ := Y2.out
  go_wp2_with fail
  clear Y40 Y41 Y42 Y43 Y20 Y21 Y22 Y23
  refine (eqTens _ _ _ _ _ _ _ _ _ _ hS K4.fs K2.fs (E4h.out.trans E2h.out.symm)).mono ?_
  rintro e w15 ⟨rfl, A⟩
  have T := T.trans (A.mono T.size)
  have K2 := K2.below A
  have K3 := K3.below A
  have K4 := K4.below A
  have X0 := Lib.hid (X0.out.below A)
  have Y2 := Lib.hid (Y2.out.below A)
  have Z0 := Lib.hid (Z0.out.below A)
  have Y4 := Lib.hid (Y4.out.below A)
  have zw15 := A.size
  clear A
  obtain ⟨Y40, Y41, Y42, Y43⟩ := Y4.out
  go_wp2_with fail
  clear Y40 Y41 Y42 Y43
  refine (markTens _ _ _ _ _ _ _ _ 1 _ hS (by omega) K4).mono ?_
  rintro e w16 ⟨rfl, R, A⟩
  have z := A.size
  have t := T.size
  have T := T.trans (A.below (by omega) (by omega))
  have K2 := K2.keep A (by omega)
  have K3 := K3.keep A (by omega)
  have X0 := Lib.hid (X0.out.keep A (by omega))
  have Y2 := Lib.hid (Y2.out.keep A (by omega))
  have Z0 := Lib.hid (Z0.out.keep A (by omega))
  have Y4 := Lib.hid (Y4.out.keep A (by omega))
  have K4 := R
  have zw16 := z
  clear A R z t
  obtain ⟨Y40, Y41, Y42, Y43⟩ := Y4.out
  go_wp2_with fail
  clear Y40 Y41 Y42 Y43
  refine (heldTens _ _ _ _ _ 1 _ hS (by omega) K4.fs).mono ?_
  rintro e w17 ⟨rfl, A⟩
  have T := T.trans (A.mono T.size)
  have K2 := K2.below A
  have K3 := K3.below A
  have K4 := K4.below A
  have X0 := Lib.hid (X0.out.below A)
  have Y2 := Lib.hid (Y2.out.below A)
  have Z0 := Lib.hid (Z0.out.below A)
  have Y4 := Lib.hid (Y4.out.below A)
  have zw17 := A.size
  clear A
  obtain ⟨X00, X01, X02, X03⟩ := X0.out
  go_wp2_with fail
  clear X00 X01 X02 X03
  refine (toTens _ _ _ _ _ _ _ hn0 (h0.below T)).mono ?_
  rintro e w18 ⟨g6, rfl, R, A⟩
  have T := T.trans (A.mono T.size)
  have K2 := K2.below A
  have K3 := K3.below A
  have K4 := K4.below A
  have X0 := Lib.hid (X0.out.below A)
  have Y2 := Lib.hid (Y2.out.below A)
  have Z0 := Lib.hid (Z0.out.below A)
  have Y4 := Lib.hid (Y4.out.below A)
  have zw18 := A.size
  clear A
  have K6 := R
  clear R
  go_wp2_with fail
  refine (hi w18 _ _ K6.fs).mono ?_
  rintro e w19 ⟨b7, p7, ys7, rfl, R, E7, A⟩
  have T := T.trans (A.mono T.size)
  have K2 := K2.below A
  have K3 := K3.below A
  have K4 := K4.below A
  have K6 := K6.below A
  have X0 := Lib.hid (X0.out.below A)
  have Y2 := Lib.hid (Y2.out.below A)
  have Z0 := Lib.hid (Z0.out.below A)
  have Y4 := Lib.hid (Y4.out.below A)
  have zw19 := A.size
  clear A
  have K7 := R
  clear R
  have E7h := Lib.hid E7
  clear E7
  obtain ⟨Y20, Y21, Y22, Y23⟩ := Y2.out
  go_wp2_with fail
  clear Y20 Y21 Y22 Y23
  refine calls_at ?_
  intro w20 hA
  obtain ⟨Q, A, z1, z2⟩ := box_new (r := R0) (c := C0) (a := b7) (n := S.length) (cap := p7) hA
  clear hA
  have Y7 := Lib.hid Q
  clear Q
  have T := T.trans (A.mono T.size)
  have K2 := K2.below A
  have K3 := K3.below A
  have K4 := K4.below A
  have K6 := K6.below A
  have K7 := K7.below A
  have X0 := Lib.hid (X0.out.below A)
  have Y2 := Lib.hid (Y2.out.below A)
  have Z0 := Lib.hid (Z0.out.below A)
  have Y4 := Lib.hid (Y4.out.below A)
  have zw20 := A.size
  clear A
  have yw20 := z1
  have xw20 := z2
  clear z1 z2
  refine (eqTens _ _ _ _ _ _ _ _ _ _ hS K7.fs K2.fs (E7h.out.trans E2h.out.symm)).mono ?_
  rintro e w21 ⟨rfl, A⟩
  have T := T.trans (A.mono T.size)
  have K2 := K2.below A
  have K3 := K3.below A
  have K4 := K4.below A
  have K6 := K6.below A
  have K7 := K7.below A
  have X0 := Lib.hid (X0.out.below A)
  have Y2 := Lib.hid (Y2.out.below A)
  have Z0 := Lib.hid (Z0.out.below A)
  have Y4 := Lib.hid (Y4.out.below A)
  have Y7 := Lib.hid (Y7.out.below A)
  have zw21 := A.size
  clear A
  obtain ⟨Y40, Y41, Y42, Y43⟩ := Y4.out
  go_wp2_with fail
  clear Y40 Y41 Y42 Y43
  refine (heldTens _ _ _ _ _ 1 _ hS (by omega) K4.fs).mono ?_
  rintro e w22 ⟨rfl, A⟩
  have T := T.trans (A.mono T.size)
  have K2 := K2.below A
  have K3 := K3.below A
  have K4 := K4.below A
  have K6 := K6.below A
  have K7 := K7.below A
  have X0 := Lib.hid (X0.out.below A)
  have Y2 := Lib.hid (Y2.out.below A)
  have Z0 := Lib.hid (Z0.out.below A)
  have Y4 := Lib.hid (Y4.out.below A)
  have Y7 := Lib.hid (Y7.out.below A)
  have zw22 := A.size
  clear A
  go_wp2
  go_ret
  exact ⟨rfl, T⟩
theorem own : ownKnob Try.prog.godebug = none := by kernel_rfl
theorem laidOut : laidOutB Try.prog = true := by kernel_rfl
set_option maxRecDepth 100000 in
theorem lifted (os : Os) (started : os.Started) (H : Type) (enc : TypeId × Value → H) :
    ReturnsInHanded {} Try.checked os 9 .any (Rows.fnExactSliceRowsSpec.pre6 enc Try.prog Try.f9 Rows.fnExactSliceRowsRow.domain false) (Rows.fnExactSliceRowsSpec.post enc Try.prog Try.f9 false true false false) := by
  refine returnsInHanded_of_change (C := Try.checked) own started (by kernel_rfl) Try.func9
    (ChangeSpec.witness6 (enc := enc) (C := Try.checked) false ⟨#[], #[.agg #[.int .i64 0, .int .i64 0, .slice none 0 0], .int .i64 0, .int .i64 0], []⟩ 8 (by kernel_rfl) (by kernel_rfl) (by kernel_rfl) (by kernel_rfl)) ?_
  intro W base args ds gs before hval0 hW hcnd _
  have hval : ∀ (j : Nat) t v, Try.f9.params[j]? = some t → args[j]? = some v → Value.okWide Try.prog W .any base t v := hval0
  have hW' := hW
  obtain ⟨p, q, hA0, hV, rfl, hfz, hnd⟩ := hW
  have hA : DataW.TrodAll enc Try.prog W 0 (fun _ => true) true Try.f9.params.toList args.toList ds p := hA0
  rw [Try.params9] at hA hval
  obtain ⟨v0, vs0, d0, ds0, p0, q0, hargs, rfl, rfl, h0, r0⟩ := trodAll_cons hA
  obtain ⟨v1, vs1, d1, ds1, p1, q1, rfl, rfl, rfl, h1, r1⟩ := trodAll_cons r0
  obtain ⟨v2, vs2, d2, ds2, p2, q2, rfl, rfl, rfl, h2, r2⟩ := trodAll_cons r1
  obtain ⟨rfl, rfl, rfl⟩ := trodAll_nil r2
  obtain rfl : args = #[v0, v1, v2] := by cases args; simp_all
  obtain ⟨rfl, rfl⟩ := trodVars_none hV
  have k0 := h0
  have lt0 : ∀ x ∈ p0, x.block < W.heap.size := by obtain ⟨m, hm⟩ := k0; exact DataW.trod_lt m _ _ _ hm
  have k1 := h1
  have lt1 : ∀ x ∈ p1, x.block < W.heap.size := by obtain ⟨m, hm⟩ := k1; exact DataW.trod_lt m _ _ _ hm
  have k2 := h2
  have lt2 : ∀ x ∈ p2, x.block < W.heap.size := by obtain ⟨m, hm⟩ := k2; exact DataW.trod_lt m _ _ _ hm
  obtain ⟨ro0, co0, a0, n0, c0, z0, rfl, f0, wr0, wc0, b0⟩ := open_tensor Try.underlying24 (by kernel_rfl) (by kernel_rfl) Try.underlying2 Try.underlying2 Try.underlying22 Try.underlying31 (by kernel_rfl) (hval 0 24 v0 rfl rfl) h0
  obtain ⟨a1, rfl, rfl, rfl, w1⟩ := open_int Try.underlying2 (hval 1 2 v1 rfl rfl) h1
  obtain ⟨a2, rfl, rfl, rfl, w2⟩ := open_int Try.underlying2 (hval 2 2 v2 rfl rfl) h2
  clear hA0 hval0
  refine (walk W ro0 co0 a0 n0 c0 z0 f0 wr0 wc0 b0 a1 w1 a2 w2).mono fun e W' ⟨he, bel⟩ => ?_
  subst he
  exact ⟨_, rfl, _, _, _, [], _, [], hW', trodAll_mk1 (shut_bool Try.underlying4 _), (trodAll_cons_mk (Below.trod laidOut (by kernel_rfl) (of_decide_eq_true (by kernel_rfl)) k0 bel lt0) (trodAll_cons_mk (Below.trod laidOut (by kernel_rfl) (of_decide_eq_true (by kernel_rfl)) k1 bel lt1) (trodAll_cons_mk (Below.trod laidOut (by kernel_rfl) (of_decide_eq_true (by kernel_rfl)) k2 bel lt2) trodAll_mk0))), rfl, bel.frame _, fun h => by cases h⟩

theorem over : Rows.fnExactSliceRowsRow.holds Try.pinned (OpenSpec.ofChange Rows.fnExactSliceRowsSpec) :=
  OpenClaim.holds_of_wide 9 Try.f9 rfl rfl rfl rfl rfl rfl rfl ⟨rfl, rfl, rfl, rfl, rfl⟩ rfl rfl rfl rfl rfl (by kernel_rfl) Try.func9 (by kernel_rfl)
    (of_decide_eq_true (by kernel_rfl)) (by unfold Func.isWrapper; first | (rw [if_pos (by decide +kernel)]; kernel_rfl) | (rw [if_neg (by decide +kernel)]; exact ⟨rfl, rfl⟩))
    (fun os started H enc _ => lifted os started H enc)

theorem proved : Rows.FnExactSliceRowsSaid := over
end Go.Proofs.Ytfmfddfcjbbklaa.sliceRows
