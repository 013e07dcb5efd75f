/- The reference's l02Row: a row's numbers in a list of its own. -/
import Derived.Test.YtfgmpodmbbnijaaValid
import Derived.Test.YtfgmpodmbbnijaaFin
import Derived.Test.YtfgmpodmbbnijaaRowT
import Derived.Test.YtfgmpodmbbnijaaClone
import Derived.Deep.CutRange
namespace Go.Proofs.Ytfgmpodmbbnijaa.rowS
open Go.RowKit Go.Fl Go.Reg
def part (C i : Nat) (xs : List Nat) : List Nat := (xs.drop (i * C)).take C
theorem specRow (R C i : Nat) (b o n cap b0 : Nat) (xs : List Nat) (w : World) (hR : 0 < R ∧ R ≤ 16) (hC : 0 < C ∧ C ≤ 16) (hi : i < R) (hn : n = R * C) (h1 : Fs w (some ⟨b, o, none⟩) n cap xs) (Q : Box w b0 (R : Int) (C : Int) (some ⟨b, o, none⟩) n cap) :
    Calls Try.prog 44 #[.pointer (some ⟨b0, 0, none⟩), .int .i64 (i : Int)] w (RW 45 w C (part C i xs)) := by
  have e1 := row_end (C := C) hi
  have e3 : R * C ≤ 16 * 16 := Nat.mul_le_mul hR.2 hC.2
  have hcap := h1.cap1
  have hcap2 := h1.cap2
  unfold maxLen at hcap2
  have HSUB := h1.sub (i := i * C) (j := i * C + C) (by omega) (by omega) (cap - i * C) rfl
  rw [show i * C + C - i * C = C by omega] at HSUB
  have HS := Lib.hid HSUB
  have HQ := Lib.hid Q
  clear h1 Q HSUB
  have q1 : ((i : Int) * (C : Int)) = ((i * C : Nat) : Int) := by simp
  have q2 : (((i : Int) + 1) * (C : Int)) = ((i * C + C : Nat) : Int) := by rw [Int.add_mul, q1]; simp
  have p1 : (0 : Int) ≤ (i : Int) * (C : Int) ∧ (i : Int) * (C : Int) ≤ 256 := by rw [q1]; omega
  have p2 : (0 : Int) ≤ ((i : Int) + 1) * (C : Int) ∧ ((i : Int) + 1) * (C : Int) ≤ 256 := by rw [q2]; omega
  have w1' : IntKind.i64.wrap ((i : Int) * (C : Int)) = (i : Int) * (C : Int) := IntWalk.i64_in _ (by omega)
  have w2' : IntKind.i64.wrap ((i : Int) + 1) = (i : Int) + 1 := IntWalk.i64_in _ (by omega)
  have w3' : IntKind.i64.wrap (((i : Int) + 1) * (C : Int)) = ((i : Int) + 1) * (C : Int) := IntWalk.i64_in _ (by omega)
  have t1 : ((i : Int) * (C : Int)).toNat = i * C := by rw [q1]; rfl
  have t2 : (((i : Int) + 1) * (C : Int)).toNat = i * C + C := by rw [q2]; rfl
  have t3 : i * C + C - i * C = C := by omega
  have p3 : (((i : Int) + 1) * (C : Int)) ≤ (cap : Int) := by rw [q2]; omega
  have p4 : (i : Int) * (C : Int) ≤ ((i : Int) + 1) * (C : Int) := by rw [q1, q2]; omega
  have p5 : ¬ cap = i * C := by omega
  have p6 : (i : Int) * (C : Int) ≤ (i : Int) * (C : Int) + (C : Int) := by omega
  obtain ⟨p1a, p1b⟩ := p1
  obtain ⟨p2a, p2b⟩ := p2
  clear q1 q2
  subst hn
  go_enter Try.func44, Try.ntmps44
  go_wp2_with fail
  have T := Below.refl w.heap.size w
  have FACT : ∀ w', Below w.heap.size w w' → w'.cell? ⟨b0, 1, none⟩ = some (.int .i64 (C : Int)) ∧ w'.cell? ⟨b0, 2, none⟩ = some (.slice (some ⟨b, o, none⟩) (R * C) cap) := fun w' hb => ⟨(HQ.out.below hb).c1, (HQ.out.below hb).c2⟩
  have FA := Lib.hid FACT
  clear FACT
  refine wp_plan 19 [0, 0, 0, 0, 0, 0, 0, 0, 0, 0, 0, 0, 0, 0, 0, 0, 0, 0, 2, 0] (.go 0 (.go 1 (.go 2 (.go 3 (.go 4 (.go 5 (.go 6 (.go 7 (.go 8 (.go 9 (.go 10 (.go 11 (.go 12 (.go 13 (.go 14 (.go 15 (.go 16 (.go 17 (.only 18 .fin))))))))))))))))))) (Bl w) (by kernel_rfl) (by kernel_rfl) (Bl.refl _) Bl.drew ?_
  simp only [List.drop_succ_cons, List.drop_zero]
  refine plan_go (pl0 (v := ?_) (by rfl) rfl rfl (fun w' hw' => ?_) (fun K hK => ?_))
  rotate_left
  · obtain ⟨q0, q1⟩ := FA.out w' hw'
    go_simp
    rfl
  go_simp
  refine hK _ _ ?_
  clear hK K
  refine plan_go (pl0 (v := ?_) (by rfl) rfl rfl (fun w' hw' => ?_) (fun K hK => ?_))
  rotate_left
  · obtain ⟨q0, q1⟩ := FA.out w' hw'
    go_simp
    rfl
  go_simp
  refine hK _ _ ?_
  clear hK K
  refine plan_go (pl0 (v := ?_) (by rfl) rfl rfl (fun w' hw' => ?_) (fun K hK => ?_))
  rotate_left
  · obtain ⟨q0, q1⟩ := FA.out w' hw'
    go_simp
    rfl
  go_simp
  refine hK _ _ ?_
  clear hK K
  refine plan_go (pl0 (v := ?_) (by rfl) rfl rfl (fun w' hw' => ?_) (fun K hK => ?_))
  rotate_left
  · obtain ⟨q0, q1⟩ := FA.out w' hw'
    go_simp
    rfl
  go_simp
  refine hK _ _ ?_
  clear hK K
  refine plan_go (pl0 (v := ?_) (by rfl) rfl rfl (fun w' hw' => ?_) (fun K hK => ?_))
  rotate_left
  · obtain ⟨q0, q1⟩ := FA.out w' hw'
    go_simp
    rfl
  go_simp
  refine hK _ _ ?_
  clear hK K
  refine plan_go (pl0 (v := ?_) (by rfl) rfl rfl (fun w' hw' => ?_) (fun K hK => ?_))
  rotate_left
  · obtain ⟨q0, q1⟩ := FA.out w' hw'
    go_simp
    rfl
  go_simp
  refine hK _ _ ?_
  clear hK K
  refine plan_go (pl0 (v := ?_) (by rfl) rfl rfl (fun w' hw' => ?_) (fun K hK => ?_))
  rotate_left
  · obtain ⟨q0, q1⟩ := FA.out w' hw'
    go_simp
    rfl
  go_simp
  refine hK _ _ ?_
  clear hK K
  refine plan_go (pl0 (v := ?_) (by rfl) rfl rfl (fun w' hw' => ?_) (fun K hK => ?_))
  rotate_left
  · obtain ⟨q0, q1⟩ := FA.out w' hw'
    go_simp
    rfl
  go_simp
  refine hK _ _ ?_
  clear hK K
  refine plan_go (pl0 (v := ?_) (by rfl) rfl rfl (fun w' hw' => ?_) (fun K hK => ?_))
  rotate_left
  · obtain ⟨q0, q1⟩ := FA.out w' hw'
    go_simp
    rfl
  go_simp
  refine hK _ _ ?_
  clear hK K
  refine plan_go (pl0 (v := ?_) (by rfl) rfl rfl (fun w' hw' => ?_) (fun K hK => ?_))
  rotate_left
  · obtain ⟨q0, q1⟩ := FA.out w' hw'
    go_simp
    rfl
  go_simp
  refine hK _ _ ?_
  clear hK K
  refine plan_go (pl0 (v := ?_) (by rfl) rfl rfl (fun w' hw' => ?_) (fun K hK => ?_))
  rotate_left
  · obtain ⟨q0, q1⟩ := FA.out w' hw'
    go_simp
    rfl
  go_simp
  refine hK _ _ ?_
  clear hK K
  refine plan_go (pl0 (v := ?_) (by rfl) rfl rfl (fun w' hw' => ?_) (fun K hK => ?_))
  rotate_left
  · obtain ⟨q0, q1⟩ := FA.out w' hw'
    go_simp
    rfl
  go_simp
  refine hK _ _ ?_
  clear hK K
  refine plan_go (pl0 (v := ?_) (by rfl) rfl rfl (fun w' hw' => ?_) (fun K hK => ?_))
  rotate_left
  · obtain ⟨q0, q1⟩ := FA.out w' hw'
    go_simp
    rfl
  go_simp
  refine hK _ _ ?_
  clear hK K
  refine plan_go (pl0 (v := ?_) (by rfl) rfl rfl (fun w' hw' => ?_) (fun K hK => ?_))
  rotate_left
  · obtain ⟨q0, q1⟩ := FA.out w' hw'
    go_simp
    rfl
  go_simp
  refine hK _ _ ?_
  clear hK K
  refine plan_go (pl0 (v := ?_) (by rfl) rfl rfl (fun w' hw' => ?_) (fun K hK => ?_))
  rotate_left
  · obtain ⟨q0, q1⟩ := FA.out w' hw'
    go_simp
    rfl
  go_simp
  refine hK _ _ ?_
  clear hK K
  refine plan_go (pl0 (v := ?_) (by rfl) rfl rfl (fun w' hw' => ?_) (fun K hK => ?_))
  rotate_left
  · obtain ⟨q0, q1⟩ := FA.out w' hw'
    go_simp
    rfl
  go_simp
  refine hK _ _ ?_
  clear hK K
  refine plan_go (pl0 (v := ?_) (by rfl) rfl rfl (fun w' hw' => ?_) (fun K hK => ?_))
  rotate_left
  · obtain ⟨q0, q1⟩ := FA.out w' hw'
    go_simp
    rfl
  go_simp
  refine hK _ _ ?_
  clear hK K
  refine plan_go (pl0 (v := ?_) (by rfl) rfl rfl (fun w' hw' => ?_) (fun K hK => ?_))
  rotate_left
  · obtain ⟨q0, q1⟩ := FA.out w' hw'
    go_simp
    rfl
  go_simp
  refine hK _ _ ?_
  clear hK K
  refine plan_only (pl2 (by rfl) rfl rfl (fun K hK => ?_))
  go_simp
  intro m18
  refine (ownS b (o + i * C) C (cap - i * C) (part C i xs) (w.drewN _) (by omega) (HS.out.drew _)).mono ?_
  rintro e w1 ⟨a2, cap2, rfl, RR, A0⟩
  have A : Below w.heap.size w w1 := (bdrew (Below.refl _ _) _).trans A0
  clear A0
  have Bw1 : Below w.heap.size w w1 := A
  refine ⟨_, rfl, Bw1, hK _ _ ?_⟩
  clear hK K
  have T := T.trans (A.mono T.size)
  have zw1 := A.size
  clear A
  refine plan_fin (fun nF => ?_)
  clear w1' w2' w3' t1 t2 t3 p6 p5
  have HR := Lib.hid RR
  clear RR
  go_wp2
  go_ret
  exact ⟨_, _, rfl, ((HR.out.drew nF).down (by simp)), bdrew T nF⟩
end Go.Proofs.Ytfgmpodmbbnijaa.rowS
