/- The program's (Tensor).row: a part of the numbers. -/
import Derived.Test.YtfgmpodmbbnijaaValid
import Derived.Test.YtfgmpodmbbnijaaFin
namespace Go.Proofs.Ytfgmpodmbbnijaa
open Go.RowKit Go.Fl Go.Reg
/-- where a row's numbers lie -/
theorem in_row {R C i j : Nat} (hi : i < R) (hj : j < C) : i * C + j < R * C := by
  have : (i + 1) * C ≤ R * C := Nat.mul_le_mul_right _ hi
  rw [Nat.succ_mul] at this
  omega
theorem row_end {R C i : Nat} (hi : i < R) : i * C + C ≤ R * C := by
  have : (i + 1) * C ≤ R * C := Nat.mul_le_mul_right _ hi
  rwa [Nat.succ_mul] at this
theorem nat_of {r c : Int} {n : Nat} (h : vt r c n) : ∃ R C : Nat, r = (R : Int) ∧ c = (C : Int) ∧ (0 < R ∧ R ≤ 16) ∧ (0 < C ∧ C ≤ 16) ∧ n = R * C := by
  obtain ⟨h1, h2, h3, h4, h5⟩ := h
  obtain ⟨R, rfl⟩ := Int.eq_ofNat_of_zero_le (a := r) (by omega)
  obtain ⟨C, rfl⟩ := Int.eq_ofNat_of_zero_le (a := c) (by omega)
  refine ⟨R, C, rfl, rfl, by omega, by omega, ?_⟩
  have : ((R * C : Nat) : Int) = (R : Int) * (C : Int) := by simp
  omega
theorem rowI (R C i b o n cap : Nat) (w : World) (hn : n = R * C) (hi : i < R) (hR : R ≤ 16) (hC : C ≤ 16) (hC0 : 0 < C) (h1 : n ≤ cap) (h2 : cap ≤ maxLen) :
    Calls Try.prog 36 #[.agg #[.int .i64 (R : Int), .int .i64 (C : Int), .slice (some ⟨b, o, none⟩) n cap], .int .i64 (i : Int)] w fun e w' => e = .returned (.slice (some ⟨b, o + i * C, none⟩) C (cap - i * C)) ∧ Below w.heap.size w w' := by
  have e1 := row_end (C := C) hi
  have e2 : i * C ≤ 16 * 16 := Nat.mul_le_mul (by omega) hC
  have e3 : R * C ≤ 16 * 16 := Nat.mul_le_mul hR hC
  unfold maxLen at h2
  have q1 : ((i : Int) * (C : Int)) = ((i * C : Nat) : Int) := by simp
  have q2 : (((i : Int) + 1) * (C : Int)) = ((i * C + C : Nat) : Int) := by rw [Int.add_mul, q1]; simp
  have p1 : (0 : Int) ≤ (i : Int) * (C : Int) ∧ (i : Int) * (C : Int) ≤ 256 := by rw [q1]; omega
  have p2 : (0 : Int) ≤ ((i : Int) + 1) * (C : Int) ∧ ((i : Int) + 1) * (C : Int) ≤ 256 := by rw [q2]; omega
  have t1 : ((i : Int) * (C : Int)).toNat = i * C := by rw [q1]; rfl
  have t2 : (((i : Int) + 1) * (C : Int)).toNat = i * C + C := by rw [q2]; rfl
  have p3 : (((i : Int) + 1) * (C : Int)) ≤ (n : Int) := by rw [q2]; omega
  have p4 : (i : Int) * (C : Int) ≤ ((i : Int) + 1) * (C : Int) := by rw [q1, q2]; omega
  have p5 : i * C < cap := by omega
  obtain ⟨p1a, p1b⟩ := p1
  obtain ⟨p2a, p2b⟩ := p2
  clear q1 q2
  subst hn
  go_enter Try.func36, Try.ntmps36
  go_wp2
  go_ret
  exact ⟨rfl, (Below.refl _ _).alloc (Nat.le_refl _) _⟩
end Go.Proofs.Ytfgmpodmbbnijaa
