/- Which tensors are valid: the spec's answer and the program's. -/
import Derived.Test.YtcfnhkadljlgcaaTens
namespace Go.Proofs.Ytcfnhkadljlgcaa
open Go.RowKit Go.Fl Go.Reg

instance (r c : Int) (n : Nat) : Decidable (vt r c n) := by unfold vt; infer_instance
def sh (r c : Int) : Bool := decide (1 ≤ r) && decide (r ≤ 16) && decide (1 ≤ c) && decide (c ≤ 16)
theorem vt_sh (r c : Int) (n : Nat) : decide (vt r c n) = (sh r c && decide ((n : Int) = r * c)) := by
  rw [Bool.eq_iff_iff, decide_eq_true_iff]; simp [sh, vt, and_assoc]
theorem vt_mul {r c : Int} (h : sh r c = true) : 1 ≤ r * c ∧ r * c ≤ 256 := by
  unfold sh at h; simp at h
  have h1 : r * c ≤ 16 * 16 := Int.mul_le_mul (by omega) (by omega) (by omega) (by omega)
  have h2 : 1 * 1 ≤ r * c := Int.mul_le_mul (by omega) (by omega) (by omega) (by omega)
  omega
theorem vt_le {r c : Int} {n : Nat} (h : vt r c n) : 1 ≤ n ∧ n ≤ 256 := by
  have h1 : sh r c = true := by unfold sh; obtain ⟨a, b, c, d, e⟩ := h; simp [*]
  have := vt_mul h1
  have := h.2.2.2.2
  omega

def inr (x lo hi : Int) : Bool := decide (lo ≤ x) && decide (x ≤ hi)
theorem inS (x lo hi : Int) (w : World) : Calls Try.prog 21 #[.int .i64 x, .int .i64 lo, .int .i64 hi] w fun e w' => e = .returned (.bool (inr x lo hi)) ∧ w' = w := by
  by_cases h1 : lo ≤ x
  · have e : inr x lo hi = decide (x ≤ hi) := by unfold inr; simp [h1]
    rw [e]
    go_enter Try.func21, Try.ntmps21
    go_wp2
    go_ret
    exact ⟨rfl, rfl⟩
  · have e : inr x lo hi = false := by unfold inr; simp [h1]
    rw [e]
    go_enter Try.func21, Try.ntmps21
    go_wp2
    go_ret
    exact ⟨rfl, rfl⟩
theorem inI (x lo hi : Int) (w : World) : Calls Try.prog 27 #[.int .i64 x, .int .i64 lo, .int .i64 hi] w fun e w' => e = .returned (.bool (inr x lo hi)) ∧ w' = w := by
  by_cases h1 : lo ≤ x
  · have e : inr x lo hi = decide (x ≤ hi) := by unfold inr; simp [h1]
    rw [e]
    go_enter Try.func27, Try.ntmps27
    go_wp2
    go_ret
    exact ⟨rfl, rfl⟩
  · have e : inr x lo hi = false := by unfold inr; simp [h1]
    rw [e]
    go_enter Try.func27, Try.ntmps27
    go_wp2
    go_ret
    exact ⟨rfl, rfl⟩
theorem sh_in (r c : Int) : sh r c = (inr r 1 16 && inr c 1 16) := by unfold sh inr; simp [Bool.and_assoc]
theorem shape (r c : Int) (w : World) : Calls Try.prog 33 #[.int .i64 r, .int .i64 c] w fun e w' => e = .returned (.bool (sh r c)) ∧ w' = w := by
  rw [sh_in]
  cases h1 : inr r 1 16
  · go_enter Try.func33, Try.ntmps33
    go_wp2_with fail
    refine (inS _ _ _ _).mono ?_
    rintro e w1 ⟨rfl, rfl⟩
    rw [h1]
    go_wp2
    go_ret
    exact ⟨rfl, rfl⟩
  · go_enter Try.func33, Try.ntmps33
    go_wp2_with fail
    refine (inS _ _ _ _).mono ?_
    rintro e w1 ⟨rfl, rfl⟩
    rw [h1]
    go_wp2_with fail
    refine (inS _ _ _ _).mono ?_
    rintro e w1 ⟨rfl, rfl⟩
    go_wp2
    go_ret
    exact ⟨rfl, rfl⟩
set_option maxHeartbeats 400000 in
theorem isT (r c : Int) (a : Option Addr) (n cap : Nat) (b o : Nat) (w : World) (_hn : n ≤ maxLen) (h0 : w.cell? ⟨b, o, none⟩ = some (.int .i64 r)) (h1 : w.cell? ⟨b, o + 1, none⟩ = some (.int .i64 c)) (h2 : w.cell? ⟨b, o + 2, none⟩ = some (.slice a n cap)) :
    Calls Try.prog 23 #[.pointer (some ⟨b, o, none⟩)] w fun e w' => e = .returned (.bool (decide (vt r c n))) ∧ ∃ m, w' = w.drewN m := by
  rw [vt_sh]
  unfold maxLen at _hn
  cases hs : sh r c
  · go_enter Try.func23, Try.ntmps23
    go_wp2
    refine wp_dr 26 [0, 0, 0, 0, 0, 0, 0, 0, 2, 0, 0, 0, 0, 0, 0, 0, 0, 0, 0, 0, 0, 0, 0, 0, 0, 0, 0] (by kernel_rfl) (by kernel_rfl) ?_
    simp only [List.take_succ_cons, List.take_zero, List.drop_succ_cons, List.drop_zero]
    iterate 8 (with_reducible refine dr_step ?_; intro K hK; go_simp; (try intro _); refine hK _ _ ?_; clear hK K)
    with_reducible refine dr_step ?_
    intro K hK
    go_simp
    intro _
    refine (shape _ _ _).mono ?_
    rintro e w1 ⟨rfl, rfl⟩
    rw [hs]
    refine ⟨_, rfl, Dr.of0 _ _, hK _ _ ?_⟩
    clear hK K
    iterate 17 (with_reducible refine dr_step ?_; intro K hK; go_simp; (try intro _); refine hK _ _ ?_; clear hK K)
    refine wpR_nil (fun nq => ?_)
    go_wp2
    go_ret
    exact ⟨rfl, _, by rw [World.drewN_drewN]⟩
  · obtain ⟨m1, m2⟩ := vt_mul hs
    have hw : IntKind.i64.wrap (r * c) = r * c := by rw [IntKind.wrap_i64]; omega
    go_enter Try.func23, Try.ntmps23
    go_wp2
    refine wp_dr 26 [0, 0, 0, 0, 0, 0, 0, 0, 2, 0, 0, 0, 0, 0, 0, 0, 0, 0, 0, 0, 0, 0, 0, 0, 0, 0, 0] (by kernel_rfl) (by kernel_rfl) ?_
    simp only [List.take_succ_cons, List.take_zero, List.drop_succ_cons, List.drop_zero]
    iterate 8 (with_reducible refine dr_step ?_; intro K hK; go_simp; (try intro _); refine hK _ _ ?_; clear hK K)
    with_reducible refine dr_step ?_
    intro K hK
    go_simp
    intro _
    refine (shape _ _ _).mono ?_
    rintro e w1 ⟨rfl, rfl⟩
    rw [hs]
    refine ⟨_, rfl, Dr.of0 _ _, hK _ _ ?_⟩
    clear hK K
    iterate 17 (with_reducible refine dr_step ?_; intro K hK; go_simp; (try intro _); refine hK _ _ ?_; clear hK K)
    refine wpR_nil (fun nq => ?_)
    go_wp2
    go_ret
    exact ⟨by show Ending.returned (Value.bool _) = _; rfl, _, by rw [World.drewN_drewN]⟩
theorem isSide (x : Int) (w : World) : Calls Try.prog 35 #[.int .i64 x] w fun e w' => e = .returned (.bool (inr x 1 16)) ∧ w' = w := by
  go_enter Try.func35, Try.ntmps35
  go_wp2_with fail
  refine (inI _ _ _ _).mono ?_
  rintro e w1 ⟨rfl, rfl⟩
  go_wp2
  go_ret
  exact ⟨rfl, rfl⟩
theorem validT (r c : Int) (a : Option Addr) (n cap : Nat) (w : World) (_hn : n ≤ maxLen) :
    Calls Try.prog 29 #[.agg #[.int .i64 r, .int .i64 c, .slice a n cap]] w fun e w' => e = .returned (.bool (decide (vt r c n))) ∧ Below w.heap.size w w' := by
  rw [vt_sh, sh_in]
  unfold maxLen at _hn
  have hm : inr r 1 16 = true → inr c 1 16 = true → 1 ≤ r * c ∧ r * c ≤ 256 := fun h1 h2 => vt_mul (by rw [sh_in, h1, h2]; rfl)
  cases h1 : inr r 1 16
  · go_enter Try.func29, Try.ntmps29
    go_wp2_with fail
    refine (isSide _ _).mono ?_
    rintro e w1 ⟨rfl, rfl⟩
    rw [h1]
    go_wp2
    go_ret
    exact ⟨rfl, (Below.refl _ _).alloc (Nat.le_refl _) _⟩
  · cases h2 : inr c 1 16
    · go_enter Try.func29, Try.ntmps29
      go_wp2_with fail
      refine (isSide _ _).mono ?_
      rintro e w1 ⟨rfl, rfl⟩
      rw [h1]
      go_wp2_with fail
      refine (isSide _ _).mono ?_
      rintro e w1 ⟨rfl, rfl⟩
      rw [h2]
      go_wp2
      go_ret
      exact ⟨rfl, (Below.refl _ _).alloc (Nat.le_refl _) _⟩
    · obtain ⟨m1, m2⟩ := hm h1 h2
      clear hm
      go_enter Try.func29, Try.ntmps29
      go_wp2_with fail
      refine (isSide _ _).mono ?_
      rintro e w1 ⟨rfl, rfl⟩
      rw [h1]
      go_wp2_with fail
      refine (isSide _ _).mono ?_
      rintro e w1 ⟨rfl, rfl⟩
      rw [h2]
      go_wp2
      go_ret
      exact ⟨rfl, (Below.refl _ _).alloc (Nat.le_refl _) _⟩
end Go.Proofs.Ytcfnhkadljlgcaa
