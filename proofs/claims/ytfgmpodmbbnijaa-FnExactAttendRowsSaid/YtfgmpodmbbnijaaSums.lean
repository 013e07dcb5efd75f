/- Sums and sums of products of numbers, from left to right: what both sides compute. -/
import Derived.Test.YtfgmpodmbbnijaaSame
import Derived.Test.YtfgmpodmbbnijaaMem
namespace Go.Proofs.Ytfgmpodmbbnijaa
open Go.RowKit Go.Fl Go.Reg

/-- the sum of the first k numbers -/
def sumTo (xs : List Nat) : Nat → Nat
  | 0 => 0
  | k + 1 => fop .add .f32 (sumTo xs k) (xs[k]?.getD 0)
/-- the sum of the first k products -/
def dotTo (xs ys : List Nat) : Nat → Nat
  | 0 => 0
  | k + 1 => fop .add .f32 (dotTo xs ys k) (fop .mul .f32 (xs[k]?.getD 0) (ys[k]?.getD 0))
theorem sum_step {xs : List Nat} {k r : Nat} (h : cn .f32 r = cn .f32 (sumTo xs k)) (w : World) : cn .f32 (fres .add .f32 r (xs[k]?.getD 0) w) = cn .f32 (sumTo xs (k + 1)) := by
  rw [fres_fop]; show _ = cn .f32 (fop _ _ _ _); rw [fop_l .add h]
theorem dot_step {xs ys : List Nat} {k r : Nat} (h : cn .f32 r = cn .f32 (dotTo xs ys k)) (w w' : World) : cn .f32 (fres .add .f32 r (fres .mul .f32 (xs[k]?.getD 0) (ys[k]?.getD 0) w) w') = cn .f32 (dotTo xs ys (k + 1)) := by
  rw [fres_fop, fop_fres_r]; show _ = cn .f32 (fop _ _ _ _); rw [fop_l .add h]

theorem specSum (a : Option Addr) (n c : Nat) (xs : List Nat) (w : World) (hn : n ≤ 1048576) (h1 : Fs w a n c xs) :
    Calls Try.prog 53 #[.slice a n c] w fun e w' => ∃ r m, e = .returned (.float .f32 r) ∧ w' = w.drewN m ∧ cn .f32 r = cn .f32 (sumTo xs n) := by
  have HX := Lib.hid h1.cell
  clear h1
  go_enter Try.func53, Try.ntmps53
  go_wp2
  go_loopw [3, 4] (fun s i w' => ∃ k r m : Nat, k ≤ n ∧ i = .int .i64 k ∧ s = .float .f32 r ∧ cn .f32 r = cn .f32 (sumTo xs k) ∧ w' = w.drewN m) (fun _ i _ => n - (intOf i).toNat)
  case atStart => exact ⟨0, 0, 0, Nat.zero_le _, rfl, rfl, rfl, rfl⟩
  case round =>
    obtain ⟨k, r, m, hk, rfl, rfl, hr, rfl⟩ := hrel
    have HR := Lib.hid hr
    clear hr
    by_cases hlt : k < n
    · obtain ⟨b1, o1, rfl, g1⟩ := HX.out k hlt
      go_wp2
      go_roundw
      case rel => exact ⟨k + 1, _, _, by omega, by go_num, rfl, sum_step HR.out _, rfl⟩
      case measure => simp [intOf]; omega
    · go_wp2
      go_ret
      have : k = n := by omega
      subst this
      exact ⟨_, _, rfl, rfl, HR.out⟩
theorem implSum (a : Option Addr) (n c : Nat) (xs : List Nat) (w : World) (hn : n ≤ 1048576) (h1 : Fs w a n c xs) :
    Calls Try.prog 40 #[.slice a n c] w fun e w' => ∃ r m, e = .returned (.float .f32 r) ∧ w' = w.drewN m ∧ cn .f32 r = cn .f32 (sumTo xs n) := by
  have HX := Lib.hid h1.cell
  clear h1
  go_enter Try.func40, Try.ntmps40
  go_wp2
  go_loopw [3, 8] (fun s i w' => ∃ k r m : Nat, k ≤ n ∧ i = .int .i64 k ∧ s = .float .f32 r ∧ cn .f32 r = cn .f32 (sumTo xs k) ∧ w' = w.drewN m) (fun _ i _ => n - (intOf i).toNat)
  case atStart => exact ⟨0, 0, 0, Nat.zero_le _, rfl, rfl, rfl, rfl⟩
  case round =>
    obtain ⟨k, r, m, hk, rfl, rfl, hr, rfl⟩ := hrel
    have HR := Lib.hid hr
    clear hr
    by_cases hlt : k < n
    · obtain ⟨b1, o1, rfl, g1⟩ := HX.out k hlt
      go_wp2
      go_roundw
      case rel => exact ⟨k + 1, _, _, by omega, by go_num, rfl, sum_step HR.out _, rfl⟩
      case measure => simp [intOf]; omega
    · go_wp2
      go_ret
      have : k = n := by omega
      subst this
      exact ⟨_, _, rfl, rfl, HR.out⟩
theorem implDot (a1 a2 : Option Addr) (n c1 c2 : Nat) (xs ys : List Nat) (w : World) (hn : n ≤ 1048576) (h1 : Fs w a1 n c1 xs) (h2 : Fs w a2 n c2 ys) :
    Calls Try.prog 31 #[.slice a1 n c1, .slice a2 n c2] w fun e w' => ∃ r m, e = .returned (.float .f32 r) ∧ w' = w.drewN m ∧ cn .f32 r = cn .f32 (dotTo xs ys n) := by
  have HX := Lib.hid h1.cell
  have HY := Lib.hid h2.cell
  clear h1 h2
  go_enter Try.func31, Try.ntmps31
  go_wp2
  go_loopw [5, 9] (fun s i w' => ∃ k r m : Nat, k ≤ n ∧ i = .int .i64 k ∧ s = .float .f32 r ∧ cn .f32 r = cn .f32 (dotTo xs ys k) ∧ w' = w.drewN m) (fun _ i _ => n - (intOf i).toNat)
  case atStart => exact ⟨0, 0, 0, Nat.zero_le _, rfl, rfl, rfl, rfl⟩
  case round =>
    obtain ⟨k, r, m, hk, rfl, rfl, hr, rfl⟩ := hrel
    have HR := Lib.hid hr
    clear hr
    by_cases hlt : k < n
    · obtain ⟨b1, o1, rfl, g1⟩ := HX.out k hlt
      obtain ⟨b2, o2, rfl, g2⟩ := HY.out k hlt
      go_wp2
      refine wp_dr 11 [0, 0, 0, 0, 0, 0, 0, 0, 0, 1, 1, 0] (by kernel_rfl) (by kernel_rfl) ?_
      simp only [List.take_succ_cons, List.take_zero, List.drop_succ_cons, List.drop_zero]
      iterate 11 (with_reducible refine dr_step ?_; intro K hK; go_simp; (try intro _); refine hK _ _ ?_; clear hK K)
      refine wpR_nil (fun nq => ?_)
      go_wp2
      go_roundw
      case rel => exact ⟨k + 1, _, _, by omega, by go_num, rfl, dot_step HR.out _ _, rfl⟩
      case measure => simp [intOf]; omega
    · go_wp2
      go_ret
      have : k = n := by omega
      subst this
      exact ⟨_, _, rfl, rfl, HR.out⟩
theorem specDot (a1 a2 : Option Addr) (n c1 c2 : Nat) (xs ys : List Nat) (w : World) (hn : n ≤ 1048576) (h1 : Fs w a1 n c1 xs) (h2 : Fs w a2 n c2 ys) :
    Calls Try.prog 29 #[.slice a1 n c1, .slice a2 n c2] w fun e w' => ∃ r m, e = .returned (.float .f32 r) ∧ w' = w.drewN m ∧ cn .f32 r = cn .f32 (dotTo xs ys n) := by
  have HX := Lib.hid h1.cell
  have HY := Lib.hid h2.cell
  clear h1 h2
  go_enter Try.func29, Try.ntmps29
  go_wp2
  go_loopw [5, 6] (fun s i w' => ∃ k r m : Nat, k ≤ n ∧ i = .int .i64 k ∧ s = .float .f32 r ∧ cn .f32 r = cn .f32 (dotTo xs ys k) ∧ w' = w.drewN m) (fun _ i _ => n - (intOf i).toNat)
  case atStart => exact ⟨0, 0, 0, Nat.zero_le _, rfl, rfl, rfl, rfl⟩
  case round =>
    obtain ⟨k, r, m, hk, rfl, rfl, hr, rfl⟩ := hrel
    have HR := Lib.hid hr
    clear hr
    by_cases hlt : k < n
    · obtain ⟨b1, o1, rfl, g1⟩ := HX.out k hlt
      obtain ⟨b2, o2, rfl, g2⟩ := HY.out k hlt
      go_wp2
      refine wp_dr 11 [0, 0, 0, 0, 0, 0, 0, 0, 0, 1, 1, 0] (by kernel_rfl) (by kernel_rfl) ?_
      simp only [List.take_succ_cons, List.take_zero, List.drop_succ_cons, List.drop_zero]
      iterate 11 (with_reducible refine dr_step ?_; intro K hK; go_simp; (try intro _); refine hK _ _ ?_; clear hK K)
      refine wpR_nil (fun nq => ?_)
      go_wp2
      go_roundw
      case rel => exact ⟨k + 1, _, _, by omega, by go_num, rfl, dot_step HR.out _ _, rfl⟩
      case measure => simp [intOf]; omega
    · go_wp2
      go_ret
      have : k = n := by omega
      subst this
      exact ⟨_, _, rfl, rfl, HR.out⟩
end Go.Proofs.Ytfgmpodmbbnijaa
