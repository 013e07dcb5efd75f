/- The laws' own helpers on tensors, and which tensors are valid. -/
import Derived.Test.YtclhemjanhhioaaLst
import Derived.Test.YtclhemjanhhioaaOwn
import Derived.Laws.ResultCell
namespace Go.Proofs.Ytclhemjanhhioaa
open Go.RowKit Go.Fl Go.Reg

/-- a tensor is valid -/
def vt (r c : Int) (n : Nat) : Prop := 1 ≤ r ∧ r ≤ 16 ∧ 1 ≤ c ∧ c ≤ 16 ∧ (n : Int) = r * c

theorem toF32r (a : Option Addr) (n cap : Nat) (xs : List Nat) (w : World) (hn : n ≤ 1048576) (h1 : Fs w a n cap xs) :
    Calls Try.prog 28 #[.slice a n cap] w fun e w' => ∃ g, e = .returned (.slice (some ⟨g, 0, none⟩) n n) ∧ Row w' w.heap.size w'.heap.size 67 (.slice (some ⟨g, 0, none⟩) n n) n xs ∧ Below w.heap.size w w' := by
  refine (toF32 _ _ _ _ _ hn h1).mono ?_
  rintro e w' ⟨g, rfl, own, bel⟩
  exact ⟨g, rfl, Row.of own bel.size, bel⟩
theorem eqF32r (a b : Option Addr) (n c1 c2 : Nat) (xs ys : List Nat) (w : World) (hn : n ≤ 1048576) (h1 : Fs w a n c1 xs) (h2 : Fs w b n c2 ys) (he : xs.map (cn .f32) = ys.map (cn .f32)) :
    Calls Try.prog 23 #[.slice a n c1, .slice b n c2] w fun e w' => e = .returned (.bool true) ∧ Below w.heap.size w w' := by
  refine (eqF32 _ _ _ _ _ _ _ _ hn h1 h2 he).mono ?_
  rintro e w' ⟨m, rfl, rfl⟩
  exact ⟨rfl, bdrew (Below.refl _ _) _⟩
theorem sameFloatr (x y : Nat) (w : World) (h : cn .f64 x = cn .f64 y) : Calls Try.prog 43 #[.float .f64 x, .float .f64 y] w fun e w' => e = .returned (.bool true) ∧ Below w.heap.size w w' := by
  refine (sameFloat _ _ _ h).mono ?_
  rintro e w' ⟨rfl, rfl⟩
  exact ⟨rfl, Below.refl _ _⟩

theorem markF32 (a : Option Addr) (n cap lo hi : Nat) (xs : List Nat) (k : Int) (w : World) (hn : n ≤ 1048576) (hk : 0 ≤ k ∧ k ≤ 4294967296) (h : Row w lo hi 67 (.slice a n cap) n xs) :
    Calls Try.prog 25 #[.slice a n cap, .int .i64 k] w fun e w' => e = .returned (.int .i64 (k + (n : Int))) ∧ Row w' lo hi 67 (.slice a n cap) n (mks k n) ∧ Keep lo hi w w' := by
  have hlen := h.fs.len
  have hcap := h.fs.cap1
  have hcap2 := h.fs.cap2
  unfold maxLen at hcap2
  have H0 := Lib.hid h
  clear h
  go_enter Try.func25, Try.ntmps25
  go_wp2
  go_loopw [1, 5] (fun kk i w' => ∃ j : Nat, j ≤ n ∧ i = .int .i64 j ∧ kk = .int .i64 (k + (j : Int)) ∧ Row w' lo hi 67 (.slice a n cap) n (mks k j ++ xs.drop j) ∧ Keep lo hi w w') (fun _ i _ => n - (intOf i).toNat)
  case atStart => exact ⟨0, Nat.zero_le _, rfl, by go_num, H0.out, Keep.refl _ _ _⟩
  case round =>
    obtain ⟨j, hj, rfl, rfl, hr, hb⟩ := hrel
    by_cases hlt : j < n
    · have hf := hr.fs.cell j hlt
      obtain ⟨g, o, rfl, hc⟩ := hf
      have ho : o = 0 := by rcases hr.own.2 with ⟨e, _⟩ | ⟨_, _, _, e, _⟩ <;> cases e; rfl
      subst ho
      rw [Nat.zero_add] at hc
      have hfo := hr.own.frozenAt j
      have hst := hr.own.stored j (.float .f32 (floatOfInt .f32 (k + (j : Int))))
      rw [mks_step xs k n j hlen hlt] at hst
      have HS := Lib.hid hst
      have HB := Lib.hid hb
      have HO := Lib.hid hr
      clear hst hb hr
      go_wp2
      go_roundw
      case rel =>
        have g1 := HO.out.lt g rfl
        have g2 := (HO.out.own.lt g rfl).1
        exact ⟨j + 1, by omega, by go_num, by go_num, ⟨HS.out.1, HO.out.low, Nat.le_trans HO.out.top HS.out.2.size, HO.out.lt⟩, HB.out.trans ⟨HS.out.2.os, HS.out.2.tape, HS.out.2.output, HS.out.2.size, fun q hq hr => HS.out.2.block q hq (by intro e; injection e with e; omega)⟩⟩
      case measure => simp [intOf]; omega
    · go_wp2
      go_ret
      have : j = n := by omega
      subst this
      rw [List.drop_of_length_le (by omega), List.append_nil] at hr
      exact ⟨rfl, hr, hb⟩
theorem heldF32 (a : Option Addr) (n cap : Nat) (k : Int) (w : World) (hn : n ≤ 1048576) (hk : 0 ≤ k ∧ k ≤ 4294967296) (h : Fs w a n cap (mks k n)) :
    Calls Try.prog 26 #[.slice a n cap, .int .i64 k] w fun e w' => e = .returned (.int .i64 (k + (n : Int))) ∧ ∃ m, w' = w.drewN m := by
  have hcap := h.cap1
  have hcap2 := h.cap2
  unfold maxLen at hcap2
  have H0 := Lib.hid h
  clear h
  go_enter Try.func26, Try.ntmps26
  go_wp2
  go_loopw [1, 5] (fun kk i w' => ∃ j m : Nat, j ≤ n ∧ i = .int .i64 j ∧ kk = .int .i64 (k + (j : Int)) ∧ w' = w.drewN m) (fun _ i _ => n - (intOf i).toNat)
  case atStart => exact ⟨0, 0, Nat.zero_le _, rfl, by go_num, rfl⟩
  case round =>
    obtain ⟨j, m, hj, rfl, rfl, rfl⟩ := hrel
    by_cases hlt : j < n
    · obtain ⟨g, o, rfl, hc⟩ := H0.out.cell j hlt
      rw [mks_get _ _ _ hlt] at hc
      have hnn := not_nan_int .f32 (k + (j : Int))
      go_wp2
      go_roundw
      case rel => exact ⟨j + 1, _, by omega, by go_num, by go_num, rfl⟩
      case measure => simp [intOf]; omega
    · go_wp2
      go_ret
      have : j = n := by omega
      subst this
      exact ⟨rfl, _, rfl⟩
theorem heldF32r (a : Option Addr) (n cap : Nat) (k : Int) (w : World) (hn : n ≤ 1048576) (hk : 0 ≤ k ∧ k ≤ 4294967296) (h : Fs w a n cap (mks k n)) :
    Calls Try.prog 26 #[.slice a n cap, .int .i64 k] w fun e w' => e = .returned (.int .i64 (k + (n : Int))) ∧ Below w.heap.size w w' := by
  refine (heldF32 _ _ _ _ _ hn hk h).mono ?_
  rintro e w' ⟨rfl, m, rfl⟩
  exact ⟨rfl, bdrew (Below.refl _ _) _⟩
end Go.Proofs.Ytclhemjanhhioaa
