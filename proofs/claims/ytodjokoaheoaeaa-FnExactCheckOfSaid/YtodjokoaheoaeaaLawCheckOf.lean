/- The law FnExactCheckOf holds for every input. No conditions. -/
import Derived.Test.YtodjokoaheoaeaaSame
import Derived.Test.YtodjokoaheoaeaaBits
import Derived.ProofKit
import Derived.OpenShut
import Derived.ChangeOld
import Derived.WalkSmall
import Derived.LoopTactic
namespace Go.Proofs.Ytodjokoaheoaeaa.checkOf
open Go.ChangeShapes Go.WideShapes Go.ChangeAt Go.RowKit Go.Fl

/-- the check number of some bytes -/
def chk (start : Int) (s : List UInt8) : Int := s.foldl (fun n c => (523 * n + (c.toNat : Int) + 17) % 65003) start
theorem chk_snoc (start : Int) (s : List UInt8) (c : UInt8) : chk start (s ++ [c]) = (523 * chk start s + (c.toNat : Int) + 17) % 65003 := by simp [chk]
theorem take_snoc (s : ByteArray) (k : Nat) (h : k < s.size) : s.data.toList.take (k + 1) = s.data.toList.take k ++ [s[k]] := by
  rw [List.take_succ_eq_append_getElem (by simpa using h)]; rfl
theorem chk_bd (start : Int) (s : List UInt8) (h0 : 0 ≤ start) (h1 : start ≤ 65002) : 0 ≤ chk start s ∧ chk start s ≤ 65002 := by
  unfold chk
  induction s generalizing start with
  | nil => exact ⟨h0, h1⟩
  | cons c s ih =>
    have := Int.emod_lt_of_pos (523 * start + (c.toNat : Int) + 17) (show (0 : Int) < 65003 by omega)
    exact ih _ (Int.emod_nonneg _ (by omega)) (show (523 * start + (c.toNat : Int) + 17) % 65003 ≤ 65002 by omega)

theorem specCheck (start : Int) (s : ByteArray) (w : World) (h0 : 0 ≤ start) (h1 : start ≤ 65002) (hs : s.size ≤ maxLen) :
    Calls Try.prog 46 #[.int .i64 start, .string s] w fun e w' => e = .returned (.int .i64 (chk start s.data.toList)) ∧ w' = w := by
  unfold maxLen at hs
  go_enter Try.func46, Try.ntmps46
  go_wp2
  go_loop [0, 5] (fun n i => ∃ k : Nat, k ≤ s.size ∧ i = .int .i64 k ∧ n = .int .i64 (chk start (s.data.toList.take k))) (fun _ i => s.size - (intOf i).toNat)
  case atStart => exact ⟨0, Nat.zero_le _, rfl, rfl⟩
  case round =>
    obtain ⟨k, hk, rfl, rfl⟩ := hrel
    have hd := chk_bd start (s.data.toList.take k) h0 h1
    by_cases hlt : k < s.size
    · have hc : s[k].toNat < 256 := s[k].toNat_lt
      have HS : Hid (chk start (s.data.toList.take (k + 1)) = (523 * chk start (s.data.toList.take k) + (s[k].toNat : Int) + 17) % 65003) := by rw [take_snoc s k hlt]; exact chk_snoc _ _ _
      go_wp2
      go_round
      case rel => exact ⟨k + 1, by omega, by go_num, by rw [HS.out]⟩
      case measure => simp [intOf]; omega
    · go_wp2
      go_ret
      have : k = s.size := by omega
      subst this
      exact ⟨by rw [List.take_of_length_le (by simp)]; rfl, rfl⟩
theorem implCheck (start : Int) (s : ByteArray) (w : World) (h0 : 0 ≤ start) (h1 : start ≤ 65002) (hs : s.size ≤ maxLen) :
    Calls Try.prog 29 #[.int .i64 start, .string s] w fun e w' => e = .returned (.tuple #[.int .i64 (chk start s.data.toList), .bool true]) ∧ w' = w := by
  unfold maxLen at hs
  go_enter Try.func29, Try.ntmps29
  go_wp2
  go_loop [0, 12] (fun n i => ∃ k : Nat, k ≤ s.size ∧ i = .int .i64 k ∧ n = .int .i64 (chk start (s.data.toList.take k))) (fun _ i => s.size - (intOf i).toNat)
  case atStart => exact ⟨0, Nat.zero_le _, rfl, rfl⟩
  case round =>
    obtain ⟨k, hk, rfl, rfl⟩ := hrel
    have hd := chk_bd start (s.data.toList.take k) h0 h1
    by_cases hlt : k < s.size
    · have hc : s[k].toNat < 256 := s[k].toNat_lt
      have HS : Hid (chk start (s.data.toList.take (k + 1)) = (523 * chk start (s.data.toList.take k) + (s[k].toNat : Int) + 17) % 65003) := by rw [take_snoc s k hlt]; exact chk_snoc _ _ _
      go_wp2
      go_round
      case rel => exact ⟨k + 1, by omega, by go_num, by rw [HS.out]⟩
      case measure => simp [intOf]; omega
    · go_wp2
      go_ret2
      have : k = s.size := by omega
      subst this
      exact ⟨by rw [List.take_of_length_le (by simp)]; rfl, rfl⟩
theorem walk (start : Int) (_hst : (Lit.int .i64 start).wf = true) (s : ByteArray) (hs : s.size ≤ maxLen) (w : World) : Calls Try.prog 10 #[.int .i64 start, .string s] w fun e w' => e = .returned (.bool true) ∧ Below w.heap.size w w' := by
  by_cases hlen : 1048576 < s.size
  · unfold maxLen at hs
    go_enter Try.func10, Try.ntmps10
    go_wp2
    go_ret
    exact ⟨rfl, Below.refl _ _⟩
  · by_cases h0 : 0 ≤ start
    · by_cases h1 : start ≤ 65002
      · go_enter Try.func10, Try.ntmps10
        go_wp2_with (first | (go_at_call 46; refine (specCheck _ _ _ h0 h1 hs).mono ?_; rintro e w1 ⟨rfl, rfl⟩) | (go_at_call 29; refine (implCheck _ _ _ h0 h1 hs).mono ?_; rintro e w1 ⟨rfl, rfl⟩) | go_in)
        go_ret
        exact ⟨rfl, Below.refl _ _⟩
      · go_enter Try.func10, Try.ntmps10
        go_wp2
        go_ret
        exact ⟨rfl, Below.refl _ _⟩
    · go_enter Try.func10, Try.ntmps10
      go_wp2
      go_ret
      exact ⟨rfl, Below.refl _ _⟩
theorem own : ownKnob Try.prog.godebug = none := by kernel_rfl
theorem laidOut : laidOutB Try.prog = true := by kernel_rfl
set_option maxRecDepth 100000 in
theorem lifted (os : Os) (started : os.Started) (H : Type) (enc : TypeId × Value → H) :
    ReturnsInHanded {} Try.checked os 10 .any (Rows.fnExactCheckOfSpec.pre6 enc Try.prog Try.f10 Rows.fnExactCheckOfRow.domain false) (Rows.fnExactCheckOfSpec.post enc Try.prog Try.f10 false true false false) := by
  refine returnsInHanded_of_change (C := Try.checked) own started (by kernel_rfl) Try.func10
    (ChangeSpec.witness6 (enc := enc) (C := Try.checked) false ⟨#[], #[.int .i64 0, .string ByteArray.empty], []⟩ 8 (by kernel_rfl) (by kernel_rfl) (by kernel_rfl) (by kernel_rfl)) ?_
  intro W base args ds gs before hval0 hW hcnd _
  have hval : ∀ (j : Nat) t v, Try.f10.params[j]? = some t → args[j]? = some v → Value.okWide Try.prog W .any base t v := hval0
  have hW' := hW
  obtain ⟨p, q, hA0, hV, rfl, hfz, hnd⟩ := hW
  have hA : DataW.TrodAll enc Try.prog W 0 (fun _ => true) true Try.f10.params.toList args.toList ds p := hA0
  rw [Try.params10] at hA hval
  obtain ⟨v0, vs0, d0, ds0, p0, q0, hargs, rfl, rfl, h0, r0⟩ := trodAll_cons hA
  obtain ⟨v1, vs1, d1, ds1, p1, q1, rfl, rfl, rfl, h1, r1⟩ := trodAll_cons r0
  obtain ⟨rfl, rfl, rfl⟩ := trodAll_nil r1
  obtain rfl : args = #[v0, v1] := by cases args; simp_all
  obtain ⟨rfl, rfl⟩ := trodVars_none hV
  have k0 := h0
  have lt0 : ∀ x ∈ p0, x.block < W.heap.size := by obtain ⟨m, hm⟩ := k0; exact DataW.trod_lt m _ _ _ hm
  have k1 := h1
  have lt1 : ∀ x ∈ p1, x.block < W.heap.size := by obtain ⟨m, hm⟩ := k1; exact DataW.trod_lt m _ _ _ hm
  obtain ⟨a0, rfl, rfl, rfl, w0⟩ := open_int Try.underlying2 (hval 0 2 v0 rfl rfl) h0
  obtain ⟨a1, rfl, rfl, rfl, w1⟩ := Go.ChangeMaps.open_string Try.underlying9 (hval 1 9 v1 rfl rfl) h1
  clear hA0 hval0
  refine (walk a0 w0 a1 w1 W).mono fun e W' ⟨he, bel⟩ => ?_
  subst he
  exact ⟨_, rfl, _, _, _, [], _, [], hW', trodAll_mk1 (shut_bool Try.underlying4 _), (trodAll_cons_mk (Below.trod laidOut (by kernel_rfl) (of_decide_eq_true (by kernel_rfl)) k0 bel lt0) (trodAll_cons_mk (Below.trod laidOut (by kernel_rfl) (of_decide_eq_true (by kernel_rfl)) k1 bel lt1) trodAll_mk0)), rfl, bel.frame _, fun h => by cases h⟩

theorem over : Rows.fnExactCheckOfRow.holds Try.pinned (OpenSpec.ofChange Rows.fnExactCheckOfSpec) :=
  OpenClaim.holds_of_wide 10 Try.f10 rfl rfl rfl rfl rfl rfl rfl ⟨rfl, rfl, rfl, rfl, rfl⟩ rfl rfl rfl rfl rfl (by kernel_rfl) Try.func10 (by kernel_rfl)
    (of_decide_eq_true (by kernel_rfl)) (by unfold Func.isWrapper; first | (rw [if_pos (by decide +kernel)]; kernel_rfl) | (rw [if_neg (by decide +kernel)]; exact ⟨rfl, rfl⟩))
    (fun os started H enc _ => lifted os started H enc)

theorem proved : Rows.FnExactCheckOfSaid := over
end Go.Proofs.Ytodjokoaheoaeaa.checkOf
