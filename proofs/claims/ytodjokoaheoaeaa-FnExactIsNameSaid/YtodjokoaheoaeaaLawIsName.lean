/- The law FnExactIsName holds for every input. No conditions. -/
import Derived.Test.YtodjokoaheoaeaaSame
import Derived.Test.YtodjokoaheoaeaaBits
import Derived.ProofKit
import Derived.OpenShut
import Derived.ChangeOld
import Derived.WalkSmall
import Derived.LoopTactic
namespace Go.Proofs.Ytodjokoaheoaeaa.isName
open Go.ChangeShapes Go.WideShapes Go.ChangeAt Go.RowKit Go.Fl
/-- all of some bytes are small letters -/
def low (s : List UInt8) : Bool := s.all fun c => decide (97 ≤ c.toNat) && decide (c.toNat ≤ 122)
def isName (s : ByteArray) : Bool := low s.data.toList && decide (1 ≤ s.size) && decide (s.size ≤ 8)
theorem name_bad (s : ByteArray) (k : Nat) (h : k < s.size) (hb : s[k].toNat < 97 ∨ 122 < s[k].toNat) : isName s = false := by
  have hl : low s.data.toList = false := by
    unfold low
    rw [List.all_eq_false]
    refine ⟨s[k], ?_, ?_⟩
    · have : s[k] = s.data.toList[k]'(by simpa using h) := rfl
      rw [this]; exact List.getElem_mem _
    · simp; omega
  simp [isName, hl]
theorem name_end (s : ByteArray) (h : ∀ k, (hk : k < s.size) → 97 ≤ s[k].toNat ∧ s[k].toNat ≤ 122) : isName s = (decide (1 ≤ s.size) && decide (s.size ≤ 8)) := by
  have hl : low s.data.toList = true := by
    unfold low
    rw [List.all_eq_true]
    intro c hc
    obtain ⟨k, hk, rfl⟩ := List.getElem_of_mem hc
    have hk' : k < s.size := by simpa using hk
    have := h k hk'
    have e : s.data.toList[k] = s[k] := rfl
    rw [e]; simp [this.1, this.2]
  simp [isName, hl]

theorem specName (s : ByteArray) (w : World) (hs : s.size ≤ 1048576) : Calls Try.prog 24 #[.string s] w fun e w' => e = .returned (.bool (isName s)) ∧ w' = w := by
  go_enter Try.func24, Try.ntmps24
  go_wp2
  go_loop [3] (fun i => ∃ k : Nat, k ≤ s.size ∧ i = .int .i64 k ∧ ∀ j, j < k → (hj : j < s.size) → 97 ≤ s[j].toNat ∧ s[j].toNat ≤ 122) (fun i => s.size - (intOf i).toNat)
  case atStart => exact ⟨0, Nat.zero_le _, rfl, fun j hj => absurd hj (Nat.not_lt_zero _)⟩
  case round =>
    obtain ⟨k, hk, rfl, hall⟩ := hrel
    have HA : Hid (∀ j, j < k → (hj : j < s.size) → 97 ≤ s[j].toNat ∧ s[j].toNat ≤ 122) := hall
    clear hall
    by_cases hlt : k < s.size
    · have hc : s[k].toNat < 256 := s[k].toNat_lt
      by_cases h1 : s[k].toNat < 97
      · go_wp2
        go_ret
        exact ⟨by rw [name_bad s k hlt (.inl h1)]; rfl, rfl⟩
      · by_cases h2 : 122 < s[k].toNat
        · go_wp2
          go_ret
          exact ⟨by rw [name_bad s k hlt (.inr h2)]; rfl, rfl⟩
        · go_wp2
          go_round
          case rel => exact ⟨k + 1, by omega, by go_num, fun j hj hjs => by
            rcases Nat.lt_succ_iff_lt_or_eq.1 hj with h | h
            · exact HA.out j h hjs
            · subst h; omega⟩
          case measure => simp [intOf]; omega
    · have HE := name_end s fun j hj => HA.out j (by omega) hj
      by_cases g1 : 1 ≤ s.size
      · have HT : Hid (isName s = decide ((s.size : Int) ≤ 8)) := by
          show isName s = _
          rw [HE]; simp [g1]; omega
        clear HE
        go_wp2
        go_ret
        exact ⟨by rw [HT.out]; rfl, rfl⟩
      · have HT : Hid (isName s = false) := by
          show isName s = _
          rw [HE]; simp [g1]
        clear HE
        go_wp2
        go_ret
        exact ⟨by rw [HT.out]; rfl, rfl⟩
theorem implName (s : ByteArray) (w : World) (hs : s.size ≤ 1048576) : Calls Try.prog 25 #[.string s] w fun e w' => e = .returned (.bool (isName s)) ∧ w' = w := by
  go_enter Try.func25, Try.ntmps25
  go_wp2
  go_loop [6] (fun i => ∃ k : Nat, k ≤ s.size ∧ i = .int .i64 k ∧ ∀ j, j < k → (hj : j < s.size) → 97 ≤ s[j].toNat ∧ s[j].toNat ≤ 122) (fun i => s.size - (intOf i).toNat)
  case atStart => exact ⟨0, Nat.zero_le _, rfl, fun j hj => absurd hj (Nat.not_lt_zero _)⟩
  case round =>
    obtain ⟨k, hk, rfl, hall⟩ := hrel
    have HA : Hid (∀ j, j < k → (hj : j < s.size) → 97 ≤ s[j].toNat ∧ s[j].toNat ≤ 122) := hall
    clear hall
    by_cases hlt : k < s.size
    · have hc : s[k].toNat < 256 := s[k].toNat_lt
      by_cases h1 : s[k].toNat < 97
      · go_wp2
        go_ret
        exact ⟨by rw [name_bad s k hlt (.inl h1)]; rfl, rfl⟩
      · by_cases h2 : 122 < s[k].toNat
        · go_wp2
          go_ret
          exact ⟨by rw [name_bad s k hlt (.inr h2)]; rfl, rfl⟩
        · go_wp2
          go_round
          case rel => exact ⟨k + 1, by omega, by go_num, fun j hj hjs => by
            rcases Nat.lt_succ_iff_lt_or_eq.1 hj with h | h
            · exact HA.out j h hjs
            · subst h; omega⟩
          case measure => simp [intOf]; omega
    · have HE := name_end s fun j hj => HA.out j (by omega) hj
      by_cases g1 : 1 ≤ s.size
      · have HT : Hid (isName s = decide ((s.size : Int) ≤ 8)) := by
          show isName s = _
          rw [HE]; simp [g1]; omega
        clear HE
        go_wp2
        go_ret
        exact ⟨by rw [HT.out]; rfl, rfl⟩
      · have HT : Hid (isName s = false) := by
          show isName s = _
          rw [HE]; simp [g1]
        clear HE
        go_wp2
        go_ret
        exact ⟨by rw [HT.out]; rfl, rfl⟩
theorem walk (s : ByteArray) (hs : s.size ≤ maxLen) (w : World) : Calls Try.prog 8 #[.string s] w fun e w' => e = .returned (.bool true) ∧ Below w.heap.size w w' := by
  unfold maxLen at hs
  by_cases hlen : 1048576 < s.size
  · go_enter Try.func8, Try.ntmps8
    go_wp2
    go_ret
    exact ⟨rfl, Below.refl _ _⟩
  · cases hn : isName s
    all_goals
      go_enter Try.func8, Try.ntmps8
      go_wp2_with (first | (go_at_call 24; refine (specName _ _ (by omega)).mono ?_; rintro e w1 ⟨rfl, rfl⟩) | (go_at_call 25; refine (implName _ _ (by omega)).mono ?_; rintro e w1 ⟨rfl, rfl⟩) | go_in)
      go_ret
      exact ⟨rfl, Below.refl _ _⟩
theorem own : ownKnob Try.prog.godebug = none := by kernel_rfl
theorem laidOut : laidOutB Try.prog = true := by kernel_rfl
set_option maxRecDepth 100000 in
theorem lifted (os : Os) (started : os.Started) (H : Type) (enc : TypeId × Value → H) :
    ReturnsInHanded {} Try.checked os 8 .any (Rows.fnExactIsNameSpec.pre6 enc Try.prog Try.f8 Rows.fnExactIsNameRow.domain false) (Rows.fnExactIsNameSpec.post enc Try.prog Try.f8 false true false false) := by
  refine returnsInHanded_of_change (C := Try.checked) own started (by kernel_rfl) Try.func8
    (ChangeSpec.witness6 (enc := enc) (C := Try.checked) false ⟨#[], #[.string ByteArray.empty], []⟩ 8 (by kernel_rfl) (by kernel_rfl) (by kernel_rfl) (by kernel_rfl)) ?_
  intro W base args ds gs before hval0 hW hcnd _
  have hval : ∀ (j : Nat) t v, Try.f8.params[j]? = some t → args[j]? = some v → Value.okWide Try.prog W .any base t v := hval0
  have hW' := hW
  obtain ⟨p, q, hA0, hV, rfl, hfz, hnd⟩ := hW
  have hA : DataW.TrodAll enc Try.prog W 0 (fun _ => true) true Try.f8.params.toList args.toList ds p := hA0
  rw [Try.params8] at hA hval
  obtain ⟨v0, vs0, d0, ds0, p0, q0, hargs, rfl, rfl, h0, r0⟩ := trodAll_cons hA
  obtain ⟨rfl, rfl, rfl⟩ := trodAll_nil r0
  obtain rfl : args = #[v0] := by cases args; simp_all
  obtain ⟨rfl, rfl⟩ := trodVars_none hV
  have k0 := h0
  have lt0 : ∀ x ∈ p0, x.block < W.heap.size := by obtain ⟨m, hm⟩ := k0; exact DataW.trod_lt m _ _ _ hm
  obtain ⟨a0, rfl, rfl, rfl, w0⟩ := Go.ChangeMaps.open_string Try.underlying9 (hval 0 9 v0 rfl rfl) h0
  clear hA0 hval0
  refine (walk a0 w0 W).mono fun e W' ⟨he, bel⟩ => ?_
  subst he
  exact ⟨_, rfl, _, _, _, [], _, [], hW', trodAll_mk1 (shut_bool Try.underlying4 _), (trodAll_cons_mk (Below.trod laidOut (by kernel_rfl) (of_decide_eq_true (by kernel_rfl)) k0 bel lt0) trodAll_mk0), rfl, bel.frame _, fun h => by cases h⟩

theorem over : Rows.fnExactIsNameRow.holds Try.pinned (OpenSpec.ofChange Rows.fnExactIsNameSpec) :=
  OpenClaim.holds_of_wide 8 Try.f8 rfl rfl rfl rfl rfl rfl rfl ⟨rfl, rfl, rfl, rfl, rfl⟩ rfl rfl rfl rfl rfl (by kernel_rfl) Try.func8 (by kernel_rfl)
    (of_decide_eq_true (by kernel_rfl)) (by unfold Func.isWrapper; first | (rw [if_pos (by decide +kernel)]; kernel_rfl) | (rw [if_neg (by decide +kernel)]; exact ⟨rfl, rfl⟩))
    (fun os started H enc _ => lifted os started H enc)

theorem proved : Rows.FnExactIsNameSaid := over
end Go.Proofs.Ytodjokoaheoaeaa.isName
