/- Which tapes are valid: the conditions on one operation, by the reference and by the program. -/
import Derived.Test.YtcfnhkadljlgcaaOpS
import Derived.Test.YtcfnhkadljlgcaaValid
import Derived.Test.YtcfnhkadljlgcaaFin
import Derived.Test.YtcfnhkadljlgcaaBits
namespace Go.Proofs.Ytcfnhkadljlgcaa
open Go.RowKit Go.Fl Go.Reg
def sm (a b : Nat) : Bool := decide (cn .f32 a = cn .f32 b)
theorem sm_fin {a b : Nat} (na : isNaN .f32 a = false) (nb : isNaN .f32 b = false) : sm a b = decide (a = b) := by unfold sm; rw [cn_of_not na, cn_of_not nb]
theorem sm_l {a b : Nat} (na : isNaN .f32 a = true) (nb : isNaN .f32 b = false) : sm a b = false := by
  unfold sm; rw [cn_of_nan na, cn_of_not nb]
  exact decide_eq_false (fun h => by rw [← h, isNaN_qn] at nb; cases nb)
theorem sm_r {a b : Nat} (na : isNaN .f32 a = false) (nb : isNaN .f32 b = true) : sm a b = false := by
  unfold sm; rw [cn_of_not na, cn_of_nan nb]
  exact decide_eq_false (fun h => by rw [h, isNaN_qn] at na; cases na)
theorem sm_nan {a b : Nat} (na : isNaN .f32 a = true) (nb : isNaN .f32 b = true) : sm a b = true := by
  unfold sm; rw [cn_of_nan na, cn_of_nan nb]; exact decide_eq_true rfl
theorem sameS (a b : Nat) (w : World) (ha' : a < 4294967296) (hb' : b < 4294967296) : Calls Try.prog 22 #[.float .f32 a, .float .f32 b] w (BN w (sm a b)) := by
  cases na : isNaN .f32 a
  · cases nb : isNaN .f32 b
    · rw [sm_fin na nb]
      by_cases hab : a = b
      · subst hab
        rw [decide_eq_true rfl]
        go_enter Try.func22, Try.ntmps22
        go_wp2_with go_in
        go_ret
        exact ⟨rfl, Below.refl _ _⟩
      · rw [decide_eq_false hab]
        have g2 : ((a : Int) == b) = false := by simp; omega
        clear hab
        go_enter Try.func22, Try.ntmps22
        go_wp2_with go_in
        go_ret
        exact ⟨rfl, Below.refl _ _⟩
    · rw [sm_r na nb]
      have g2 : ((a : Int) == 2143289344) = false := by
        have := nan_le na
        simp; omega
      go_enter Try.func22, Try.ntmps22
      go_wp2_with go_in
      go_ret
      exact ⟨rfl, Below.refl _ _⟩
  · cases nb : isNaN .f32 b
    · rw [sm_l na nb]
      have g2 : ((2143289344 : Int) == b) = false := by
        have := nan_le nb
        simp; omega
      go_enter Try.func22, Try.ntmps22
      go_wp2_with go_in
      go_ret
      exact ⟨rfl, Below.refl _ _⟩
    · rw [sm_nan na nb]
      go_enter Try.func22, Try.ntmps22
      go_wp2_with go_in
      go_ret
      exact ⟨rfl, Below.refl _ _⟩
theorem sameI (a b : Nat) (w : World) (ha' : a < 4294967296) (hb' : b < 4294967296) : Calls Try.prog 28 #[.float .f32 a, .float .f32 b] w (BN w (sm a b)) := by
  cases na : isNaN .f32 a
  · cases nb : isNaN .f32 b
    · rw [sm_fin na nb]
      have h1 := fwid_of na
      have h2 := fwid_of nb
      have h3 := wdr_of na
      have h4 := wdr_of nb
      by_cases hab : a = b
      · subst hab
        rw [decide_eq_true rfl]
        have g := order_self na
        go_enter Try.func28, Try.ntmps28
        go_wp2_with go_in
        go_ret
        exact ⟨rfl, below_drewN (Below.refl _ _) 0⟩
      · rw [decide_eq_false hab]
        cases ho : (FloatKind.f32.format.order a b == some .eq)
        · clear hab
          go_enter Try.func28, Try.ntmps28
          go_wp2_with go_in
          go_ret
          exact ⟨rfl, below_drewN (Below.refl _ _) 0⟩
        · rcases order_eq (k := .f32) ha' hb' na nb (by simpa using ho) with h | ⟨za, zb⟩
          · exact absurd h hab
          · have : (a = 0 ∧ b = 2147483648) ∨ (a = 2147483648 ∧ b = 0) := by
              have za' : a % 2147483648 = 0 := za
              have zb' : b % 2147483648 = 0 := zb
              omega
            rcases this with ⟨rfl, rfl⟩ | ⟨rfl, rfl⟩
            all_goals
              have e0 : wid 0 = 0 := by decide +kernel
              have e1 : wid 2147483648 = 9223372036854775808 := by decide +kernel
              have ew : wrap64 9223372036854775808 < 0 := by decide +kernel
              clear hab za zb
              go_enter Try.func28, Try.ntmps28
              go_wp2_with go_in
              go_ret
              exact ⟨rfl, below_drewN (Below.refl _ _) 0⟩
    · rw [sm_r na nb]
      go_enter Try.func28, Try.ntmps28
      go_wp2_with go_in
      go_ret
      exact ⟨rfl, below_drewN (Below.refl _ _) 0⟩
  · cases nb : isNaN .f32 b
    · rw [sm_l na nb]
      go_enter Try.func28, Try.ntmps28
      go_wp2_with go_in
      go_ret
      exact ⟨rfl, below_drewN (Below.refl _ _) 0⟩
    · rw [sm_nan na nb]
      go_enter Try.func28, Try.ntmps28
      go_wp2_with go_in
      go_ret
      exact ⟨rfl, below_drewN (Below.refl _ _) 0⟩
/-- kinds that take two values -/
def tw (k : Int) : Bool := decide (k = 1) || decide (k = 2) || decide (k = 3) || decide (k = 4) || decide (k = 6)
theorem in10 {k : Int} (h : inr k 0 10 = true) : k = 0 ∨ k = 1 ∨ k = 2 ∨ k = 3 ∨ k = 4 ∨ k = 5 ∨ k = 6 ∨ k = 7 ∨ k = 8 ∨ k = 9 ∨ k = 10 := by
  unfold inr at h
  simp at h
  omega
theorem twS (k : Int) (w : World) (h : inr k 0 10 = true) : Calls Try.prog 25 #[.int .i64 k] w fun e w' => e = .returned (.bool (tw k)) ∧ w' = w := by
  rcases in10 h with rfl | rfl | rfl | rfl | rfl | rfl | rfl | rfl | rfl | rfl | rfl
  all_goals
    clear h
    go_enter Try.func25, Try.ntmps25
    go_wp2
    go_ret
    exact ⟨rfl, rfl⟩
theorem twI (k : Int) (w : World) (h : inr k 0 10 = true) : Calls Try.prog 30 #[.int .i64 k] w fun e w' => e = .returned (.bool (tw k)) ∧ w' = w := by
  rcases in10 h with rfl | rfl | rfl | rfl | rfl | rfl | rfl | rfl | rfl | rfl | rfl
  all_goals
    clear h
    go_enter Try.func30, Try.ntmps30
    go_wp2
    go_ret
    exact ⟨rfl, rfl⟩
/-- an empty tensor -/
def nn (r c : Int) (n : Nat) : Bool := decide (r = 0) && decide (c = 0) && decide (n = 0)
theorem noneS (r c : Int) (a : Option Addr) (n cap : Nat) (b o : Nat) (w : World) (h0 : w.cell? ⟨b, o, none⟩ = some (.int .i64 r)) (h1 : w.cell? ⟨b, o + 1, none⟩ = some (.int .i64 c)) (h2 : w.cell? ⟨b, o + 2, none⟩ = some (.slice a n cap)) :
    Calls Try.prog 24 #[.pointer (some ⟨b, o, none⟩)] w fun e w' => e = .returned (.bool (nn r c n)) ∧ w' = w := by
  by_cases e1 : r = 0
  · subst e1
    by_cases e2 : c = 0
    · subst e2
      rw [show nn 0 0 n = decide (n = 0) by unfold nn; simp]
      have e3 : decide ((n : Int) = 0) = decide (n = 0) := by rw [Bool.eq_iff_iff, decide_eq_true_iff, decide_eq_true_iff]; omega
      rw [← e3]
      clear e3
      go_enter Try.func24, Try.ntmps24
      go_wp2
      go_ret
      exact ⟨rfl, rfl⟩
    · rw [show nn 0 c n = false by unfold nn; simp [e2]]
      go_enter Try.func24, Try.ntmps24
      go_wp2
      go_ret
      exact ⟨rfl, rfl⟩
  · rw [show nn r c n = false by unfold nn; simp [e1]]
    go_enter Try.func24, Try.ntmps24
    go_wp2
    go_ret
    exact ⟨rfl, rfl⟩
/-- are an operation's fields as its kind needs them -/
def hdB (l : OD) (i : Int) : Bool := inr l.k 0 10 && (decide (l.k = 5) || sm l.z 0) && (if l.k = 0 then decide (l.a = 0) && decide (l.b = 0) && decide (vt l.r l.c l.xs.length) else nn l.r l.c l.xs.length && inr l.a 0 (i - 1) && (if tw l.k then inr l.b 0 (i - 1) else decide (l.b = 0)))
theorem ob_new {w w' : World} {l : OD} {a : Option Addr} {n cap : Nat} {t : TypeId} (h : w' = w.alloc (.cells #[.int .i64 l.k, .int .i64 l.a, .int .i64 l.b, .float .f32 l.z, .int .i64 l.r, .int .i64 l.c, .slice a n cap] t)) : Ob w' w.heap.size 0 l a n cap ∧ Below w.heap.size w w' ∧ w.heap.size < w'.heap.size ∧ w'.heap.size ≤ w.heap.size + 1 := by
  subst h
  have hl : w.heap.size < (w.alloc (.cells #[.int .i64 l.k, .int .i64 l.a, .int .i64 l.b, .float .f32 l.z, .int .i64 l.r, .int .i64 l.c, .slice a n cap] t)).heap.size := by simp
  refine ⟨⟨?_, ?_, ?_, ?_, ?_, ?_, ?_, hl⟩, (Below.refl _ _).alloc (Nat.le_refl _) _, hl, by simp⟩
  all_goals simp [go_sem]
theorem nn_yes {r c : Int} {n : Nat} (h : nn r c n = true) : r = 0 ∧ c = 0 ∧ n = 0 := by
  unfold nn at h; simp at h; exact ⟨h.1.1, h.1.2, h.2⟩
theorem nn_no {r c : Int} {n : Nat} (h : nn r c n = false) : ¬ r = 0 ∨ (r = 0 ∧ ¬ c = 0) ∨ (r = 0 ∧ c = 0 ∧ 0 < n) := by
  unfold nn at h; simp at h
  by_cases e : r = 0
  · by_cases e2 : c = 0
    · exact .inr (.inr ⟨e, e2, by have := h e e2; omega⟩)
    · exact .inr (.inl ⟨e, e2⟩)
  · exact .inl e
set_option maxHeartbeats 4000000 in
theorem fieldsI (l : OD) (p0 : Option Addr) (cap : Nat) (i : Int) (w : World) (hi : 0 ≤ i ∧ i ≤ 47) (hz : l.z < 4294967296) (hn : l.xs.length ≤ maxLen) :
    Calls Try.prog 17 #[ov l p0 l.xs.length cap, .int .i64 i] w (BN w (hdB l i)) := by
  unfold ov BN
  obtain ⟨k, a, b, z, r, c, xs⟩ := l
  have HD := Lib.hid (show hdB ⟨k, a, b, z, r, c, xs⟩ i = (inr k 0 10 && (decide (k = 5) || sm z 0) && (if k = 0 then decide (a = 0) && decide (b = 0) && decide (vt r c xs.length) else nn r c xs.length && inr a 0 (i - 1) && (if tw k then inr b 0 (i - 1) else decide (b = 0)))) from rfl)
  generalize hdB ⟨k, a, b, z, r, c, xs⟩ i = R at HD ⊢
  dsimp only at hz hn ⊢
  generalize xs.length = n at HD hn ⊢
  clear xs
  go_enter Try.func17, Try.ntmps17
  go_wp2_with fail
  refine calls_at ?_
  intro w1 hA
  obtain ⟨O_, T, z1, z2⟩ := ob_new (l := ⟨k, a, b, z, r, c, []⟩) hA
  clear hA
  have O := Lib.hid O_
  have hM := Lib.hid hn
  unfold maxLen at hn
  clear O_
  refine (inI _ _ _ _).mono ?_
  rintro e wx ⟨rfl, hsame⟩
  replace hsame := hsame.symm
  subst hsame
  cases hin : inr k 0 10
  · skip
    have HIN := Lib.hid hin
    clear hin
    go_wp2
    go_ret
    exact ⟨by rw [HD.out, HIN.out]; simp [], T⟩
  · skip
    have HIN := Lib.hid hin
    clear hin
    by_cases k5 : k = 5
    · skip
      subst k5
      cases hnn : nn r c n
      · skip
        rcases nn_no hnn with e | ⟨e, e2⟩ | ⟨e, e2, e3⟩
        · skip
          have HNN := Lib.hid hnn
          clear hnn
          obtain ⟨o0, o1, o2, o3, o4, o5, o6, o7⟩ := O.out
          dsimp only at o0 o1 o2 o3 o4 o5 o6
          go_wp2
          go_ret
          exact ⟨by rw [HD.out, HNN.out]; simp [], T⟩
        · skip
          have HNN := Lib.hid hnn
          clear hnn
          subst e
          obtain ⟨o0, o1, o2, o3, o4, o5, o6, o7⟩ := O.out
          dsimp only at o0 o1 o2 o3 o4 o5 o6
          go_wp2
          go_ret
          exact ⟨by rw [HD.out, HNN.out]; simp [], T⟩
        · skip
          have HNN := Lib.hid hnn
          clear hnn
          subst e
          subst e2
          obtain ⟨o0, o1, o2, o3, o4, o5, o6, o7⟩ := O.out
          dsimp only at o0 o1 o2 o3 o4 o5 o6
          go_wp2
          go_ret
          exact ⟨by rw [HD.out, HNN.out]; simp [], T⟩
      · skip
        obtain ⟨e, e2, e3⟩ := nn_yes hnn
        have HNN := Lib.hid hnn
        clear hnn
        subst e
        subst e2
        subst e3
        obtain ⟨o0, o1, o2, o3, o4, o5, o6, o7⟩ := O.out
        dsimp only at o0 o1 o2 o3 o4 o5 o6
        go_wp2_with fail
        clear o0 o1 o2 o3 o4 o5 o6 o7
        refine (inI _ _ _ _).mono ?_
        rintro e wx ⟨rfl, hsame⟩
        replace hsame := hsame.symm
        subst hsame
        cases ha : inr a 0 (i - 1)
        · skip
          have HA := Lib.hid ha
          clear ha
          go_wp2
          go_ret
          exact ⟨by rw [HD.out, HA.out]; simp [], T⟩
        · skip
          have HA := Lib.hid ha
          clear ha
          obtain ⟨o0, o1, o2, o3, o4, o5, o6, o7⟩ := O.out
          dsimp only at o0 o1 o2 o3 o4 o5 o6
          go_wp2_with fail
          clear o0 o1 o2 o3 o4 o5 o6 o7
          refine (twI _ _ HIN.out).mono ?_
          rintro e wx ⟨rfl, hsame⟩
          replace hsame := hsame.symm
          subst hsame
          have ht : tw 5 = false := by decide
          rw [ht]
          have HT := Lib.hid ht
          clear ht
          by_cases b0 : b = 0
          · skip
            subst b0
            obtain ⟨o0, o1, o2, o3, o4, o5, o6, o7⟩ := O.out
            dsimp only at o0 o1 o2 o3 o4 o5 o6
            go_wp2
            go_ret
            exact ⟨by rw [HD.out, HA.out, HT.out, HNN.out, HIN.out]; simp [], T⟩
          · skip
            obtain ⟨o0, o1, o2, o3, o4, o5, o6, o7⟩ := O.out
            dsimp only at o0 o1 o2 o3 o4 o5 o6
            go_wp2
            go_ret
            exact ⟨by rw [HD.out, HA.out, HT.out, HNN.out, HIN.out]; simp [b0], T⟩
    · skip
      obtain ⟨o0, o1, o2, o3, o4, o5, o6, o7⟩ := O.out
      dsimp only at o0 o1 o2 o3 o4 o5 o6
      go_wp2_with fail
      clear o0 o1 o2 o3 o4 o5 o6 o7
      refine (sameI _ _ _ hz (by omega)).mono ?_
      rintro e w2 ⟨rfl, A⟩
      have T := T.trans (A.mono T.size)
      have O := Lib.hid (O.out.below A)
      have z3 := A.size
      clear A
      cases hsm : sm z 0
      · skip
        have HSM := Lib.hid hsm
        clear hsm
        go_wp2
        go_ret
        exact ⟨by rw [HD.out, HSM.out]; simp [k5], T⟩
      · skip
        have HSM := Lib.hid hsm
        clear hsm
        by_cases k0 : k = 0
        · skip
          subst k0
          by_cases a0 : a = 0
          · skip
            subst a0
            by_cases b0 : b = 0
            · skip
              subst b0
              obtain ⟨o0, o1, o2, o3, o4, o5, o6, o7⟩ := O.out
              dsimp only at o0 o1 o2 o3 o4 o5 o6
              go_wp2_with fail
              clear o0 o1 o2 o3 o4 o5 o6 o7
              refine (validT r c _ n _ _ hM.out).mono ?_
              rintro e w3 ⟨rfl, A⟩
              have T := T.trans (A.mono T.size)
              clear A
              go_wp2
              go_ret
              exact ⟨by rw [HD.out, HSM.out, HIN.out]; simp [], T⟩
            · skip
              obtain ⟨o0, o1, o2, o3, o4, o5, o6, o7⟩ := O.out
              dsimp only at o0 o1 o2 o3 o4 o5 o6
              go_wp2
              go_ret
              exact ⟨by rw [HD.out]; simp [b0], T⟩
          · skip
            obtain ⟨o0, o1, o2, o3, o4, o5, o6, o7⟩ := O.out
            dsimp only at o0 o1 o2 o3 o4 o5 o6
            go_wp2
            go_ret
            exact ⟨by rw [HD.out]; simp [a0], T⟩
        · skip
          cases hnn : nn r c n
          · skip
            rcases nn_no hnn with e | ⟨e, e2⟩ | ⟨e, e2, e3⟩
            · skip
              have HNN := Lib.hid hnn
              clear hnn
              obtain ⟨o0, o1, o2, o3, o4, o5, o6, o7⟩ := O.out
              dsimp only at o0 o1 o2 o3 o4 o5 o6
              go_wp2
              go_ret
              exact ⟨by rw [HD.out, HNN.out]; simp [HSM.out, k5, k0], T⟩
            · skip
              have HNN := Lib.hid hnn
              clear hnn
              subst e
              obtain ⟨o0, o1, o2, o3, o4, o5, o6, o7⟩ := O.out
              dsimp only at o0 o1 o2 o3 o4 o5 o6
              go_wp2
              go_ret
              exact ⟨by rw [HD.out, HNN.out]; simp [HSM.out, k5, k0], T⟩
            · skip
              have HNN := Lib.hid hnn
              clear hnn
              subst e
              subst e2
              obtain ⟨o0, o1, o2, o3, o4, o5, o6, o7⟩ := O.out
              dsimp only at o0 o1 o2 o3 o4 o5 o6
              go_wp2
              go_ret
              exact ⟨by rw [HD.out, HNN.out]; simp [HSM.out, k5, k0], T⟩
          · skip
            obtain ⟨e, e2, e3⟩ := nn_yes hnn
            have HNN := Lib.hid hnn
            clear hnn
            subst e
            subst e2
            subst e3
            obtain ⟨o0, o1, o2, o3, o4, o5, o6, o7⟩ := O.out
            dsimp only at o0 o1 o2 o3 o4 o5 o6
            go_wp2_with fail
            clear o0 o1 o2 o3 o4 o5 o6 o7
            refine (inI _ _ _ _).mono ?_
            rintro e wx ⟨rfl, hsame⟩
            replace hsame := hsame.symm
            subst hsame
            cases ha : inr a 0 (i - 1)
            · skip
              have HA := Lib.hid ha
              clear ha
              go_wp2
              go_ret
              exact ⟨by rw [HD.out, HA.out]; simp [HSM.out, k5, k0], T⟩
            · skip
              have HA := Lib.hid ha
              clear ha
              obtain ⟨o0, o1, o2, o3, o4, o5, o6, o7⟩ := O.out
              dsimp only at o0 o1 o2 o3 o4 o5 o6
              go_wp2_with fail
              clear o0 o1 o2 o3 o4 o5 o6 o7
              refine (twI _ _ HIN.out).mono ?_
              rintro e wx ⟨rfl, hsame⟩
              replace hsame := hsame.symm
              subst hsame
              cases ht : tw k
              · skip
                have HT := Lib.hid ht
                clear ht
                by_cases b0 : b = 0
                · skip
                  subst b0
                  obtain ⟨o0, o1, o2, o3, o4, o5, o6, o7⟩ := O.out
                  dsimp only at o0 o1 o2 o3 o4 o5 o6
                  go_wp2
                  go_ret
                  exact ⟨by rw [HD.out, HA.out, HT.out, HNN.out, HIN.out]; simp [HSM.out, k5, k0], T⟩
                · skip
                  obtain ⟨o0, o1, o2, o3, o4, o5, o6, o7⟩ := O.out
                  dsimp only at o0 o1 o2 o3 o4 o5 o6
                  go_wp2
                  go_ret
                  exact ⟨by rw [HD.out, HA.out, HT.out, HNN.out, HIN.out]; simp [HSM.out, k5, k0, b0], T⟩
              · skip
                have HT := Lib.hid ht
                clear ht
                obtain ⟨o0, o1, o2, o3, o4, o5, o6, o7⟩ := O.out
                dsimp only at o0 o1 o2 o3 o4 o5 o6
                go_wp2_with fail
                clear o0 o1 o2 o3 o4 o5 o6 o7
                refine (inI _ _ _ _).mono ?_
                rintro e wx ⟨rfl, hsame⟩
                replace hsame := hsame.symm
                subst hsame
                go_wp2
                go_ret
                exact ⟨by rw [HD.out, HA.out, HT.out, HNN.out, HIN.out]; simp [HSM.out, k5, k0], T⟩
end Go.Proofs.Ytcfnhkadljlgcaa
