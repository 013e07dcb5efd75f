/- Which models are valid, by the reference and by the program. -/
import Derived.Test.YtclhemjanhhioaaLayS
namespace Go.Proofs.Ytclhemjanhhioaa
open Go.RowKit Go.Fl Go.Reg
def okA (L : List LD) (j : Nat) : Bool := lyD (lat L j) && (decide (j = 0) || decide ((lat L (j - 1)).u = (lat L j).i))
def mok (L : List LD) : Nat → Bool
  | 0 => true
  | j + 1 => mok L j && okA L j
theorem mok_no {L : List LD} {j n : Nat} (hj : j < n) (h : okA L j = false) : mok L n = false := by
  induction n with
  | zero => omega
  | succ n ih =>
    show (mok L n && okA L n) = false
    by_cases e : j = n
    · subst e; rw [h, Bool.and_false]
    · rw [ih (by omega), Bool.false_and]
theorem mok_yes {L : List LD} {j : Nat} (h1 : mok L j = true) (h2 : okA L j = true) : mok L (j + 1) = true := by show (mok L j && okA L j) = true; rw [h1, h2]; rfl
/-- a model is valid -/
def mv (L : List LD) (n : Nat) : Bool := (decide (1 ≤ n) && decide (n ≤ 6)) && mok L n
/-- a model in a cell -/
structure MB (w : World) (b : Nat) (a : Option Addr) (n cap : Nat) : Prop where
  c0 : w.cell? ⟨b, 0, none⟩ = some (.slice a n cap)
  lt : b < w.heap.size
theorem MB.below {w w' : World} {b : Nat} {a : Option Addr} {n cap : Nat} (h : MB w b a n cap) (hb : Below w.heap.size w w') : MB w' b a n cap := ⟨(hb.cell (p := ⟨b, 0, none⟩) h.lt).trans h.c0, Nat.lt_of_lt_of_le h.lt hb.size⟩
theorem mb_new {w w' : World} {a : Option Addr} {n cap : Nat} {t : TypeId} (h : w' = w.alloc (.cells #[.slice a n cap] t)) : MB w' w.heap.size a n cap ∧ Below w.heap.size w w' ∧ w.heap.size < w'.heap.size ∧ w'.heap.size ≤ w.heap.size + 1 := by
  subst h
  have hl : w.heap.size < (w.alloc (.cells #[.slice a n cap] t)).heap.size := by simp
  exact ⟨⟨by simp [go_sem], hl⟩, (Below.refl _ _).alloc (Nat.le_refl _) _, hl, by simp⟩
theorem okA_0 {L : List LD} (h : lyD (lat L 0) = true) : okA L 0 = true := by unfold okA; rw [h]; rfl
theorem okA_ly {L : List LD} {j : Nat} (h : lyD (lat L j) = false) : okA L j = false := by unfold okA; rw [h]; rfl
theorem okA_s {L : List LD} {p : Nat} (h : lyD (lat L (p + 1)) = true) (h2 : (lat L p).u = (lat L (p + 1)).i) : okA L (p + 1) = true := by unfold okA; rw [h, Nat.add_sub_cancel, decide_eq_true h2]; simp
theorem okA_n {L : List LD} {p : Nat} (h2 : ¬ (lat L p).u = (lat L (p + 1)).i) : okA L (p + 1) = false := by unfold okA; rw [Nat.add_sub_cancel, decide_eq_false h2]; simp
set_option maxHeartbeats 2000000 in
theorem isM (a : Option Addr) (n cap b0 : Nat) (L : List LD) (w : World) (h : Ls w a n cap L) (hm : MB w b0 a n cap) :
    Calls Try.prog 38 #[.pointer (some ⟨b0, 0, none⟩)] w fun e w' => e = .returned (.bool (mv L n)) ∧ Below w.heap.size w w' := by
  have hc1 := h.cap1
  have hc2 := h.cap2
  unfold maxLen at hc2
  have H := Lib.hid h
  have HM := Lib.hid hm
  obtain ⟨m0, m1⟩ := hm
  clear h
  by_cases hb1 : n < 1
  · rw [show mv L n = false by unfold mv; rw [decide_eq_false (by omega)]; rfl]
    go_enter Try.func38, Try.ntmps38
    go_wp2
    go_ret
    exact ⟨rfl, Below.refl _ _⟩
  · by_cases hb6 : 6 < n
    · rw [show mv L n = false by unfold mv; rw [decide_eq_false (show ¬ n ≤ 6 by omega)]; simp]
      go_enter Try.func38, Try.ntmps38
      go_wp2
      go_ret
      exact ⟨rfl, Below.refl _ _⟩
    · rw [show mv L n = mok L n by unfold mv; rw [decide_eq_true (show n ≤ 6 by omega), decide_eq_true (show 1 ≤ n by omega)]; rfl]
      go_enter Try.func38, Try.ntmps38
      go_wp2
      clear m0
      go_loopw [4] (fun i w' => ∃ j : Nat, j ≤ n ∧ i = .int .i64 j ∧ Hid (mok L j = true) ∧ Hid (Below w.heap.size w w')) (fun i _ => n - (intOf i).toNat)
      case atStart => exact ⟨0, Nat.zero_le _, rfl, rfl, Below.refl _ _⟩
      case round =>
        obtain ⟨j, hj, rfl, hmk, hB⟩ := hrel
        by_cases hlt : j < n
        · have HMB := Lib.hid (HM.out.below hB.out)
          obtain ⟨b, o, rfl, a1, c1, a2, c2, Q, F1, F2⟩ := (H.out.below hB.out).cell j hlt
          have HQ := Lib.hid Q
          have X1 := Lib.hid (Nat.le_trans F1.cap1 F1.cap2)
          have X2 := Lib.hid (Nat.le_trans F2.cap1 F2.cap2)
          clear F1 F2 Q
          cases hly : lyD (lat L j)
          · skip
            have HLY := Lib.hid hly
            have HLY2 := Lib.hid (show ly (lat L j).k (lat L j).i (lat L j).u (lat L j).xs.length (lat L j).ys.length = false from hly)
            clear hly
            go_wp2_with fail
            refine wp_bl 31 [0, 0, 0, 0, 0, 0, 2, 0, 0, 0, 0, 0, 0, 0, 0, 0, 0, 0, 0, 0, 0, 0, 0, 0, 0, 0, 0, 0, 0, 0, 0, 0] (by kernel_rfl) (by kernel_rfl) ?_
            simp only [List.take_succ_cons, List.take_zero, List.drop_succ_cons, List.drop_zero]
            with_reducible refine bl_step ?_
            intro K hK
            go_simp
            first
              | (refine hK _ _ ?_)
              | (refine ⟨?_, fun w' hw' => ?_, hK _ _ ?_⟩
                 rotate_left
                 · obtain ⟨q0, q1, q2, q3, q4, q5⟩ := HQ.out.below hw'
                   obtain ⟨m0, m1⟩ := HMB.out.below hw'
                   go_simp
                   rfl
                 go_simp)
            clear hK K
            with_reducible refine bl_step ?_
            intro K hK
            go_simp
            first
              | (refine hK _ _ ?_)
              | (refine ⟨?_, fun w' hw' => ?_, hK _ _ ?_⟩
                 rotate_left
                 · obtain ⟨q0, q1, q2, q3, q4, q5⟩ := HQ.out.below hw'
                   obtain ⟨m0, m1⟩ := HMB.out.below hw'
                   go_simp
                   rfl
                 go_simp)
            clear hK K
            with_reducible refine bl_step ?_
            intro K hK
            go_simp
            first
              | (refine hK _ _ ?_)
              | (refine ⟨?_, fun w' hw' => ?_, hK _ _ ?_⟩
                 rotate_left
                 · obtain ⟨q0, q1, q2, q3, q4, q5⟩ := HQ.out.below hw'
                   obtain ⟨m0, m1⟩ := HMB.out.below hw'
                   go_simp
                   rfl
                 go_simp)
            clear hK K
            with_reducible refine bl_step ?_
            intro K hK
            go_simp
            first
              | (refine hK _ _ ?_)
              | (refine ⟨?_, fun w' hw' => ?_, hK _ _ ?_⟩
                 rotate_left
                 · obtain ⟨q0, q1, q2, q3, q4, q5⟩ := HQ.out.below hw'
                   obtain ⟨m0, m1⟩ := HMB.out.below hw'
                   go_simp
                   rfl
                 go_simp)
            clear hK K
            with_reducible refine bl_step ?_
            intro K hK
            go_simp
            first
              | (refine hK _ _ ?_)
              | (refine ⟨?_, fun w' hw' => ?_, hK _ _ ?_⟩
                 rotate_left
                 · obtain ⟨q0, q1, q2, q3, q4, q5⟩ := HQ.out.below hw'
                   obtain ⟨m0, m1⟩ := HMB.out.below hw'
                   go_simp
                   rfl
                 go_simp)
            clear hK K
            with_reducible refine bl_step ?_
            intro K hK
            go_simp
            first
              | (refine hK _ _ ?_)
              | (refine ⟨?_, fun w' hw' => ?_, hK _ _ ?_⟩
                 rotate_left
                 · obtain ⟨q0, q1, q2, q3, q4, q5⟩ := HQ.out.below hw'
                   obtain ⟨m0, m1⟩ := HMB.out.below hw'
                   go_simp
                   rfl
                 go_simp)
            clear hK K
            with_reducible refine bl_step ?_
            intro K hK
            go_simp
            intro _
            refine (layS _ _ _ _ _ _ _ _ _ _ _ _ X1.out X2.out (HQ.out.below (bdrew (Below.refl _ _) _))).mono ?_
            rintro e w8 ⟨rfl, q, hw8⟩
            have A := Lib.hid ((bdrew (Below.refl _ _) _).trans (below_of_drew hw8))
            clear hw8
            rw [HLY2.out]
            refine ⟨_, rfl, A.out, hK _ _ ?_⟩
            clear hK K
            with_reducible refine bl_step ?_
            intro K hK
            go_simp
            first
              | (refine hK _ _ ?_)
              | (refine ⟨?_, fun w' hw' => ?_, hK _ _ ?_⟩
                 rotate_left
                 · obtain ⟨q0, q1, q2, q3, q4, q5⟩ := HQ.out.below hw'
                   obtain ⟨m0, m1⟩ := HMB.out.below hw'
                   go_simp
                   rfl
                 go_simp)
            clear hK K
            with_reducible refine bl_step ?_
            intro K hK
            go_simp
            first
              | (refine hK _ _ ?_)
              | (refine ⟨?_, fun w' hw' => ?_, hK _ _ ?_⟩
                 rotate_left
                 · obtain ⟨q0, q1, q2, q3, q4, q5⟩ := HQ.out.below hw'
                   obtain ⟨m0, m1⟩ := HMB.out.below hw'
                   go_simp
                   rfl
                 go_simp)
            clear hK K
            with_reducible refine bl_step ?_
            intro K hK
            go_simp
            first
              | (refine hK _ _ ?_)
              | (refine ⟨?_, fun w' hw' => ?_, hK _ _ ?_⟩
                 rotate_left
                 · obtain ⟨q0, q1, q2, q3, q4, q5⟩ := HQ.out.below hw'
                   obtain ⟨m0, m1⟩ := HMB.out.below hw'
                   go_simp
                   rfl
                 go_simp)
            clear hK K
            with_reducible refine bl_step ?_
            intro K hK
            go_simp
            first
              | (refine hK _ _ ?_)
              | (refine ⟨?_, fun w' hw' => ?_, hK _ _ ?_⟩
                 rotate_left
                 · obtain ⟨q0, q1, q2, q3, q4, q5⟩ := HQ.out.below hw'
                   obtain ⟨m0, m1⟩ := HMB.out.below hw'
                   go_simp
                   rfl
                 go_simp)
            clear hK K
            with_reducible refine bl_step ?_
            intro K hK
            go_simp
            first
              | (refine hK _ _ ?_)
              | (refine ⟨?_, fun w' hw' => ?_, hK _ _ ?_⟩
                 rotate_left
                 · obtain ⟨q0, q1, q2, q3, q4, q5⟩ := HQ.out.below hw'
                   obtain ⟨m0, m1⟩ := HMB.out.below hw'
                   go_simp
                   rfl
                 go_simp)
            clear hK K
            with_reducible refine bl_step ?_
            intro K hK
            go_simp
            first
              | (refine hK _ _ ?_)
              | (refine ⟨?_, fun w' hw' => ?_, hK _ _ ?_⟩
                 rotate_left
                 · obtain ⟨q0, q1, q2, q3, q4, q5⟩ := HQ.out.below hw'
                   obtain ⟨m0, m1⟩ := HMB.out.below hw'
                   go_simp
                   rfl
                 go_simp)
            clear hK K
            with_reducible refine bl_step ?_
            intro K hK
            go_simp
            first
              | (refine hK _ _ ?_)
              | (refine ⟨?_, fun w' hw' => ?_, hK _ _ ?_⟩
                 rotate_left
                 · obtain ⟨q0, q1, q2, q3, q4, q5⟩ := HQ.out.below hw'
                   obtain ⟨m0, m1⟩ := HMB.out.below hw'
                   go_simp
                   rfl
                 go_simp)
            clear hK K
            with_reducible refine bl_step ?_
            intro K hK
            go_simp
            first
              | (refine hK _ _ ?_)
              | (refine ⟨?_, fun w' hw' => ?_, hK _ _ ?_⟩
                 rotate_left
                 · obtain ⟨q0, q1, q2, q3, q4, q5⟩ := HQ.out.below hw'
                   obtain ⟨m0, m1⟩ := HMB.out.below hw'
                   go_simp
                   rfl
                 go_simp)
            clear hK K
            with_reducible refine bl_step ?_
            intro K hK
            go_simp
            first
              | (refine hK _ _ ?_)
              | (refine ⟨?_, fun w' hw' => ?_, hK _ _ ?_⟩
                 rotate_left
                 · obtain ⟨q0, q1, q2, q3, q4, q5⟩ := HQ.out.below hw'
                   obtain ⟨m0, m1⟩ := HMB.out.below hw'
                   go_simp
                   rfl
                 go_simp)
            clear hK K
            with_reducible refine bl_step ?_
            intro K hK
            go_simp
            first
              | (refine hK _ _ ?_)
              | (refine ⟨?_, fun w' hw' => ?_, hK _ _ ?_⟩
                 rotate_left
                 · obtain ⟨q0, q1, q2, q3, q4, q5⟩ := HQ.out.below hw'
                   obtain ⟨m0, m1⟩ := HMB.out.below hw'
                   go_simp
                   rfl
                 go_simp)
            clear hK K
            with_reducible refine bl_step ?_
            intro K hK
            go_simp
            first
              | (refine hK _ _ ?_)
              | (refine ⟨?_, fun w' hw' => ?_, hK _ _ ?_⟩
                 rotate_left
                 · obtain ⟨q0, q1, q2, q3, q4, q5⟩ := HQ.out.below hw'
                   obtain ⟨m0, m1⟩ := HMB.out.below hw'
                   go_simp
                   rfl
                 go_simp)
            clear hK K
            with_reducible refine bl_step ?_
            intro K hK
            go_simp
            first
              | (refine hK _ _ ?_)
              | (refine ⟨?_, fun w' hw' => ?_, hK _ _ ?_⟩
                 rotate_left
                 · obtain ⟨q0, q1, q2, q3, q4, q5⟩ := HQ.out.below hw'
                   obtain ⟨m0, m1⟩ := HMB.out.below hw'
                   go_simp
                   rfl
                 go_simp)
            clear hK K
            with_reducible refine bl_step ?_
            intro K hK
            go_simp
            first
              | (refine hK _ _ ?_)
              | (refine ⟨?_, fun w' hw' => ?_, hK _ _ ?_⟩
                 rotate_left
                 · obtain ⟨q0, q1, q2, q3, q4, q5⟩ := HQ.out.below hw'
                   obtain ⟨m0, m1⟩ := HMB.out.below hw'
                   go_simp
                   rfl
                 go_simp)
            clear hK K
            with_reducible refine bl_step ?_
            intro K hK
            go_simp
            first
              | (refine hK _ _ ?_)
              | (refine ⟨?_, fun w' hw' => ?_, hK _ _ ?_⟩
                 rotate_left
                 · obtain ⟨q0, q1, q2, q3, q4, q5⟩ := HQ.out.below hw'
                   obtain ⟨m0, m1⟩ := HMB.out.below hw'
                   go_simp
                   rfl
                 go_simp)
            clear hK K
            with_reducible refine bl_step ?_
            intro K hK
            go_simp
            first
              | (refine hK _ _ ?_)
              | (refine ⟨?_, fun w' hw' => ?_, hK _ _ ?_⟩
                 rotate_left
                 · obtain ⟨q0, q1, q2, q3, q4, q5⟩ := HQ.out.below hw'
                   obtain ⟨m0, m1⟩ := HMB.out.below hw'
                   go_simp
                   rfl
                 go_simp)
            clear hK K
            with_reducible refine bl_step ?_
            intro K hK
            go_simp
            first
              | (refine hK _ _ ?_)
              | (refine ⟨?_, fun w' hw' => ?_, hK _ _ ?_⟩
                 rotate_left
                 · obtain ⟨q0, q1, q2, q3, q4, q5⟩ := HQ.out.below hw'
                   obtain ⟨m0, m1⟩ := HMB.out.below hw'
                   go_simp
                   rfl
                 go_simp)
            clear hK K
            with_reducible refine bl_step ?_
            intro K hK
            go_simp
            first
              | (refine hK _ _ ?_)
              | (refine ⟨?_, fun w' hw' => ?_, hK _ _ ?_⟩
                 rotate_left
                 · obtain ⟨q0, q1, q2, q3, q4, q5⟩ := HQ.out.below hw'
                   obtain ⟨m0, m1⟩ := HMB.out.below hw'
                   go_simp
                   rfl
                 go_simp)
            clear hK K
            with_reducible refine bl_step ?_
            intro K hK
            go_simp
            first
              | (refine hK _ _ ?_)
              | (refine ⟨?_, fun w' hw' => ?_, hK _ _ ?_⟩
                 rotate_left
                 · obtain ⟨q0, q1, q2, q3, q4, q5⟩ := HQ.out.below hw'
                   obtain ⟨m0, m1⟩ := HMB.out.below hw'
                   go_simp
                   rfl
                 go_simp)
            clear hK K
            with_reducible refine bl_step ?_
            intro K hK
            go_simp
            first
              | (refine hK _ _ ?_)
              | (refine ⟨?_, fun w' hw' => ?_, hK _ _ ?_⟩
                 rotate_left
                 · obtain ⟨q0, q1, q2, q3, q4, q5⟩ := HQ.out.below hw'
                   obtain ⟨m0, m1⟩ := HMB.out.below hw'
                   go_simp
                   rfl
                 go_simp)
            clear hK K
            with_reducible refine bl_step ?_
            intro K hK
            go_simp
            first
              | (refine hK _ _ ?_)
              | (refine ⟨?_, fun w' hw' => ?_, hK _ _ ?_⟩
                 rotate_left
                 · obtain ⟨q0, q1, q2, q3, q4, q5⟩ := HQ.out.below hw'
                   obtain ⟨m0, m1⟩ := HMB.out.below hw'
                   go_simp
                   rfl
                 go_simp)
            clear hK K
            with_reducible refine bl_step ?_
            intro K hK
            go_simp
            first
              | (refine hK _ _ ?_)
              | (refine ⟨?_, fun w' hw' => ?_, hK _ _ ?_⟩
                 rotate_left
                 · obtain ⟨q0, q1, q2, q3, q4, q5⟩ := HQ.out.below hw'
                   obtain ⟨m0, m1⟩ := HMB.out.below hw'
                   go_simp
                   rfl
                 go_simp)
            clear hK K
            with_reducible refine bl_step ?_
            intro K hK
            go_simp
            first
              | (refine hK _ _ ?_)
              | (refine ⟨?_, fun w' hw' => ?_, hK _ _ ?_⟩
                 rotate_left
                 · obtain ⟨q0, q1, q2, q3, q4, q5⟩ := HQ.out.below hw'
                   obtain ⟨m0, m1⟩ := HMB.out.below hw'
                   go_simp
                   rfl
                 go_simp)
            clear hK K
            with_reducible refine bl_step ?_
            intro K hK
            go_simp
            first
              | (refine hK _ _ ?_)
              | (refine ⟨?_, fun w' hw' => ?_, hK _ _ ?_⟩
                 rotate_left
                 · obtain ⟨q0, q1, q2, q3, q4, q5⟩ := HQ.out.below hw'
                   obtain ⟨m0, m1⟩ := HMB.out.below hw'
                   go_simp
                   rfl
                 go_simp)
            clear hK K
            with_reducible refine bl_step ?_
            intro K hK
            go_simp
            first
              | (refine hK _ _ ?_)
              | (refine ⟨?_, fun w' hw' => ?_, hK _ _ ?_⟩
                 rotate_left
                 · obtain ⟨q0, q1, q2, q3, q4, q5⟩ := HQ.out.below hw'
                   obtain ⟨m0, m1⟩ := HMB.out.below hw'
                   go_simp
                   rfl
                 go_simp)
            clear hK K
            with_reducible refine wpR_nil (fun nq => ?_)
            go_wp2
            go_ret
            exact ⟨by rw [mok_no hlt (okA_ly HLY.out)]; rfl, hB.out.trans ((bdrew A.out _).mono hB.out.size)⟩
          · cases j with
            | zero =>
              have HLY := Lib.hid hly
              have HLY2 := Lib.hid (show ly (lat L 0).k (lat L 0).i (lat L 0).u (lat L 0).xs.length (lat L 0).ys.length = true from hly)
              clear hly
              go_wp2_with fail
              refine wp_bl 31 [0, 0, 0, 0, 0, 0, 2, 0, 0, 0, 0, 0, 0, 0, 0, 0, 0, 0, 0, 0, 0, 0, 0, 0, 0, 0, 0, 0, 0, 0, 0, 0] (by kernel_rfl) (by kernel_rfl) ?_
              simp only [List.take_succ_cons, List.take_zero, List.drop_succ_cons, List.drop_zero]
              with_reducible refine bl_step ?_
              intro K hK
              go_simp
              first
                | (refine hK _ _ ?_)
                | (refine ⟨?_, fun w' hw' => ?_, hK _ _ ?_⟩
                   rotate_left
                   · obtain ⟨q0, q1, q2, q3, q4, q5⟩ := HQ.out.below hw'
                     obtain ⟨m0, m1⟩ := HMB.out.below hw'
                     go_simp
                     rfl
                   go_simp)
              clear hK K
              with_reducible refine bl_step ?_
              intro K hK
              go_simp
              first
                | (refine hK _ _ ?_)
                | (refine ⟨?_, fun w' hw' => ?_, hK _ _ ?_⟩
                   rotate_left
                   · obtain ⟨q0, q1, q2, q3, q4, q5⟩ := HQ.out.below hw'
                     obtain ⟨m0, m1⟩ := HMB.out.below hw'
                     go_simp
                     rfl
                   go_simp)
              clear hK K
              with_reducible refine bl_step ?_
              intro K hK
              go_simp
              first
                | (refine hK _ _ ?_)
                | (refine ⟨?_, fun w' hw' => ?_, hK _ _ ?_⟩
                   rotate_left
                   · obtain ⟨q0, q1, q2, q3, q4, q5⟩ := HQ.out.below hw'
                     obtain ⟨m0, m1⟩ := HMB.out.below hw'
                     go_simp
                     rfl
                   go_simp)
              clear hK K
              with_reducible refine bl_step ?_
              intro K hK
              go_simp
              first
                | (refine hK _ _ ?_)
                | (refine ⟨?_, fun w' hw' => ?_, hK _ _ ?_⟩
                   rotate_left
                   · obtain ⟨q0, q1, q2, q3, q4, q5⟩ := HQ.out.below hw'
                     obtain ⟨m0, m1⟩ := HMB.out.below hw'
                     go_simp
                     rfl
                   go_simp)
              clear hK K
              with_reducible refine bl_step ?_
              intro K hK
              go_simp
              first
                | (refine hK _ _ ?_)
                | (refine ⟨?_, fun w' hw' => ?_, hK _ _ ?_⟩
                   rotate_left
                   · obtain ⟨q0, q1, q2, q3, q4, q5⟩ := HQ.out.below hw'
                     obtain ⟨m0, m1⟩ := HMB.out.below hw'
                     go_simp
                     rfl
                   go_simp)
              clear hK K
              with_reducible refine bl_step ?_
              intro K hK
              go_simp
              first
                | (refine hK _ _ ?_)
                | (refine ⟨?_, fun w' hw' => ?_, hK _ _ ?_⟩
                   rotate_left
                   · obtain ⟨q0, q1, q2, q3, q4, q5⟩ := HQ.out.below hw'
                     obtain ⟨m0, m1⟩ := HMB.out.below hw'
                     go_simp
                     rfl
                   go_simp)
              clear hK K
              with_reducible refine bl_step ?_
              intro K hK
              go_simp
              intro _
              refine (layS _ _ _ _ _ _ _ _ _ _ _ _ X1.out X2.out (HQ.out.below (bdrew (Below.refl _ _) _))).mono ?_
              rintro e w8 ⟨rfl, q, hw8⟩
              have A := Lib.hid ((bdrew (Below.refl _ _) _).trans (below_of_drew hw8))
              clear hw8
              rw [HLY2.out]
              refine ⟨_, rfl, A.out, hK _ _ ?_⟩
              clear hK K
              with_reducible refine bl_step ?_
              intro K hK
              go_simp
              first
                | (refine hK _ _ ?_)
                | (refine ⟨?_, fun w' hw' => ?_, hK _ _ ?_⟩
                   rotate_left
                   · obtain ⟨q0, q1, q2, q3, q4, q5⟩ := HQ.out.below hw'
                     obtain ⟨m0, m1⟩ := HMB.out.below hw'
                     go_simp
                     rfl
                   go_simp)
              clear hK K
              with_reducible refine bl_step ?_
              intro K hK
              go_simp
              first
                | (refine hK _ _ ?_)
                | (refine ⟨?_, fun w' hw' => ?_, hK _ _ ?_⟩
                   rotate_left
                   · obtain ⟨q0, q1, q2, q3, q4, q5⟩ := HQ.out.below hw'
                     obtain ⟨m0, m1⟩ := HMB.out.below hw'
                     go_simp
                     rfl
                   go_simp)
              clear hK K
              with_reducible refine bl_step ?_
              intro K hK
              go_simp
              first
                | (refine hK _ _ ?_)
                | (refine ⟨?_, fun w' hw' => ?_, hK _ _ ?_⟩
                   rotate_left
                   · obtain ⟨q0, q1, q2, q3, q4, q5⟩ := HQ.out.below hw'
                     obtain ⟨m0, m1⟩ := HMB.out.below hw'
                     go_simp
                     rfl
                   go_simp)
              clear hK K
              with_reducible refine bl_step ?_
              intro K hK
              go_simp
              first
                | (refine hK _ _ ?_)
                | (refine ⟨?_, fun w' hw' => ?_, hK _ _ ?_⟩
                   rotate_left
                   · obtain ⟨q0, q1, q2, q3, q4, q5⟩ := HQ.out.below hw'
                     obtain ⟨m0, m1⟩ := HMB.out.below hw'
                     go_simp
                     rfl
                   go_simp)
              clear hK K
              with_reducible refine bl_step ?_
              intro K hK
              go_simp
              first
                | (refine hK _ _ ?_)
                | (refine ⟨?_, fun w' hw' => ?_, hK _ _ ?_⟩
                   rotate_left
                   · obtain ⟨q0, q1, q2, q3, q4, q5⟩ := HQ.out.below hw'
                     obtain ⟨m0, m1⟩ := HMB.out.below hw'
                     go_simp
                     rfl
                   go_simp)
              clear hK K
              with_reducible refine bl_step ?_
              intro K hK
              go_simp
              first
                | (refine hK _ _ ?_)
                | (refine ⟨?_, fun w' hw' => ?_, hK _ _ ?_⟩
                   rotate_left
                   · obtain ⟨q0, q1, q2, q3, q4, q5⟩ := HQ.out.below hw'
                     obtain ⟨m0, m1⟩ := HMB.out.below hw'
                     go_simp
                     rfl
                   go_simp)
              clear hK K
              with_reducible refine bl_step ?_
              intro K hK
              go_simp
              first
                | (refine hK _ _ ?_)
                | (refine ⟨?_, fun w' hw' => ?_, hK _ _ ?_⟩
                   rotate_left
                   · obtain ⟨q0, q1, q2, q3, q4, q5⟩ := HQ.out.below hw'
                     obtain ⟨m0, m1⟩ := HMB.out.below hw'
                     go_simp
                     rfl
                   go_simp)
              clear hK K
              with_reducible refine bl_step ?_
              intro K hK
              go_simp
              first
                | (refine hK _ _ ?_)
                | (refine ⟨?_, fun w' hw' => ?_, hK _ _ ?_⟩
                   rotate_left
                   · obtain ⟨q0, q1, q2, q3, q4, q5⟩ := HQ.out.below hw'
                     obtain ⟨m0, m1⟩ := HMB.out.below hw'
                     go_simp
                     rfl
                   go_simp)
              clear hK K
              with_reducible refine bl_step ?_
              intro K hK
              go_simp
              first
                | (refine hK _ _ ?_)
                | (refine ⟨?_, fun w' hw' => ?_, hK _ _ ?_⟩
                   rotate_left
                   · obtain ⟨q0, q1, q2, q3, q4, q5⟩ := HQ.out.below hw'
                     obtain ⟨m0, m1⟩ := HMB.out.below hw'
                     go_simp
                     rfl
                   go_simp)
              clear hK K
              with_reducible refine bl_step ?_
              intro K hK
              go_simp
              first
                | (refine hK _ _ ?_)
                | (refine ⟨?_, fun w' hw' => ?_, hK _ _ ?_⟩
                   rotate_left
                   · obtain ⟨q0, q1, q2, q3, q4, q5⟩ := HQ.out.below hw'
                     obtain ⟨m0, m1⟩ := HMB.out.below hw'
                     go_simp
                     rfl
                   go_simp)
              clear hK K
              with_reducible refine bl_step ?_
              intro K hK
              go_simp
              first
                | (refine hK _ _ ?_)
                | (refine ⟨?_, fun w' hw' => ?_, hK _ _ ?_⟩
                   rotate_left
                   · obtain ⟨q0, q1, q2, q3, q4, q5⟩ := HQ.out.below hw'
                     obtain ⟨m0, m1⟩ := HMB.out.below hw'
                     go_simp
                     rfl
                   go_simp)
              clear hK K
              with_reducible refine bl_step ?_
              intro K hK
              go_simp
              first
                | (refine hK _ _ ?_)
                | (refine ⟨?_, fun w' hw' => ?_, hK _ _ ?_⟩
                   rotate_left
                   · obtain ⟨q0, q1, q2, q3, q4, q5⟩ := HQ.out.below hw'
                     obtain ⟨m0, m1⟩ := HMB.out.below hw'
                     go_simp
                     rfl
                   go_simp)
              clear hK K
              with_reducible refine bl_step ?_
              intro K hK
              go_simp
              first
                | (refine hK _ _ ?_)
                | (refine ⟨?_, fun w' hw' => ?_, hK _ _ ?_⟩
                   rotate_left
                   · obtain ⟨q0, q1, q2, q3, q4, q5⟩ := HQ.out.below hw'
                     obtain ⟨m0, m1⟩ := HMB.out.below hw'
                     go_simp
                     rfl
                   go_simp)
              clear hK K
              with_reducible refine bl_step ?_
              intro K hK
              go_simp
              first
                | (refine hK _ _ ?_)
                | (refine ⟨?_, fun w' hw' => ?_, hK _ _ ?_⟩
                   rotate_left
                   · obtain ⟨q0, q1, q2, q3, q4, q5⟩ := HQ.out.below hw'
                     obtain ⟨m0, m1⟩ := HMB.out.below hw'
                     go_simp
                     rfl
                   go_simp)
              clear hK K
              with_reducible refine bl_step ?_
              intro K hK
              go_simp
              first
                | (refine hK _ _ ?_)
                | (refine ⟨?_, fun w' hw' => ?_, hK _ _ ?_⟩
                   rotate_left
                   · obtain ⟨q0, q1, q2, q3, q4, q5⟩ := HQ.out.below hw'
                     obtain ⟨m0, m1⟩ := HMB.out.below hw'
                     go_simp
                     rfl
                   go_simp)
              clear hK K
              with_reducible refine bl_step ?_
              intro K hK
              go_simp
              first
                | (refine hK _ _ ?_)
                | (refine ⟨?_, fun w' hw' => ?_, hK _ _ ?_⟩
                   rotate_left
                   · obtain ⟨q0, q1, q2, q3, q4, q5⟩ := HQ.out.below hw'
                     obtain ⟨m0, m1⟩ := HMB.out.below hw'
                     go_simp
                     rfl
                   go_simp)
              clear hK K
              with_reducible refine bl_step ?_
              intro K hK
              go_simp
              first
                | (refine hK _ _ ?_)
                | (refine ⟨?_, fun w' hw' => ?_, hK _ _ ?_⟩
                   rotate_left
                   · obtain ⟨q0, q1, q2, q3, q4, q5⟩ := HQ.out.below hw'
                     obtain ⟨m0, m1⟩ := HMB.out.below hw'
                     go_simp
                     rfl
                   go_simp)
              clear hK K
              with_reducible refine bl_step ?_
              intro K hK
              go_simp
              first
                | (refine hK _ _ ?_)
                | (refine ⟨?_, fun w' hw' => ?_, hK _ _ ?_⟩
                   rotate_left
                   · obtain ⟨q0, q1, q2, q3, q4, q5⟩ := HQ.out.below hw'
                     obtain ⟨m0, m1⟩ := HMB.out.below hw'
                     go_simp
                     rfl
                   go_simp)
              clear hK K
              with_reducible refine bl_step ?_
              intro K hK
              go_simp
              first
                | (refine hK _ _ ?_)
                | (refine ⟨?_, fun w' hw' => ?_, hK _ _ ?_⟩
                   rotate_left
                   · obtain ⟨q0, q1, q2, q3, q4, q5⟩ := HQ.out.below hw'
                     obtain ⟨m0, m1⟩ := HMB.out.below hw'
                     go_simp
                     rfl
                   go_simp)
              clear hK K
              with_reducible refine bl_step ?_
              intro K hK
              go_simp
              first
                | (refine hK _ _ ?_)
                | (refine ⟨?_, fun w' hw' => ?_, hK _ _ ?_⟩
                   rotate_left
                   · obtain ⟨q0, q1, q2, q3, q4, q5⟩ := HQ.out.below hw'
                     obtain ⟨m0, m1⟩ := HMB.out.below hw'
                     go_simp
                     rfl
                   go_simp)
              clear hK K
              with_reducible refine bl_step ?_
              intro K hK
              go_simp
              first
                | (refine hK _ _ ?_)
                | (refine ⟨?_, fun w' hw' => ?_, hK _ _ ?_⟩
                   rotate_left
                   · obtain ⟨q0, q1, q2, q3, q4, q5⟩ := HQ.out.below hw'
                     obtain ⟨m0, m1⟩ := HMB.out.below hw'
                     go_simp
                     rfl
                   go_simp)
              clear hK K
              with_reducible refine bl_step ?_
              intro K hK
              go_simp
              first
                | (refine hK _ _ ?_)
                | (refine ⟨?_, fun w' hw' => ?_, hK _ _ ?_⟩
                   rotate_left
                   · obtain ⟨q0, q1, q2, q3, q4, q5⟩ := HQ.out.below hw'
                     obtain ⟨m0, m1⟩ := HMB.out.below hw'
                     go_simp
                     rfl
                   go_simp)
              clear hK K
              with_reducible refine bl_step ?_
              intro K hK
              go_simp
              first
                | (refine hK _ _ ?_)
                | (refine ⟨?_, fun w' hw' => ?_, hK _ _ ?_⟩
                   rotate_left
                   · obtain ⟨q0, q1, q2, q3, q4, q5⟩ := HQ.out.below hw'
                     obtain ⟨m0, m1⟩ := HMB.out.below hw'
                     go_simp
                     rfl
                   go_simp)
              clear hK K
              with_reducible refine bl_step ?_
              intro K hK
              go_simp
              first
                | (refine hK _ _ ?_)
                | (refine ⟨?_, fun w' hw' => ?_, hK _ _ ?_⟩
                   rotate_left
                   · obtain ⟨q0, q1, q2, q3, q4, q5⟩ := HQ.out.below hw'
                     obtain ⟨m0, m1⟩ := HMB.out.below hw'
                     go_simp
                     rfl
                   go_simp)
              clear hK K
              with_reducible refine wpR_nil (fun nq => ?_)
              go_wp2
              go_roundw
              case rel => exact ⟨0 + 1, by omega, by go_num, mok_yes hmk.out (okA_0 HLY.out), hB.out.trans ((bdrew A.out _).mono hB.out.size)⟩
              case measure => simp [intOf]; omega
            | succ p =>
              obtain ⟨b', o', eb, a3, c3, a4, c4, P, F3, F4⟩ := (H.out.below hB.out).cell p (by omega)
              injection eb with eb
              injection eb with eb1 eb2 eb3
              subst eb1
              subst eb2
              have HP := Lib.hid P
              clear F3 F4 P
              have p9 : (0 : Int) ≤ (p : Int) + 1 := by omega
              have pw : IntKind.i64.wrap (p : Int) = (p : Int) := IntWalk.i64_in _ (by omega)
              have pl : (p : Int) < (n : Int) := by omega
              by_cases hui : (lat L p).u = (lat L (p + 1)).i
              · have HUI := Lib.hid hui
                have e9 : ((lat L p).u != (lat L (p + 1)).i) = false := by simpa using hui
                clear hui
                have HLY := Lib.hid hly
                have HLY2 := Lib.hid (show ly (lat L (p + 1)).k (lat L (p + 1)).i (lat L (p + 1)).u (lat L (p + 1)).xs.length (lat L (p + 1)).ys.length = true from hly)
                clear hly
                go_wp2_with fail
                refine wp_bl 31 [0, 0, 0, 0, 0, 0, 2, 0, 0, 0, 0, 0, 0, 0, 0, 0, 0, 0, 0, 0, 0, 0, 0, 0, 0, 0, 0, 0, 0, 0, 0, 0] (by kernel_rfl) (by kernel_rfl) ?_
                simp only [List.take_succ_cons, List.take_zero, List.drop_succ_cons, List.drop_zero]
                with_reducible refine bl_step ?_
                intro K hK
                go_simp
                first
                  | (refine hK _ _ ?_)
                  | (refine ⟨?_, fun w' hw' => ?_, hK _ _ ?_⟩
                     rotate_left
                     · obtain ⟨q0, q1, q2, q3, q4, q5⟩ := HQ.out.below hw'
                       obtain ⟨m0, m1⟩ := HMB.out.below hw'
                       obtain ⟨p0, p1, p2, p3, p4, p5⟩ := HP.out.below hw'
                       go_simp
                       rfl
                     go_simp)
                clear hK K
                with_reducible refine bl_step ?_
                intro K hK
                go_simp
                first
                  | (refine hK _ _ ?_)
                  | (refine ⟨?_, fun w' hw' => ?_, hK _ _ ?_⟩
                     rotate_left
                     · obtain ⟨q0, q1, q2, q3, q4, q5⟩ := HQ.out.below hw'
                       obtain ⟨m0, m1⟩ := HMB.out.below hw'
                       obtain ⟨p0, p1, p2, p3, p4, p5⟩ := HP.out.below hw'
                       go_simp
                       rfl
                     go_simp)
                clear hK K
                with_reducible refine bl_step ?_
                intro K hK
                go_simp
                first
                  | (refine hK _ _ ?_)
                  | (refine ⟨?_, fun w' hw' => ?_, hK _ _ ?_⟩
                     rotate_left
                     · obtain ⟨q0, q1, q2, q3, q4, q5⟩ := HQ.out.below hw'
                       obtain ⟨m0, m1⟩ := HMB.out.below hw'
                       obtain ⟨p0, p1, p2, p3, p4, p5⟩ := HP.out.below hw'
                       go_simp
                       rfl
                     go_simp)
                clear hK K
                with_reducible refine bl_step ?_
                intro K hK
                go_simp
                first
                  | (refine hK _ _ ?_)
                  | (refine ⟨?_, fun w' hw' => ?_, hK _ _ ?_⟩
                     rotate_left
                     · obtain ⟨q0, q1, q2, q3, q4, q5⟩ := HQ.out.below hw'
                       obtain ⟨m0, m1⟩ := HMB.out.below hw'
                       obtain ⟨p0, p1, p2, p3, p4, p5⟩ := HP.out.below hw'
                       go_simp
                       rfl
                     go_simp)
                clear hK K
                with_reducible refine bl_step ?_
                intro K hK
                go_simp
                first
                  | (refine hK _ _ ?_)
                  | (refine ⟨?_, fun w' hw' => ?_, hK _ _ ?_⟩
                     rotate_left
                     · obtain ⟨q0, q1, q2, q3, q4, q5⟩ := HQ.out.below hw'
                       obtain ⟨m0, m1⟩ := HMB.out.below hw'
                       obtain ⟨p0, p1, p2, p3, p4, p5⟩ := HP.out.below hw'
                       go_simp
                       rfl
                     go_simp)
                clear hK K
                with_reducible refine bl_step ?_
                intro K hK
                go_simp
                first
                  | (refine hK _ _ ?_)
                  | (refine ⟨?_, fun w' hw' => ?_, hK _ _ ?_⟩
                     rotate_left
                     · obtain ⟨q0, q1, q2, q3, q4, q5⟩ := HQ.out.below hw'
                       obtain ⟨m0, m1⟩ := HMB.out.below hw'
                       obtain ⟨p0, p1, p2, p3, p4, p5⟩ := HP.out.below hw'
                       go_simp
                       rfl
                     go_simp)
                clear hK K
                with_reducible refine bl_step ?_
                intro K hK
                go_simp
                intro _
                refine (layS _ _ _ _ _ _ _ _ _ _ _ _ X1.out X2.out (HQ.out.below (bdrew (Below.refl _ _) _))).mono ?_
                rintro e w8 ⟨rfl, q, hw8⟩
                have A := Lib.hid ((bdrew (Below.refl _ _) _).trans (below_of_drew hw8))
                clear hw8
                rw [HLY2.out]
                refine ⟨_, rfl, A.out, hK _ _ ?_⟩
                clear hK K
                with_reducible refine bl_step ?_
                intro K hK
                go_simp
                first
                  | (refine hK _ _ ?_)
                  | (refine ⟨?_, fun w' hw' => ?_, hK _ _ ?_⟩
                     rotate_left
                     · obtain ⟨q0, q1, q2, q3, q4, q5⟩ := HQ.out.below hw'
                       obtain ⟨m0, m1⟩ := HMB.out.below hw'
                       obtain ⟨p0, p1, p2, p3, p4, p5⟩ := HP.out.below hw'
                       go_simp
                       rfl
                     go_simp)
                clear hK K
                with_reducible refine bl_step ?_
                intro K hK
                go_simp
                first
                  | (refine hK _ _ ?_)
                  | (refine ⟨?_, fun w' hw' => ?_, hK _ _ ?_⟩
                     rotate_left
                     · obtain ⟨q0, q1, q2, q3, q4, q5⟩ := HQ.out.below hw'
                       obtain ⟨m0, m1⟩ := HMB.out.below hw'
                       obtain ⟨p0, p1, p2, p3, p4, p5⟩ := HP.out.below hw'
                       go_simp
                       rfl
                     go_simp)
                clear hK K
                with_reducible refine bl_step ?_
                intro K hK
                go_simp
                first
                  | (refine hK _ _ ?_)
                  | (refine ⟨?_, fun w' hw' => ?_, hK _ _ ?_⟩
                     rotate_left
                     · obtain ⟨q0, q1, q2, q3, q4, q5⟩ := HQ.out.below hw'
                       obtain ⟨m0, m1⟩ := HMB.out.below hw'
                       obtain ⟨p0, p1, p2, p3, p4, p5⟩ := HP.out.below hw'
                       go_simp
                       rfl
                     go_simp)
                clear hK K
                with_reducible refine bl_step ?_
                intro K hK
                go_simp
                first
                  | (refine hK _ _ ?_)
                  | (refine ⟨?_, fun w' hw' => ?_, hK _ _ ?_⟩
                     rotate_left
                     · obtain ⟨q0, q1, q2, q3, q4, q5⟩ := HQ.out.below hw'
                       obtain ⟨m0, m1⟩ := HMB.out.below hw'
                       obtain ⟨p0, p1, p2, p3, p4, p5⟩ := HP.out.below hw'
                       go_simp
                       rfl
                     go_simp)
                clear hK K
                with_reducible refine bl_step ?_
                intro K hK
                go_simp
                first
                  | (refine hK _ _ ?_)
                  | (refine ⟨?_, fun w' hw' => ?_, hK _ _ ?_⟩
                     rotate_left
                     · obtain ⟨q0, q1, q2, q3, q4, q5⟩ := HQ.out.below hw'
                       obtain ⟨m0, m1⟩ := HMB.out.below hw'
                       obtain ⟨p0, p1, p2, p3, p4, p5⟩ := HP.out.below hw'
                       go_simp
                       rfl
                     go_simp)
                clear hK K
                with_reducible refine bl_step ?_
                intro K hK
                go_simp
                first
                  | (refine hK _ _ ?_)
                  | (refine ⟨?_, fun w' hw' => ?_, hK _ _ ?_⟩
                     rotate_left
                     · obtain ⟨q0, q1, q2, q3, q4, q5⟩ := HQ.out.below hw'
                       obtain ⟨m0, m1⟩ := HMB.out.below hw'
                       obtain ⟨p0, p1, p2, p3, p4, p5⟩ := HP.out.below hw'
                       go_simp
                       rfl
                     go_simp)
                clear hK K
                with_reducible refine bl_step ?_
                intro K hK
                go_simp
                first
                  | (refine hK _ _ ?_)
                  | (refine ⟨?_, fun w' hw' => ?_, hK _ _ ?_⟩
                     rotate_left
                     · obtain ⟨q0, q1, q2, q3, q4, q5⟩ := HQ.out.below hw'
                       obtain ⟨m0, m1⟩ := HMB.out.below hw'
                       obtain ⟨p0, p1, p2, p3, p4, p5⟩ := HP.out.below hw'
                       go_simp
                       rfl
                     go_simp)
                clear hK K
                with_reducible refine bl_step ?_
                intro K hK
                go_simp
                first
                  | (refine hK _ _ ?_)
                  | (refine ⟨?_, fun w' hw' => ?_, hK _ _ ?_⟩
                     rotate_left
                     · obtain ⟨q0, q1, q2, q3, q4, q5⟩ := HQ.out.below hw'
                       obtain ⟨m0, m1⟩ := HMB.out.below hw'
                       obtain ⟨p0, p1, p2, p3, p4, p5⟩ := HP.out.below hw'
                       go_simp
                       rfl
                     go_simp)
                clear hK K
                with_reducible refine bl_step ?_
                intro K hK
                go_simp
                first
                  | (refine hK _ _ ?_)
                  | (refine ⟨?_, fun w' hw' => ?_, hK _ _ ?_⟩
                     rotate_left
                     · obtain ⟨q0, q1, q2, q3, q4, q5⟩ := HQ.out.below hw'
                       obtain ⟨m0, m1⟩ := HMB.out.below hw'
                       obtain ⟨p0, p1, p2, p3, p4, p5⟩ := HP.out.below hw'
                       go_simp
                       rfl
                     go_simp)
                clear hK K
                with_reducible refine bl_step ?_
                intro K hK
                go_simp
                first
                  | (refine hK _ _ ?_)
                  | (refine ⟨?_, fun w' hw' => ?_, hK _ _ ?_⟩
                     rotate_left
                     · obtain ⟨q0, q1, q2, q3, q4, q5⟩ := HQ.out.below hw'
                       obtain ⟨m0, m1⟩ := HMB.out.below hw'
                       obtain ⟨p0, p1, p2, p3, p4, p5⟩ := HP.out.below hw'
                       go_simp
                       rfl
                     go_simp)
                clear hK K
                with_reducible refine bl_step ?_
                intro K hK
                go_simp
                first
                  | (refine hK _ _ ?_)
                  | (refine ⟨?_, fun w' hw' => ?_, hK _ _ ?_⟩
                     rotate_left
                     · obtain ⟨q0, q1, q2, q3, q4, q5⟩ := HQ.out.below hw'
                       obtain ⟨m0, m1⟩ := HMB.out.below hw'
                       obtain ⟨p0, p1, p2, p3, p4, p5⟩ := HP.out.below hw'
                       go_simp
                       rfl
                     go_simp)
                clear hK K
                with_reducible refine bl_step ?_
                intro K hK
                go_simp
                first
                  | (refine hK _ _ ?_)
                  | (refine ⟨?_, fun w' hw' => ?_, hK _ _ ?_⟩
                     rotate_left
                     · obtain ⟨q0, q1, q2, q3, q4, q5⟩ := HQ.out.below hw'
                       obtain ⟨m0, m1⟩ := HMB.out.below hw'
                       obtain ⟨p0, p1, p2, p3, p4, p5⟩ := HP.out.below hw'
                       go_simp
                       rfl
                     go_simp)
                clear hK K
                with_reducible refine bl_step ?_
                intro K hK
                go_simp
                first
                  | (refine hK _ _ ?_)
                  | (refine ⟨?_, fun w' hw' => ?_, hK _ _ ?_⟩
                     rotate_left
                     · obtain ⟨q0, q1, q2, q3, q4, q5⟩ := HQ.out.below hw'
                       obtain ⟨m0, m1⟩ := HMB.out.below hw'
                       obtain ⟨p0, p1, p2, p3, p4, p5⟩ := HP.out.below hw'
                       go_simp
                       rfl
                     go_simp)
                clear hK K
                with_reducible refine bl_step ?_
                intro K hK
                go_simp
                first
                  | (refine hK _ _ ?_)
                  | (refine ⟨?_, fun w' hw' => ?_, hK _ _ ?_⟩
                     rotate_left
                     · obtain ⟨q0, q1, q2, q3, q4, q5⟩ := HQ.out.below hw'
                       obtain ⟨m0, m1⟩ := HMB.out.below hw'
                       obtain ⟨p0, p1, p2, p3, p4, p5⟩ := HP.out.below hw'
                       go_simp
                       rfl
                     go_simp)
                clear hK K
                with_reducible refine bl_step ?_
                intro K hK
                go_simp
                first
                  | (refine hK _ _ ?_)
                  | (refine ⟨?_, fun w' hw' => ?_, hK _ _ ?_⟩
                     rotate_left
                     · obtain ⟨q0, q1, q2, q3, q4, q5⟩ := HQ.out.below hw'
                       obtain ⟨m0, m1⟩ := HMB.out.below hw'
                       obtain ⟨p0, p1, p2, p3, p4, p5⟩ := HP.out.below hw'
                       go_simp
                       rfl
                     go_simp)
                clear hK K
                with_reducible refine bl_step ?_
                intro K hK
                go_simp
                first
                  | (refine hK _ _ ?_)
                  | (refine ⟨?_, fun w' hw' => ?_, hK _ _ ?_⟩
                     rotate_left
                     · obtain ⟨q0, q1, q2, q3, q4, q5⟩ := HQ.out.below hw'
                       obtain ⟨m0, m1⟩ := HMB.out.below hw'
                       obtain ⟨p0, p1, p2, p3, p4, p5⟩ := HP.out.below hw'
                       go_simp
                       rfl
                     go_simp)
                clear hK K
                with_reducible refine bl_step ?_
                intro K hK
                go_simp
                first
                  | (refine hK _ _ ?_)
                  | (refine ⟨?_, fun w' hw' => ?_, hK _ _ ?_⟩
                     rotate_left
                     · obtain ⟨q0, q1, q2, q3, q4, q5⟩ := HQ.out.below hw'
                       obtain ⟨m0, m1⟩ := HMB.out.below hw'
                       obtain ⟨p0, p1, p2, p3, p4, p5⟩ := HP.out.below hw'
                       go_simp
                       rfl
                     go_simp)
                clear hK K
                with_reducible refine bl_step ?_
                intro K hK
                go_simp
                first
                  | (refine hK _ _ ?_)
                  | (refine ⟨?_, fun w' hw' => ?_, hK _ _ ?_⟩
                     rotate_left
                     · obtain ⟨q0, q1, q2, q3, q4, q5⟩ := HQ.out.below hw'
                       obtain ⟨m0, m1⟩ := HMB.out.below hw'
                       obtain ⟨p0, p1, p2, p3, p4, p5⟩ := HP.out.below hw'
                       go_simp
                       rfl
                     go_simp)
                clear hK K
                with_reducible refine bl_step ?_
                intro K hK
                go_simp
                first
                  | (refine hK _ _ ?_)
                  | (refine ⟨?_, fun w' hw' => ?_, hK _ _ ?_⟩
                     rotate_left
                     · obtain ⟨q0, q1, q2, q3, q4, q5⟩ := HQ.out.below hw'
                       obtain ⟨m0, m1⟩ := HMB.out.below hw'
                       obtain ⟨p0, p1, p2, p3, p4, p5⟩ := HP.out.below hw'
                       go_simp
                       rfl
                     go_simp)
                clear hK K
                with_reducible refine bl_step ?_
                intro K hK
                go_simp
                first
                  | (refine hK _ _ ?_)
                  | (refine ⟨?_, fun w' hw' => ?_, hK _ _ ?_⟩
                     rotate_left
                     · obtain ⟨q0, q1, q2, q3, q4, q5⟩ := HQ.out.below hw'
                       obtain ⟨m0, m1⟩ := HMB.out.below hw'
                       obtain ⟨p0, p1, p2, p3, p4, p5⟩ := HP.out.below hw'
                       go_simp
                       rfl
                     go_simp)
                clear hK K
                with_reducible refine bl_step ?_
                intro K hK
                go_simp
                first
                  | (refine hK _ _ ?_)
                  | (refine ⟨?_, fun w' hw' => ?_, hK _ _ ?_⟩
                     rotate_left
                     · obtain ⟨q0, q1, q2, q3, q4, q5⟩ := HQ.out.below hw'
                       obtain ⟨m0, m1⟩ := HMB.out.below hw'
                       obtain ⟨p0, p1, p2, p3, p4, p5⟩ := HP.out.below hw'
                       go_simp
                       rfl
                     go_simp)
                clear hK K
                with_reducible refine bl_step ?_
                intro K hK
                go_simp
                first
                  | (refine hK _ _ ?_)
                  | (refine ⟨?_, fun w' hw' => ?_, hK _ _ ?_⟩
                     rotate_left
                     · obtain ⟨q0, q1, q2, q3, q4, q5⟩ := HQ.out.below hw'
                       obtain ⟨m0, m1⟩ := HMB.out.below hw'
                       obtain ⟨p0, p1, p2, p3, p4, p5⟩ := HP.out.below hw'
                       go_simp
                       rfl
                     go_simp)
                clear hK K
                with_reducible refine bl_step ?_
                intro K hK
                go_simp
                first
                  | (refine hK _ _ ?_)
                  | (refine ⟨?_, fun w' hw' => ?_, hK _ _ ?_⟩
                     rotate_left
                     · obtain ⟨q0, q1, q2, q3, q4, q5⟩ := HQ.out.below hw'
                       obtain ⟨m0, m1⟩ := HMB.out.below hw'
                       obtain ⟨p0, p1, p2, p3, p4, p5⟩ := HP.out.below hw'
                       go_simp
                       rfl
                     go_simp)
                clear hK K
                with_reducible refine bl_step ?_
                intro K hK
                go_simp
                first
                  | (refine hK _ _ ?_)
                  | (refine ⟨?_, fun w' hw' => ?_, hK _ _ ?_⟩
                     rotate_left
                     · obtain ⟨q0, q1, q2, q3, q4, q5⟩ := HQ.out.below hw'
                       obtain ⟨m0, m1⟩ := HMB.out.below hw'
                       obtain ⟨p0, p1, p2, p3, p4, p5⟩ := HP.out.below hw'
                       go_simp
                       rfl
                     go_simp)
                clear hK K
                with_reducible refine wpR_nil (fun nq => ?_)
                go_wp2
                go_roundw
                case rel => exact ⟨p + 1 + 1, by omega, by go_num, mok_yes hmk.out (okA_s HLY.out HUI.out), hB.out.trans ((bdrew A.out _).mono hB.out.size)⟩
                case measure => simp [intOf]; omega
              · have HUI := Lib.hid hui
                have e9 : ((lat L p).u != (lat L (p + 1)).i) = true := by simpa using hui
                clear hui
                have HLY := Lib.hid hly
                have HLY2 := Lib.hid (show ly (lat L (p + 1)).k (lat L (p + 1)).i (lat L (p + 1)).u (lat L (p + 1)).xs.length (lat L (p + 1)).ys.length = true from hly)
                clear hly
                go_wp2_with fail
                refine wp_bl 31 [0, 0, 0, 0, 0, 0, 2, 0, 0, 0, 0, 0, 0, 0, 0, 0, 0, 0, 0, 0, 0, 0, 0, 0, 0, 0, 0, 0, 0, 0, 0, 0] (by kernel_rfl) (by kernel_rfl) ?_
                simp only [List.take_succ_cons, List.take_zero, List.drop_succ_cons, List.drop_zero]
                with_reducible refine bl_step ?_
                intro K hK
                go_simp
                first
                  | (refine hK _ _ ?_)
                  | (refine ⟨?_, fun w' hw' => ?_, hK _ _ ?_⟩
                     rotate_left
                     · obtain ⟨q0, q1, q2, q3, q4, q5⟩ := HQ.out.below hw'
                       obtain ⟨m0, m1⟩ := HMB.out.below hw'
                       obtain ⟨p0, p1, p2, p3, p4, p5⟩ := HP.out.below hw'
                       go_simp
                       rfl
                     go_simp)
                clear hK K
                with_reducible refine bl_step ?_
                intro K hK
                go_simp
                first
                  | (refine hK _ _ ?_)
                  | (refine ⟨?_, fun w' hw' => ?_, hK _ _ ?_⟩
                     rotate_left
                     · obtain ⟨q0, q1, q2, q3, q4, q5⟩ := HQ.out.below hw'
                       obtain ⟨m0, m1⟩ := HMB.out.below hw'
                       obtain ⟨p0, p1, p2, p3, p4, p5⟩ := HP.out.below hw'
                       go_simp
                       rfl
                     go_simp)
                clear hK K
                with_reducible refine bl_step ?_
                intro K hK
                go_simp
                first
                  | (refine hK _ _ ?_)
                  | (refine ⟨?_, fun w' hw' => ?_, hK _ _ ?_⟩
                     rotate_left
                     · obtain ⟨q0, q1, q2, q3, q4, q5⟩ := HQ.out.below hw'
                       obtain ⟨m0, m1⟩ := HMB.out.below hw'
                       obtain ⟨p0, p1, p2, p3, p4, p5⟩ := HP.out.below hw'
                       go_simp
                       rfl
                     go_simp)
                clear hK K
                with_reducible refine bl_step ?_
                intro K hK
                go_simp
                first
                  | (refine hK _ _ ?_)
                  | (refine ⟨?_, fun w' hw' => ?_, hK _ _ ?_⟩
                     rotate_left
                     · obtain ⟨q0, q1, q2, q3, q4, q5⟩ := HQ.out.below hw'
                       obtain ⟨m0, m1⟩ := HMB.out.below hw'
                       obtain ⟨p0, p1, p2, p3, p4, p5⟩ := HP.out.below hw'
                       go_simp
                       rfl
                     go_simp)
                clear hK K
                with_reducible refine bl_step ?_
                intro K hK
                go_simp
                first
                  | (refine hK _ _ ?_)
                  | (refine ⟨?_, fun w' hw' => ?_, hK _ _ ?_⟩
                     rotate_left
                     · obtain ⟨q0, q1, q2, q3, q4, q5⟩ := HQ.out.below hw'
                       obtain ⟨m0, m1⟩ := HMB.out.below hw'
                       obtain ⟨p0, p1, p2, p3, p4, p5⟩ := HP.out.below hw'
                       go_simp
                       rfl
                     go_simp)
                clear hK K
                with_reducible refine bl_step ?_
                intro K hK
                go_simp
                first
                  | (refine hK _ _ ?_)
                  | (refine ⟨?_, fun w' hw' => ?_, hK _ _ ?_⟩
                     rotate_left
                     · obtain ⟨q0, q1, q2, q3, q4, q5⟩ := HQ.out.below hw'
                       obtain ⟨m0, m1⟩ := HMB.out.below hw'
                       obtain ⟨p0, p1, p2, p3, p4, p5⟩ := HP.out.below hw'
                       go_simp
                       rfl
                     go_simp)
                clear hK K
                with_reducible refine bl_step ?_
                intro K hK
                go_simp
                intro _
                refine (layS _ _ _ _ _ _ _ _ _ _ _ _ X1.out X2.out (HQ.out.below (bdrew (Below.refl _ _) _))).mono ?_
                rintro e w8 ⟨rfl, q, hw8⟩
                have A := Lib.hid ((bdrew (Below.refl _ _) _).trans (below_of_drew hw8))
                clear hw8
                rw [HLY2.out]
                refine ⟨_, rfl, A.out, hK _ _ ?_⟩
                clear hK K
                with_reducible refine bl_step ?_
                intro K hK
                go_simp
                first
                  | (refine hK _ _ ?_)
                  | (refine ⟨?_, fun w' hw' => ?_, hK _ _ ?_⟩
                     rotate_left
                     · obtain ⟨q0, q1, q2, q3, q4, q5⟩ := HQ.out.below hw'
                       obtain ⟨m0, m1⟩ := HMB.out.below hw'
                       obtain ⟨p0, p1, p2, p3, p4, p5⟩ := HP.out.below hw'
                       go_simp
                       rfl
                     go_simp)
                clear hK K
                with_reducible refine bl_step ?_
                intro K hK
                go_simp
                first
                  | (refine hK _ _ ?_)
                  | (refine ⟨?_, fun w' hw' => ?_, hK _ _ ?_⟩
                     rotate_left
                     · obtain ⟨q0, q1, q2, q3, q4, q5⟩ := HQ.out.below hw'
                       obtain ⟨m0, m1⟩ := HMB.out.below hw'
                       obtain ⟨p0, p1, p2, p3, p4, p5⟩ := HP.out.below hw'
                       go_simp
                       rfl
                     go_simp)
                clear hK K
                with_reducible refine bl_step ?_
                intro K hK
                go_simp
                first
                  | (refine hK _ _ ?_)
                  | (refine ⟨?_, fun w' hw' => ?_, hK _ _ ?_⟩
                     rotate_left
                     · obtain ⟨q0, q1, q2, q3, q4, q5⟩ := HQ.out.below hw'
                       obtain ⟨m0, m1⟩ := HMB.out.below hw'
                       obtain ⟨p0, p1, p2, p3, p4, p5⟩ := HP.out.below hw'
                       go_simp
                       rfl
                     go_simp)
                clear hK K
                with_reducible refine bl_step ?_
                intro K hK
                go_simp
                first
                  | (refine hK _ _ ?_)
                  | (refine ⟨?_, fun w' hw' => ?_, hK _ _ ?_⟩
                     rotate_left
                     · obtain ⟨q0, q1, q2, q3, q4, q5⟩ := HQ.out.below hw'
                       obtain ⟨m0, m1⟩ := HMB.out.below hw'
                       obtain ⟨p0, p1, p2, p3, p4, p5⟩ := HP.out.below hw'
                       go_simp
                       rfl
                     go_simp)
                clear hK K
                with_reducible refine bl_step ?_
                intro K hK
                go_simp
                first
                  | (refine hK _ _ ?_)
                  | (refine ⟨?_, fun w' hw' => ?_, hK _ _ ?_⟩
                     rotate_left
                     · obtain ⟨q0, q1, q2, q3, q4, q5⟩ := HQ.out.below hw'
                       obtain ⟨m0, m1⟩ := HMB.out.below hw'
                       obtain ⟨p0, p1, p2, p3, p4, p5⟩ := HP.out.below hw'
                       go_simp
                       rfl
                     go_simp)
                clear hK K
                with_reducible refine bl_step ?_
                intro K hK
                go_simp
                first
                  | (refine hK _ _ ?_)
                  | (refine ⟨?_, fun w' hw' => ?_, hK _ _ ?_⟩
                     rotate_left
                     · obtain ⟨q0, q1, q2, q3, q4, q5⟩ := HQ.out.below hw'
                       obtain ⟨m0, m1⟩ := HMB.out.below hw'
                       obtain ⟨p0, p1, p2, p3, p4, p5⟩ := HP.out.below hw'
                       go_simp
                       rfl
                     go_simp)
                clear hK K
                with_reducible refine bl_step ?_
                intro K hK
                go_simp
                first
                  | (refine hK _ _ ?_)
                  | (refine ⟨?_, fun w' hw' => ?_, hK _ _ ?_⟩
                     rotate_left
                     · obtain ⟨q0, q1, q2, q3, q4, q5⟩ := HQ.out.below hw'
                       obtain ⟨m0, m1⟩ := HMB.out.below hw'
                       obtain ⟨p0, p1, p2, p3, p4, p5⟩ := HP.out.below hw'
                       go_simp
                       rfl
                     go_simp)
                clear hK K
                with_reducible refine bl_step ?_
                intro K hK
                go_simp
                first
                  | (refine hK _ _ ?_)
                  | (refine ⟨?_, fun w' hw' => ?_, hK _ _ ?_⟩
                     rotate_left
                     · obtain ⟨q0, q1, q2, q3, q4, q5⟩ := HQ.out.below hw'
                       obtain ⟨m0, m1⟩ := HMB.out.below hw'
                       obtain ⟨p0, p1, p2, p3, p4, p5⟩ := HP.out.below hw'
                       go_simp
                       rfl
                     go_simp)
                clear hK K
                with_reducible refine bl_step ?_
                intro K hK
                go_simp
                first
                  | (refine hK _ _ ?_)
                  | (refine ⟨?_, fun w' hw' => ?_, hK _ _ ?_⟩
                     rotate_left
                     · obtain ⟨q0, q1, q2, q3, q4, q5⟩ := HQ.out.below hw'
                       obtain ⟨m0, m1⟩ := HMB.out.below hw'
                       obtain ⟨p0, p1, p2, p3, p4, p5⟩ := HP.out.below hw'
                       go_simp
                       rfl
                     go_simp)
                clear hK K
                with_reducible refine bl_step ?_
                intro K hK
                go_simp
                first
                  | (refine hK _ _ ?_)
                  | (refine ⟨?_, fun w' hw' => ?_, hK _ _ ?_⟩
                     rotate_left
                     · obtain ⟨q0, q1, q2, q3, q4, q5⟩ := HQ.out.below hw'
                       obtain ⟨m0, m1⟩ := HMB.out.below hw'
                       obtain ⟨p0, p1, p2, p3, p4, p5⟩ := HP.out.below hw'
                       go_simp
                       rfl
                     go_simp)
                clear hK K
                with_reducible refine bl_step ?_
                intro K hK
                go_simp
                first
                  | (refine hK _ _ ?_)
                  | (refine ⟨?_, fun w' hw' => ?_, hK _ _ ?_⟩
                     rotate_left
                     · obtain ⟨q0, q1, q2, q3, q4, q5⟩ := HQ.out.below hw'
                       obtain ⟨m0, m1⟩ := HMB.out.below hw'
                       obtain ⟨p0, p1, p2, p3, p4, p5⟩ := HP.out.below hw'
                       go_simp
                       rfl
                     go_simp)
                clear hK K
                with_reducible refine bl_step ?_
                intro K hK
                go_simp
                first
                  | (refine hK _ _ ?_)
                  | (refine ⟨?_, fun w' hw' => ?_, hK _ _ ?_⟩
                     rotate_left
                     · obtain ⟨q0, q1, q2, q3, q4, q5⟩ := HQ.out.below hw'
                       obtain ⟨m0, m1⟩ := HMB.out.below hw'
                       obtain ⟨p0, p1, p2, p3, p4, p5⟩ := HP.out.below hw'
                       go_simp
                       rfl
                     go_simp)
                clear hK K
                with_reducible refine bl_step ?_
                intro K hK
                go_simp
                first
                  | (refine hK _ _ ?_)
                  | (refine ⟨?_, fun w' hw' => ?_, hK _ _ ?_⟩
                     rotate_left
                     · obtain ⟨q0, q1, q2, q3, q4, q5⟩ := HQ.out.below hw'
                       obtain ⟨m0, m1⟩ := HMB.out.below hw'
                       obtain ⟨p0, p1, p2, p3, p4, p5⟩ := HP.out.below hw'
                       go_simp
                       rfl
                     go_simp)
                clear hK K
                with_reducible refine bl_step ?_
                intro K hK
                go_simp
                first
                  | (refine hK _ _ ?_)
                  | (refine ⟨?_, fun w' hw' => ?_, hK _ _ ?_⟩
                     rotate_left
                     · obtain ⟨q0, q1, q2, q3, q4, q5⟩ := HQ.out.below hw'
                       obtain ⟨m0, m1⟩ := HMB.out.below hw'
                       obtain ⟨p0, p1, p2, p3, p4, p5⟩ := HP.out.below hw'
                       go_simp
                       rfl
                     go_simp)
                clear hK K
                with_reducible refine bl_step ?_
                intro K hK
                go_simp
                first
                  | (refine hK _ _ ?_)
                  | (refine ⟨?_, fun w' hw' => ?_, hK _ _ ?_⟩
                     rotate_left
                     · obtain ⟨q0, q1, q2, q3, q4, q5⟩ := HQ.out.below hw'
                       obtain ⟨m0, m1⟩ := HMB.out.below hw'
                       obtain ⟨p0, p1, p2, p3, p4, p5⟩ := HP.out.below hw'
                       go_simp
                       rfl
                     go_simp)
                clear hK K
                with_reducible refine bl_step ?_
                intro K hK
                go_simp
                first
                  | (refine hK _ _ ?_)
                  | (refine ⟨?_, fun w' hw' => ?_, hK _ _ ?_⟩
                     rotate_left
                     · obtain ⟨q0, q1, q2, q3, q4, q5⟩ := HQ.out.below hw'
                       obtain ⟨m0, m1⟩ := HMB.out.below hw'
                       obtain ⟨p0, p1, p2, p3, p4, p5⟩ := HP.out.below hw'
                       go_simp
                       rfl
                     go_simp)
                clear hK K
                with_reducible refine bl_step ?_
                intro K hK
                go_simp
                first
                  | (refine hK _ _ ?_)
                  | (refine ⟨?_, fun w' hw' => ?_, hK _ _ ?_⟩
                     rotate_left
                     · obtain ⟨q0, q1, q2, q3, q4, q5⟩ := HQ.out.below hw'
                       obtain ⟨m0, m1⟩ := HMB.out.below hw'
                       obtain ⟨p0, p1, p2, p3, p4, p5⟩ := HP.out.below hw'
                       go_simp
                       rfl
                     go_simp)
                clear hK K
                with_reducible refine bl_step ?_
                intro K hK
                go_simp
                first
                  | (refine hK _ _ ?_)
                  | (refine ⟨?_, fun w' hw' => ?_, hK _ _ ?_⟩
                     rotate_left
                     · obtain ⟨q0, q1, q2, q3, q4, q5⟩ := HQ.out.below hw'
                       obtain ⟨m0, m1⟩ := HMB.out.below hw'
                       obtain ⟨p0, p1, p2, p3, p4, p5⟩ := HP.out.below hw'
                       go_simp
                       rfl
                     go_simp)
                clear hK K
                with_reducible refine bl_step ?_
                intro K hK
                go_simp
                first
                  | (refine hK _ _ ?_)
                  | (refine ⟨?_, fun w' hw' => ?_, hK _ _ ?_⟩
                     rotate_left
                     · obtain ⟨q0, q1, q2, q3, q4, q5⟩ := HQ.out.below hw'
                       obtain ⟨m0, m1⟩ := HMB.out.below hw'
                       obtain ⟨p0, p1, p2, p3, p4, p5⟩ := HP.out.below hw'
                       go_simp
                       rfl
                     go_simp)
                clear hK K
                with_reducible refine bl_step ?_
                intro K hK
                go_simp
                first
                  | (refine hK _ _ ?_)
                  | (refine ⟨?_, fun w' hw' => ?_, hK _ _ ?_⟩
                     rotate_left
                     · obtain ⟨q0, q1, q2, q3, q4, q5⟩ := HQ.out.below hw'
                       obtain ⟨m0, m1⟩ := HMB.out.below hw'
                       obtain ⟨p0, p1, p2, p3, p4, p5⟩ := HP.out.below hw'
                       go_simp
                       rfl
                     go_simp)
                clear hK K
                with_reducible refine bl_step ?_
                intro K hK
                go_simp
                first
                  | (refine hK _ _ ?_)
                  | (refine ⟨?_, fun w' hw' => ?_, hK _ _ ?_⟩
                     rotate_left
                     · obtain ⟨q0, q1, q2, q3, q4, q5⟩ := HQ.out.below hw'
                       obtain ⟨m0, m1⟩ := HMB.out.below hw'
                       obtain ⟨p0, p1, p2, p3, p4, p5⟩ := HP.out.below hw'
                       go_simp
                       rfl
                     go_simp)
                clear hK K
                with_reducible refine bl_step ?_
                intro K hK
                go_simp
                first
                  | (refine hK _ _ ?_)
                  | (refine ⟨?_, fun w' hw' => ?_, hK _ _ ?_⟩
                     rotate_left
                     · obtain ⟨q0, q1, q2, q3, q4, q5⟩ := HQ.out.below hw'
                       obtain ⟨m0, m1⟩ := HMB.out.below hw'
                       obtain ⟨p0, p1, p2, p3, p4, p5⟩ := HP.out.below hw'
                       go_simp
                       rfl
                     go_simp)
                clear hK K
                with_reducible refine bl_step ?_
                intro K hK
                go_simp
                first
                  | (refine hK _ _ ?_)
                  | (refine ⟨?_, fun w' hw' => ?_, hK _ _ ?_⟩
                     rotate_left
                     · obtain ⟨q0, q1, q2, q3, q4, q5⟩ := HQ.out.below hw'
                       obtain ⟨m0, m1⟩ := HMB.out.below hw'
                       obtain ⟨p0, p1, p2, p3, p4, p5⟩ := HP.out.below hw'
                       go_simp
                       rfl
                     go_simp)
                clear hK K
                with_reducible refine bl_step ?_
                intro K hK
                go_simp
                first
                  | (refine hK _ _ ?_)
                  | (refine ⟨?_, fun w' hw' => ?_, hK _ _ ?_⟩
                     rotate_left
                     · obtain ⟨q0, q1, q2, q3, q4, q5⟩ := HQ.out.below hw'
                       obtain ⟨m0, m1⟩ := HMB.out.below hw'
                       obtain ⟨p0, p1, p2, p3, p4, p5⟩ := HP.out.below hw'
                       go_simp
                       rfl
                     go_simp)
                clear hK K
                with_reducible refine wpR_nil (fun nq => ?_)
                go_wp2
                go_ret
                exact ⟨by rw [mok_no hlt (okA_n HUI.out)]; rfl, hB.out.trans ((bdrew A.out _).mono hB.out.size)⟩
        · have e : j = n := by omega
          subst e
          go_wp2
          go_ret
          exact ⟨by rw [hmk.out]; rfl, hB.out⟩
theorem reg_at2 {P : Program} {c : Code} {Q : Exit → Act → World → Prop} {a : Act} {w : World} (h : ∀ w', w' = w → c.wp P Q a w') : c.wp P Q a w := h _ rfl
set_option maxHeartbeats 2000000 in
theorem validM (a : Option Addr) (n cap : Nat) (L : List LD) (w : World) (h : Ls w a n cap L) :
    Calls Try.prog 17 #[.agg #[.slice a n cap]] w fun e w' => e = .returned (.bool (mv L n)) ∧ Below w.heap.size w w' := by
  have hc1 := h.cap1
  have hc2 := h.cap2
  unfold maxLen at hc2
  have H := Lib.hid h
  clear h
  go_enter Try.func17, Try.ntmps17
  go_wp2
  go_loopw [8] (fun i w' => ∃ j : Nat, j ≤ n ∧ i = .int .i64 j ∧ Hid (mok L j = true) ∧ Hid (MB w' w.heap.size a n cap) ∧ Hid (Below w.heap.size w w')) (fun i _ => n - (intOf i).toNat)
  case atStart =>
    obtain ⟨Q, A, -, -⟩ := mb_new (w := w) (a := a) (n := n) (cap := cap) (t := 38) rfl
    exact ⟨0, Nat.zero_le _, rfl, rfl, Q, A⟩
  case round =>
    obtain ⟨j, hj, rfl, hmk, hM, hB⟩ := hrel
    by_cases hlt : j < n
    · obtain ⟨b, o, rfl, a1, c1, a2, c2, Q, F1, F2⟩ := (H.out.below hB.out).cell j hlt
      have HQ := Lib.hid Q
      have X1 := Lib.hid (Nat.le_trans F1.cap1 F1.cap2)
      have X2 := Lib.hid (Nat.le_trans F2.cap1 F2.cap2)
      clear F1 F2
      obtain ⟨q0, q1, q2, q3, q4, q5⟩ := Q
      go_wp2_with fail
      clear q0 q1 q2 q3 q4 q5
      refine reg_at2 ?_
      intro w1 hA
      obtain ⟨Z, A, z1, z2⟩ := lb_new hA
      clear hA
      have HA1 := Lib.hid A
      have HZ := Lib.hid Z
      have HMB := Lib.hid (hM.out.below A)
      have HQ := Lib.hid (HQ.out.below A)
      clear A Z
      cases hly : lyD (lat L j)
      · skip
        have HLY := Lib.hid hly
        have HLY2 := Lib.hid (show ly (lat L j).k (lat L j).i (lat L j).u (lat L j).xs.length (lat L j).ys.length = false from hly)
        clear hly
        refine wp_bl 18 [0, 2, 0, 0, 0, 0, 0, 0, 0, 0, 0, 0, 0, 0, 0, 0, 0, 0, 0] (by kernel_rfl) (by kernel_rfl) ?_
        simp only [List.take_succ_cons, List.take_zero, List.drop_succ_cons, List.drop_zero]
        with_reducible refine bl_step ?_
        intro K hK
        go_simp
        first
          | (refine hK _ _ ?_)
          | (refine ⟨?_, fun w' hw' => ?_, hK _ _ ?_⟩
             rotate_left
             · obtain ⟨q0, q1, q2, q3, q4, q5⟩ := HZ.out.below hw'
               obtain ⟨m0, m1⟩ := HMB.out.below hw'
               go_simp
               rfl
             go_simp)
        clear hK K
        with_reducible refine bl_step ?_
        intro K hK
        go_simp
        intro _
        refine (layI _ _ _ _ _ _ _ _ _ _ X1.out X2.out).mono ?_
        rintro e w8 ⟨rfl, A0⟩
        have A := Lib.hid ((bdrew (Below.refl _ _) _).trans A0)
        clear A0
        rw [HLY2.out]
        refine ⟨_, rfl, A.out, hK _ _ ?_⟩
        clear hK K
        with_reducible refine bl_step ?_
        intro K hK
        go_simp
        first
          | (refine hK _ _ ?_)
          | (refine ⟨?_, fun w' hw' => ?_, hK _ _ ?_⟩
             rotate_left
             · obtain ⟨q0, q1, q2, q3, q4, q5⟩ := HZ.out.below hw'
               obtain ⟨m0, m1⟩ := HMB.out.below hw'
               go_simp
               rfl
             go_simp)
        clear hK K
        with_reducible refine bl_step ?_
        intro K hK
        go_simp
        first
          | (refine hK _ _ ?_)
          | (refine ⟨?_, fun w' hw' => ?_, hK _ _ ?_⟩
             rotate_left
             · obtain ⟨q0, q1, q2, q3, q4, q5⟩ := HZ.out.below hw'
               obtain ⟨m0, m1⟩ := HMB.out.below hw'
               go_simp
               rfl
             go_simp)
        clear hK K
        with_reducible refine bl_step ?_
        intro K hK
        go_simp
        first
          | (refine hK _ _ ?_)
          | (refine ⟨?_, fun w' hw' => ?_, hK _ _ ?_⟩
             rotate_left
             · obtain ⟨q0, q1, q2, q3, q4, q5⟩ := HZ.out.below hw'
               obtain ⟨m0, m1⟩ := HMB.out.below hw'
               go_simp
               rfl
             go_simp)
        clear hK K
        with_reducible refine bl_step ?_
        intro K hK
        go_simp
        first
          | (refine hK _ _ ?_)
          | (refine ⟨?_, fun w' hw' => ?_, hK _ _ ?_⟩
             rotate_left
             · obtain ⟨q0, q1, q2, q3, q4, q5⟩ := HZ.out.below hw'
               obtain ⟨m0, m1⟩ := HMB.out.below hw'
               go_simp
               rfl
             go_simp)
        clear hK K
        with_reducible refine bl_step ?_
        intro K hK
        go_simp
        first
          | (refine hK _ _ ?_)
          | (refine ⟨?_, fun w' hw' => ?_, hK _ _ ?_⟩
             rotate_left
             · obtain ⟨q0, q1, q2, q3, q4, q5⟩ := HZ.out.below hw'
               obtain ⟨m0, m1⟩ := HMB.out.below hw'
               go_simp
               rfl
             go_simp)
        clear hK K
        with_reducible refine bl_step ?_
        intro K hK
        go_simp
        first
          | (refine hK _ _ ?_)
          | (refine ⟨?_, fun w' hw' => ?_, hK _ _ ?_⟩
             rotate_left
             · obtain ⟨q0, q1, q2, q3, q4, q5⟩ := HZ.out.below hw'
               obtain ⟨m0, m1⟩ := HMB.out.below hw'
               go_simp
               rfl
             go_simp)
        clear hK K
        with_reducible refine bl_step ?_
        intro K hK
        go_simp
        first
          | (refine hK _ _ ?_)
          | (refine ⟨?_, fun w' hw' => ?_, hK _ _ ?_⟩
             rotate_left
             · obtain ⟨q0, q1, q2, q3, q4, q5⟩ := HZ.out.below hw'
               obtain ⟨m0, m1⟩ := HMB.out.below hw'
               go_simp
               rfl
             go_simp)
        clear hK K
        with_reducible refine bl_step ?_
        intro K hK
        go_simp
        first
          | (refine hK _ _ ?_)
          | (refine ⟨?_, fun w' hw' => ?_, hK _ _ ?_⟩
             rotate_left
             · obtain ⟨q0, q1, q2, q3, q4, q5⟩ := HZ.out.below hw'
               obtain ⟨m0, m1⟩ := HMB.out.below hw'
               go_simp
               rfl
             go_simp)
        clear hK K
        with_reducible refine bl_step ?_
        intro K hK
        go_simp
        first
          | (refine hK _ _ ?_)
          | (refine ⟨?_, fun w' hw' => ?_, hK _ _ ?_⟩
             rotate_left
             · obtain ⟨q0, q1, q2, q3, q4, q5⟩ := HZ.out.below hw'
               obtain ⟨m0, m1⟩ := HMB.out.below hw'
               go_simp
               rfl
             go_simp)
        clear hK K
        with_reducible refine bl_step ?_
        intro K hK
        go_simp
        first
          | (refine hK _ _ ?_)
          | (refine ⟨?_, fun w' hw' => ?_, hK _ _ ?_⟩
             rotate_left
             · obtain ⟨q0, q1, q2, q3, q4, q5⟩ := HZ.out.below hw'
               obtain ⟨m0, m1⟩ := HMB.out.below hw'
               go_simp
               rfl
             go_simp)
        clear hK K
        with_reducible refine bl_step ?_
        intro K hK
        go_simp
        first
          | (refine hK _ _ ?_)
          | (refine ⟨?_, fun w' hw' => ?_, hK _ _ ?_⟩
             rotate_left
             · obtain ⟨q0, q1, q2, q3, q4, q5⟩ := HZ.out.below hw'
               obtain ⟨m0, m1⟩ := HMB.out.below hw'
               go_simp
               rfl
             go_simp)
        clear hK K
        with_reducible refine bl_step ?_
        intro K hK
        go_simp
        first
          | (refine hK _ _ ?_)
          | (refine ⟨?_, fun w' hw' => ?_, hK _ _ ?_⟩
             rotate_left
             · obtain ⟨q0, q1, q2, q3, q4, q5⟩ := HZ.out.below hw'
               obtain ⟨m0, m1⟩ := HMB.out.below hw'
               go_simp
               rfl
             go_simp)
        clear hK K
        with_reducible refine bl_step ?_
        intro K hK
        go_simp
        first
          | (refine hK _ _ ?_)
          | (refine ⟨?_, fun w' hw' => ?_, hK _ _ ?_⟩
             rotate_left
             · obtain ⟨q0, q1, q2, q3, q4, q5⟩ := HZ.out.below hw'
               obtain ⟨m0, m1⟩ := HMB.out.below hw'
               go_simp
               rfl
             go_simp)
        clear hK K
        with_reducible refine bl_step ?_
        intro K hK
        go_simp
        first
          | (refine hK _ _ ?_)
          | (refine ⟨?_, fun w' hw' => ?_, hK _ _ ?_⟩
             rotate_left
             · obtain ⟨q0, q1, q2, q3, q4, q5⟩ := HZ.out.below hw'
               obtain ⟨m0, m1⟩ := HMB.out.below hw'
               go_simp
               rfl
             go_simp)
        clear hK K
        with_reducible refine bl_step ?_
        intro K hK
        go_simp
        first
          | (refine hK _ _ ?_)
          | (refine ⟨?_, fun w' hw' => ?_, hK _ _ ?_⟩
             rotate_left
             · obtain ⟨q0, q1, q2, q3, q4, q5⟩ := HZ.out.below hw'
               obtain ⟨m0, m1⟩ := HMB.out.below hw'
               go_simp
               rfl
             go_simp)
        clear hK K
        with_reducible refine bl_step ?_
        intro K hK
        go_simp
        first
          | (refine hK _ _ ?_)
          | (refine ⟨?_, fun w' hw' => ?_, hK _ _ ?_⟩
             rotate_left
             · obtain ⟨q0, q1, q2, q3, q4, q5⟩ := HZ.out.below hw'
               obtain ⟨m0, m1⟩ := HMB.out.below hw'
               go_simp
               rfl
             go_simp)
        clear hK K
        with_reducible refine wpR_nil (fun nq => ?_)
        have BB := Lib.hid (HA1.out.trans ((bdrew A.out nq).mono HA1.out.size))
        have HMC := Lib.hid (hM.out.below BB.out)
        go_wp2
        go_ret
        exact ⟨by unfold mv; rw [mok_no hlt (okA_ly HLY.out), Bool.and_false]; rfl, hB.out.trans (BB.out.mono hB.out.size)⟩
      · cases j with
        | zero =>
          have HLY := Lib.hid hly
          have HLY2 := Lib.hid (show ly (lat L 0).k (lat L 0).i (lat L 0).u (lat L 0).xs.length (lat L 0).ys.length = true from hly)
          clear hly
          refine wp_bl 18 [0, 2, 0, 0, 0, 0, 0, 0, 0, 0, 0, 0, 0, 0, 0, 0, 0, 0, 0] (by kernel_rfl) (by kernel_rfl) ?_
          simp only [List.take_succ_cons, List.take_zero, List.drop_succ_cons, List.drop_zero]
          with_reducible refine bl_step ?_
          intro K hK
          go_simp
          first
            | (refine hK _ _ ?_)
            | (refine ⟨?_, fun w' hw' => ?_, hK _ _ ?_⟩
               rotate_left
               · obtain ⟨q0, q1, q2, q3, q4, q5⟩ := HZ.out.below hw'
                 obtain ⟨m0, m1⟩ := HMB.out.below hw'
                 go_simp
                 rfl
               go_simp)
          clear hK K
          with_reducible refine bl_step ?_
          intro K hK
          go_simp
          intro _
          refine (layI _ _ _ _ _ _ _ _ _ _ X1.out X2.out).mono ?_
          rintro e w8 ⟨rfl, A0⟩
          have A := Lib.hid ((bdrew (Below.refl _ _) _).trans A0)
          clear A0
          rw [HLY2.out]
          refine ⟨_, rfl, A.out, hK _ _ ?_⟩
          clear hK K
          with_reducible refine bl_step ?_
          intro K hK
          go_simp
          first
            | (refine hK _ _ ?_)
            | (refine ⟨?_, fun w' hw' => ?_, hK _ _ ?_⟩
               rotate_left
               · obtain ⟨q0, q1, q2, q3, q4, q5⟩ := HZ.out.below hw'
                 obtain ⟨m0, m1⟩ := HMB.out.below hw'
                 go_simp
                 rfl
               go_simp)
          clear hK K
          with_reducible refine bl_step ?_
          intro K hK
          go_simp
          first
            | (refine hK _ _ ?_)
            | (refine ⟨?_, fun w' hw' => ?_, hK _ _ ?_⟩
               rotate_left
               · obtain ⟨q0, q1, q2, q3, q4, q5⟩ := HZ.out.below hw'
                 obtain ⟨m0, m1⟩ := HMB.out.below hw'
                 go_simp
                 rfl
               go_simp)
          clear hK K
          with_reducible refine bl_step ?_
          intro K hK
          go_simp
          first
            | (refine hK _ _ ?_)
            | (refine ⟨?_, fun w' hw' => ?_, hK _ _ ?_⟩
               rotate_left
               · obtain ⟨q0, q1, q2, q3, q4, q5⟩ := HZ.out.below hw'
                 obtain ⟨m0, m1⟩ := HMB.out.below hw'
                 go_simp
                 rfl
               go_simp)
          clear hK K
          with_reducible refine bl_step ?_
          intro K hK
          go_simp
          first
            | (refine hK _ _ ?_)
            | (refine ⟨?_, fun w' hw' => ?_, hK _ _ ?_⟩
               rotate_left
               · obtain ⟨q0, q1, q2, q3, q4, q5⟩ := HZ.out.below hw'
                 obtain ⟨m0, m1⟩ := HMB.out.below hw'
                 go_simp
                 rfl
               go_simp)
          clear hK K
          with_reducible refine bl_step ?_
          intro K hK
          go_simp
          first
            | (refine hK _ _ ?_)
            | (refine ⟨?_, fun w' hw' => ?_, hK _ _ ?_⟩
               rotate_left
               · obtain ⟨q0, q1, q2, q3, q4, q5⟩ := HZ.out.below hw'
                 obtain ⟨m0, m1⟩ := HMB.out.below hw'
                 go_simp
                 rfl
               go_simp)
          clear hK K
          with_reducible refine bl_step ?_
          intro K hK
          go_simp
          first
            | (refine hK _ _ ?_)
            | (refine ⟨?_, fun w' hw' => ?_, hK _ _ ?_⟩
               rotate_left
               · obtain ⟨q0, q1, q2, q3, q4, q5⟩ := HZ.out.below hw'
                 obtain ⟨m0, m1⟩ := HMB.out.below hw'
                 go_simp
                 rfl
               go_simp)
          clear hK K
          with_reducible refine bl_step ?_
          intro K hK
          go_simp
          first
            | (refine hK _ _ ?_)
            | (refine ⟨?_, fun w' hw' => ?_, hK _ _ ?_⟩
               rotate_left
               · obtain ⟨q0, q1, q2, q3, q4, q5⟩ := HZ.out.below hw'
                 obtain ⟨m0, m1⟩ := HMB.out.below hw'
                 go_simp
                 rfl
               go_simp)
          clear hK K
          with_reducible refine bl_step ?_
          intro K hK
          go_simp
          first
            | (refine hK _ _ ?_)
            | (refine ⟨?_, fun w' hw' => ?_, hK _ _ ?_⟩
               rotate_left
               · obtain ⟨q0, q1, q2, q3, q4, q5⟩ := HZ.out.below hw'
                 obtain ⟨m0, m1⟩ := HMB.out.below hw'
                 go_simp
                 rfl
               go_simp)
          clear hK K
          with_reducible refine bl_step ?_
          intro K hK
          go_simp
          first
            | (refine hK _ _ ?_)
            | (refine ⟨?_, fun w' hw' => ?_, hK _ _ ?_⟩
               rotate_left
               · obtain ⟨q0, q1, q2, q3, q4, q5⟩ := HZ.out.below hw'
                 obtain ⟨m0, m1⟩ := HMB.out.below hw'
                 go_simp
                 rfl
               go_simp)
          clear hK K
          with_reducible refine bl_step ?_
          intro K hK
          go_simp
          first
            | (refine hK _ _ ?_)
            | (refine ⟨?_, fun w' hw' => ?_, hK _ _ ?_⟩
               rotate_left
               · obtain ⟨q0, q1, q2, q3, q4, q5⟩ := HZ.out.below hw'
                 obtain ⟨m0, m1⟩ := HMB.out.below hw'
                 go_simp
                 rfl
               go_simp)
          clear hK K
          with_reducible refine bl_step ?_
          intro K hK
          go_simp
          first
            | (refine hK _ _ ?_)
            | (refine ⟨?_, fun w' hw' => ?_, hK _ _ ?_⟩
               rotate_left
               · obtain ⟨q0, q1, q2, q3, q4, q5⟩ := HZ.out.below hw'
                 obtain ⟨m0, m1⟩ := HMB.out.below hw'
                 go_simp
                 rfl
               go_simp)
          clear hK K
          with_reducible refine bl_step ?_
          intro K hK
          go_simp
          first
            | (refine hK _ _ ?_)
            | (refine ⟨?_, fun w' hw' => ?_, hK _ _ ?_⟩
               rotate_left
               · obtain ⟨q0, q1, q2, q3, q4, q5⟩ := HZ.out.below hw'
                 obtain ⟨m0, m1⟩ := HMB.out.below hw'
                 go_simp
                 rfl
               go_simp)
          clear hK K
          with_reducible refine bl_step ?_
          intro K hK
          go_simp
          first
            | (refine hK _ _ ?_)
            | (refine ⟨?_, fun w' hw' => ?_, hK _ _ ?_⟩
               rotate_left
               · obtain ⟨q0, q1, q2, q3, q4, q5⟩ := HZ.out.below hw'
                 obtain ⟨m0, m1⟩ := HMB.out.below hw'
                 go_simp
                 rfl
               go_simp)
          clear hK K
          with_reducible refine bl_step ?_
          intro K hK
          go_simp
          first
            | (refine hK _ _ ?_)
            | (refine ⟨?_, fun w' hw' => ?_, hK _ _ ?_⟩
               rotate_left
               · obtain ⟨q0, q1, q2, q3, q4, q5⟩ := HZ.out.below hw'
                 obtain ⟨m0, m1⟩ := HMB.out.below hw'
                 go_simp
                 rfl
               go_simp)
          clear hK K
          with_reducible refine bl_step ?_
          intro K hK
          go_simp
          first
            | (refine hK _ _ ?_)
            | (refine ⟨?_, fun w' hw' => ?_, hK _ _ ?_⟩
               rotate_left
               · obtain ⟨q0, q1, q2, q3, q4, q5⟩ := HZ.out.below hw'
                 obtain ⟨m0, m1⟩ := HMB.out.below hw'
                 go_simp
                 rfl
               go_simp)
          clear hK K
          with_reducible refine bl_step ?_
          intro K hK
          go_simp
          first
            | (refine hK _ _ ?_)
            | (refine ⟨?_, fun w' hw' => ?_, hK _ _ ?_⟩
               rotate_left
               · obtain ⟨q0, q1, q2, q3, q4, q5⟩ := HZ.out.below hw'
                 obtain ⟨m0, m1⟩ := HMB.out.below hw'
                 go_simp
                 rfl
               go_simp)
          clear hK K
          with_reducible refine wpR_nil (fun nq => ?_)
          have BB := Lib.hid (HA1.out.trans ((bdrew A.out nq).mono HA1.out.size))
          have HMC := Lib.hid (hM.out.below BB.out)
          go_wp2
          go_roundw
          case rel => exact ⟨0 + 1, by omega, by go_num, mok_yes hmk.out (okA_0 HLY.out), HMC.out, hB.out.trans (BB.out.mono hB.out.size)⟩
          case measure => simp [intOf]; omega
        | succ p =>
          obtain ⟨b', o', eb, a3, c3, a4, c4, P0, F3, F4⟩ := ((H.out.below hB.out).below HA1.out).cell p (by omega)
          injection eb with eb
          injection eb with eb1 eb2 eb3
          subst eb1
          subst eb2
          have HP := Lib.hid P0
          clear F3 F4 P0
          have p9 : (0 : Int) ≤ (p : Int) + 1 := by omega
          have pw : IntKind.i64.wrap (p : Int) = (p : Int) := IntWalk.i64_in _ (by omega)
          have pl : (p : Int) < (n : Int) := by omega
          by_cases hui : (lat L p).u = (lat L (p + 1)).i
          · have HUI := Lib.hid hui
            have e9 : ((lat L (p + 1)).i != (lat L p).u) = false := by simpa using hui.symm
            clear hui
            have HLY := Lib.hid hly
            have HLY2 := Lib.hid (show ly (lat L (p + 1)).k (lat L (p + 1)).i (lat L (p + 1)).u (lat L (p + 1)).xs.length (lat L (p + 1)).ys.length = true from hly)
            clear hly
            refine wp_bl 18 [0, 2, 0, 0, 0, 0, 0, 0, 0, 0, 0, 0, 0, 0, 0, 0, 0, 0, 0] (by kernel_rfl) (by kernel_rfl) ?_
            simp only [List.take_succ_cons, List.take_zero, List.drop_succ_cons, List.drop_zero]
            with_reducible refine bl_step ?_
            intro K hK
            go_simp
            first
              | (refine hK _ _ ?_)
              | (refine ⟨?_, fun w' hw' => ?_, hK _ _ ?_⟩
                 rotate_left
                 · obtain ⟨q0, q1, q2, q3, q4, q5⟩ := HZ.out.below hw'
                   obtain ⟨m0, m1⟩ := HMB.out.below hw'
                   obtain ⟨p0, p1, p2, p3, p4, p5⟩ := HP.out.below hw'
                   go_simp
                   rfl
                 go_simp)
            clear hK K
            with_reducible refine bl_step ?_
            intro K hK
            go_simp
            intro _
            refine (layI _ _ _ _ _ _ _ _ _ _ X1.out X2.out).mono ?_
            rintro e w8 ⟨rfl, A0⟩
            have A := Lib.hid ((bdrew (Below.refl _ _) _).trans A0)
            clear A0
            rw [HLY2.out]
            refine ⟨_, rfl, A.out, hK _ _ ?_⟩
            clear hK K
            with_reducible refine bl_step ?_
            intro K hK
            go_simp
            first
              | (refine hK _ _ ?_)
              | (refine ⟨?_, fun w' hw' => ?_, hK _ _ ?_⟩
                 rotate_left
                 · obtain ⟨q0, q1, q2, q3, q4, q5⟩ := HZ.out.below hw'
                   obtain ⟨m0, m1⟩ := HMB.out.below hw'
                   obtain ⟨p0, p1, p2, p3, p4, p5⟩ := HP.out.below hw'
                   go_simp
                   rfl
                 go_simp)
            clear hK K
            with_reducible refine bl_step ?_
            intro K hK
            go_simp
            first
              | (refine hK _ _ ?_)
              | (refine ⟨?_, fun w' hw' => ?_, hK _ _ ?_⟩
                 rotate_left
                 · obtain ⟨q0, q1, q2, q3, q4, q5⟩ := HZ.out.below hw'
                   obtain ⟨m0, m1⟩ := HMB.out.below hw'
                   obtain ⟨p0, p1, p2, p3, p4, p5⟩ := HP.out.below hw'
                   go_simp
                   rfl
                 go_simp)
            clear hK K
            with_reducible refine bl_step ?_
            intro K hK
            go_simp
            first
              | (refine hK _ _ ?_)
              | (refine ⟨?_, fun w' hw' => ?_, hK _ _ ?_⟩
                 rotate_left
                 · obtain ⟨q0, q1, q2, q3, q4, q5⟩ := HZ.out.below hw'
                   obtain ⟨m0, m1⟩ := HMB.out.below hw'
                   obtain ⟨p0, p1, p2, p3, p4, p5⟩ := HP.out.below hw'
                   go_simp
                   rfl
                 go_simp)
            clear hK K
            with_reducible refine bl_step ?_
            intro K hK
            go_simp
            first
              | (refine hK _ _ ?_)
              | (refine ⟨?_, fun w' hw' => ?_, hK _ _ ?_⟩
                 rotate_left
                 · obtain ⟨q0, q1, q2, q3, q4, q5⟩ := HZ.out.below hw'
                   obtain ⟨m0, m1⟩ := HMB.out.below hw'
                   obtain ⟨p0, p1, p2, p3, p4, p5⟩ := HP.out.below hw'
                   go_simp
                   rfl
                 go_simp)
            clear hK K
            with_reducible refine bl_step ?_
            intro K hK
            go_simp
            first
              | (refine hK _ _ ?_)
              | (refine ⟨?_, fun w' hw' => ?_, hK _ _ ?_⟩
                 rotate_left
                 · obtain ⟨q0, q1, q2, q3, q4, q5⟩ := HZ.out.below hw'
                   obtain ⟨m0, m1⟩ := HMB.out.below hw'
                   obtain ⟨p0, p1, p2, p3, p4, p5⟩ := HP.out.below hw'
                   go_simp
                   rfl
                 go_simp)
            clear hK K
            with_reducible refine bl_step ?_
            intro K hK
            go_simp
            first
              | (refine hK _ _ ?_)
              | (refine ⟨?_, fun w' hw' => ?_, hK _ _ ?_⟩
                 rotate_left
                 · obtain ⟨q0, q1, q2, q3, q4, q5⟩ := HZ.out.below hw'
                   obtain ⟨m0, m1⟩ := HMB.out.below hw'
                   obtain ⟨p0, p1, p2, p3, p4, p5⟩ := HP.out.below hw'
                   go_simp
                   rfl
                 go_simp)
            clear hK K
            with_reducible refine bl_step ?_
            intro K hK
            go_simp
            first
              | (refine hK _ _ ?_)
              | (refine ⟨?_, fun w' hw' => ?_, hK _ _ ?_⟩
                 rotate_left
                 · obtain ⟨q0, q1, q2, q3, q4, q5⟩ := HZ.out.below hw'
                   obtain ⟨m0, m1⟩ := HMB.out.below hw'
                   obtain ⟨p0, p1, p2, p3, p4, p5⟩ := HP.out.below hw'
                   go_simp
                   rfl
                 go_simp)
            clear hK K
            with_reducible refine bl_step ?_
            intro K hK
            go_simp
            first
              | (refine hK _ _ ?_)
              | (refine ⟨?_, fun w' hw' => ?_, hK _ _ ?_⟩
                 rotate_left
                 · obtain ⟨q0, q1, q2, q3, q4, q5⟩ := HZ.out.below hw'
                   obtain ⟨m0, m1⟩ := HMB.out.below hw'
                   obtain ⟨p0, p1, p2, p3, p4, p5⟩ := HP.out.below hw'
                   go_simp
                   rfl
                 go_simp)
            clear hK K
            with_reducible refine bl_step ?_
            intro K hK
            go_simp
            first
              | (refine hK _ _ ?_)
              | (refine ⟨?_, fun w' hw' => ?_, hK _ _ ?_⟩
                 rotate_left
                 · obtain ⟨q0, q1, q2, q3, q4, q5⟩ := HZ.out.below hw'
                   obtain ⟨m0, m1⟩ := HMB.out.below hw'
                   obtain ⟨p0, p1, p2, p3, p4, p5⟩ := HP.out.below hw'
                   go_simp
                   rfl
                 go_simp)
            clear hK K
            with_reducible refine bl_step ?_
            intro K hK
            go_simp
            first
              | (refine hK _ _ ?_)
              | (refine ⟨?_, fun w' hw' => ?_, hK _ _ ?_⟩
                 rotate_left
                 · obtain ⟨q0, q1, q2, q3, q4, q5⟩ := HZ.out.below hw'
                   obtain ⟨m0, m1⟩ := HMB.out.below hw'
                   obtain ⟨p0, p1, p2, p3, p4, p5⟩ := HP.out.below hw'
                   go_simp
                   rfl
                 go_simp)
            clear hK K
            with_reducible refine bl_step ?_
            intro K hK
            go_simp
            first
              | (refine hK _ _ ?_)
              | (refine ⟨?_, fun w' hw' => ?_, hK _ _ ?_⟩
                 rotate_left
                 · obtain ⟨q0, q1, q2, q3, q4, q5⟩ := HZ.out.below hw'
                   obtain ⟨m0, m1⟩ := HMB.out.below hw'
                   obtain ⟨p0, p1, p2, p3, p4, p5⟩ := HP.out.below hw'
                   go_simp
                   rfl
                 go_simp)
            clear hK K
            with_reducible refine bl_step ?_
            intro K hK
            go_simp
            first
              | (refine hK _ _ ?_)
              | (refine ⟨?_, fun w' hw' => ?_, hK _ _ ?_⟩
                 rotate_left
                 · obtain ⟨q0, q1, q2, q3, q4, q5⟩ := HZ.out.below hw'
                   obtain ⟨m0, m1⟩ := HMB.out.below hw'
                   obtain ⟨p0, p1, p2, p3, p4, p5⟩ := HP.out.below hw'
                   go_simp
                   rfl
                 go_simp)
            clear hK K
            with_reducible refine bl_step ?_
            intro K hK
            go_simp
            first
              | (refine hK _ _ ?_)
              | (refine ⟨?_, fun w' hw' => ?_, hK _ _ ?_⟩
                 rotate_left
                 · obtain ⟨q0, q1, q2, q3, q4, q5⟩ := HZ.out.below hw'
                   obtain ⟨m0, m1⟩ := HMB.out.below hw'
                   obtain ⟨p0, p1, p2, p3, p4, p5⟩ := HP.out.below hw'
                   go_simp
                   rfl
                 go_simp)
            clear hK K
            with_reducible refine bl_step ?_
            intro K hK
            go_simp
            first
              | (refine hK _ _ ?_)
              | (refine ⟨?_, fun w' hw' => ?_, hK _ _ ?_⟩
                 rotate_left
                 · obtain ⟨q0, q1, q2, q3, q4, q5⟩ := HZ.out.below hw'
                   obtain ⟨m0, m1⟩ := HMB.out.below hw'
                   obtain ⟨p0, p1, p2, p3, p4, p5⟩ := HP.out.below hw'
                   go_simp
                   rfl
                 go_simp)
            clear hK K
            with_reducible refine bl_step ?_
            intro K hK
            go_simp
            first
              | (refine hK _ _ ?_)
              | (refine ⟨?_, fun w' hw' => ?_, hK _ _ ?_⟩
                 rotate_left
                 · obtain ⟨q0, q1, q2, q3, q4, q5⟩ := HZ.out.below hw'
                   obtain ⟨m0, m1⟩ := HMB.out.below hw'
                   obtain ⟨p0, p1, p2, p3, p4, p5⟩ := HP.out.below hw'
                   go_simp
                   rfl
                 go_simp)
            clear hK K
            with_reducible refine bl_step ?_
            intro K hK
            go_simp
            first
              | (refine hK _ _ ?_)
              | (refine ⟨?_, fun w' hw' => ?_, hK _ _ ?_⟩
                 rotate_left
                 · obtain ⟨q0, q1, q2, q3, q4, q5⟩ := HZ.out.below hw'
                   obtain ⟨m0, m1⟩ := HMB.out.below hw'
                   obtain ⟨p0, p1, p2, p3, p4, p5⟩ := HP.out.below hw'
                   go_simp
                   rfl
                 go_simp)
            clear hK K
            with_reducible refine wpR_nil (fun nq => ?_)
            have BB := Lib.hid (HA1.out.trans ((bdrew A.out nq).mono HA1.out.size))
            have HMC := Lib.hid (hM.out.below BB.out)
            go_wp2
            go_roundw
            case rel => exact ⟨p + 1 + 1, by omega, by go_num, mok_yes hmk.out (okA_s HLY.out HUI.out), HMC.out, hB.out.trans (BB.out.mono hB.out.size)⟩
            case measure => simp [intOf]; omega
          · have HUI := Lib.hid hui
            have e9 : ((lat L (p + 1)).i != (lat L p).u) = true := by simpa using fun h => hui h.symm
            clear hui
            have HLY := Lib.hid hly
            have HLY2 := Lib.hid (show ly (lat L (p + 1)).k (lat L (p + 1)).i (lat L (p + 1)).u (lat L (p + 1)).xs.length (lat L (p + 1)).ys.length = true from hly)
            clear hly
            refine wp_bl 18 [0, 2, 0, 0, 0, 0, 0, 0, 0, 0, 0, 0, 0, 0, 0, 0, 0, 0, 0] (by kernel_rfl) (by kernel_rfl) ?_
            simp only [List.take_succ_cons, List.take_zero, List.drop_succ_cons, List.drop_zero]
            with_reducible refine bl_step ?_
            intro K hK
            go_simp
            first
              | (refine hK _ _ ?_)
              | (refine ⟨?_, fun w' hw' => ?_, hK _ _ ?_⟩
                 rotate_left
                 · obtain ⟨q0, q1, q2, q3, q4, q5⟩ := HZ.out.below hw'
                   obtain ⟨m0, m1⟩ := HMB.out.below hw'
                   obtain ⟨p0, p1, p2, p3, p4, p5⟩ := HP.out.below hw'
                   go_simp
                   rfl
                 go_simp)
            clear hK K
            with_reducible refine bl_step ?_
            intro K hK
            go_simp
            intro _
            refine (layI _ _ _ _ _ _ _ _ _ _ X1.out X2.out).mono ?_
            rintro e w8 ⟨rfl, A0⟩
            have A := Lib.hid ((bdrew (Below.refl _ _) _).trans A0)
            clear A0
            rw [HLY2.out]
            refine ⟨_, rfl, A.out, hK _ _ ?_⟩
            clear hK K
            with_reducible refine bl_step ?_
            intro K hK
            go_simp
            first
              | (refine hK _ _ ?_)
              | (refine ⟨?_, fun w' hw' => ?_, hK _ _ ?_⟩
                 rotate_left
                 · obtain ⟨q0, q1, q2, q3, q4, q5⟩ := HZ.out.below hw'
                   obtain ⟨m0, m1⟩ := HMB.out.below hw'
                   obtain ⟨p0, p1, p2, p3, p4, p5⟩ := HP.out.below hw'
                   go_simp
                   rfl
                 go_simp)
            clear hK K
            with_reducible refine bl_step ?_
            intro K hK
            go_simp
            first
              | (refine hK _ _ ?_)
              | (refine ⟨?_, fun w' hw' => ?_, hK _ _ ?_⟩
                 rotate_left
                 · obtain ⟨q0, q1, q2, q3, q4, q5⟩ := HZ.out.below hw'
                   obtain ⟨m0, m1⟩ := HMB.out.below hw'
                   obtain ⟨p0, p1, p2, p3, p4, p5⟩ := HP.out.below hw'
                   go_simp
                   rfl
                 go_simp)
            clear hK K
            with_reducible refine bl_step ?_
            intro K hK
            go_simp
            first
              | (refine hK _ _ ?_)
              | (refine ⟨?_, fun w' hw' => ?_, hK _ _ ?_⟩
                 rotate_left
                 · obtain ⟨q0, q1, q2, q3, q4, q5⟩ := HZ.out.below hw'
                   obtain ⟨m0, m1⟩ := HMB.out.below hw'
                   obtain ⟨p0, p1, p2, p3, p4, p5⟩ := HP.out.below hw'
                   go_simp
                   rfl
                 go_simp)
            clear hK K
            with_reducible refine bl_step ?_
            intro K hK
            go_simp
            first
              | (refine hK _ _ ?_)
              | (refine ⟨?_, fun w' hw' => ?_, hK _ _ ?_⟩
                 rotate_left
                 · obtain ⟨q0, q1, q2, q3, q4, q5⟩ := HZ.out.below hw'
                   obtain ⟨m0, m1⟩ := HMB.out.below hw'
                   obtain ⟨p0, p1, p2, p3, p4, p5⟩ := HP.out.below hw'
                   go_simp
                   rfl
                 go_simp)
            clear hK K
            with_reducible refine bl_step ?_
            intro K hK
            go_simp
            first
              | (refine hK _ _ ?_)
              | (refine ⟨?_, fun w' hw' => ?_, hK _ _ ?_⟩
                 rotate_left
                 · obtain ⟨q0, q1, q2, q3, q4, q5⟩ := HZ.out.below hw'
                   obtain ⟨m0, m1⟩ := HMB.out.below hw'
                   obtain ⟨p0, p1, p2, p3, p4, p5⟩ := HP.out.below hw'
                   go_simp
                   rfl
                 go_simp)
            clear hK K
            with_reducible refine bl_step ?_
            intro K hK
            go_simp
            first
              | (refine hK _ _ ?_)
              | (refine ⟨?_, fun w' hw' => ?_, hK _ _ ?_⟩
                 rotate_left
                 · obtain ⟨q0, q1, q2, q3, q4, q5⟩ := HZ.out.below hw'
                   obtain ⟨m0, m1⟩ := HMB.out.below hw'
                   obtain ⟨p0, p1, p2, p3, p4, p5⟩ := HP.out.below hw'
                   go_simp
                   rfl
                 go_simp)
            clear hK K
            with_reducible refine bl_step ?_
            intro K hK
            go_simp
            first
              | (refine hK _ _ ?_)
              | (refine ⟨?_, fun w' hw' => ?_, hK _ _ ?_⟩
                 rotate_left
                 · obtain ⟨q0, q1, q2, q3, q4, q5⟩ := HZ.out.below hw'
                   obtain ⟨m0, m1⟩ := HMB.out.below hw'
                   obtain ⟨p0, p1, p2, p3, p4, p5⟩ := HP.out.below hw'
                   go_simp
                   rfl
                 go_simp)
            clear hK K
            with_reducible refine bl_step ?_
            intro K hK
            go_simp
            first
              | (refine hK _ _ ?_)
              | (refine ⟨?_, fun w' hw' => ?_, hK _ _ ?_⟩
                 rotate_left
                 · obtain ⟨q0, q1, q2, q3, q4, q5⟩ := HZ.out.below hw'
                   obtain ⟨m0, m1⟩ := HMB.out.below hw'
                   obtain ⟨p0, p1, p2, p3, p4, p5⟩ := HP.out.below hw'
                   go_simp
                   rfl
                 go_simp)
            clear hK K
            with_reducible refine bl_step ?_
            intro K hK
            go_simp
            first
              | (refine hK _ _ ?_)
              | (refine ⟨?_, fun w' hw' => ?_, hK _ _ ?_⟩
                 rotate_left
                 · obtain ⟨q0, q1, q2, q3, q4, q5⟩ := HZ.out.below hw'
                   obtain ⟨m0, m1⟩ := HMB.out.below hw'
                   obtain ⟨p0, p1, p2, p3, p4, p5⟩ := HP.out.below hw'
                   go_simp
                   rfl
                 go_simp)
            clear hK K
            with_reducible refine bl_step ?_
            intro K hK
            go_simp
            first
              | (refine hK _ _ ?_)
              | (refine ⟨?_, fun w' hw' => ?_, hK _ _ ?_⟩
                 rotate_left
                 · obtain ⟨q0, q1, q2, q3, q4, q5⟩ := HZ.out.below hw'
                   obtain ⟨m0, m1⟩ := HMB.out.below hw'
                   obtain ⟨p0, p1, p2, p3, p4, p5⟩ := HP.out.below hw'
                   go_simp
                   rfl
                 go_simp)
            clear hK K
            with_reducible refine bl_step ?_
            intro K hK
            go_simp
            first
              | (refine hK _ _ ?_)
              | (refine ⟨?_, fun w' hw' => ?_, hK _ _ ?_⟩
                 rotate_left
                 · obtain ⟨q0, q1, q2, q3, q4, q5⟩ := HZ.out.below hw'
                   obtain ⟨m0, m1⟩ := HMB.out.below hw'
                   obtain ⟨p0, p1, p2, p3, p4, p5⟩ := HP.out.below hw'
                   go_simp
                   rfl
                 go_simp)
            clear hK K
            with_reducible refine bl_step ?_
            intro K hK
            go_simp
            first
              | (refine hK _ _ ?_)
              | (refine ⟨?_, fun w' hw' => ?_, hK _ _ ?_⟩
                 rotate_left
                 · obtain ⟨q0, q1, q2, q3, q4, q5⟩ := HZ.out.below hw'
                   obtain ⟨m0, m1⟩ := HMB.out.below hw'
                   obtain ⟨p0, p1, p2, p3, p4, p5⟩ := HP.out.below hw'
                   go_simp
                   rfl
                 go_simp)
            clear hK K
            with_reducible refine bl_step ?_
            intro K hK
            go_simp
            first
              | (refine hK _ _ ?_)
              | (refine ⟨?_, fun w' hw' => ?_, hK _ _ ?_⟩
                 rotate_left
                 · obtain ⟨q0, q1, q2, q3, q4, q5⟩ := HZ.out.below hw'
                   obtain ⟨m0, m1⟩ := HMB.out.below hw'
                   obtain ⟨p0, p1, p2, p3, p4, p5⟩ := HP.out.below hw'
                   go_simp
                   rfl
                 go_simp)
            clear hK K
            with_reducible refine bl_step ?_
            intro K hK
            go_simp
            first
              | (refine hK _ _ ?_)
              | (refine ⟨?_, fun w' hw' => ?_, hK _ _ ?_⟩
                 rotate_left
                 · obtain ⟨q0, q1, q2, q3, q4, q5⟩ := HZ.out.below hw'
                   obtain ⟨m0, m1⟩ := HMB.out.below hw'
                   obtain ⟨p0, p1, p2, p3, p4, p5⟩ := HP.out.below hw'
                   go_simp
                   rfl
                 go_simp)
            clear hK K
            with_reducible refine bl_step ?_
            intro K hK
            go_simp
            first
              | (refine hK _ _ ?_)
              | (refine ⟨?_, fun w' hw' => ?_, hK _ _ ?_⟩
                 rotate_left
                 · obtain ⟨q0, q1, q2, q3, q4, q5⟩ := HZ.out.below hw'
                   obtain ⟨m0, m1⟩ := HMB.out.below hw'
                   obtain ⟨p0, p1, p2, p3, p4, p5⟩ := HP.out.below hw'
                   go_simp
                   rfl
                 go_simp)
            clear hK K
            with_reducible refine bl_step ?_
            intro K hK
            go_simp
            first
              | (refine hK _ _ ?_)
              | (refine ⟨?_, fun w' hw' => ?_, hK _ _ ?_⟩
                 rotate_left
                 · obtain ⟨q0, q1, q2, q3, q4, q5⟩ := HZ.out.below hw'
                   obtain ⟨m0, m1⟩ := HMB.out.below hw'
                   obtain ⟨p0, p1, p2, p3, p4, p5⟩ := HP.out.below hw'
                   go_simp
                   rfl
                 go_simp)
            clear hK K
            with_reducible refine wpR_nil (fun nq => ?_)
            have BB := Lib.hid (HA1.out.trans ((bdrew A.out nq).mono HA1.out.size))
            have HMC := Lib.hid (hM.out.below BB.out)
            go_wp2
            go_ret
            exact ⟨by unfold mv; rw [mok_no hlt (okA_n HUI.out), Bool.and_false]; rfl, hB.out.trans (BB.out.mono hB.out.size)⟩
    · have e : j = n := by omega
      subst e
      obtain ⟨m0, m1⟩ := hM.out
      by_cases hb1 : 1 ≤ j
      · have HV := Lib.hid (show mv L j = decide ((j : Int) ≤ 6) by unfold mv; rw [decide_eq_true hb1, hmk.out, Bool.true_and, Bool.and_true]; exact decide_eq_decide.2 (by omega))
        go_wp2
        go_ret
        exact ⟨by rw [HV.out]; rfl, hB.out⟩
      · have HV := Lib.hid (show mv L j = false by unfold mv; rw [decide_eq_false hb1]; simp)
        go_wp2
        go_ret
        exact ⟨by rw [HV.out]; rfl, hB.out⟩
end Go.Proofs.Ytclhemjanhhioaa
