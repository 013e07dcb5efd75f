/- Which tapes are valid: the shapes of all values, by the program. -/
import Derived.Test.YtcfnhkadljlgcaaOpW
import Derived.Test.YtcfnhkadljlgcaaPlan
import Derived.Deep.CutRange
namespace Go.Proofs.Ytcfnhkadljlgcaa
open Go.RowKit Go.Fl Go.Reg
/-- two cells that read as a shape -/
structure S2b (w : World) (b : Nat) (x y : Int) : Prop where
  c0 : w.cell? ⟨b, 0, none⟩ = some (.int .i64 x)
  c1 : w.cell? ⟨b, 1, none⟩ = some (.int .i64 y)
  lt : b < w.heap.size
theorem S2b.below {w w' : World} {b : Nat} {x y : Int} (h : S2b w b x y) (hb : Below w.heap.size w w') : S2b w' b x y :=
  ⟨(hb.cell (p := ⟨b, 0, none⟩) h.lt).trans h.c0, (hb.cell (p := ⟨b, 1, none⟩) h.lt).trans h.c1, Nat.lt_of_lt_of_le h.lt hb.size⟩
/-- two cells of a new box -/
structure S2z (w : World) (b : Nat) : Prop where
  c0 : w.cell? ⟨b, 0, none⟩ = some (.int .i64 0)
  c1 : w.cell? ⟨b, 1, none⟩ = some (.int .i64 0)
  f0 : w.frozen? ⟨b, 0, none⟩ = false
  f1 : w.frozen? ⟨b, 1, none⟩ = false
  lt : b < w.heap.size
theorem S2z.below {w w' : World} {b : Nat} (h : S2z w b) (hb : Below w.heap.size w w') : S2z w' b :=
  ⟨(hb.cell (p := ⟨b, 0, none⟩) h.lt).trans h.c0, (hb.cell (p := ⟨b, 1, none⟩) h.lt).trans h.c1, (hb.frozen (p := ⟨b, 0, none⟩) h.lt).trans h.f0, (hb.frozen (p := ⟨b, 1, none⟩) h.lt).trans h.f1, Nat.lt_of_lt_of_le h.lt hb.size⟩
theorem S2z.new (w : World) (t : TypeId) : S2z (w.alloc (.cells #[.int .i64 0, .int .i64 0] t)) w.heap.size := by
  refine ⟨?_, ?_, ?_, ?_, by simp⟩ <;> simp [go_sem]
theorem two_new (w : World) (t : TypeId) (p q s : Nat) : S2z (((((w.drewN p).alloc (.cells #[.int .i64 0, .int .i64 0] t)).drewN q).alloc (.cells #[.int .i64 0, .int .i64 0] t)).drewN s) w.heap.size ∧ S2z (((((w.drewN p).alloc (.cells #[.int .i64 0, .int .i64 0] t)).drewN q).alloc (.cells #[.int .i64 0, .int .i64 0] t)).drewN s) (w.heap.size + 1) ∧ Below w.heap.size w (((((w.drewN p).alloc (.cells #[.int .i64 0, .int .i64 0] t)).drewN q).alloc (.cells #[.int .i64 0, .int .i64 0] t)).drewN s) := by
  have h1 := S2z.new (w.drewN p) t
  have A1 : Below w.heap.size w ((w.drewN p).alloc (.cells #[.int .i64 0, .int .i64 0] t)) := (bdrew (Below.refl _ _) _).alloc (Nat.le_refl _) _
  have e1 : ((w.drewN p).alloc (.cells #[.int .i64 0, .int .i64 0] t)).heap.size = w.heap.size + 1 := by simp
  generalize (w.drewN p).alloc (.cells #[.int .i64 0, .int .i64 0] t) = v at *
  have h2 := S2z.new (v.drewN q) t
  have A2 : Below v.heap.size v ((v.drewN q).alloc (.cells #[.int .i64 0, .int .i64 0] t)) := (bdrew (Below.refl _ _) _).alloc (Nat.le_refl _) _
  have e2 : (v.drewN q).heap.size = w.heap.size + 1 := e1
  rw [e2] at h2
  generalize (v.drewN q).alloc (.cells #[.int .i64 0, .int .i64 0] t) = u at *
  have A3 : Below u.heap.size u (u.drewN s) := bdrew (Below.refl _ _) _
  have h1 : S2z v w.heap.size := h1
  exact ⟨(h1.below A2).below A3, h2.below A3, (A1.trans (A2.mono (by omega))).trans (A3.mono (by have := A2.size; omega))⟩
theorem s2_set {w : World} {b : Nat} {x y : Int} (h : S2z w b) : S2b ((w.setCell ⟨b, 0, none⟩ (.int .i64 x)).setCell ⟨b, 1, none⟩ (.int .i64 y)) b x y :=
  ⟨by simp [go_sem, h.c0], by simp [go_sem, h.c1], by simpa [World.setCell] using h.lt⟩
theorem s2_oth {w : World} {b q off : Nat} {x y : Int} {u : Value} (h : S2b w b x y) (hne : b ≠ q) : S2b (w.setCell ⟨q, off, none⟩ u) b x y :=
  ⟨(World.cell?_of_block (a := ⟨b, 0, none⟩) (Below.heap_setCell _ _ _ _ hne)).trans h.c0, (World.cell?_of_block (a := ⟨b, 1, none⟩) (Below.heap_setCell _ _ _ _ hne)).trans h.c1, by simpa [World.setCell] using h.lt⟩
theorem z_oth {w : World} {b q off : Nat} {u : Value} (h : S2z w b) (hne : b ≠ q) : S2z (w.setCell ⟨q, off, none⟩ u) b :=
  ⟨(World.cell?_of_block (a := ⟨b, 0, none⟩) (Below.heap_setCell _ _ _ _ hne)).trans h.c0, (World.cell?_of_block (a := ⟨b, 1, none⟩) (Below.heap_setCell _ _ _ _ hne)).trans h.c1, (World.frozen?_of_block (a := ⟨b, 0, none⟩) (Below.heap_setCell _ _ _ _ hne)).trans h.f0, (World.frozen?_of_block (a := ⟨b, 1, none⟩) (Below.heap_setCell _ _ _ _ hne)).trans h.f1, by simpa [World.setCell] using h.lt⟩
theorem plan_at {P : Program} {ops : Array Oper} {C : World → Prop} {lab : Nat → Nat} {Q : Act → World → Prop} {p : Plan} {a : Act} {w : World} (h : ∀ w', w' = w → wpP P ops C lab Q p a w') : wpP P ops C lab Q p a w := h _ rfl
theorem hd_kind {l : OD} {j : Nat} (h : hdB l (j : Int) = true) (hk : ¬ l.k = 0) : ∃ A B : Nat, l.a = (A : Int) ∧ A < j ∧ l.b = (B : Int) ∧ B < j ∧ (l.k = 1 ∨ l.k = 2 ∨ l.k = 3 ∨ l.k = 4 ∨ l.k = 5 ∨ l.k = 6 ∨ l.k = 7 ∨ l.k = 8 ∨ l.k = 9 ∨ l.k = 10) := by
  unfold hdB at h
  rw [if_neg hk] at h
  simp only [Bool.and_eq_true] at h
  obtain ⟨⟨h1, -⟩, ⟨-, h2⟩, h3⟩ := h
  obtain ⟨A, hA, hAj⟩ := in_nat h2
  have hk2 := in10 h1
  by_cases ht : tw l.k = true
  · rw [if_pos ht] at h3
    obtain ⟨B, hB, hBj⟩ := in_nat h3
    exact ⟨A, B, hA, hAj, hB, hBj, by omega⟩
  · rw [if_neg ht] at h3
    have := of_decide_eq_true h3
    exact ⟨A, 0, hA, hAj, by omega, by omega, by omega⟩
theorem vld_low {L : List OD} {n : Nat} (h : n < 1) : vld L n = false := by unfold vld; rw [decide_eq_false (by omega)]; rfl
theorem vld_high {L : List OD} {n : Nat} (h : 48 < n) : vld L n = false := by unfold vld; rw [decide_eq_false (show ¬ n ≤ 48 by omega)]; simp
set_option maxHeartbeats 16000000 in
set_option maxRecDepth 100000 in
theorem shapesI (a0 : Option Addr) (n cap : Nat) (L : List OD) (w : World) (hn : n ≤ 1048576) (h : Oz w a0 n cap L) :
    Calls Try.prog 12 #[.slice a0 n cap] w (SP w (vld L n)) := by
  obtain ⟨i0, hi, hz0, hz1, hz2⟩ := info_parts infoS2
  have HI := Lib.hid hi
  have HZ0 := Lib.hid hz0
  have HZ1 := Lib.hid hz1
  have HZ2 := Lib.hid hz2
  clear hi hz0 hz1 hz2
  have hc1 := h.cap1
  have hc2 := h.cap2
  unfold maxLen at hc2
  have H := Lib.hid h
  clear h
  by_cases h1 : n < 1
  · have HV := Lib.hid (vld_low (L := L) h1)
    have h1' : (n : Int) < 1 := by omega
    clear h1
    go_enter Try.func12, Try.ntmps12
    go_wp2
    go_ret2
    exact SP.of HV.out (Below.refl _ _)
  have h1' : ¬ (n : Int) < 1 := by omega
  by_cases h2 : 48 < n
  · have HV := Lib.hid (vld_high (L := L) h2)
    have h2' : 48 < (n : Int) := by omega
    clear h2
    go_enter Try.func12, Try.ntmps12
    go_wp2
    go_ret2
    exact SP.of HV.out (Below.refl _ _)
  have h2' : ¬ 48 < (n : Int) := by omega
  have hnn : 1 ≤ n ∧ n ≤ 48 := by omega
  clear h1 h2
  go_enter Try.func12, Try.ntmps12
  go_wp2
  clear h1' h2'
  go_loopw [4, 22] (fun v i w' => ∃ (j g c : Nat) (S : List (Int × Int)) (cs : List Value), j ≤ n ∧ i = .int .i64 j ∧ v = .slice (some ⟨g, 0, none⟩) j c ∧ Hid (run L j = some S) ∧ Hid (S2 w' w.heap.size g j c S cs) ∧ Hid (Below w.heap.size w w')) (fun _ i _ => n - (intOf i).toNat)
  case atStart => exact ⟨0, _, 0, [], [], Nat.zero_le _, rfl, rfl, rfl, S2.start w, (Below.refl _ _).alloc (Nat.le_refl _) _⟩
  case round =>
    obtain ⟨j, g, cap', S, cs, hj, rfl, rfl, hR, hS, hB⟩ := hrel
    by_cases hlt : j < n
    · obtain ⟨p, o, rfl, q, d1, QL⟩ := (H.out.below hB.out).cell j hlt
      obtain ⟨hz, hm⟩ := H.out.bd j hlt
      obtain ⟨l, hl⟩ : ∃ l, l = oat L j := ⟨_, rfl⟩
      rw [← hl] at QL hz hm
      have HL := Lib.hid hl
      clear hl
      obtain ⟨k, a, b, z, r, c, xs⟩ := l
      dsimp only at QL hz hm
      obtain ⟨q0, q1, q2, q3, q4, q5, q6, q7⟩ := QL
      dsimp only at q0 q1 q2 q3 q4 q5 q6
      go_wp2_with fail
      clear q0 q1 q2 q3 q4 q5 q6 q7
      refine calls_at ?_
      intro w1 hA
      obtain ⟨O_, A, z1, z2⟩ := ob_new (l := ⟨k, a, b, z, r, c, []⟩) hA
      clear hA
      have O := Lib.hid O_
      have T := hB.out.trans (A.mono hB.out.size)
      have hS := Lib.hid (hS.out.below A)
      clear O_ A
      refine (fieldsI ⟨k, a, b, z, r, c, xs⟩ _ _ _ _ (by omega) hz hm).mono ?_
      rintro e w2 ⟨rfl, A⟩
      have T := T.trans (A.mono T.size)
      have O := Lib.hid (O.out.below A)
      have hS := Lib.hid (hS.out.below A)
      have z3 := A.size
      clear A hz
      have HM := Lib.hid hm
      clear hm
      cases hh : hdB ⟨k, a, b, z, r, c, xs⟩ (j : Int)
      · skip
        have HV := Lib.hid (vld_hd hR.out HL.out hh hlt)
        clear hh
        go_wp2
        go_ret2
        exact SP.of HV.out T
      · skip
        have HH := Lib.hid hh
        clear hh
        by_cases k0 : k = 0
        · skip
          subst k0
          obtain ⟨o0, o1, o2, o3, o4, o5, o6, o7⟩ := O.out
          dsimp only at o0 o1 o2 o3 o4 o5 o6
          have hzz : w.heap.size ≤ w2.heap.size := T.size
          go_wp2_with (at_builtin; refine wpList_append_own _ rfl (.tmp 34) (.tmp 42) 40 rfl w.heap.size 51 i0 (.agg #[.int .i64 0, .int .i64 0]) 2 16 Try.underlying40 HI.out HZ0.out HZ1.out HZ2.out rfl (by decide) (.slice (some ⟨g, 0, none⟩) j cap') j cs rfl (hS.out.alloc _).own ⟨w2.heap.size, 0, none⟩ 1 1 [.int .i64 r, .int .i64 c] rfl rfl ?c1 ?c2 ?c3 ?c4 ?c5 ?_)
          case c1 =>
            intro j v hj
            match j, hj with
            | 0, hj => simp at hj; subst hj; simp [go_sem]
            | 1, hj => simp at hj; subst hj; simp [go_sem]
          case c2 => intro v hv; simp at hv; rcases hv with rfl | rfl <;> rfl
          case c3 => unfold maxLen; omega
          case c4 => omega
          case c5 => simp <;> omega
          intro v' w9 hown hgr hnil
          have T9 := Lib.hid ((T.alloc (by omega) _).grown hgr (by simp <;> omega) (fun q hq => (hS.out.own.lt q hq).1))
          obtain ⟨g2, cap2, rfl, S9_⟩ := hS.out.app hown hnil T9.out.size
          have S9 := Lib.hid S9_
          have R9 := Lib.hid (run_hd hR.out HL.out HH.out (show nxt _ S = some ( r,  c) by rfl))
          clear S9_ hown hgr hnil
          go_wp2
          go_roundw
          case rel => (repeat apply Exists.intro); first | exact ⟨⟨by omega, by go_num, by go_num, R9.out, S9.out, T9.out⟩, rfl⟩ | exact ⟨by omega, by go_num, by go_num, R9.out, S9.out, T9.out⟩
          case measure => simp [intOf]; omega
        · skip
          obtain ⟨A, B, hAe, hAj, hBe, hBj, hk⟩ := hd_kind HH.out k0
          dsimp only at hAe hBe hk
          subst hAe
          subst hBe
          obtain ⟨v0, v1, v2⟩ := hS.out.at hAj
          obtain ⟨t0, t1, t2⟩ := hS.out.at hBj
          obtain ⟨x1, hx1⟩ : ∃ x, x = (sat S A).1 := ⟨_, rfl⟩
          obtain ⟨x2, hx2⟩ : ∃ x, x = (sat S A).2 := ⟨_, rfl⟩
          obtain ⟨y1, hy1⟩ : ∃ x, x = (sat S B).1 := ⟨_, rfl⟩
          obtain ⟨y2, hy2⟩ : ∃ x, x = (sat S B).2 := ⟨_, rfl⟩
          rw [← hx1] at v0
          rw [← hx2] at v1
          rw [← hy1] at t0
          rw [← hy2] at t1
          have HX1 := Lib.hid hx1
          have HX2 := Lib.hid hx2
          have HY1 := Lib.hid hy1
          have HY2 := Lib.hid hy2
          clear hx1 hx2 hy1 hy2
          have HVA := Lib.hid (show sat S A = (x1, x2) by rw [HX1.out, HX2.out])
          have HVB := Lib.hid (show sat S B = (y1, y2) by rw [HY1.out, HY2.out])
          have hk0 : (k == 0) = false := by simpa using k0
          obtain ⟨o0, o1, o2, o3, o4, o5, o6, o7⟩ := O.out
          dsimp only at o0 o1 o2 o3 o4 o5 o6
          go_upto_region 11 with fail
          clear o0 o1 o2 o3 o4 o5 o6 o7
          clear hk0 v0 v1 v2 t0 t1 t2
          go_cut [7, 8] from 44 to 53 (fun s7 s8 wx => ∃ b7 b8, s7 = .pointer (some ⟨b7, 0, none⟩) ∧ s8 = .pointer (some ⟨b8, 0, none⟩) ∧ S2b wx b7 x1 x2 ∧ S2b wx b8 y1 y2 ∧ Below w2.heap.size w2 wx)
          case first =>
            have FA := Lib.hid (show ∀ w', Below w2.heap.size w2 w' → _ ∧ _ ∧ _ from fun w' hb => ⟨O.out.below hb, (hS.out.below hb).at hAj, (hS.out.below hb).at hBj⟩)
            refine wp_plan 13 [0, 0, 0, 0, 0, 0, 0, 0, 0, 0, 2, 2, 2, 2] (.go 0 (.go 1 (.go 2 (.go 3 (.go 4 (.go 5 (.go 6 (.go 7 (.go 8 (.go 9 (.either 10 11 (.only 11 (.only 12 .fin)) (.only 10 (.only 12 .fin))))))))))))) (Bl w2) (by kernel_rfl) (by kernel_rfl) (Bl.refl _) Bl.drew ?_
            simp only [List.drop_succ_cons, List.drop_zero]
            refine plan_go (pl0 (v := ?_) (by rfl) rfl rfl (fun w' hw' => ?_) (fun K hK => ?_))
            rotate_left
            · obtain ⟨⟨o0, o1, o2, o3, o4, o5, o6, o7⟩, ⟨v0, v1, v2⟩, ⟨t0, t1, t2⟩⟩ := FA.out w' hw'
              dsimp only at o0 o1 o2 o3 o4 o5 o6
              rw [← HX1.out] at v0
              rw [← HX2.out] at v1
              rw [← HY1.out] at t0
              rw [← HY2.out] at t1
              go_simp
              rfl
            go_simp
            refine hK _ _ ?_
            clear hK K
            refine plan_go (pl0 (v := ?_) (by rfl) rfl rfl (fun w' hw' => ?_) (fun K hK => ?_))
            rotate_left
            · obtain ⟨⟨o0, o1, o2, o3, o4, o5, o6, o7⟩, ⟨v0, v1, v2⟩, ⟨t0, t1, t2⟩⟩ := FA.out w' hw'
              dsimp only at o0 o1 o2 o3 o4 o5 o6
              rw [← HX1.out] at v0
              rw [← HX2.out] at v1
              rw [← HY1.out] at t0
              rw [← HY2.out] at t1
              go_simp
              rfl
            go_simp
            refine hK _ _ ?_
            clear hK K
            refine plan_go (pl0 (v := ?_) (by rfl) rfl rfl (fun w' hw' => ?_) (fun K hK => ?_))
            rotate_left
            · obtain ⟨⟨o0, o1, o2, o3, o4, o5, o6, o7⟩, ⟨v0, v1, v2⟩, ⟨t0, t1, t2⟩⟩ := FA.out w' hw'
              dsimp only at o0 o1 o2 o3 o4 o5 o6
              rw [← HX1.out] at v0
              rw [← HX2.out] at v1
              rw [← HY1.out] at t0
              rw [← HY2.out] at t1
              go_simp
              rfl
            go_simp
            refine hK _ _ ?_
            clear hK K
            refine plan_go (pl0 (v := ?_) (by rfl) rfl rfl (fun w' hw' => ?_) (fun K hK => ?_))
            rotate_left
            · obtain ⟨⟨o0, o1, o2, o3, o4, o5, o6, o7⟩, ⟨v0, v1, v2⟩, ⟨t0, t1, t2⟩⟩ := FA.out w' hw'
              dsimp only at o0 o1 o2 o3 o4 o5 o6
              rw [← HX1.out] at v0
              rw [← HX2.out] at v1
              rw [← HY1.out] at t0
              rw [← HY2.out] at t1
              go_simp
              rfl
            go_simp
            refine hK _ _ ?_
            clear hK K
            refine plan_go (pl0 (v := ?_) (by rfl) rfl rfl (fun w' hw' => ?_) (fun K hK => ?_))
            rotate_left
            · obtain ⟨⟨o0, o1, o2, o3, o4, o5, o6, o7⟩, ⟨v0, v1, v2⟩, ⟨t0, t1, t2⟩⟩ := FA.out w' hw'
              dsimp only at o0 o1 o2 o3 o4 o5 o6
              rw [← HX1.out] at v0
              rw [← HX2.out] at v1
              rw [← HY1.out] at t0
              rw [← HY2.out] at t1
              go_simp
              rfl
            go_simp
            refine hK _ _ ?_
            clear hK K
            refine plan_go (pl0 (v := ?_) (by rfl) rfl rfl (fun w' hw' => ?_) (fun K hK => ?_))
            rotate_left
            · obtain ⟨⟨o0, o1, o2, o3, o4, o5, o6, o7⟩, ⟨v0, v1, v2⟩, ⟨t0, t1, t2⟩⟩ := FA.out w' hw'
              dsimp only at o0 o1 o2 o3 o4 o5 o6
              rw [← HX1.out] at v0
              rw [← HX2.out] at v1
              rw [← HY1.out] at t0
              rw [← HY2.out] at t1
              go_simp
              rfl
            go_simp
            refine hK _ _ ?_
            clear hK K
            refine plan_go (pl0 (v := ?_) (by rfl) rfl rfl (fun w' hw' => ?_) (fun K hK => ?_))
            rotate_left
            · obtain ⟨⟨o0, o1, o2, o3, o4, o5, o6, o7⟩, ⟨v0, v1, v2⟩, ⟨t0, t1, t2⟩⟩ := FA.out w' hw'
              dsimp only at o0 o1 o2 o3 o4 o5 o6
              rw [← HX1.out] at v0
              rw [← HX2.out] at v1
              rw [← HY1.out] at t0
              rw [← HY2.out] at t1
              go_simp
              rfl
            go_simp
            refine hK _ _ ?_
            clear hK K
            refine plan_go (pl0 (v := ?_) (by rfl) rfl rfl (fun w' hw' => ?_) (fun K hK => ?_))
            rotate_left
            · obtain ⟨⟨o0, o1, o2, o3, o4, o5, o6, o7⟩, ⟨v0, v1, v2⟩, ⟨t0, t1, t2⟩⟩ := FA.out w' hw'
              dsimp only at o0 o1 o2 o3 o4 o5 o6
              rw [← HX1.out] at v0
              rw [← HX2.out] at v1
              rw [← HY1.out] at t0
              rw [← HY2.out] at t1
              go_simp
              rfl
            go_simp
            refine hK _ _ ?_
            clear hK K
            refine plan_go (pl0 (v := ?_) (by rfl) rfl rfl (fun w' hw' => ?_) (fun K hK => ?_))
            rotate_left
            · obtain ⟨⟨o0, o1, o2, o3, o4, o5, o6, o7⟩, ⟨v0, v1, v2⟩, ⟨t0, t1, t2⟩⟩ := FA.out w' hw'
              dsimp only at o0 o1 o2 o3 o4 o5 o6
              rw [← HX1.out] at v0
              rw [← HX2.out] at v1
              rw [← HY1.out] at t0
              rw [← HY2.out] at t1
              go_simp
              rfl
            go_simp
            refine hK _ _ ?_
            clear hK K
            refine plan_go (pl0 (v := ?_) (by rfl) rfl rfl (fun w' hw' => ?_) (fun K hK => ?_))
            rotate_left
            · obtain ⟨⟨o0, o1, o2, o3, o4, o5, o6, o7⟩, ⟨v0, v1, v2⟩, ⟨t0, t1, t2⟩⟩ := FA.out w' hw'
              dsimp only at o0 o1 o2 o3 o4 o5 o6
              rw [← HX1.out] at v0
              rw [← HX2.out] at v1
              rw [← HY1.out] at t0
              rw [← HY2.out] at t1
              go_simp
              rfl
            go_simp
            refine hK _ _ ?_
            clear hK K
            refine plan_either ?_ ?_
            · skip
              refine pl2 (by rfl) rfl rfl (fun K hK => ?_)
              go_simp
              intro n1
              refine ⟨(bdrew (Below.refl _ _) _).alloc (by simp) _, hK _ _ ?_⟩
              clear hK K
              refine plan_only (pl2 (by rfl) rfl rfl (fun K hK => ?_))
              go_simp
              intro n2
              refine ⟨((bdrew ((bdrew (Below.refl _ _) _).alloc (by simp) _) _).alloc (by simp <;> omega) _), hK _ _ ?_⟩
              clear hK K
              refine plan_at ?_
              intro u hU
              have hN : S2z u w2.heap.size ∧ S2z u (w2.heap.size + 1) ∧ Below w2.heap.size w2 u := by rw [hU]; exact two_new w2 _ (1 + n1) n2 0
              clear hU
              obtain ⟨za, zb, AU⟩ := hN
              have ZA := Lib.hid za
              have ZB := Lib.hid zb
              have HAU := Lib.hid AU
              clear za zb AU
              obtain ⟨e0, e1, e2, e3, e4⟩ := ZA.out
              refine plan_only (pl2 (by rfl) rfl rfl (fun K hK => ?_))
              go_simp
              intro n3
              refine ⟨((bdrew HAU.out _).setCell (by simp <;> omega) _).setCell (by simp <;> omega) _, ?_⟩
              go_simp
              refine hK _ _ ?_
              clear hK K
              clear e0 e1 e2 e3 e4
              refine plan_fin (fun nF => ?_)
              have hv : ∃ v, v = (((u.drewN n3).setCell ⟨w2.heap.size, 0, none⟩ (.int .i64 x1)).setCell ⟨w2.heap.size, 1, none⟩ (.int .i64 x2)).drewN nF := ⟨_, rfl⟩
              obtain ⟨v, hv⟩ := hv
              have hP : S2b v (w2.heap.size) x1 x2 ∧ S2z v (w2.heap.size + 1) ∧ Below w2.heap.size w2 v := by
                rw [hv]
                have D : Below (u.drewN n3).heap.size u (u.drewN n3) := bdrew (Below.refl _ _) _
                have D2 : ∀ (y : World), Below y.heap.size y (y.drewN nF) := fun y => bdrew (Below.refl _ _) _
                refine ⟨(s2_set (ZA.out.below D)).below (D2 _), (z_oth (z_oth (ZB.out.below D) (by omega)) (by omega)).below (D2 _), ?_⟩
                exact bdrew (((bdrew HAU.out _).setCell (by simp <;> omega) _).setCell (by simp <;> omega) _) _
              rw [← hv]
              clear hv
              obtain ⟨hP1, hP2, hP3⟩ := hP
              have HP1 := Lib.hid hP1
              have HP2 := Lib.hid hP2
              have HP3 := Lib.hid hP3
              clear hP1 hP2 hP3
              obtain ⟨e0, e1, e2, e3, e4⟩ := HP2.out
              go_wp2_with fail
              go_meet
              exact ⟨_, _, rfl, rfl, s2_oth (s2_oth HP1.out (by omega)) (by omega), s2_set HP2.out, (HP3.out.setCell (by simp <;> omega) _).setCell (by simp <;> omega) _⟩
            · skip
              refine pl2 (by rfl) rfl rfl (fun K hK => ?_)
              go_simp
              intro n1
              refine ⟨(bdrew (Below.refl _ _) _).alloc (by simp) _, hK _ _ ?_⟩
              clear hK K
              refine plan_only (pl2 (by rfl) rfl rfl (fun K hK => ?_))
              go_simp
              intro n2
              refine ⟨((bdrew ((bdrew (Below.refl _ _) _).alloc (by simp) _) _).alloc (by simp <;> omega) _), hK _ _ ?_⟩
              clear hK K
              refine plan_at ?_
              intro u hU
              have hN : S2z u w2.heap.size ∧ S2z u (w2.heap.size + 1) ∧ Below w2.heap.size w2 u := by rw [hU]; exact two_new w2 _ (1 + n1) n2 0
              clear hU
              obtain ⟨za, zb, AU⟩ := hN
              have ZA := Lib.hid za
              have ZB := Lib.hid zb
              have HAU := Lib.hid AU
              clear za zb AU
              obtain ⟨e0, e1, e2, e3, e4⟩ := ZB.out
              refine plan_only (pl2 (by rfl) rfl rfl (fun K hK => ?_))
              go_simp
              intro n3
              refine ⟨((bdrew HAU.out _).setCell (by simp <;> omega) _).setCell (by simp <;> omega) _, ?_⟩
              go_simp
              refine hK _ _ ?_
              clear hK K
              clear e0 e1 e2 e3 e4
              refine plan_fin (fun nF => ?_)
              have hv : ∃ v, v = (((u.drewN n3).setCell ⟨w2.heap.size + 1, 0, none⟩ (.int .i64 x1)).setCell ⟨w2.heap.size + 1, 1, none⟩ (.int .i64 x2)).drewN nF := ⟨_, rfl⟩
              obtain ⟨v, hv⟩ := hv
              have hP : S2b v (w2.heap.size + 1) x1 x2 ∧ S2z v (w2.heap.size) ∧ Below w2.heap.size w2 v := by
                rw [hv]
                have D : Below (u.drewN n3).heap.size u (u.drewN n3) := bdrew (Below.refl _ _) _
                have D2 : ∀ (y : World), Below y.heap.size y (y.drewN nF) := fun y => bdrew (Below.refl _ _) _
                refine ⟨(s2_set (ZB.out.below D)).below (D2 _), (z_oth (z_oth (ZA.out.below D) (by omega)) (by omega)).below (D2 _), ?_⟩
                exact bdrew (((bdrew HAU.out _).setCell (by simp <;> omega) _).setCell (by simp <;> omega) _) _
              rw [← hv]
              clear hv
              obtain ⟨hP1, hP2, hP3⟩ := hP
              have HP1 := Lib.hid hP1
              have HP2 := Lib.hid hP2
              have HP3 := Lib.hid hP3
              clear hP1 hP2 hP3
              obtain ⟨e0, e1, e2, e3, e4⟩ := HP2.out
              go_wp2_with fail
              go_meet
              exact ⟨_, _, rfl, rfl, s2_oth (s2_oth HP1.out (by omega)) (by omega), s2_set HP2.out, (HP3.out.setCell (by simp <;> omega) _).setCell (by simp <;> omega) _⟩
          case rest =>
            obtain ⟨b7, b8, rfl, rfl, s7, s8, A⟩ := hcut
            generalize wc = w3 at *
            have T := T.trans (A.mono T.size)
            have O := Lib.hid (O.out.below A)
            have hS := Lib.hid (hS.out.below A)
            have z4 := A.size
            clear A
            obtain ⟨g0, g1, g2'⟩ := s7
            obtain ⟨f0, f1, f2'⟩ := s8
            obtain ⟨o0, o1, o2, o3, o4, o5, o6, o7⟩ := O.out
            dsimp only at o0 o1 o2 o3 o4 o5 o6
            clear o1 o2 o3 o4 o5 o6
            rcases hk with rfl | rfl | rfl | rfl | rfl | rfl | rfl | rfl | rfl | rfl
            · skip
              cases d0 : (x1 == y1)
              · skip
                have d0e : ¬ x1 = y1 := by simpa using d0
                have D0 := Lib.hid d0e
                clear d0e
                have hv : vld L n = false := vld_nx hR.out HL.out (by simp [nxt, fitB, HVA.out, HVB.out, D0.out]) hlt
                have HV := Lib.hid hv
                clear hv
                go_wp2
                go_ret2
                exact SP.of HV.out (T.alloc T.size _)
              · skip
                have d0e : x1 = y1 := by simpa using d0
                have D0 := Lib.hid d0e
                clear d0e
                cases d1 : (x2 == y2)
                · skip
                  have d1e : ¬ x2 = y2 := by simpa using d1
                  have D1 := Lib.hid d1e
                  clear d1e
                  have hv : vld L n = false := vld_nx hR.out HL.out (by simp [nxt, fitB, HVA.out, HVB.out, D0.out, D1.out]) hlt
                  have HV := Lib.hid hv
                  clear hv
                  go_wp2
                  go_ret2
                  exact SP.of HV.out (T.alloc T.size _)
                · skip
                  have d1e : x2 = y2 := by simpa using d1
                  have D1 := Lib.hid d1e
                  clear d1e
                  have hzz : w.heap.size ≤ w3.heap.size := T.size
                  go_wp2_with (at_builtin; refine wpList_append_own _ rfl (.tmp 95) (.tmp 97) 40 rfl w.heap.size 51 i0 (.agg #[.int .i64 0, .int .i64 0]) 2 16 Try.underlying40 HI.out HZ0.out HZ1.out HZ2.out rfl (by decide) (.slice (some ⟨g, 0, none⟩) j cap') j cs rfl ((hS.out.alloc _).alloc _).own ⟨w3.heap.size + 1, 0, none⟩ 1 1 [.int .i64 x1, .int .i64 x2] rfl rfl ?c1 ?c2 ?c3 ?c4 ?c5 ?_)
                  case c1 =>
                    intro j v hj
                    match j, hj with
                    | 0, hj => simp at hj; subst hj; simp [go_sem]
                    | 1, hj => simp at hj; subst hj; simp [go_sem]
                  case c2 => intro v hv; simp at hv; rcases hv with rfl | rfl <;> rfl
                  case c3 => unfold maxLen; omega
                  case c4 => omega
                  case c5 => simp <;> omega
                  intro v' w9 hown hgr hnil
                  have T9 := Lib.hid (((T.alloc (by omega) _).alloc (by simp <;> omega) _).grown hgr (by simp <;> omega) (fun q hq => (hS.out.own.lt q hq).1))
                  obtain ⟨g2, cap2, rfl, S9_⟩ := hS.out.app hown hnil T9.out.size
                  have S9 := Lib.hid S9_
                  have R9 := Lib.hid (run_hd hR.out HL.out HH.out (show nxt _ S = some ( x1,  x2) by simp [nxt, fitB, ownB, HVA.out, HVB.out, D0.out, D1.out]))
                  clear S9_ hown hgr hnil
                  go_wp2
                  go_roundw
                  case rel => (repeat apply Exists.intro); first | exact ⟨⟨by omega, by go_num, by go_num, R9.out, S9.out, T9.out⟩, rfl⟩ | exact ⟨by omega, by go_num, by go_num, R9.out, S9.out, T9.out⟩
                  case measure => simp [intOf]; omega
            · skip
              cases d0 : (y1 == 1)
              · skip
                have d0e : ¬ y1 = 1 := by simpa using d0
                have D0 := Lib.hid d0e
                clear d0e
                have hv : vld L n = false := vld_nx hR.out HL.out (by simp [nxt, fitB, HVA.out, HVB.out, D0.out]) hlt
                have HV := Lib.hid hv
                clear hv
                go_wp2
                go_ret2
                exact SP.of HV.out (T.alloc T.size _)
              · skip
                have d0e : y1 = 1 := by simpa using d0
                have D0 := Lib.hid d0e
                clear d0e
                cases d1 : (y2 == x2)
                · skip
                  have d1e : ¬ y2 = x2 := by simpa using d1
                  have D1 := Lib.hid d1e
                  clear d1e
                  have dx : ¬ x2 = y2 := fun e => D1.out e.symm
                  have hv : vld L n = false := vld_nx hR.out HL.out (by simp [nxt, fitB, HVA.out, HVB.out, D0.out, dx]) hlt
                  have HV := Lib.hid hv
                  clear hv dx
                  go_wp2
                  go_ret2
                  exact SP.of HV.out (T.alloc T.size _)
                · skip
                  have d1e : y2 = x2 := by simpa using d1
                  have D1 := Lib.hid d1e
                  clear d1e
                  have hzz : w.heap.size ≤ w3.heap.size := T.size
                  go_wp2_with (at_builtin; refine wpList_append_own _ rfl (.tmp 95) (.tmp 97) 40 rfl w.heap.size 51 i0 (.agg #[.int .i64 0, .int .i64 0]) 2 16 Try.underlying40 HI.out HZ0.out HZ1.out HZ2.out rfl (by decide) (.slice (some ⟨g, 0, none⟩) j cap') j cs rfl ((hS.out.alloc _).alloc _).own ⟨w3.heap.size + 1, 0, none⟩ 1 1 [.int .i64 x1, .int .i64 x2] rfl rfl ?c1 ?c2 ?c3 ?c4 ?c5 ?_)
                  case c1 =>
                    intro j v hj
                    match j, hj with
                    | 0, hj => simp at hj; subst hj; simp [go_sem]
                    | 1, hj => simp at hj; subst hj; simp [go_sem]
                  case c2 => intro v hv; simp at hv; rcases hv with rfl | rfl <;> rfl
                  case c3 => unfold maxLen; omega
                  case c4 => omega
                  case c5 => simp <;> omega
                  intro v' w9 hown hgr hnil
                  have T9 := Lib.hid (((T.alloc (by omega) _).alloc (by simp <;> omega) _).grown hgr (by simp <;> omega) (fun q hq => (hS.out.own.lt q hq).1))
                  obtain ⟨g2, cap2, rfl, S9_⟩ := hS.out.app hown hnil T9.out.size
                  have S9 := Lib.hid S9_
                  have R9 := Lib.hid (run_hd hR.out HL.out HH.out (show nxt _ S = some ( x1,  x2) by simp [nxt, fitB, ownB, HVA.out, HVB.out, D0.out, D1.out]))
                  clear S9_ hown hgr hnil
                  go_wp2
                  go_roundw
                  case rel => (repeat apply Exists.intro); first | exact ⟨⟨by omega, by go_num, by go_num, R9.out, S9.out, T9.out⟩, rfl⟩ | exact ⟨by omega, by go_num, by go_num, R9.out, S9.out, T9.out⟩
                  case measure => simp [intOf]; omega
            · skip
              cases d0 : (x1 == y1)
              · skip
                have d0e : ¬ x1 = y1 := by simpa using d0
                have D0 := Lib.hid d0e
                clear d0e
                have hv : vld L n = false := vld_nx hR.out HL.out (by simp [nxt, fitB, HVA.out, HVB.out, D0.out]) hlt
                have HV := Lib.hid hv
                clear hv
                go_wp2
                go_ret2
                exact SP.of HV.out (T.alloc T.size _)
              · skip
                have d0e : x1 = y1 := by simpa using d0
                have D0 := Lib.hid d0e
                clear d0e
                cases d1 : (x2 == y2)
                · skip
                  have d1e : ¬ x2 = y2 := by simpa using d1
                  have D1 := Lib.hid d1e
                  clear d1e
                  have hv : vld L n = false := vld_nx hR.out HL.out (by simp [nxt, fitB, HVA.out, HVB.out, D0.out, D1.out]) hlt
                  have HV := Lib.hid hv
                  clear hv
                  go_wp2
                  go_ret2
                  exact SP.of HV.out (T.alloc T.size _)
                · skip
                  have d1e : x2 = y2 := by simpa using d1
                  have D1 := Lib.hid d1e
                  clear d1e
                  have hzz : w.heap.size ≤ w3.heap.size := T.size
                  go_wp2_with (at_builtin; refine wpList_append_own _ rfl (.tmp 95) (.tmp 97) 40 rfl w.heap.size 51 i0 (.agg #[.int .i64 0, .int .i64 0]) 2 16 Try.underlying40 HI.out HZ0.out HZ1.out HZ2.out rfl (by decide) (.slice (some ⟨g, 0, none⟩) j cap') j cs rfl ((hS.out.alloc _).alloc _).own ⟨w3.heap.size + 1, 0, none⟩ 1 1 [.int .i64 x1, .int .i64 x2] rfl rfl ?c1 ?c2 ?c3 ?c4 ?c5 ?_)
                  case c1 =>
                    intro j v hj
                    match j, hj with
                    | 0, hj => simp at hj; subst hj; simp [go_sem]
                    | 1, hj => simp at hj; subst hj; simp [go_sem]
                  case c2 => intro v hv; simp at hv; rcases hv with rfl | rfl <;> rfl
                  case c3 => unfold maxLen; omega
                  case c4 => omega
                  case c5 => simp <;> omega
                  intro v' w9 hown hgr hnil
                  have T9 := Lib.hid (((T.alloc (by omega) _).alloc (by simp <;> omega) _).grown hgr (by simp <;> omega) (fun q hq => (hS.out.own.lt q hq).1))
                  obtain ⟨g2, cap2, rfl, S9_⟩ := hS.out.app hown hnil T9.out.size
                  have S9 := Lib.hid S9_
                  have R9 := Lib.hid (run_hd hR.out HL.out HH.out (show nxt _ S = some ( x1,  x2) by simp [nxt, fitB, ownB, HVA.out, HVB.out, D0.out, D1.out]))
                  clear S9_ hown hgr hnil
                  go_wp2
                  go_roundw
                  case rel => (repeat apply Exists.intro); first | exact ⟨⟨by omega, by go_num, by go_num, R9.out, S9.out, T9.out⟩, rfl⟩ | exact ⟨by omega, by go_num, by go_num, R9.out, S9.out, T9.out⟩
                  case measure => simp [intOf]; omega
            · skip
              cases d0 : (y1 == 1)
              · skip
                have d0e : ¬ y1 = 1 := by simpa using d0
                have D0 := Lib.hid d0e
                clear d0e
                have hv : vld L n = false := vld_nx hR.out HL.out (by simp [nxt, fitB, HVA.out, HVB.out, D0.out]) hlt
                have HV := Lib.hid hv
                clear hv
                go_wp2
                go_ret2
                exact SP.of HV.out (T.alloc T.size _)
              · skip
                have d0e : y1 = 1 := by simpa using d0
                have D0 := Lib.hid d0e
                clear d0e
                cases d1 : (y2 == x2)
                · skip
                  have d1e : ¬ y2 = x2 := by simpa using d1
                  have D1 := Lib.hid d1e
                  clear d1e
                  have dx : ¬ x2 = y2 := fun e => D1.out e.symm
                  have hv : vld L n = false := vld_nx hR.out HL.out (by simp [nxt, fitB, HVA.out, HVB.out, D0.out, dx]) hlt
                  have HV := Lib.hid hv
                  clear hv dx
                  go_wp2
                  go_ret2
                  exact SP.of HV.out (T.alloc T.size _)
                · skip
                  have d1e : y2 = x2 := by simpa using d1
                  have D1 := Lib.hid d1e
                  clear d1e
                  have hzz : w.heap.size ≤ w3.heap.size := T.size
                  go_wp2_with (at_builtin; refine wpList_append_own _ rfl (.tmp 95) (.tmp 97) 40 rfl w.heap.size 51 i0 (.agg #[.int .i64 0, .int .i64 0]) 2 16 Try.underlying40 HI.out HZ0.out HZ1.out HZ2.out rfl (by decide) (.slice (some ⟨g, 0, none⟩) j cap') j cs rfl ((hS.out.alloc _).alloc _).own ⟨w3.heap.size + 1, 0, none⟩ 1 1 [.int .i64 x1, .int .i64 x2] rfl rfl ?c1 ?c2 ?c3 ?c4 ?c5 ?_)
                  case c1 =>
                    intro j v hj
                    match j, hj with
                    | 0, hj => simp at hj; subst hj; simp [go_sem]
                    | 1, hj => simp at hj; subst hj; simp [go_sem]
                  case c2 => intro v hv; simp at hv; rcases hv with rfl | rfl <;> rfl
                  case c3 => unfold maxLen; omega
                  case c4 => omega
                  case c5 => simp <;> omega
                  intro v' w9 hown hgr hnil
                  have T9 := Lib.hid (((T.alloc (by omega) _).alloc (by simp <;> omega) _).grown hgr (by simp <;> omega) (fun q hq => (hS.out.own.lt q hq).1))
                  obtain ⟨g2, cap2, rfl, S9_⟩ := hS.out.app hown hnil T9.out.size
                  have S9 := Lib.hid S9_
                  have R9 := Lib.hid (run_hd hR.out HL.out HH.out (show nxt _ S = some ( x1,  x2) by simp [nxt, fitB, ownB, HVA.out, HVB.out, D0.out, D1.out]))
                  clear S9_ hown hgr hnil
                  go_wp2
                  go_roundw
                  case rel => (repeat apply Exists.intro); first | exact ⟨⟨by omega, by go_num, by go_num, R9.out, S9.out, T9.out⟩, rfl⟩ | exact ⟨by omega, by go_num, by go_num, R9.out, S9.out, T9.out⟩
                  case measure => simp [intOf]; omega
            · skip
              have hzz : w.heap.size ≤ w3.heap.size := T.size
              go_wp2_with (at_builtin; refine wpList_append_own _ rfl (.tmp 95) (.tmp 97) 40 rfl w.heap.size 51 i0 (.agg #[.int .i64 0, .int .i64 0]) 2 16 Try.underlying40 HI.out HZ0.out HZ1.out HZ2.out rfl (by decide) (.slice (some ⟨g, 0, none⟩) j cap') j cs rfl ((hS.out.alloc _).alloc _).own ⟨w3.heap.size + 1, 0, none⟩ 1 1 [.int .i64 x1, .int .i64 x2] rfl rfl ?c1 ?c2 ?c3 ?c4 ?c5 ?_)
              case c1 =>
                intro j v hj
                match j, hj with
                | 0, hj => simp at hj; subst hj; simp [go_sem]
                | 1, hj => simp at hj; subst hj; simp [go_sem]
              case c2 => intro v hv; simp at hv; rcases hv with rfl | rfl <;> rfl
              case c3 => unfold maxLen; omega
              case c4 => omega
              case c5 => simp <;> omega
              intro v' w9 hown hgr hnil
              have T9 := Lib.hid (((T.alloc (by omega) _).alloc (by simp <;> omega) _).grown hgr (by simp <;> omega) (fun q hq => (hS.out.own.lt q hq).1))
              obtain ⟨g2, cap2, rfl, S9_⟩ := hS.out.app hown hnil T9.out.size
              have S9 := Lib.hid S9_
              have R9 := Lib.hid (run_hd hR.out HL.out HH.out (show nxt _ S = some ( x1,  x2) by simp [nxt, fitB, ownB, HVA.out]))
              clear S9_ hown hgr hnil
              go_wp2
              go_roundw
              case rel => (repeat apply Exists.intro); first | exact ⟨⟨by omega, by go_num, by go_num, R9.out, S9.out, T9.out⟩, rfl⟩ | exact ⟨by omega, by go_num, by go_num, R9.out, S9.out, T9.out⟩
              case measure => simp [intOf]; omega
            · skip
              cases d0 : (x2 == y1)
              · skip
                have d0e : ¬ x2 = y1 := by simpa using d0
                have D0 := Lib.hid d0e
                clear d0e
                have hv : vld L n = false := vld_nx hR.out HL.out (by simp [nxt, fitB, HVA.out, HVB.out, D0.out]) hlt
                have HV := Lib.hid hv
                clear hv
                go_wp2
                go_ret2
                exact SP.of HV.out (T.alloc T.size _)
              · skip
                have d0e : x2 = y1 := by simpa using d0
                have D0 := Lib.hid d0e
                clear d0e
                have hzz : w.heap.size ≤ w3.heap.size := T.size
                go_wp2_with (at_builtin; refine wpList_append_own _ rfl (.tmp 95) (.tmp 97) 40 rfl w.heap.size 51 i0 (.agg #[.int .i64 0, .int .i64 0]) 2 16 Try.underlying40 HI.out HZ0.out HZ1.out HZ2.out rfl (by decide) (.slice (some ⟨g, 0, none⟩) j cap') j cs rfl ((hS.out.alloc _).alloc _).own ⟨w3.heap.size + 1, 0, none⟩ 1 1 [.int .i64 x1, .int .i64 y2] rfl rfl ?c1 ?c2 ?c3 ?c4 ?c5 ?_)
                case c1 =>
                  intro j v hj
                  match j, hj with
                  | 0, hj => simp at hj; subst hj; simp [go_sem]
                  | 1, hj => simp at hj; subst hj; simp [go_sem]
                case c2 => intro v hv; simp at hv; rcases hv with rfl | rfl <;> rfl
                case c3 => unfold maxLen; omega
                case c4 => omega
                case c5 => simp <;> omega
                intro v' w9 hown hgr hnil
                have T9 := Lib.hid (((T.alloc (by omega) _).alloc (by simp <;> omega) _).grown hgr (by simp <;> omega) (fun q hq => (hS.out.own.lt q hq).1))
                obtain ⟨g2, cap2, rfl, S9_⟩ := hS.out.app hown hnil T9.out.size
                have S9 := Lib.hid S9_
                have R9 := Lib.hid (run_hd hR.out HL.out HH.out (show nxt _ S = some ( x1,  y2) by simp [nxt, fitB, ownB, HVA.out, HVB.out, D0.out]))
                clear S9_ hown hgr hnil
                go_wp2
                go_roundw
                case rel => (repeat apply Exists.intro); first | exact ⟨⟨by omega, by go_num, by go_num, R9.out, S9.out, T9.out⟩, rfl⟩ | exact ⟨by omega, by go_num, by go_num, R9.out, S9.out, T9.out⟩
                case measure => simp [intOf]; omega
            · skip
              have hzz : w.heap.size ≤ w3.heap.size := T.size
              go_wp2_with (at_builtin; refine wpList_append_own _ rfl (.tmp 95) (.tmp 97) 40 rfl w.heap.size 51 i0 (.agg #[.int .i64 0, .int .i64 0]) 2 16 Try.underlying40 HI.out HZ0.out HZ1.out HZ2.out rfl (by decide) (.slice (some ⟨g, 0, none⟩) j cap') j cs rfl ((hS.out.alloc _).alloc _).own ⟨w3.heap.size + 1, 0, none⟩ 1 1 [.int .i64 x2, .int .i64 x1] rfl rfl ?c1 ?c2 ?c3 ?c4 ?c5 ?_)
              case c1 =>
                intro j v hj
                match j, hj with
                | 0, hj => simp at hj; subst hj; simp [go_sem]
                | 1, hj => simp at hj; subst hj; simp [go_sem]
              case c2 => intro v hv; simp at hv; rcases hv with rfl | rfl <;> rfl
              case c3 => unfold maxLen; omega
              case c4 => omega
              case c5 => simp <;> omega
              intro v' w9 hown hgr hnil
              have T9 := Lib.hid (((T.alloc (by omega) _).alloc (by simp <;> omega) _).grown hgr (by simp <;> omega) (fun q hq => (hS.out.own.lt q hq).1))
              obtain ⟨g2, cap2, rfl, S9_⟩ := hS.out.app hown hnil T9.out.size
              have S9 := Lib.hid S9_
              have R9 := Lib.hid (run_hd hR.out HL.out HH.out (show nxt _ S = some ( x2,  x1) by simp [nxt, fitB, ownB, HVA.out]))
              clear S9_ hown hgr hnil
              go_wp2
              go_roundw
              case rel => (repeat apply Exists.intro); first | exact ⟨⟨by omega, by go_num, by go_num, R9.out, S9.out, T9.out⟩, rfl⟩ | exact ⟨by omega, by go_num, by go_num, R9.out, S9.out, T9.out⟩
              case measure => simp [intOf]; omega
            · skip
              have hzz : w.heap.size ≤ w3.heap.size := T.size
              go_wp2_with (at_builtin; refine wpList_append_own _ rfl (.tmp 95) (.tmp 97) 40 rfl w.heap.size 51 i0 (.agg #[.int .i64 0, .int .i64 0]) 2 16 Try.underlying40 HI.out HZ0.out HZ1.out HZ2.out rfl (by decide) (.slice (some ⟨g, 0, none⟩) j cap') j cs rfl ((hS.out.alloc _).alloc _).own ⟨w3.heap.size + 1, 0, none⟩ 1 1 [.int .i64 x1, .int .i64 x2] rfl rfl ?c1 ?c2 ?c3 ?c4 ?c5 ?_)
              case c1 =>
                intro j v hj
                match j, hj with
                | 0, hj => simp at hj; subst hj; simp [go_sem]
                | 1, hj => simp at hj; subst hj; simp [go_sem]
              case c2 => intro v hv; simp at hv; rcases hv with rfl | rfl <;> rfl
              case c3 => unfold maxLen; omega
              case c4 => omega
              case c5 => simp <;> omega
              intro v' w9 hown hgr hnil
              have T9 := Lib.hid (((T.alloc (by omega) _).alloc (by simp <;> omega) _).grown hgr (by simp <;> omega) (fun q hq => (hS.out.own.lt q hq).1))
              obtain ⟨g2, cap2, rfl, S9_⟩ := hS.out.app hown hnil T9.out.size
              have S9 := Lib.hid S9_
              have R9 := Lib.hid (run_hd hR.out HL.out HH.out (show nxt _ S = some ( x1,  x2) by simp [nxt, fitB, ownB, HVA.out]))
              clear S9_ hown hgr hnil
              go_wp2
              go_roundw
              case rel => (repeat apply Exists.intro); first | exact ⟨⟨by omega, by go_num, by go_num, R9.out, S9.out, T9.out⟩, rfl⟩ | exact ⟨by omega, by go_num, by go_num, R9.out, S9.out, T9.out⟩
              case measure => simp [intOf]; omega
            · skip
              have hzz : w.heap.size ≤ w3.heap.size := T.size
              go_wp2_with (at_builtin; refine wpList_append_own _ rfl (.tmp 95) (.tmp 97) 40 rfl w.heap.size 51 i0 (.agg #[.int .i64 0, .int .i64 0]) 2 16 Try.underlying40 HI.out HZ0.out HZ1.out HZ2.out rfl (by decide) (.slice (some ⟨g, 0, none⟩) j cap') j cs rfl ((hS.out.alloc _).alloc _).own ⟨w3.heap.size + 1, 0, none⟩ 1 1 [.int .i64 x1, .int .i64 x2] rfl rfl ?c1 ?c2 ?c3 ?c4 ?c5 ?_)
              case c1 =>
                intro j v hj
                match j, hj with
                | 0, hj => simp at hj; subst hj; simp [go_sem]
                | 1, hj => simp at hj; subst hj; simp [go_sem]
              case c2 => intro v hv; simp at hv; rcases hv with rfl | rfl <;> rfl
              case c3 => unfold maxLen; omega
              case c4 => omega
              case c5 => simp <;> omega
              intro v' w9 hown hgr hnil
              have T9 := Lib.hid (((T.alloc (by omega) _).alloc (by simp <;> omega) _).grown hgr (by simp <;> omega) (fun q hq => (hS.out.own.lt q hq).1))
              obtain ⟨g2, cap2, rfl, S9_⟩ := hS.out.app hown hnil T9.out.size
              have S9 := Lib.hid S9_
              have R9 := Lib.hid (run_hd hR.out HL.out HH.out (show nxt _ S = some ( x1,  x2) by simp [nxt, fitB, ownB, HVA.out]))
              clear S9_ hown hgr hnil
              go_wp2
              go_roundw
              case rel => (repeat apply Exists.intro); first | exact ⟨⟨by omega, by go_num, by go_num, R9.out, S9.out, T9.out⟩, rfl⟩ | exact ⟨by omega, by go_num, by go_num, R9.out, S9.out, T9.out⟩
              case measure => simp [intOf]; omega
            · skip
              have hzz : w.heap.size ≤ w3.heap.size := T.size
              go_wp2_with (at_builtin; refine wpList_append_own _ rfl (.tmp 95) (.tmp 97) 40 rfl w.heap.size 51 i0 (.agg #[.int .i64 0, .int .i64 0]) 2 16 Try.underlying40 HI.out HZ0.out HZ1.out HZ2.out rfl (by decide) (.slice (some ⟨g, 0, none⟩) j cap') j cs rfl ((hS.out.alloc _).alloc _).own ⟨w3.heap.size + 1, 0, none⟩ 1 1 [.int .i64 1, .int .i64 1] rfl rfl ?c1 ?c2 ?c3 ?c4 ?c5 ?_)
              case c1 =>
                intro j v hj
                match j, hj with
                | 0, hj => simp at hj; subst hj; simp [go_sem]
                | 1, hj => simp at hj; subst hj; simp [go_sem]
              case c2 => intro v hv; simp at hv; rcases hv with rfl | rfl <;> rfl
              case c3 => unfold maxLen; omega
              case c4 => omega
              case c5 => simp <;> omega
              intro v' w9 hown hgr hnil
              have T9 := Lib.hid (((T.alloc (by omega) _).alloc (by simp <;> omega) _).grown hgr (by simp <;> omega) (fun q hq => (hS.out.own.lt q hq).1))
              obtain ⟨g2, cap2, rfl, S9_⟩ := hS.out.app hown hnil T9.out.size
              have S9 := Lib.hid S9_
              have R9 := Lib.hid (run_hd hR.out HL.out HH.out (show nxt _ S = some ( 1,  1) by simp [nxt, fitB, ownB]))
              clear S9_ hown hgr hnil
              go_wp2
              go_roundw
              case rel => (repeat apply Exists.intro); first | exact ⟨⟨by omega, by go_num, by go_num, R9.out, S9.out, T9.out⟩, rfl⟩ | exact ⟨by omega, by go_num, by go_num, R9.out, S9.out, T9.out⟩
              case measure => simp [intOf]; omega
    · have e : j = n := by omega
      subst e
      have hv : vld L j = true := by unfold vld; rw [hR.out, decide_eq_true hnn.1, decide_eq_true hnn.2]; rfl
      have HV := Lib.hid hv
      clear hv
      go_wp2
      go_ret2
      exact SP.of HV.out hB.out
end Go.Proofs.Ytcfnhkadljlgcaa
