/- Products of tensors: the sum of products as a function; the program's products. -/
import Derived.Test.YtoeppdkhncllbaaAccX
import Derived.Test.YtoeppdkhncllbaaTurn
import Derived.Test.YtoeppdkhncllbaaClone
import Derived.Test.YtoeppdkhncllbaaSums
namespace Go.Proofs.Ytoeppdkhncllbaa.prod
open Go.RowKit Go.Fl Go.Reg
def dotF (f g : Nat → Nat) : Nat → Nat
  | 0 => 0
  | k + 1 => fop .add .f32 (dotF f g k) (fop .mul .f32 (f k) (g k))
theorem dotF_step {f g : Nat → Nat} {k r x y : Nat} (h : cn .f32 r = cn .f32 (dotF f g k)) (hx : cn .f32 x = cn .f32 (f k)) (hy : cn .f32 y = cn .f32 (g k)) (w w' : World) : cn .f32 (fres .add .f32 r (fres .mul .f32 x y w) w') = cn .f32 (dotF f g (k + 1)) := by
  show _ = cn .f32 (fop .add .f32 (dotF f g k) (fop .mul .f32 (f k) (g k)))
  rw [fres_fop, fop_l .add h, fop_r .add (fres_fop .mul .f32 x y w), fop_l .mul hx, fop_r .mul hy]
theorem dotF_of {xs ys : List Nat} {f g : Nat → Nat} : ∀ {D : Nat}, (∀ l, l < D → cn .f32 (xs[l]?.getD 0) = cn .f32 (f l)) → (∀ l, l < D → cn .f32 (ys[l]?.getD 0) = cn .f32 (g l)) → dotTo xs ys D = dotF f g D
  | 0, _, _ => rfl
  | D + 1, hx, hy => by
    show fop .add .f32 (dotTo xs ys D) (fop .mul .f32 (xs[D]?.getD 0) (ys[D]?.getD 0)) = _
    rw [dotF_of (fun l hl => hx l (by omega)) (fun l hl => hy l (by omega)), fop_l .mul (hx D (by omega)), fop_r .mul (hy D (by omega))]
    rfl
/-- the number at m of a table with C columns -/
def at2 (G : Nat → Nat → Nat) (C m : Nat) : Nat := G (m / C) (m % C)
theorem at2_at (G : Nat → Nat → Nat) {C i j : Nat} (hj : j < C) : at2 G C (i * C + j) = G i j := by
  unfold at2
  rw [Nat.mul_comm i C, Nat.mul_add_mod, Nat.mod_eq_of_lt hj, Nat.mul_add_div (by omega), Nat.div_eq_of_lt hj, Nat.add_zero]
theorem col_get {zs ys : List Nat} {D C j l : Nat} (h : ys.map (cn .f32) = (upto (turn.F zs D C) (C * D)).map (cn .f32)) (hj : j < C) (hl : l < D) : cn .f32 (ys[j * D + l]?.getD 0) = cn .f32 (zs[l * C + j]?.getD 0) := by
  have hlt := in_row (C := D) hj hl
  have := congrArg (fun x => x[j * D + l]?) h
  simp only [List.getElem?_map] at this
  have e : (upto (turn.F zs D C) (C * D))[j * D + l]? = some (turn.F zs D C (j * D + l)) := by unfold upto; simp [hlt]
  rw [e, turn.F_at zs hl] at this
  cases hy : ys[j * D + l]? with
  | none => rw [hy] at this; simp at this
  | some y => rw [hy] at this; simpa using this
set_option maxHeartbeats 2000000 in
theorem products (f : FuncId) (caps : Array Value) (G : Nat → Nat → Nat) (R D C : Nat) (a : Option Addr) (n cap : Nat) (xs : List Nat) (x2 : Option Addr) (n2 cap2 : Nat) (zs : List Nat) (w : World) (hR : 0 < R ∧ R ≤ 16) (hD : 0 < D ∧ D ≤ 16) (hC : 0 < C ∧ C ≤ 16) (hn : n = R * D) (hn2 : n2 = D * C) (h1 : Fs w a n cap xs) (h2 : Fs w x2 n2 cap2 zs)
    (HR : ∀ args w, Sem.run Try.prog (callFunc f args) w = .ok (.enter f args) w)
    (hf : ∀ w' i j r1 c1 us r2 c2 vs, i < R → j < C → Below w.heap.size w w' → Fs w' (some r1) D c1 us → Fs w' (some r2) D c2 vs → (∀ l, l < D → us[l]?.getD 0 = xs[i * D + l]?.getD 0) → (∀ l, l < D → cn .f32 (vs[l]?.getD 0) = cn .f32 (zs[l * C + j]?.getD 0)) →
      Calls Try.prog f (#[.slice (some r1) D c1, .slice (some r2) D c2] ++ caps) w' fun e w2 => ∃ u, e = .returned (.float .f32 u) ∧ cn .f32 u = cn .f32 (G i j) ∧ Below w'.heap.size w' w2) :
    Calls Try.prog 62 #[.agg #[.int .i64 (R : Int), .int .i64 (D : Int), .slice a n cap], .agg #[.int .i64 (D : Int), .int .i64 (C : Int), .slice x2 n2 cap2], .func (.func f) #[] caps] w (RT1 33 w (R : Int) (C : Int) (upto (at2 G C) (R * C))) := by
  have H1 := Lib.hid h1
  have H2 := Lib.hid h2
  have HF := Lib.hid hf
  have hcap := h1.cap1
  have hcap2 := h1.cap2
  have HM := Lib.hid hcap2
  unfold maxLen at hcap2
  obtain ⟨ba, oa, ha, _⟩ := h1.cell 0 (by rw [hn]; exact Nat.mul_pos hR.1 hD.1)
  subst ha
  clear h1 h2 hf
  have hRK : R * D ≤ 16 * 16 := Nat.mul_le_mul hR.2 hD.2
  have hRC : R * C ≤ 16 * 16 := Nat.mul_le_mul hR.2 hC.2
  have hCK : 0 < C * D := Nat.mul_pos hC.1 hD.1
  have hCK2 : C * D ≤ 16 * 16 := Nat.mul_le_mul hC.2 hD.2
  have HN := Lib.hid hn
  have HN2 := Lib.hid hn2
  have hn1 := Nat.le_of_eq hn
  have hnn := Nat.le_of_eq hn.symm
  clear hn hn2
  go_enter Try.func62, Try.ntmps62
  go_wp2_with fail
  refine calls_at ?_
  intro w1 hA
  have A : Below w.heap.size w w1 := by rw [hA]; exact ((((Below.refl _ _).alloc (Nat.le_refl _) _).alloc (by simp <;> omega) _).alloc (by simp <;> omega) _).alloc (by simp <;> omega) _
  have zw1 : w1.heap.size = w.heap.size + 1 + 1 + 1 + 1 := by rw [hA]; simp
  have Q_ : Box w1 (w.heap.size) ↑R ↑D (some ⟨ba, oa, none⟩) n cap := by rw [hA]; exact ⟨by simp [go_sem], by simp [go_sem], by simp [go_sem], by simp <;> omega⟩
  have P_ : Box w1 (w.heap.size + 1) ↑D ↑C x2 n2 cap2 := by rw [hA]; exact ⟨by simp [go_sem], by simp [go_sem], by simp [go_sem], by simp <;> omega⟩
  have ZR_ : Zbox w1 (w.heap.size + 1 + 1) := by rw [hA]; exact ⟨⟨by simp [go_sem], by simp [go_sem], by simp [go_sem], by simp <;> omega⟩, by simp [go_sem], by simp [go_sem], by simp [go_sem]⟩
  have OB_ : Nbox w1 (w.heap.size + 1 + 1 + 1) ↑R ↑C := by rw [hA]; exact ⟨⟨by simp [go_sem], by simp [go_sem], by simp [go_sem], by simp <;> omega⟩, by simp [go_sem]⟩
  clear hA
  have zw1a := Nat.le_of_eq zw1
  have zw1b := Nat.le_of_eq zw1.symm
  clear zw1
  have T := A
  clear A
  have Q := Lib.hid Q_
  clear Q_
  have P := Lib.hid P_
  clear P_
  have ZR := Lib.hid ZR_
  clear ZR_
  have OB := Lib.hid OB_
  clear OB_
  refine (turn.implInner D C x2 n2 cap2 zs _ hD hC HN2.out (H2.out.below T)).mono ?_
  rintro e w2 ⟨a2, cap3, ys2, rfl, RT, hy2, A⟩
  have T := T.trans (A.mono T.size)
  have Q := Lib.hid (Q.out.below A)
  have P := Lib.hid (P.out.below A)
  have ZR := Lib.hid (ZR.out.below A)
  have OB := Lib.hid (OB.out.below A)
  have zw2 := A.size
  clear A
  rw [upto_length] at RT
  obtain ⟨g, rfl⟩ := some_of RT.own (by intro e; injection e with _ e2 _; omega)
  have RC_ := RT.down (Nat.le_refl _)
  have HY2 := Lib.hid hy2
  clear RT hy2
  rw [upto_length]
  have HRC := Lib.hid RC_
  clear RC_
  obtain ⟨Q0, Q1, Q2, Q3⟩ := Q.out
  go_wp2
  clear Q0 Q1 Q2 Q3
  refine reg_at ?_
  intro w3 hA
  have A : Below w2.heap.size w2 w3 := by rw [hA]; exact (Below.refl _ _).alloc (Nat.le_refl _) _
  have zw3 : w3.heap.size = w2.heap.size + 1 := by rw [hA]; simp
  have QC_ : Box w3 (w2.heap.size) ↑C ↑D (some ⟨g, 0, none⟩) (C * D) cap3 := by rw [hA]; exact ⟨by simp [go_sem], by simp [go_sem], by simp [go_sem], by simp <;> omega⟩
  clear hA
  have zw3a := Nat.le_of_eq zw3
  have zw3b := Nat.le_of_eq zw3.symm
  clear zw3
  have A3 := Lib.hid A
  have T := T.trans (A.mono T.size)
  have Q := Lib.hid (Q.out.below A)
  have P := Lib.hid (P.out.below A)
  have ZR := Lib.hid (ZR.out.below A)
  have OB := Lib.hid (OB.out.below A)
  have zw3 := A.size
  clear A
  have QC := Lib.hid QC_
  clear QC_
  obtain ⟨i0, hi, hz0, hz1, hz2⟩ := info_parts infoF32
  have HI := Lib.hid hi
  have HZ0 := Lib.hid hz0
  have HZ1 := Lib.hid hz1
  have HZ2 := Lib.hid hz2
  clear hi hz0 hz1 hz2
  have RC3 := HRC.out.below A3.out
  have hgl := (RC3.own.lt g rfl).1
  have hgh := RC3.lt g rfl
  have HRC3 := Lib.hid RC3
  clear RC3 HRC
  have hb0 : w.heap.size + 1 + 1 + 1 ≤ w1.heap.size := by omega
  obtain ⟨b, hb⟩ : ∃ b, b = w.heap.size + 1 + 1 + 1 := ⟨_, rfl⟩
  have hb1 := Nat.le_of_eq hb
  have hb2 := Nat.le_of_eq hb.symm
  have ACC0 := accXHere (B := w3.heap.size) 33 (Bx.refl _ _ w3) OB.out.box OB.out.fr
  rw [← hb] at ACC0 ⊢
  clear hb
  have HACC := Lib.hid ACC0
  clear ACC0
  go_loopw [20] (fun i w' => ∃ (i' m : Nat) (a' : Option Addr) (cap' : Nat) (ys : List Nat), i' ≤ R ∧ i = .int .i64 i' ∧ Hid (m = i' * C) ∧ AccX w3.heap.size b 33 (R : Int) (C : Int) w3 w' m a' cap' ys ∧ ys.map (cn .f32) = (upto (at2 G C) m).map (cn .f32)) (fun i _ => R - (intOf i).toNat)
  case atStart => exact ⟨0, 0, _, _, _, Nat.zero_le _, rfl, (Nat.zero_mul _).symm, HACC.out, rfl⟩
  case round =>
    obtain ⟨i, m, a', cap', ys, hi, rfl, hm, acc, hys⟩ := hrel
    by_cases hlt : i < R
    · obtain ⟨p0, p1, p2, p3⟩ := P.out.uptoX acc.below (by omega) (by omega)
      have HA := Lib.hid acc
      have HY := Lib.hid hys
      clear acc hys
      go_wp2
      clear p0 p1 p2 p3
      obtain ⟨wo, rfl⟩ : ∃ wo : World, wo = wr := ⟨_, rfl⟩
      go_loopw [25] (fun i2 w' => ∃ (k m' : Nat) (a' : Option Addr) (cap' : Nat) (ys : List Nat), k ≤ C ∧ i2 = .int .i64 k ∧ Hid (m' = i * C + k) ∧ AccX w3.heap.size b 33 (R : Int) (C : Int) w3 w' m' a' cap' ys ∧ ys.map (cn .f32) = (upto (at2 G C) m').map (cn .f32)) (fun i2 _ => C - (intOf i2).toNat)
      case atStart => exact ⟨0, m, _, _, _, Nat.zero_le _, rfl, hm, HA.out, HY.out⟩
      case round =>
        clear HA HY hm
        obtain ⟨j, m, a', cap', ys, hj, rfl, hm, acc, hys⟩ := hrel
        by_cases hjC : j < C
        · have hme := row_end (C := C) hlt
          have hml : m ≤ 256 := by have := hm.out; omega
          have hri := row_end (C := D) hlt
          have hrj := row_end (C := D) hjC
          have hFk : Hid (at2 G C m = G i j) := by have := hm.out; subst this; exact at2_at G hjC
          have QW := Lib.hid (Q.out.uptoX acc.below (by omega) (by omega))
          have CW := Lib.hid (QC.out.uptoX acc.below (by omega) (by omega))
          have BW : Below w.heap.size w wr := T.trans (acc.below.below (by omega) (by omega))
          have FACT : ∀ w', Cl (w3.heap.size) b wr w' → w'.cell? ⟨b, 2, none⟩ = some (.slice a' m cap') ∧ w'.cell? ⟨w.heap.size, 0, none⟩ = some (.int .i64 (R : Int)) ∧ w'.cell? ⟨w.heap.size, 1, none⟩ = some (.int .i64 (D : Int)) ∧ w'.cell? ⟨w.heap.size, 2, none⟩ = some (.slice (some ⟨ba, oa, none⟩) n cap) ∧ w'.cell? ⟨w2.heap.size, 0, none⟩ = some (.int .i64 (C : Int)) ∧ w'.cell? ⟨w2.heap.size, 1, none⟩ = some (.int .i64 (D : Int)) ∧ w'.cell? ⟨w2.heap.size, 2, none⟩ = some (.slice (some ⟨g, 0, none⟩) (C * D) cap3) := fun w' h => ⟨h.cell (.inr rfl) acc.box.c2, h.cell (.inl (by simp; omega)) QW.out.c0, h.cell (.inl (by simp; omega)) QW.out.c1, h.cell (.inl (by simp; omega)) QW.out.c2, h.cell (.inl (by simp; omega)) CW.out.c0, h.cell (.inl (by simp; omega)) CW.out.c1, h.cell (.inl (by simp; omega)) CW.out.c2⟩
          have FA := Lib.hid FACT
          have AC := Lib.hid acc
          have HY := Lib.hid hys
          clear FACT acc hys
          go_wp2_with fail
          have zb := AC.out.box.lt
          have zB := AC.out.below.size
          refine wp_plan 12 [0, 0, 0, 0, 0, 2, 0, 0, 2, 2, 2, 2, 0, 2] (.go 0 (.go 1 (.go 2 (.go 3 (.go 4 (.go 6 (.go 7 (.only 5 (.only 8 (.only 9 (.only 10 (.only 11 .fin)))))))))))) (Cl (w3.heap.size) b wr) (by kernel_rfl) (by kernel_rfl) (Cl.refl _ _ _) Cl.drew ?_
          simp only [List.drop_succ_cons, List.drop_zero]
          refine plan_go (pl0 (v := ?_) (by rfl) rfl rfl (fun w' hw' => ?_) (fun K hK => ?_))
          rotate_left
          · obtain ⟨q0, q1, q2, q3, q4, q5, q6⟩ := FA.out w' hw'
            go_simp
            rfl
          go_simp
          refine hK _ _ ?_
          clear hK K
          refine plan_go (pl0 (v := ?_) (by rfl) rfl rfl (fun w' hw' => ?_) (fun K hK => ?_))
          rotate_left
          · obtain ⟨q0, q1, q2, q3, q4, q5, q6⟩ := FA.out w' hw'
            go_simp
            rfl
          go_simp
          refine hK _ _ ?_
          clear hK K
          refine plan_go (pl0 (v := ?_) (by rfl) rfl rfl (fun w' hw' => ?_) (fun K hK => ?_))
          rotate_left
          · obtain ⟨q0, q1, q2, q3, q4, q5, q6⟩ := FA.out w' hw'
            go_simp
            rfl
          go_simp
          refine hK _ _ ?_
          clear hK K
          refine plan_go (pl0 (v := ?_) (by rfl) rfl rfl (fun w' hw' => ?_) (fun K hK => ?_))
          rotate_left
          · obtain ⟨q0, q1, q2, q3, q4, q5, q6⟩ := FA.out w' hw'
            go_simp
            rfl
          go_simp
          refine hK _ _ ?_
          clear hK K
          refine plan_go (pl0 (v := ?_) (by rfl) rfl rfl (fun w' hw' => ?_) (fun K hK => ?_))
          rotate_left
          · obtain ⟨q0, q1, q2, q3, q4, q5, q6⟩ := FA.out w' hw'
            go_simp
            rfl
          go_simp
          refine hK _ _ ?_
          clear hK K
          refine plan_go (pl0 (v := ?_) (by rfl) rfl rfl (fun w' hw' => ?_) (fun K hK => ?_))
          rotate_left
          · obtain ⟨q0, q1, q2, q3, q4, q5, q6⟩ := FA.out w' hw'
            go_simp
            rfl
          go_simp
          refine hK _ _ ?_
          clear hK K
          refine plan_go (pl0 (v := ?_) (by rfl) rfl rfl (fun w' hw' => ?_) (fun K hK => ?_))
          rotate_left
          · obtain ⟨q0, q1, q2, q3, q4, q5, q6⟩ := FA.out w' hw'
            go_simp
            rfl
          go_simp
          refine hK _ _ ?_
          clear hK K
          refine plan_only (pl2 (by rfl) rfl rfl (fun K hK => ?_))
          go_simp
          intro m5
          refine (rowI R D i ba oa n cap (wr.drewN _) HN.out hlt hR.2 hD.2 hD.1 hcap HM.out).mono ?_
          rintro e v5 ⟨rfl, A0⟩
          have A : Below wr.heap.size wr v5 := (bdrew (Below.refl _ _) _).trans A0
          clear A0
          have AC5 := Lib.hid (AC.out.next A (by omega))
          have z5 := A.size
          have C5 := Lib.hid (show Cl (w3.heap.size) b wr v5 from (Cl.refl _ _ _).trans ⟨A.mono (by omega), A.block _ (by omega)⟩)
          refine ⟨_, rfl, C5.out, hK _ _ ?_⟩
          clear hK K A
          refine plan_only (pl2 (by rfl) rfl rfl (fun K hK => ?_))
          go_simp
          intro m8
          refine (rowI C D j g 0 (C * D) cap3 (v5.drewN _) rfl hjC hC.2 hD.2 hD.1 HRC3.out.fs.cap1 HRC3.out.fs.cap2).mono ?_
          rintro e v8 ⟨rfl, A0⟩
          have A : Below v5.heap.size v5 v8 := (bdrew (Below.refl _ _) _).trans A0
          clear A0
          have AC8 := Lib.hid (AC5.out.next A (by omega))
          have z8 := A.size
          have C8 := Lib.hid (show Cl (w3.heap.size) b wr v8 from C5.out.trans ⟨A.mono (by omega), A.block _ (by omega)⟩)
          refine ⟨_, rfl, C8.out, hK _ _ ?_⟩
          clear hK K A
          refine plan_only (pl2 (by rfl) rfl rfl (fun K hK => ?_))
          go_simp
          intro m9
          refine (HF.out (v8.drewN _) i j ⟨ba, oa + i * D, none⟩ (cap - i * D) ((xs.drop (i * D)).take D) ⟨g, j * D, none⟩ (cap3 - j * D) ((ys2.drop (j * D)).take D) hlt hjC (bdrew (BW.trans (C8.out.below.mono (by omega))) _) (((H1.out.below (BW.trans (C8.out.below.mono (by omega)))).part i D (by omega)).drew _) ((((HRC3.out.uptoX (AC.out.below.trans (Bx.of C8.out.below)) (by omega) (by omega)).fs).part0 j D (by omega)).drew _) (fun l hl => part_get xs hl) (fun l hl => by rw [part_get ys2 hl]; exact col_get HY2.out hjC hl)).mono ?_
          rintro e v9 ⟨u, rfl, hu, A0⟩
          have A : Below v8.heap.size v8 v9 := (bdrew (Below.refl _ _) _).trans A0
          clear A0
          have AC9 := Lib.hid (AC8.out.next A (by omega))
          have z9 := A.size
          have C9 := Lib.hid (show Cl (w3.heap.size) b wr v9 from C8.out.trans ⟨A.mono (by omega), A.block _ (by omega)⟩)
          refine ⟨_, rfl, C9.out, hK _ _ ?_⟩
          clear hK K A
          refine plan_only (pl2 (by rfl) rfl rfl (fun K hK => ?_))
          go_simp
          intro n1
          refine ⟨(Cl.drew _ _ C9.out).alloc (by simp <;> omega) (by simp <;> omega) _, hK _ _ ?_⟩
          clear hK K
          refine plan_only (pl2 (by rfl) rfl rfl (fun K hK n2 => ?_))
          refine uponV_append (.tmp 29) (.tmp 38) 22 rfl (w3.heap.size) 33 i0 (.float .f32 0) 1 4 Try.underlying22 HI.out HZ0.out HZ1.out HZ2.out rfl (by decide) (.slice a' m cap') (m) (fl ys) rfl (((AC9.out.drew (n1)).alloc (by simp <;> omega) _).drew n2).own ⟨v9.heap.size, 0, none⟩ 1 1 [.float .f32 u] rfl rfl ?c1 ?c2 ?c3 ?c4 ?c5 ?_
          case c1 =>
            intro j v hj
            match j, hj with
            | 0, hj => simp at hj; subst hj; exact cell_new (v9.drewN (n1)) _ _
          case c2 => intro v hv; simp at hv; subst hv; rfl
          case c3 => unfold maxLen; omega
          case c4 => omega
          case c5 => simp <;> omega
          intro v' w2 hown hgr
          obtain ⟨a2, cap2, rfl, bx, fr, cl, acc2⟩ := AccX.app (by first | omega | (simp; omega)) (AC9.out.drew (n1)) hown ⟨hgr.os, hgr.tape, hgr.output, hgr.size, hgr.block⟩
          refine ⟨C9.out.trans ⟨⟨cl.below.os, cl.below.tape, cl.below.output, cl.below.size, cl.below.block⟩, cl.box⟩, ?_⟩
          go_simp
          refine hK _ _ ?_
          clear hK K hown hgr cl
          have AC2 := Lib.hid acc2
          clear acc2
          refine plan_fin (fun n3 => ?_)
          obtain ⟨b0', b1', b2', b3'⟩ := bx
          go_wp2
          go_roundw
          case rel => exact ⟨j + 1, m + 1, a2, cap2, ys ++ [u], by omega, by go_num, (by have := hm.out; show m + 1 = _; omega), AC2.out.drew n3, upto_step HY.out (by rw [hu, hFk.out])⟩
          case measure => simp [intOf]; omega
        · have HA := Lib.hid acc
          have HY := Lib.hid hys
          clear acc hys
          go_wp2
          go_roundw
          case rel => exact ⟨i + 1, m, a', cap', ys, by omega, by go_num, (by have := hm.out; have e : j = C := (by omega); subst e; show m = _; rw [Nat.succ_mul]; exact this), HA.out, HY.out⟩
          case measure => simp [intOf]; omega
    · have e : i = R := by omega
      have hme : m = R * C := by rw [← e]; exact hm
      clear hm
      subst hme
      have BW : Below w.heap.size w wr := T.trans (acc.below.below (by omega) (by omega))
      have ZR := Lib.hid (ZR.out.uptoX acc.below (by omega) (by omega))
      obtain ⟨b0', b1', b2', b3'⟩ := acc.box
      have AC := Lib.hid acc
      have HY := Lib.hid hys
      clear acc hys
      have zz := AC.out.below.size
      obtain ⟨⟨ZR0, ZR1, ZR2, ZR3⟩, ZR4, ZR5, ZR6⟩ := ZR.out
      go_wp2
      refine bodyPost_ret (v := .agg #[.int .i64 (R : Int), .int .i64 (C : Int), .slice a' (R * C) cap']) (by simp [results, Try.results62, go_sem, ZR0, ZR1, ZR2]) rfl ?_
      exact RT1_end BW (by omega) (AC.out.row (by omega)) (by omega) HY.out (upto_length _ _)
end Go.Proofs.Ytoeppdkhncllbaa.prod
