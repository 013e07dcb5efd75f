/- The law FnExactMulRow holds for every input. No conditions. -/
import Derived.Test.YtfmfddfcjbbklaaValid
import Derived.Test.YtfmfddfcjbbklaaFin
import Derived.Test.YtfmfddfcjbbklaaMapd
import Derived.Deep.CutRange
import Derived.Test.YtfmfddfcjbbklaaOpen
import Derived.ProofKit
import Derived.OpenShut
import Derived.ChangeOld
import Derived.WalkSmall
namespace Go.Proofs.Ytfmfddfcjbbklaa.mulRow
open Go.ChangeShapes Go.WideShapes Go.ChangeAt Go.RowKit Go.Fl Go.Reg
def F (xs zs : List Nat) (m : Nat) (i : Nat) : Nat := fop .mul .f32 (xs[i]?.getD 0) (zs[i % m]?.getD 0)
def ok (r c : Int) (n m : Nat) : Bool := decide (vt r c n) && decide ((m : Int) = c)
theorem tmod_nat (k m : Nat) : Int.tmod (k : Int) (m : Int) = (k : Int) % (m : Int) := Int.tmod_eq_emod_of_nonneg (by omega)
theorem specInner (r : Int) (a : Option Addr) (n cap b0 : Nat) (xs : List Nat) (x2 : Option Addr) (m cap2 : Nat) (zs : List Nat) (w : World) (hn : n ≤ 1048576) (hm : 0 < m) (hm2 : m ≤ 16) (h1 : Fs w a n cap xs) (Q : Box w b0 r (m : Int) a n cap) (h2 : Fs w x2 m cap2 zs) :
    Calls Try.prog 74 #[.pointer (some ⟨b0, 0, none⟩), .slice x2 m cap2] w (RT1 31 w r (m : Int) (upto (F xs zs m) n)) := by
  have HC := Lib.hid h1.cell
  have HD := Lib.hid h2.cell
  have d1 := h2.cap1
  have d2 := h2.cap2
  unfold maxLen at d2
  clear h1 h2
  have HQ := Lib.hid Q
  have Q3 := Q.lt
  clear Q
  go_enter Try.func74, Try.ntmps74
  go_wp2_with fail
  refine reg_at ?_
  intro w1 hA
  have A : Below w.heap.size w w1 := by rw [hA]; exact (Below.refl _ _).alloc (Nat.le_refl _) _
  have zw1 : w1.heap.size = w.heap.size + 1 := by rw [hA]; simp
  have ZR_ : Zbox w1 (w.heap.size) := by rw [hA]; exact ⟨⟨by simp [go_sem], by simp [go_sem], by simp [go_sem], by simp <;> omega⟩, by simp [go_sem], by simp [go_sem], by simp [go_sem]⟩
  clear hA
  have zw1a := Nat.le_of_eq zw1
  have zw1b := Nat.le_of_eq zw1.symm
  clear zw1
  have T := A
  clear A
  have ZR := Lib.hid ZR_
  clear ZR_
  go_cut [5] from 7 to 16 (fun sb wx => ∃ b g, sb = .pointer (some ⟨b, 0, none⟩) ∧ w1.heap.size ≤ b ∧ Acc w1.heap.size b 31 (r) ((m : Int)) w1 wx 0 (some ⟨g, 0, none⟩) 0 [])
  case first =>
    have FACT : ∀ w', Below w1.heap.size w1 w' → w'.cell? ⟨b0, 0, none⟩ = some (.int .i64 r) ∧ w'.cell? ⟨b0, 1, none⟩ = some (.int .i64 (m : Int)) := fun w' hb => ⟨(hb.cell (p := ⟨b0, 0, none⟩) (by simp; omega)).trans ((T.cell (p := ⟨b0, 0, none⟩) Q3).trans HQ.out.c0), (hb.cell (p := ⟨b0, 1, none⟩) (by simp; omega)).trans ((T.cell (p := ⟨b0, 1, none⟩) Q3).trans HQ.out.c1)⟩
    have FA := Lib.hid FACT
    clear FACT
    refine wp_plan 11 [0, 0, 0, 0, 0, 0, 0, 0, 2, 0, 2, 2] (.go 0 (.go 1 (.go 2 (.go 3 (.go 4 (.go 5 (.go 6 (.go 7 (.either 8 10 (.go 9 (.only 10 .fin)) (.only 8 (.go 9 .fin))))))))))) (Bl w1) (by kernel_rfl) (by kernel_rfl) (Bl.refl _) Bl.drew ?_
    simp only [List.drop_succ_cons, List.drop_zero]
    refine plan_go (pl0 (v := ?_) (by rfl) rfl rfl (fun w' hw' => ?_) (fun K hK => ?_))
    rotate_left
    · obtain ⟨q0, q1⟩ := FA.out w' hw'
      go_simp
      rfl
    go_simp
    refine hK _ _ ?_
    clear hK K
    refine plan_go (pl0 (v := ?_) (by rfl) rfl rfl (fun w' hw' => ?_) (fun K hK => ?_))
    rotate_left
    · obtain ⟨q0, q1⟩ := FA.out w' hw'
      go_simp
      rfl
    go_simp
    refine hK _ _ ?_
    clear hK K
    refine plan_go (pl0 (v := ?_) (by rfl) rfl rfl (fun w' hw' => ?_) (fun K hK => ?_))
    rotate_left
    · obtain ⟨q0, q1⟩ := FA.out w' hw'
      go_simp
      rfl
    go_simp
    refine hK _ _ ?_
    clear hK K
    refine plan_go (pl0 (v := ?_) (by rfl) rfl rfl (fun w' hw' => ?_) (fun K hK => ?_))
    rotate_left
    · obtain ⟨q0, q1⟩ := FA.out w' hw'
      go_simp
      rfl
    go_simp
    refine hK _ _ ?_
    clear hK K
    refine plan_go (pl0 (v := ?_) (by rfl) rfl rfl (fun w' hw' => ?_) (fun K hK => ?_))
    rotate_left
    · obtain ⟨q0, q1⟩ := FA.out w' hw'
      go_simp
      rfl
    go_simp
    refine hK _ _ ?_
    clear hK K
    refine plan_go (pl0 (v := ?_) (by rfl) rfl rfl (fun w' hw' => ?_) (fun K hK => ?_))
    rotate_left
    · obtain ⟨q0, q1⟩ := FA.out w' hw'
      go_simp
      rfl
    go_simp
    refine hK _ _ ?_
    clear hK K
    refine plan_go (pl0 (v := ?_) (by rfl) rfl rfl (fun w' hw' => ?_) (fun K hK => ?_))
    rotate_left
    · obtain ⟨q0, q1⟩ := FA.out w' hw'
      go_simp
      rfl
    go_simp
    refine hK _ _ ?_
    clear hK K
    refine plan_go (pl0 (v := ?_) (by rfl) rfl rfl (fun w' hw' => ?_) (fun K hK => ?_))
    rotate_left
    · obtain ⟨q0, q1⟩ := FA.out w' hw'
      go_simp
      rfl
    go_simp
    refine hK _ _ ?_
    clear hK K
    refine plan_either ?_ ?_
    · skip
      refine pl2 (by rfl) rfl rfl (fun K hK => ?_)
      go_simp
      intro n1
      refine ⟨(bdrew (Below.refl _ _) _).alloc (Nat.le_refl _) _, hK _ _ ?_⟩
      clear hK K
      refine plan_go (pl0 (v := ?_) (by rfl) rfl rfl (fun w' hw' => ?_) (fun K hK => ?_))
      rotate_left
      · obtain ⟨q0, q1⟩ := FA.out w' hw'
        go_simp
        rfl
      go_simp
      refine hK _ _ ?_
      clear hK K
      refine plan_only (pl2 (by rfl) rfl rfl (fun K hK => ?_))
      go_simp
      intro n2
      refine ⟨((bdrew ((bdrew (Below.refl _ _) _).alloc (Nat.le_refl _) _) _).alloc (by simp) _), hK _ _ ?_⟩
      clear hK K
      refine plan_fin (fun n3 => ?_)
      go_wp2_with fail
      go_meet
      obtain ⟨b, g, hb, hg, ACC⟩ := accStartA (r := r) (c := (m : Int)) (t := 31) (tt := 27) (Below.refl w1.heap.size w1) (Nat.le_refl _) (1 + n1) n2 n3 _ rfl
      subst hb
      subst hg
      exact ⟨_, _, rfl, by omega, ACC⟩
    · skip
      refine pl2 (by rfl) rfl rfl (fun K hK => ?_)
      go_simp
      intro n1
      refine ⟨(bdrew (Below.refl _ _) _).alloc (Nat.le_refl _) _, hK _ _ ?_⟩
      clear hK K
      refine plan_only (pl2 (by rfl) rfl rfl (fun K hK => ?_))
      go_simp
      intro n2
      refine ⟨((bdrew ((bdrew (Below.refl _ _) _).alloc (Nat.le_refl _) _) _).alloc (by simp) _), hK _ _ ?_⟩
      clear hK K
      refine plan_go (pl0 (v := ?_) (by rfl) rfl rfl (fun w' hw' => ?_) (fun K hK => ?_))
      rotate_left
      · obtain ⟨q0, q1⟩ := FA.out w' hw'
        go_simp
        rfl
      go_simp
      refine hK _ _ ?_
      clear hK K
      obtain ⟨e0, e1, e2, e3, e4, e5⟩ := frzs (w1.drewN (1 + n1)) 27
      change World.frozen? _ ⟨w1.heap.size, 0, none⟩ = _ at e0
      change World.frozen? _ ⟨w1.heap.size, 1, none⟩ = _ at e1
      change World.frozen? _ ⟨w1.heap.size, 2, none⟩ = _ at e2
      change World.cell? _ ⟨w1.heap.size, 0, none⟩ = _ at e3
      change World.cell? _ ⟨w1.heap.size, 1, none⟩ = _ at e4
      change World.cell? _ ⟨w1.heap.size, 2, none⟩ = _ at e5
      refine plan_fin (fun n3 => ?_)
      go_wp2_with fail
      go_meet
      obtain ⟨b, g, hb, hg, ACC⟩ := accStartB (r := r) (c := (m : Int)) (t := 31) (tt := 27) (Below.refl w1.heap.size w1) (Nat.le_refl _) (1 + n1) n2 n3 _ rfl
      subst hb
      subst hg
      exact ⟨_, _, rfl, by omega, ACC⟩
  case rest =>
  obtain ⟨b, g, rfl, hb, ACC⟩ := hcut
  have HACC := Lib.hid ACC
  clear ACC
  obtain ⟨i0, hi, hz0, hz1, hz2⟩ := info_parts infoF32
  have HI := Lib.hid hi
  have HZ0 := Lib.hid hz0
  have HZ1 := Lib.hid hz1
  have HZ2 := Lib.hid hz2
  clear hi hz0 hz1 hz2
  have c2 : wc.cell? ⟨b0, 2, none⟩ = some (.slice a n cap) := ((T.trans (HACC.out.below.mono (by omega))).cell (p := ⟨b0, 2, none⟩) Q3).trans HQ.out.c2
  go_wp2
  clear c2
  go_loopw [6] (fun i w' => ∃ (k : Nat) (a' : Option Addr) (cap' : Nat) (ys : List Nat), k ≤ n ∧ i = .int .i64 k ∧ Acc w1.heap.size b 31 r (m : Int) w1 w' k a' cap' ys ∧ ys.map (cn .f32) = (upto (F xs zs m) k).map (cn .f32)) (fun i _ => n - (intOf i).toNat)
  case atStart => exact ⟨0, _, _, _, Nat.zero_le _, rfl, HACC.out, rfl⟩
  case round =>
    obtain ⟨k, a', cap', ys, hk, rfl, acc, hys⟩ := hrel
    have BW : Below w.heap.size w wr := T.trans (acc.below.mono (by omega))
    have c1 : wr.cell? ⟨b0, 1, none⟩ = some (.int .i64 (m : Int)) := (BW.cell (p := ⟨b0, 1, none⟩) Q3).trans HQ.out.c1
    have c2 : wr.cell? ⟨b0, 2, none⟩ = some (.slice a n cap) := (BW.cell (p := ⟨b0, 2, none⟩) Q3).trans HQ.out.c2
    by_cases hlt : k < n
    · obtain ⟨ba, oa, rfl, hca⟩ := HC.out k hlt
      have hba : ba < w.heap.size := World.block_lt_of_cell? w _ hca
      have ca : wr.cell? ⟨ba, oa + k, none⟩ = some (.float .f32 (xs[k]?.getD 0)) := (BW.cell (p := ⟨ba, oa + k, none⟩) hba).trans hca
      have hkm : k % m < m := Nat.mod_lt _ hm
      obtain ⟨bd, od, rfl, hcd⟩ := HD.out (k % m) hkm
      have hbd : bd < w.heap.size := World.block_lt_of_cell? w _ hcd
      have cd : wr.cell? ⟨bd, od + k % m, none⟩ = some (.float .f32 (zs[k % m]?.getD 0)) := (BW.cell (p := ⟨bd, od + k % m, none⟩) hbd).trans hcd
      have hm0 : ¬ m = 0 := by omega
      have et := tmod_nat k m
      have em1 : (0 : Int) ≤ (k : Int) % (m : Int) := by omega
      have em2 : (k : Int) % (m : Int) < (m : Int) := by omega
      have em3 : ((k : Int) % (m : Int)).toNat = k % m := by omega
      have HU : Hid (∀ w', cn .f32 (fres .mul .f32 (xs[k]?.getD 0) (zs[k % m]?.getD 0) w') = cn .f32 (F xs zs m k)) := fun w' => fres_fop ..
      have FACT : ∀ w', Cl (w1.heap.size) b wr w' → w'.cell? ⟨b, 2, none⟩ = some (.slice a' k cap') ∧ w'.cell? ⟨b0, 1, none⟩ = some (.int .i64 (m : Int)) ∧ w'.cell? ⟨b0, 2, none⟩ = some (.slice (some ⟨ba, oa, none⟩) n cap) ∧ w'.cell? ⟨ba, oa + k, none⟩ = some (.float .f32 (xs[k]?.getD 0)) ∧ w'.cell? ⟨bd, od + k % m, none⟩ = some (.float .f32 (zs[k % m]?.getD 0)) := fun w' h => ⟨h.cell (.inr rfl) acc.box.c2, h.cell (.inl (by simp; omega)) c1, h.cell (.inl (by simp; omega)) c2, h.cell (.inl (by simp; omega)) ca, h.cell (.inl (by simp; omega)) cd⟩
      have FA := Lib.hid FACT
      have AC := Lib.hid acc
      have HY := Lib.hid hys
      clear FACT acc hys ca hca cd hcd
      go_wp2_with fail
      clear c1 c2
      have zb := AC.out.box.lt
      have zB := AC.out.below.size
      refine wp_plan 21 [0, 0, 0, 0, 0, 0, 0, 0, 0, 0, 0, 0, 0, 0, 0, 0, 0, 0, 1, 2, 2, 0, 2] (.go 0 (.go 1 (.go 2 (.go 3 (.go 4 (.go 5 (.go 6 (.go 7 (.go 8 (.go 9 (.go 10 (.go 11 (.go 12 (.go 13 (.go 14 (.go 15 (.go 16 (.go 17 (.only 18 (.only 19 (.only 20 .fin))))))))))))))))))))) (Cl (w1.heap.size) b wr) (by kernel_rfl) (by kernel_rfl) (Cl.refl _ _ _) Cl.drew ?_
      simp only [List.drop_succ_cons, List.drop_zero]
      refine plan_go (pl0 (v := ?_) (by rfl) rfl rfl (fun w' hw' => ?_) (fun K hK => ?_))
      rotate_left
      · obtain ⟨q0, q1, q2, q3, q4⟩ := FA.out w' hw'
        go_simp
        rfl
      go_simp
      refine hK _ _ ?_
      clear hK K
      refine plan_go (pl0 (v := ?_) (by rfl) rfl rfl (fun w' hw' => ?_) (fun K hK => ?_))
      rotate_left
      · obtain ⟨q0, q1, q2, q3, q4⟩ := FA.out w' hw'
        go_simp
        rfl
      go_simp
      refine hK _ _ ?_
      clear hK K
      refine plan_go (pl0 (v := ?_) (by rfl) rfl rfl (fun w' hw' => ?_) (fun K hK => ?_))
      rotate_left
      · obtain ⟨q0, q1, q2, q3, q4⟩ := FA.out w' hw'
        go_simp
        rfl
      go_simp
      refine hK _ _ ?_
      clear hK K
      refine plan_go (pl0 (v := ?_) (by rfl) rfl rfl (fun w' hw' => ?_) (fun K hK => ?_))
      rotate_left
      · obtain ⟨q0, q1, q2, q3, q4⟩ := FA.out w' hw'
        go_simp
        rfl
      go_simp
      refine hK _ _ ?_
      clear hK K
      refine plan_go (pl0 (v := ?_) (by rfl) rfl rfl (fun w' hw' => ?_) (fun K hK => ?_))
      rotate_left
      · obtain ⟨q0, q1, q2, q3, q4⟩ := FA.out w' hw'
        go_simp
        rfl
      go_simp
      refine hK _ _ ?_
      clear hK K
      refine plan_go (pl0 (v := ?_) (by rfl) rfl rfl (fun w' hw' => ?_) (fun K hK => ?_))
      rotate_left
      · obtain ⟨q0, q1, q2, q3, q4⟩ := FA.out w' hw'
        go_simp
        rfl
      go_simp
      refine hK _ _ ?_
      clear hK K
      refine plan_go (pl0 (v := ?_) (by rfl) rfl rfl (fun w' hw' => ?_) (fun K hK => ?_))
      rotate_left
      · obtain ⟨q0, q1, q2, q3, q4⟩ := FA.out w' hw'
        go_simp
        rfl
      go_simp
      refine hK _ _ ?_
      clear hK K
      refine plan_go (pl0 (v := ?_) (by rfl) rfl rfl (fun w' hw' => ?_) (fun K hK => ?_))
      rotate_left
      · obtain ⟨q0, q1, q2, q3, q4⟩ := FA.out w' hw'
        go_simp
        rfl
      go_simp
      refine hK _ _ ?_
      clear hK K
      refine plan_go (pl0 (v := ?_) (by rfl) rfl rfl (fun w' hw' => ?_) (fun K hK => ?_))
      rotate_left
      · obtain ⟨q0, q1, q2, q3, q4⟩ := FA.out w' hw'
        go_simp
        rfl
      go_simp
      refine hK _ _ ?_
      clear hK K
      refine plan_go (pl0 (v := ?_) (by rfl) rfl rfl (fun w' hw' => ?_) (fun K hK => ?_))
      rotate_left
      · obtain ⟨q0, q1, q2, q3, q4⟩ := FA.out w' hw'
        go_simp
        rfl
      go_simp
      refine hK _ _ ?_
      clear hK K
      refine plan_go (pl0 (v := ?_) (by rfl) rfl rfl (fun w' hw' => ?_) (fun K hK => ?_))
      rotate_left
      · obtain ⟨q0, q1, q2, q3, q4⟩ := FA.out w' hw'
        go_simp
        rfl
      go_simp
      refine hK _ _ ?_
      clear hK K
      refine plan_go (pl0 (v := ?_) (by rfl) rfl rfl (fun w' hw' => ?_) (fun K hK => ?_))
      rotate_left
      · obtain ⟨q0, q1, q2, q3, q4⟩ := FA.out w' hw'
        go_simp
        rfl
      go_simp
      refine hK _ _ ?_
      clear hK K
      refine plan_go (pl0 (v := ?_) (by rfl) rfl rfl (fun w' hw' => ?_) (fun K hK => ?_))
      rotate_left
      · obtain ⟨q0, q1, q2, q3, q4⟩ := FA.out w' hw'
        go_simp
        rfl
      go_simp
      refine hK _ _ ?_
      clear hK K
      refine plan_go (pl0 (v := ?_) (by rfl) rfl rfl (fun w' hw' => ?_) (fun K hK => ?_))
      rotate_left
      · obtain ⟨q0, q1, q2, q3, q4⟩ := FA.out w' hw'
        go_simp
        rfl
      go_simp
      refine hK _ _ ?_
      clear hK K
      refine plan_go (pl0 (v := ?_) (by rfl) rfl rfl (fun w' hw' => ?_) (fun K hK => ?_))
      rotate_left
      · obtain ⟨q0, q1, q2, q3, q4⟩ := FA.out w' hw'
        go_simp
        rfl
      go_simp
      refine hK _ _ ?_
      clear hK K
      refine plan_go (pl0 (v := ?_) (by rfl) rfl rfl (fun w' hw' => ?_) (fun K hK => ?_))
      rotate_left
      · obtain ⟨q0, q1, q2, q3, q4⟩ := FA.out w' hw'
        go_simp
        rfl
      go_simp
      refine hK _ _ ?_
      clear hK K
      refine plan_go (pl0 (v := ?_) (by rfl) rfl rfl (fun w' hw' => ?_) (fun K hK => ?_))
      rotate_left
      · obtain ⟨q0, q1, q2, q3, q4⟩ := FA.out w' hw'
        go_simp
        rfl
      go_simp
      refine hK _ _ ?_
      clear hK K
      refine plan_go (pl0 (v := ?_) (by rfl) rfl rfl (fun w' hw' => ?_) (fun K hK => ?_))
      rotate_left
      · obtain ⟨q0, q1, q2, q3, q4⟩ := FA.out w' hw'
        go_simp
        rfl
      go_simp
      refine hK _ _ ?_
      clear hK K
      refine plan_only (pl1 (by rfl) rfl rfl (fun K hK => ?_))
      go_simp
      intro w' _
      refine hK _ _ ?_
      clear hK K
      have Hu := Lib.hid (HU.out w')
      generalize fres .mul .f32 (xs[k]?.getD 0) (zs[k % m]?.getD 0) w' = u at *
      refine plan_only (pl2 (by rfl) rfl rfl (fun K hK => ?_))
      go_simp
      intro n1
      refine ⟨(Cl.drew _ _ (Cl.refl _ _ _)).alloc (by simp <;> omega) (by simp <;> omega) _, hK _ _ ?_⟩
      clear hK K
      refine plan_only (pl2 (by rfl) rfl rfl (fun K hK n2 => ?_))
      refine uponV_append (.tmp 27) (.tmp 45) 22 rfl (w1.heap.size) 31 i0 (.float .f32 0) 1 4 Try.underlying22 HI.out HZ0.out HZ1.out HZ2.out rfl (by decide) (.slice a' k cap') (k) (fl ys) rfl (((AC.out.drew (1 + n1)).alloc (by simp <;> omega) _).drew n2).own ⟨wr.heap.size, 0, none⟩ 1 1 [.float .f32 u] rfl rfl ?c1 ?c2 ?c3 ?c4 ?c5 ?_
      case c1 =>
        intro j v hj
        match j, hj with
        | 0, hj => simp at hj; subst hj; exact cell_new (wr.drewN (1 + n1)) _ _
      case c2 => intro v hv; simp at hv; subst hv; rfl
      case c3 => unfold maxLen; omega
      case c4 => omega
      case c5 => simp <;> omega
      intro v' w2 hown hgr
      obtain ⟨a2, cap2, rfl, bx, fr, cl, acc2⟩ := Acc.app (by omega) (AC.out.drew (1 + n1)) hown ⟨hgr.os, hgr.tape, hgr.output, hgr.size, hgr.block⟩
      refine ⟨⟨⟨cl.below.os, cl.below.tape, cl.below.output, cl.below.size, cl.below.block⟩, cl.box⟩, ?_⟩
      go_simp
      refine hK _ _ ?_
      clear hK K hown hgr cl
      have AC2 := Lib.hid acc2
      clear acc2
      refine plan_fin (fun n3 => ?_)
      clear et em1 em2 em3
      obtain ⟨b0', b1', b2', b3'⟩ := bx
      go_wp2
      go_roundw
      case rel => exact ⟨k + 1, a2, cap2, ys ++ [u], by omega, by go_num, AC2.out.drew n3, upto_step HY.out Hu.out⟩
      case measure => simp [intOf]; omega
    · have e : k = n := by omega
      subst e
      have ZR := Lib.hid (ZR.out.below acc.below)
      obtain ⟨b0', b1', b2', b3'⟩ := acc.box
      have AC := Lib.hid acc
      have HY := Lib.hid hys
      clear acc hys
      have zz := AC.out.below.size
      obtain ⟨⟨ZR0, ZR1, ZR2, ZR3⟩, ZR4, ZR5, ZR6⟩ := ZR.out
      go_wp2
      refine bodyPost_ret (v := .agg #[.int .i64 r, .int .i64 (m : Int), .slice a' k cap']) (by simp [results, Try.results74, go_sem, ZR0, ZR1, ZR2]) rfl ?_
      exact RT1_end BW (by omega) (AC.out.row (by omega)) (by omega) HY.out (upto_length _ _)
theorem implInner (r c : Int) (a : Option Addr) (n cap : Nat) (xs : List Nat) (x2 : Option Addr) (m cap2 : Nat) (zs : List Nat) (w : World) (hn : n ≤ 1048576) (hm : 0 < m) (hm2 : m ≤ 16) (h1 : Fs w a n cap xs) (h2 : Fs w x2 m cap2 zs) :
    Calls Try.prog 75 #[.agg #[.int .i64 r, .int .i64 c, .slice a n cap], .slice x2 m cap2] w (RT1 31 w r c (upto (F xs zs m) n)) := by
  have H1 := Lib.hid h1
  have HD := Lib.hid h2.cell
  have d1 := h2.cap1
  have d2 := h2.cap2
  unfold maxLen at d2
  clear h1 h2
  go_enter Try.func75, Try.ntmps75
  go_wp2_with fail
  refine calls_at ?_
  intro w1 hA
  have A : Below w.heap.size w w1 := by rw [hA]; exact (((Below.refl _ _).alloc (Nat.le_refl _) _).alloc (by simp <;> omega) _).alloc (by simp <;> omega) _
  have zw1 : w1.heap.size = w.heap.size + 1 + 1 + 1 := by rw [hA]; simp
  have Q_ : Box w1 (w.heap.size) r c a n cap := by rw [hA]; exact ⟨by simp [go_sem], by simp [go_sem], by simp [go_sem], by simp <;> omega⟩
  have QS_ : Cell1 w1 (w.heap.size + 1) (.slice x2 m cap2) := by rw [hA]; exact ⟨by simp [go_sem], by simp <;> omega⟩
  have ZR_ : Zbox w1 (w.heap.size + 1 + 1) := by rw [hA]; exact ⟨⟨by simp [go_sem], by simp [go_sem], by simp [go_sem], by simp <;> omega⟩, by simp [go_sem], by simp [go_sem], by simp [go_sem]⟩
  clear hA
  have zw1a := Nat.le_of_eq zw1
  have zw1b := Nat.le_of_eq zw1.symm
  clear zw1
  have T := A
  clear A
  have Q := Lib.hid Q_
  clear Q_
  have QS := Lib.hid QS_
  clear QS_
  have ZR := Lib.hid ZR_
  clear ZR_
  refine (mapped 90 #[.pointer (some ⟨w.heap.size + 1, 0, none⟩)] (F xs zs m) r c a n cap xs w1 hn (H1.out.below T) (fun args w => by simp [go_sem]) (fun w' i hi hb => ?_)).mono ?_
  · have hc' : w'.cell? ⟨w.heap.size + 1, 0, none⟩ = some (.slice x2 m cap2) := (hb.cell (p := ⟨w.heap.size + 1, 0, none⟩) (by simp; omega)).trans QS.out.1
    have hkm : i % m < m := Nat.mod_lt _ hm
    obtain ⟨bd, od, rfl, hcd⟩ := HD.out (i % m) hkm
    have cd : w'.cell? ⟨bd, od + i % m, none⟩ = some (.float .f32 (zs[i % m]?.getD 0)) := ((T.trans (hb.mono T.size)).cell (p := ⟨bd, od + i % m, none⟩) (World.block_lt_of_cell? w _ hcd)).trans hcd
    clear hcd
    show Calls Try.prog 90 #[.int .i64 i, .float .f32 (xs[i]?.getD 0), .pointer (some ⟨w.heap.size + 1, 0, none⟩)] w' _
    have hm0 : ¬ m = 0 := by omega
    have et := tmod_nat i m
    have em1 : (0 : Int) ≤ (i : Int) % (m : Int) := by omega
    have em2 : (i : Int) % (m : Int) < (m : Int) := by omega
    have em3 : ((i : Int) % (m : Int)).toNat = i % m := by omega
    go_enter Try.func90, Try.ntmps90
    go_wp2_with fail
    refine wp_dr 9 [0, 0, 0, 0, 0, 0, 0, 0, 1, 0] (by kernel_rfl) (by kernel_rfl) ?_
    simp only [List.take_succ_cons, List.take_zero, List.drop_succ_cons, List.drop_zero]
    iterate 9 (with_reducible refine dr_step ?_; intro K hK; go_simp; (try intro _); refine hK _ _ ?_; clear hK K)
    refine wpR_nil (fun nq => ?_)
    go_wp2
    go_ret
    exact ⟨_, rfl, by unfold F; exact fres_fop .., bdrew (bdrew (Below.refl _ _) _) _⟩
  rintro e w2 ⟨a2, cap2', ys, rfl, R, hy, A⟩
  have T := T.trans (A.mono T.size)
  have Q := Lib.hid (Q.out.below A)
  have QS := Lib.hid (QS.out.below A)
  have ZR := Lib.hid (ZR.out.below A)
  have zw2 := A.size
  clear A
  rw [upto_length] at R
  have RR := Lib.hid R
  have HY := Lib.hid hy
  clear R hy
  rw [upto_length]
  obtain ⟨⟨ZR0, ZR1, ZR2, ZR3⟩, ZR4, ZR5, ZR6⟩ := ZR.out
  go_wp2
  refine bodyPost_ret (v := .agg #[.int .i64 r, .int .i64 c, .slice a2 n cap2']) (by simp [results, Try.results75, go_sem, ZR0, ZR1, ZR2]) rfl ?_
  exact RT1_end T (by omega) RR.out (by omega) HY.out (upto_length _ _)
theorem isRowI (r c : Int) (a : Option Addr) (n cap : Nat) (x2 : Option Addr) (m cap2 : Nat) (w : World) (hn : n ≤ maxLen) (_hm : m ≤ 9223372036854775807) :
    Calls Try.prog 72 #[.agg #[.int .i64 r, .int .i64 c, .slice a n cap], .slice x2 m cap2] w fun e w' => e = .returned (.bool (decide (vt r c n) && decide ((m : Int) = c))) ∧ Below w.heap.size w w' := by
  cases hv : decide (vt r c n)
  · have HV := Lib.hid hv
    clear hv
    go_enter Try.func72, Try.ntmps72
    go_wp2_with fail
    refine calls_at ?_
    intro w1 hA
    have A : Below w.heap.size w w1 := by rw [hA]; exact (Below.refl _ _).alloc (Nat.le_refl _) _
    have zw1 : w1.heap.size = w.heap.size + 1 := by rw [hA]; simp
    have Q_ : Box w1 (w.heap.size) r c a n cap := by rw [hA]; exact ⟨by simp [go_sem], by simp [go_sem], by simp [go_sem], by simp <;> omega⟩
    clear hA
    have zw1a := Nat.le_of_eq zw1
    have zw1b := Nat.le_of_eq zw1.symm
    clear zw1
    have T := A
    clear A
    have Q := Lib.hid Q_
    clear Q_
    refine (validT r c a n cap _ hn).mono ?_
    rintro e w2 ⟨rfl, A⟩
    have T := T.trans (A.mono T.size)
    have Q := Lib.hid (Q.out.below A)
    have zw2 := A.size
    clear A
    rw [HV.out]
    go_wp2
    go_ret
    exact ⟨rfl, T⟩
  · have HV := Lib.hid hv
    clear hv
    go_enter Try.func72, Try.ntmps72
    go_wp2_with fail
    refine calls_at ?_
    intro w1 hA
    have A : Below w.heap.size w w1 := by rw [hA]; exact (Below.refl _ _).alloc (Nat.le_refl _) _
    have zw1 : w1.heap.size = w.heap.size + 1 := by rw [hA]; simp
    have Q_ : Box w1 (w.heap.size) r c a n cap := by rw [hA]; exact ⟨by simp [go_sem], by simp [go_sem], by simp [go_sem], by simp <;> omega⟩
    clear hA
    have zw1a := Nat.le_of_eq zw1
    have zw1b := Nat.le_of_eq zw1.symm
    clear zw1
    have T := A
    clear A
    have Q := Lib.hid Q_
    clear Q_
    refine (validT r c a n cap _ hn).mono ?_
    rintro e w2 ⟨rfl, A⟩
    have T := T.trans (A.mono T.size)
    have Q := Lib.hid (Q.out.below A)
    have zw2 := A.size
    clear A
    rw [HV.out]
    obtain ⟨Q0, Q1, Q2, Q3⟩ := Q.out
    go_wp2
    go_ret
    exact ⟨by rw [Bool.true_and]; rfl, T⟩
theorem specS (r c : Int) (a : Option Addr) (n cap : Nat) (xs : List Nat) (x2 : Option Addr) (m cap2 : Nat) (zs : List Nat) (w : World) (h1 : Fs w a n cap xs) (h2 : Fs w x2 m cap2 zs) :
    Calls Try.prog 43 #[.agg #[.int .i64 r, .int .i64 c, .slice a n cap], .slice x2 m cap2] w (RT 31 w (if ok r c n m = true then r else 0) (if ok r c n m = true then c else 0) (if ok r c n m = true then upto (F xs zs m) n else []) (ok r c n m)) := by
  have HM : Hid (n ≤ maxLen) := Nat.le_trans h1.cap1 h1.cap2
  have HM2 : m ≤ maxLen := Nat.le_trans h2.cap1 h2.cap2
  unfold maxLen at HM2
  have H1 := Lib.hid h1
  have H2 := Lib.hid h2
  clear h1 h2
  cases hv : decide (vt r c n)
  · have ho : ok r c n m = false := by unfold ok; rw [hv]; rfl
    rw [ho, if_neg (by simp), if_neg (by simp), if_neg (by simp)]
    have HV := Lib.hid hv
    clear hv ho
    go_enter Try.func43, Try.ntmps43
    go_wp2_with fail
    refine calls_at ?_
    intro w1 hA
    have A : Below w.heap.size w w1 := by rw [hA]; exact ((Below.refl _ _).alloc (Nat.le_refl _) _).alloc (by simp <;> omega) _
    have zw1 : w1.heap.size = w.heap.size + 1 + 1 := by rw [hA]; simp
    have Q_ : Box w1 (w.heap.size) r c a n cap := by rw [hA]; exact ⟨by simp [go_sem], by simp [go_sem], by simp [go_sem], by simp <;> omega⟩
    have ZR_ : Zbox w1 (w.heap.size + 1) := by rw [hA]; exact ⟨⟨by simp [go_sem], by simp [go_sem], by simp [go_sem], by simp <;> omega⟩, by simp [go_sem], by simp [go_sem], by simp [go_sem]⟩
    clear hA
    have zw1a := Nat.le_of_eq zw1
    have zw1b := Nat.le_of_eq zw1.symm
    clear zw1
    have T := A
    clear A
    have Q := Lib.hid Q_
    clear Q_
    have ZR := Lib.hid ZR_
    clear ZR_
    refine (isT r c a n cap _ _ _ HM.out Q.out.c0 Q.out.c1 Q.out.c2).mono ?_
    rintro e w2 ⟨rfl, mm, hw⟩
    have A := below_of_drew hw
    clear hw
    have T := T.trans (A.mono T.size)
    have Q := Lib.hid (Q.out.below A)
    have ZR := Lib.hid (ZR.out.below A)
    have zw2 := A.size
    clear A
    rw [HV.out]
    obtain ⟨⟨ZR0, ZR1, ZR2, ZR3⟩, ZR4, ZR5, ZR6⟩ := ZR.out
    go_wp2
    refine bodyPost_ret (v := .tuple #[.agg #[.int .i64 0, .int .i64 0, .slice none 0 0], .bool false]) (by simp [results, Try.results43, go_sem, ZR0, ZR1, ZR2]) rfl ?_
    exact RT_no T (by omega)
  · by_cases hc : (m : Int) = c
    · subst hc
      have ho : ok r (m : Int) n m = true := by unfold ok; rw [hv]; simp
      rw [ho, if_pos rfl, if_pos rfl, if_pos rfl]
      have hn := (vt_le (of_decide_eq_true hv)).2
      have hmm := (of_decide_eq_true hv : vt r (m : Int) n)
      have hm1 : 0 < m := by have := hmm.2.2.1; omega
      have hm16 : m ≤ 16 := by have := hmm.2.2.2.1; omega
      have HV := Lib.hid hv
      clear hv ho hmm
      go_enter Try.func43, Try.ntmps43
      go_wp2_with fail
      refine calls_at ?_
      intro w1 hA
      have A : Below w.heap.size w w1 := by rw [hA]; exact ((Below.refl _ _).alloc (Nat.le_refl _) _).alloc (by simp <;> omega) _
      have zw1 : w1.heap.size = w.heap.size + 1 + 1 := by rw [hA]; simp
      have Q_ : Box w1 (w.heap.size) r ↑m a n cap := by rw [hA]; exact ⟨by simp [go_sem], by simp [go_sem], by simp [go_sem], by simp <;> omega⟩
      have ZR_ : Zbox w1 (w.heap.size + 1) := by rw [hA]; exact ⟨⟨by simp [go_sem], by simp [go_sem], by simp [go_sem], by simp <;> omega⟩, by simp [go_sem], by simp [go_sem], by simp [go_sem]⟩
      clear hA
      have zw1a := Nat.le_of_eq zw1
      have zw1b := Nat.le_of_eq zw1.symm
      clear zw1
      have T := A
      clear A
      have Q := Lib.hid Q_
      clear Q_
      have ZR := Lib.hid ZR_
      clear ZR_
      refine (isT r (m : Int) a n cap _ _ _ HM.out Q.out.c0 Q.out.c1 Q.out.c2).mono ?_
      rintro e w2 ⟨rfl, mm, hw⟩
      have A := below_of_drew hw
      clear hw
      have T := T.trans (A.mono T.size)
      have Q := Lib.hid (Q.out.below A)
      have ZR := Lib.hid (ZR.out.below A)
      have zw2 := A.size
      clear A
      rw [HV.out]
      obtain ⟨Q0, Q1, Q2, Q3⟩ := Q.out
      go_wp2_with fail
      clear Q0 Q1 Q2 Q3
      refine (specInner r a n cap _ xs x2 m cap2 zs _ (by omega) hm1 hm16 (H1.out.below T) Q.out (H2.out.below T)).mono ?_
      rintro e w3 ⟨a2, cap2', ys, rfl, R, hy, A⟩
      have T := T.trans (A.mono T.size)
      have Q := Lib.hid (Q.out.below A)
      have ZR := Lib.hid (ZR.out.below A)
      have zw3 := A.size
      clear A
      rw [upto_length] at R
      have RR := Lib.hid R
      have HY := Lib.hid hy
      clear R hy
      rw [upto_length]
      obtain ⟨⟨ZR0, ZR1, ZR2, ZR3⟩, ZR4, ZR5, ZR6⟩ := ZR.out
      go_wp2
      refine bodyPost_ret (v := .tuple #[.agg #[.int .i64 r, .int .i64 ↑m, .slice a2 n cap2'], .bool true]) (by simp [results, Try.results43, go_sem, ZR0, ZR1, ZR2]) rfl ?_
      exact RT_end T (by omega) RR.out (by omega) HY.out (upto_length _ _)
    · have ho : ok r c n m = false := by unfold ok; simp [hc]
      rw [ho, if_neg (by simp), if_neg (by simp), if_neg (by simp)]
      have HV := Lib.hid hv
      have hcc : ((m : Int) == c) = false := by simpa using hc
      have hcc2 : ((m : Int) != c) = true := by simpa using hc
      have hcd : decide ((m : Int) = c) = false := by simpa using hc
      clear hv ho hc
      go_enter Try.func43, Try.ntmps43
      go_wp2_with fail
      refine calls_at ?_
      intro w1 hA
      have A : Below w.heap.size w w1 := by rw [hA]; exact ((Below.refl _ _).alloc (Nat.le_refl _) _).alloc (by simp <;> omega) _
      have zw1 : w1.heap.size = w.heap.size + 1 + 1 := by rw [hA]; simp
      have Q_ : Box w1 (w.heap.size) r c a n cap := by rw [hA]; exact ⟨by simp [go_sem], by simp [go_sem], by simp [go_sem], by simp <;> omega⟩
      have ZR_ : Zbox w1 (w.heap.size + 1) := by rw [hA]; exact ⟨⟨by simp [go_sem], by simp [go_sem], by simp [go_sem], by simp <;> omega⟩, by simp [go_sem], by simp [go_sem], by simp [go_sem]⟩
      clear hA
      have zw1a := Nat.le_of_eq zw1
      have zw1b := Nat.le_of_eq zw1.symm
      clear zw1
      have T := A
      clear A
      have Q := Lib.hid Q_
      clear Q_
      have ZR := Lib.hid ZR_
      clear ZR_
      refine (isT r c a n cap _ _ _ HM.out Q.out.c0 Q.out.c1 Q.out.c2).mono ?_
      rintro e w2 ⟨rfl, mm, hw⟩
      have A := below_of_drew hw
      clear hw
      have T := T.trans (A.mono T.size)
      have Q := Lib.hid (Q.out.below A)
      have ZR := Lib.hid (ZR.out.below A)
      have zw2 := A.size
      clear A
      rw [HV.out]
      obtain ⟨Q0, Q1, Q2, Q3⟩ := Q.out
      obtain ⟨⟨ZR0, ZR1, ZR2, ZR3⟩, ZR4, ZR5, ZR6⟩ := ZR.out
      go_wp2
      refine bodyPost_ret (v := .tuple #[.agg #[.int .i64 0, .int .i64 0, .slice none 0 0], .bool false]) (by simp [results, Try.results43, go_sem, ZR0, ZR1, ZR2]) rfl ?_
      exact RT_no T (by omega)
theorem implS (r c : Int) (a : Option Addr) (n cap : Nat) (xs : List Nat) (x2 : Option Addr) (m cap2 : Nat) (zs : List Nat) (w : World) (h1 : Fs w a n cap xs) (h2 : Fs w x2 m cap2 zs) :
    Calls Try.prog 44 #[.agg #[.int .i64 r, .int .i64 c, .slice a n cap], .slice x2 m cap2] w (RT 31 w (if ok r c n m = true then r else 0) (if ok r c n m = true then c else 0) (if ok r c n m = true then upto (F xs zs m) n else []) (ok r c n m)) := by
  have HM : Hid (n ≤ maxLen) := Nat.le_trans h1.cap1 h1.cap2
  have HM2 : m ≤ maxLen := Nat.le_trans h2.cap1 h2.cap2
  unfold maxLen at HM2
  have H1 := Lib.hid h1
  have H2 := Lib.hid h2
  clear h1 h2
  cases hv : decide (vt r c n)
  · have ho : ok r c n m = false := by unfold ok; rw [hv]; rfl
    rw [ho, if_neg (by simp), if_neg (by simp), if_neg (by simp)]
    have HV := Lib.hid hv
    clear hv ho
    go_enter Try.func44, Try.ntmps44
    go_wp2_with fail
    refine calls_at ?_
    intro w1 hA
    have A : Below w.heap.size w w1 := by rw [hA]; exact ((Below.refl _ _).alloc (Nat.le_refl _) _).alloc (by simp <;> omega) _
    have zw1 : w1.heap.size = w.heap.size + 1 + 1 := by rw [hA]; simp
    have Q_ : Box w1 (w.heap.size) r c a n cap := by rw [hA]; exact ⟨by simp [go_sem], by simp [go_sem], by simp [go_sem], by simp <;> omega⟩
    have ZR_ : Zbox w1 (w.heap.size + 1) := by rw [hA]; exact ⟨⟨by simp [go_sem], by simp [go_sem], by simp [go_sem], by simp <;> omega⟩, by simp [go_sem], by simp [go_sem], by simp [go_sem]⟩
    clear hA
    have zw1a := Nat.le_of_eq zw1
    have zw1b := Nat.le_of_eq zw1.symm
    clear zw1
    have T := A
    clear A
    have Q := Lib.hid Q_
    clear Q_
    have ZR := Lib.hid ZR_
    clear ZR_
    refine (isRowI r c a n cap x2 m cap2 _ HM.out HM2).mono ?_
    rintro e w2 ⟨rfl, A⟩
    have T := T.trans (A.mono T.size)
    have Q := Lib.hid (Q.out.below A)
    have ZR := Lib.hid (ZR.out.below A)
    have zw2 := A.size
    clear A
    rw [show (decide (vt r c n) && decide ((m : Int) = c)) = false by rw [HV.out]; rfl]
    obtain ⟨⟨ZR0, ZR1, ZR2, ZR3⟩, ZR4, ZR5, ZR6⟩ := ZR.out
    go_wp2
    refine bodyPost_ret (v := .tuple #[.agg #[.int .i64 0, .int .i64 0, .slice none 0 0], .bool false]) (by simp [results, Try.results44, go_sem, ZR0, ZR1, ZR2]) rfl ?_
    exact RT_no T (by omega)
  · by_cases hc : (m : Int) = c
    · subst hc
      have ho : ok r (m : Int) n m = true := by unfold ok; rw [hv]; simp
      rw [ho, if_pos rfl, if_pos rfl, if_pos rfl]
      have hn := (vt_le (of_decide_eq_true hv)).2
      have hmm := (of_decide_eq_true hv : vt r (m : Int) n)
      have hm1 : 0 < m := by have := hmm.2.2.1; omega
      have hm16 : m ≤ 16 := by have := hmm.2.2.2.1; omega
      have HV := Lib.hid hv
      clear hv ho hmm
      go_enter Try.func44, Try.ntmps44
      go_wp2_with fail
      refine calls_at ?_
      intro w1 hA
      have A : Below w.heap.size w w1 := by rw [hA]; exact ((Below.refl _ _).alloc (Nat.le_refl _) _).alloc (by simp <;> omega) _
      have zw1 : w1.heap.size = w.heap.size + 1 + 1 := by rw [hA]; simp
      have Q_ : Box w1 (w.heap.size) r ↑m a n cap := by rw [hA]; exact ⟨by simp [go_sem], by simp [go_sem], by simp [go_sem], by simp <;> omega⟩
      have ZR_ : Zbox w1 (w.heap.size + 1) := by rw [hA]; exact ⟨⟨by simp [go_sem], by simp [go_sem], by simp [go_sem], by simp <;> omega⟩, by simp [go_sem], by simp [go_sem], by simp [go_sem]⟩
      clear hA
      have zw1a := Nat.le_of_eq zw1
      have zw1b := Nat.le_of_eq zw1.symm
      clear zw1
      have T := A
      clear A
      have Q := Lib.hid Q_
      clear Q_
      have ZR := Lib.hid ZR_
      clear ZR_
      refine (isRowI r (m : Int) a n cap x2 m cap2 _ HM.out HM2).mono ?_
      rintro e w2 ⟨rfl, A⟩
      have T := T.trans (A.mono T.size)
      have Q := Lib.hid (Q.out.below A)
      have ZR := Lib.hid (ZR.out.below A)
      have zw2 := A.size
      clear A
      rw [show (decide (vt r (m : Int) n) && decide ((m : Int) = (m : Int))) = true by rw [HV.out]; simp]
      obtain ⟨Q0, Q1, Q2, Q3⟩ := Q.out
      go_wp2_with fail
      clear Q0 Q1 Q2 Q3
      refine (implInner r (m : Int) a n cap xs x2 m cap2 zs _ (by omega) hm1 hm16 (H1.out.below T) (H2.out.below T)).mono ?_
      rintro e w3 ⟨a2, cap2', ys, rfl, R, hy, A⟩
      have T := T.trans (A.mono T.size)
      have Q := Lib.hid (Q.out.below A)
      have ZR := Lib.hid (ZR.out.below A)
      have zw3 := A.size
      clear A
      rw [upto_length] at R
      have RR := Lib.hid R
      have HY := Lib.hid hy
      clear R hy
      rw [upto_length]
      obtain ⟨⟨ZR0, ZR1, ZR2, ZR3⟩, ZR4, ZR5, ZR6⟩ := ZR.out
      go_wp2
      refine bodyPost_ret (v := .tuple #[.agg #[.int .i64 r, .int .i64 ↑m, .slice a2 n cap2'], .bool true]) (by simp [results, Try.results44, go_sem, ZR0, ZR1, ZR2]) rfl ?_
      exact RT_end T (by omega) RR.out (by omega) HY.out (upto_length _ _)
    · have ho : ok r c n m = false := by unfold ok; simp [hc]
      rw [ho, if_neg (by simp), if_neg (by simp), if_neg (by simp)]
      have HV := Lib.hid hv
      have hcc : ((m : Int) == c) = false := by simpa using hc
      have hcc2 : ((m : Int) != c) = true := by simpa using hc
      have hcd : decide ((m : Int) = c) = false := by simpa using hc
      clear hv ho hc
      go_enter Try.func44, Try.ntmps44
      go_wp2_with fail
      refine calls_at ?_
      intro w1 hA
      have A : Below w.heap.size w w1 := by rw [hA]; exact ((Below.refl _ _).alloc (Nat.le_refl _) _).alloc (by simp <;> omega) _
      have zw1 : w1.heap.size = w.heap.size + 1 + 1 := by rw [hA]; simp
      have Q_ : Box w1 (w.heap.size) r c a n cap := by rw [hA]; exact ⟨by simp [go_sem], by simp [go_sem], by simp [go_sem], by simp <;> omega⟩
      have ZR_ : Zbox w1 (w.heap.size + 1) := by rw [hA]; exact ⟨⟨by simp [go_sem], by simp [go_sem], by simp [go_sem], by simp <;> omega⟩, by simp [go_sem], by simp [go_sem], by simp [go_sem]⟩
      clear hA
      have zw1a := Nat.le_of_eq zw1
      have zw1b := Nat.le_of_eq zw1.symm
      clear zw1
      have T := A
      clear A
      have Q := Lib.hid Q_
      clear Q_
      have ZR := Lib.hid ZR_
      clear ZR_
      refine (isRowI r c a n cap x2 m cap2 _ HM.out HM2).mono ?_
      rintro e w2 ⟨rfl, A⟩
      have T := T.trans (A.mono T.size)
      have Q := Lib.hid (Q.out.below A)
      have ZR := Lib.hid (ZR.out.below A)
      have zw2 := A.size
      clear A
      rw [show (decide (vt r c n) && decide ((m : Int) = c)) = false by rw [hcd, Bool.and_false]]
      clear hcc hcc2 hcd
      obtain ⟨⟨ZR0, ZR1, ZR2, ZR3⟩, ZR4, ZR5, ZR6⟩ := ZR.out
      go_wp2
      refine bodyPost_ret (v := .tuple #[.agg #[.int .i64 0, .int .i64 0, .slice none 0 0], .bool false]) (by simp [results, Try.results44, go_sem, ZR0, ZR1, ZR2]) rfl ?_
      exact RT_no T (by omega)
theorem both (r c : Int) (n : Nat) (xs : List Nat) (m : Nat) (zs : List Nat) (_hn : n ≤ 1048576) (_hl : n = xs.length) (_wr : (Lit.int .i64 r).wf = true) (_wc : (Lit.int .i64 c).wf = true) (_hm : m ≤ 1048576) (_hl2 : m = zs.length) :
    ∃ ok R0 C0 S, S.length ≤ 1048576 ∧ (∀ w a cap x2 cap2, Fs w a n cap xs → Fs w x2 m cap2 zs → Calls Try.prog 43 #[.agg #[.int .i64 r, .int .i64 c, .slice a n cap], .slice x2 m cap2] w (RT 31 w R0 C0 S ok)) ∧ (∀ w a cap x2 cap2, Fs w a n cap xs → Fs w x2 m cap2 zs → Calls Try.prog 44 #[.agg #[.int .i64 r, .int .i64 c, .slice a n cap], .slice x2 m cap2] w (RT 31 w R0 C0 S ok)) :=
  ⟨_, _, _, _, by split <;> simp [upto_length, _hn], fun w a cap x2 cap2 h1 h2 => specS r c a n cap xs x2 m cap2 zs w h1 h2, fun w a cap x2 cap2 h1 h2 => implS r c a n cap xs x2 m cap2 zs w h1 h2⟩
set_option maxHeartbeats 4000000 in
theorem walk (w : World) (ro0 co0 : Int) (a0 : Option Addr) (n0 c0 : Nat) (xs0 : List Nat) (h0 : Fs w a0 n0 c0 xs0) (_wr0 : (Lit.int .i64 ro0).wf = true) (_wc0 : (Lit.int .i64 co0).wf = true) (_b0 : ∀ x ∈ xs0, x < 4294967296) (a1 : Option Addr) (n1 c1 : Nat) (xs1 : List Nat) (h1 : Fs w a1 n1 c1 xs1) (_b1 : ∀ x ∈ xs1, x < 4294967296) :
    Calls Try.prog 12 #[.agg #[.int .i64 ro0, .int .i64 co0, .slice a0 n0 c0], .slice a1 n1 c1] w fun e w' => e = .returned (.bool true) ∧ Below w.heap.size w w' := by
  have m0 := h0.cap2
  have q0 := h0.cap1
  have m1 := h1.cap2
  have q1 := h1.cap1
  unfold maxLen at m0 m1
  by_cases g1 : 1048576 < n1
  · go_enter Try.func12, Try.ntmps12
    go_wp2
    go_ret
    exact ⟨rfl, (Below.refl _ _).alloc (Nat.le_refl _) _⟩
  have hn1 : n1 ≤ 1048576 := by omega
  by_cases g0 : 1048576 < n0
  · go_enter Try.func12, Try.ntmps12
    have T := Below.refl w.heap.size w
    go_wp2_with fail
    refine calls_at ?_
    intro w1 hA
    obtain ⟨Q, A, z1, z2⟩ := box_new hA
    clear hA
    have X0 := Lib.hid Q
    clear Q
    have T := T.trans (A.mono T.size)
    have zw1 := A.size
    clear A
    have yw1 := z1
    have xw1 := z2
    clear z1 z2
    refine (szNo _ _ _ _ _ _ _ (Nat.le_trans h0.cap1 h0.cap2) (by omega) (by omega)).mono ?_
    rintro e wz ⟨rfl, A⟩
    have T := T.trans (A.mono T.size)
    go_wp2
    go_ret
    exact ⟨rfl, T⟩
  have hn0 : n0 ≤ 1048576 := by omega
  obtain ⟨ok, R0, C0, S, hS, hs, hi⟩ := both ro0 co0 n0 xs0 n1 xs1 hn0 h0.len _wr0 _wc0 hn1 h1.len
  go_enter Try.func12, Try.ntmps12
  have T := Below.refl w.heap.size w
  go_wp2_with fail
  refine calls_at ?_
  intro w1 hA
  obtain ⟨Q, A, z1, z2⟩ := box_new hA
  clear hA
  have X0 := Lib.hid Q
  clear Q
  have T := T.trans (A.mono T.size)
  have zw1 := A.size
  clear A
  have yw1 := z1
  have xw1 := z2
  clear z1 z2
  refine (szYes _ _ _ _ _ _ _ (by omega) (by omega)).mono ?_
  rintro e w2 ⟨rfl, A⟩
  have T := T.trans (A.mono T.size)
  have X0 := Lib.hid (X0.out.below A)
  have zw2 := A.size
  clear A
  obtain ⟨X00, X01, X02, X03⟩ := X0.out
  go_wp2_with fail
  clear X00 X01 X02 X03
  refine (toTens _ _ _ _ _ _ _ hn0 (h0.below T)).mono ?_
  rintro e w3 ⟨g1, rfl, R, A⟩
  have T := T.trans (A.mono T.size)
  have X0 := Lib.hid (X0.out.below A)
  have zw3 := A.size
  clear A
  have K1 := R
  clear R
  go_wp2_with fail
  refine (toF32r _ _ _ _ _ hn1 (h1.below T)).mono ?_
  rintro e w4 ⟨g2, rfl, R, A⟩
  have T := T.trans (A.mono T.size)
  have K1 := K1.below A
  have X0 := Lib.hid (X0.out.below A)
  have zw4 := A.size
  clear A
  have K2 := R
  clear R
  go_wp2_with fail
  refine (hs w4 _ _ _ _ K1.fs K2.fs).mono ?_
  rintro e w5 ⟨b3, p3, ys3, rfl, R, E3, A⟩
  have T := T.trans (A.mono T.size)
  have K1 := K1.below A
  have K2 := K2.below A
  have X0 := Lib.hid (X0.out.below A)
  have zw5 := A.size
  clear A
  have K3 := R
  clear R
  have E3h := Lib.hid E3
  clear E3
  obtain ⟨X00, X01, X02, X03⟩ := X0.out
  go_wp2_with fail
  clear X00 X01 X02 X03
  refine calls_at ?_
  intro w6 hA
  obtain ⟨Q, A, z1, z2⟩ := box_new (r := R0) (c := C0) (a := b3) (n := S.length) (cap := p3) hA
  clear hA
  have Y3 := Lib.hid Q
  clear Q
  have T := T.trans (A.mono T.size)
  have K1 := K1.below A
  have K2 := K2.below A
  have K3 := K3.below A
  have X0 := Lib.hid (X0.out.below A)
  have zw6 := A.size
  clear A
  have yw6 := z1
  have xw6 := z2
  clear z1 z2
  refine (toTens _ _ _ _ _ _ _ hn0 (h0.below T)).mono ?_
  rintro e w7 ⟨g4, rfl, R, A⟩
  have T := T.trans (A.mono T.size)
  have K1 := K1.below A
  have K2 := K2.below A
  have K3 := K3.below A
  have X0 := Lib.hid (X0.out.below A)
  have Y3 := Lib.hid (Y3.out.below A)
  have zw7 := A.size
  clear A
  have K4 := R
  clear R
  go_wp2_with fail
  refine calls_at ?_
  intro w8 hA
  obtain ⟨Q, A, z1, z2⟩ := box_new (r := ro0) (c := co0) (a := (some ⟨g4, 0, none⟩)) (n := n0) (cap := n0) hA
  clear hA
  have Z0 := Lib.hid Q
  clear Q
  have T := T.trans (A.mono T.size)
  have K1 := K1.below A
  have K2 := K2.below A
  have K3 := K3.below A
  have K4 := K4.below A
  have X0 := Lib.hid (X0.out.below A)
  have Y3 := Lib.hid (Y3.out.below A)
  have zw8 := A.size
  clear A
  have yw8 := z1
  have xw8 := z2
  clear z1 z2
  refine (toF32r _ _ _ _ _ hn1 (h1.below T)).mono ?_
  rintro e w9 ⟨g5, rfl, R, A⟩
  have T := T.trans (A.mono T.size)
  have K1 := K1.below A
  have K2 := K2.below A
  have K3 := K3.below A
  have K4 := K4.below A
  have X0 := Lib.hid (X0.out.below A)
  have Y3 := Lib.hid (Y3.out.below A)
  have Z0 := Lib.hid (Z0.out.below A)
  have zw9 := A.size
  clear A
  have K5 := R
  clear R
  obtain ⟨Z00, Z01, Z02, Z03⟩ := Z0.out
  go_wp2_with fail
  clear Z00 Z01 Z02 Z03
  refine (hi w9 _ _ _ _ K4.fs K5.fs).mono ?_
  rintro e w10 ⟨b6, p6, ys6, rfl, R, E6, A⟩
  have T := T.trans (A.mono T.size)
  have K1 := K1.below A
  have K2 := K2.below A
  have K3 := K3.below A
  have K4 := K4.below A
  have K5 := K5.below A
  have X0 := Lib.hid (X0.out.below A)
  have Y3 := Lib.hid (Y3.out.below A)
  have Z0 := Lib.hid (Z0.out.below A)
  have zw10 := A.size
  clear A
  have K6 := R
  clear R
  have E6h := Lib.hid E6
  clear E6
  obtain ⟨Y30, Y31, Y32, Y33⟩ := Y3.out
  go_wp2_with fail
  clear Y30 Y31 Y32 Y33
  refine calls_at ?_
  intro w11 hA
  obtain ⟨Q, A, z1, z2⟩ := box_new (r := R0) (c := C0) (a := b6) (n := S.length) (cap := p6) hA
  clear hA
  have Y6 := Lib.hid Q
  clear Q
  have T := T.trans (A.mono T.size)
  have K1 := K1.below A
  have K2 := K2.below A
  have K3 := K3.below A
  have K4 := K4.below A
  have K5 := K5.below A
  have K6 := K6.below A
  have X0 := Lib.hid (X0.out.below A)
  have Y3 := Lib.hid (Y3.out.below A)
  have Z0 := Lib.hid (Z0.out.below A)
  have zw11 := A.size
  clear A
  have yw11 := z1
  have xw11 := z2
  clear z1 z2
  refine (eqTens _ _ _ _ _ _ _ _ _ _ hS K6.fs K3.fs (E6h.out.trans E3h.out.symm)).mono ?_
  rintro e w12 ⟨rfl, A⟩
  have T := T.trans (A.mono T.size)
  have K1 := K1.below A
  have K2 := K2.below A
  have K3 := K3.below A
  have K4 := K4.below A
  have K5 := K5.below A
  have K6 := K6.below A
  have X0 := Lib.hid (X0.out.below A)
  have Y3 := Lib.hid (Y3.out.below A)
  have Z0 := Lib.hid (Z0.out.below A)
  have Y6 := Lib.hid (Y6.out.below A)
  have zw12 := A.size
  clear A
  go_wp2_with fail
  refine wp_bl 4 [0, 0, 2, 2, 0] (by kernel_rfl) (by kernel_rfl) ?_
  simp only [List.take_succ_cons, List.take_zero, List.drop_succ_cons, List.drop_zero]
  with_reducible refine bl_step ?_
  intro K hK
  go_simp
  refine ⟨.agg #[.int .i64 ro0, .int .i64 co0, .slice (some ⟨g4, 0, none⟩) n0 n0], fun w' hw' => ?_, hK _ _ ?_⟩
  · obtain ⟨q0, q1, q2, q3⟩ := Z0.out.below hw'
    go_simp
  clear hK K
  with_reducible refine bl_step ?_
  intro K hK
  go_simp
  refine ⟨.agg #[.int .i64 ro0, .int .i64 co0, .slice a0 n0 c0], fun w' hw' => ?_, hK _ _ ?_⟩
  · obtain ⟨q0, q1, q2, q3⟩ := X0.out.below hw'
    go_simp
  clear hK K
  with_reducible refine bl_step ?_
  intro K hK
  go_simp
  intro _
  refine (toTens _ _ _ _ _ _ _ hn0 ((h0.below T).drew _)).mono ?_
  rintro e w13 ⟨g7, rfl, R, A0⟩
  have A := (bdrew (Below.refl _ _) _).trans A0
  clear A0
  refine ⟨_, rfl, A, hK _ _ ?_⟩
  clear hK K
  have BL : Below w12.heap.size w12 w13 := A
  have T := T.trans (A.mono T.size)
  have K1 := K1.below A
  have K2 := K2.below A
  have K3 := K3.below A
  have K4 := K4.below A
  have K5 := K5.below A
  have K6 := K6.below A
  have X0 := Lib.hid (X0.out.below A)
  have Y3 := Lib.hid (Y3.out.below A)
  have Z0 := Lib.hid (Z0.out.below A)
  have Y6 := Lib.hid (Y6.out.below A)
  have zw13 := A.size
  clear A
  have K7 := R
  clear R
  with_reducible refine bl_step ?_
  intro K hK
  go_simp
  intro _
  refine (eqTens _ _ _ _ _ _ _ _ _ _ hn0 (K4.fs.drew _) (K7.fs.drew _) rfl).mono ?_
  rintro e w14 ⟨rfl, A0⟩
  have A := (bdrew (Below.refl _ _) _).trans A0
  clear A0
  refine ⟨_, rfl, BL.trans (A.mono BL.size), hK _ _ ?_⟩
  clear hK K BL
  have T := T.trans (A.mono T.size)
  have K1 := K1.below A
  have K2 := K2.below A
  have K3 := K3.below A
  have K4 := K4.below A
  have K5 := K5.below A
  have K6 := K6.below A
  have K7 := K7.below A
  have X0 := Lib.hid (X0.out.below A)
  have Y3 := Lib.hid (Y3.out.below A)
  have Z0 := Lib.hid (Z0.out.below A)
  have Y6 := Lib.hid (Y6.out.below A)
  have zw14 := A.size
  clear A
  with_reducible refine wpR_nil (fun nq => ?_)
  generalize hA : w14.drewN nq = w15
  have A := below_of_drew hA.symm
  clear hA
  have T := T.trans (A.mono T.size)
  have K1 := K1.below A
  have K2 := K2.below A
  have K3 := K3.below A
  have K4 := K4.below A
  have K5 := K5.below A
  have K6 := K6.below A
  have K7 := K7.below A
  have X0 := Lib.hid (X0.out.below A)
  have Y3 := Lib.hid (Y3.out.below A)
  have Z0 := Lib.hid (Z0.out.below A)
  have Y6 := Lib.hid (Y6.out.below A)
  have zw15 := A.size
  clear A
  go_wp2_with fail
  refine (toF32r _ _ _ _ _ hn1 (h1.below T)).mono ?_
  rintro e w16 ⟨g8, rfl, R, A⟩
  have T := T.trans (A.mono T.size)
  have K1 := K1.below A
  have K2 := K2.below A
  have K3 := K3.below A
  have K4 := K4.below A
  have K5 := K5.below A
  have K6 := K6.below A
  have K7 := K7.below A
  have X0 := Lib.hid (X0.out.below A)
  have Y3 := Lib.hid (Y3.out.below A)
  have Z0 := Lib.hid (Z0.out.below A)
  have Y6 := Lib.hid (Y6.out.below A)
  have zw16 := A.size
  clear A
  have K8 := R
  clear R
  go_wp2_with fail
  refine (eqF32r _ _ _ _ _ _ _ _ hn1 K5.fs K8.fs rfl).mono ?_
  rintro e w17 ⟨rfl, A⟩
  have T := T.trans (A.mono T.size)
  have K1 := K1.below A
  have K2 := K2.below A
  have K3 := K3.below A
  have K4 := K4.below A
  have K5 := K5.below A
  have K6 := K6.below A
  have K7 := K7.below A
  have K8 := K8.below A
  have X0 := Lib.hid (X0.out.below A)
  have Y3 := Lib.hid (Y3.out.below A)
  have Z0 := Lib.hid (Z0.out.below A)
  have Y6 := Lib.hid (Y6.out.below A)
  have zw17 := A.size
  clear A
  clear K1 K2 K7 K8
  obtain ⟨Z00, Z01, Z02, Z03⟩ := Z0.out
  go_wp2_with fail
  clear Z00 Z01 Z02 Z03
  refine (markTens _ _ _ _ _ _ _ _ (1) _ hn0 (by omega) K4).mono ?_
  rintro e w18 ⟨rfl, R, A⟩
  have z := A.size
  have t := T.size
  have T := T.trans (A.below (by omega) (by omega))
  have K3 := K3.keep A (by omega)
  have K5 := K5.keep A (by omega)
  have K6 := K6.keep A (by omega)
  have X0 := Lib.hid (X0.out.keep A (by omega))
  have Y3 := Lib.hid (Y3.out.keep A (by omega))
  have Z0 := Lib.hid (Z0.out.keep A (by omega))
  have Y6 := Lib.hid (Y6.out.keep A (by omega))
  have K4 := R
  have zw18 := z
  clear A R z t
  go_wp2_with fail
  refine (markF32 _ _ _ _ _ _ (1 + (n0 : Int)) _ hn1 (by omega) K5).mono ?_
  rintro e w19 ⟨rfl, R, A⟩
  have z := A.size
  have t := T.size
  have T := T.trans (A.below (by omega) (by omega))
  have K3 := K3.keep A (by omega)
  have K4 := K4.keep A (by omega)
  have K6 := K6.keep A (by omega)
  have X0 := Lib.hid (X0.out.keep A (by omega))
  have Y3 := Lib.hid (Y3.out.keep A (by omega))
  have Z0 := Lib.hid (Z0.out.keep A (by omega))
  have Y6 := Lib.hid (Y6.out.keep A (by omega))
  have K5 := R
  have zw19 := z
  clear A R z t
  obtain ⟨Y60, Y61, Y62, Y63⟩ := Y6.out
  obtain ⟨Y30, Y31, Y32, Y33⟩ := Y3.out
  go_wp2_with fail
  clear Y60 Y61 Y62 Y63 Y30 Y31 Y32 Y33
  refine (eqTens _ _ _ _ _ _ _ _ _ _ hS K6.fs K3.fs (E6h.out.trans E3h.out.symm)).mono ?_
  rintro e w20 ⟨rfl, A⟩
  have T := T.trans (A.mono T.size)
  have K3 := K3.below A
  have K4 := K4.below A
  have K5 := K5.below A
  have K6 := K6.below A
  have X0 := Lib.hid (X0.out.below A)
  have Y3 := Lib.hid (Y3.out.below A)
  have Z0 := Lib.hid (Z0.out.below A)
  have Y6 := Lib.hid (Y6.out.below A)
  have zw20 := A.size
  clear A
  obtain ⟨Y60, Y61, Y62, Y63⟩ := Y6.out
  go_wp2_with fail
  clear Y60 Y61 Y62 Y63
  refine (markTens _ _ _ _ _ _ _ _ 1 _ hS (by omega) K6).mono ?_
  rintro e w21 ⟨rfl, R, A⟩
  have z := A.size
  have t := T.size
  have T := T.trans (A.below (by omega) (by omega))
  have K3 := K3.keep A (by omega)
  have K4 := K4.keep A (by omega)
  have K5 := K5.keep A (by omega)
  have X0 := Lib.hid (X0.out.keep A (by omega))
  have Y3 := Lib.hid (Y3.out.keep A (by omega))
  have Z0 := Lib.hid (Z0.out.keep A (by omega))
  have Y6 := Lib.hid (Y6.out.keep A (by omega))
  have K6 := R
  have zw21 := z
  clear A R z t
  obtain ⟨Y60, Y61, Y62, Y63⟩ := Y6.out
  go_wp2_with fail
  clear Y60 Y61 Y62 Y63
  refine (heldTens _ _ _ _ _ 1 _ hS (by omega) K6.fs).mono ?_
  rintro e w22 ⟨rfl, A⟩
  have T := T.trans (A.mono T.size)
  have K3 := K3.below A
  have K4 := K4.below A
  have K5 := K5.below A
  have K6 := K6.below A
  have X0 := Lib.hid (X0.out.below A)
  have Y3 := Lib.hid (Y3.out.below A)
  have Z0 := Lib.hid (Z0.out.below A)
  have Y6 := Lib.hid (Y6.out.below A)
  have zw22 := A.size
  clear A
  obtain ⟨X00, X01, X02, X03⟩ := X0.out
  go_wp2_with fail
  clear X00 X01 X02 X03
  refine (toTens _ _ _ _ _ _ _ hn0 (h0.below T)).mono ?_
  rintro e w23 ⟨g9, rfl, R, A⟩
  have T := T.trans (A.mono T.size)
  have K3 := K3.below A
  have K4 := K4.below A
  have K5 := K5.below A
  have K6 := K6.below A
  have X0 := Lib.hid (X0.out.below A)
  have Y3 := Lib.hid (Y3.out.below A)
  have Z0 := Lib.hid (Z0.out.below A)
  have Y6 := Lib.hid (Y6.out.below A)
  have zw23 := A.size
  clear A
  have K9 := R
  clear R
  go_wp2_with fail
  refine (toF32r _ _ _ _ _ hn1 (h1.below T)).mono ?_
  rintro e w24 ⟨g10, rfl, R, A⟩
  have T := T.trans (A.mono T.size)
  have K3 := K3.below A
  have K4 := K4.below A
  have K5 := K5.below A
  have K6 := K6.below A
  have K9 := K9.below A
  have X0 := Lib.hid (X0.out.below A)
  have Y3 := Lib.hid (Y3.out.below A)
  have Z0 := Lib.hid (Z0.out.below A)
  have Y6 := Lib.hid (Y6.out.below A)
  have zw24 := A.size
  clear A
  have K10 := R
  clear R
  go_wp2_with fail
  refine (hi w24 _ _ _ _ K9.fs K10.fs).mono ?_
  rintro e w25 ⟨b11, p11, ys11, rfl, R, E11, A⟩
  have T := T.trans (A.mono T.size)
  have K3 := K3.below A
  have K4 := K4.below A
  have K5 := K5.below A
  have K6 := K6.below A
  have K9 := K9.below A
  have K10 := K10.below A
  have X0 := Lib.hid (X0.out.below A)
  have Y3 := Lib.hid (Y3.out.below A)
  have Z0 := Lib.hid (Z0.out.below A)
  have Y6 := Lib.hid (Y6.out.below A)
  have zw25 := A.size
  clear A
  have K11 := R
  clear R
  have E11h := Lib.hid E11
  clear E11
  obtain ⟨Y30, Y31, Y32, Y33⟩ := Y3.out
  go_wp2_with fail
  clear Y30 Y31 Y32 Y33
  refine calls_at ?_
  intro w26 hA
  obtain ⟨Q, A, z1, z2⟩ := box_new (r := R0) (c := C0) (a := b11) (n := S.length) (cap := p11) hA
  clear hA
  have Y11 := Lib.hid Q
  clear Q
  have T := T.trans (A.mono T.size)
  have K3 := K3.below A
  have K4 := K4.below A
  have K5 := K5.below A
  have K6 := K6.below A
  have K9 := K9.below A
  have K10 := K10.below A
  have K11 := K11.below A
  have X0 := Lib.hid (X0.out.below A)
  have Y3 := Lib.hid (Y3.out.below A)
  have Z0 := Lib.hid (Z0.out.below A)
  have Y6 := Lib.hid (Y6.out.below A)
  have zw26 := A.size
  clear A
  have yw26 := z1
  have xw26 := z2
  clear z1 z2
  refine (eqTens _ _ _ _ _ _ _ _ _ _ hS K11.fs K3.fs (E11h.out.trans E3h.out.symm)).mono ?_
  rintro e w27 ⟨rfl, A⟩
  have T := T.trans (A.mono T.size)
  have K3 := K3.below A
  have K4 := K4.below A
  have K5 := K5.below A
  have K6 := K6.below A
  have K9 := K9.below A
  have K10 := K10.below A
  have K11 := K11.below A
  have X0 := Lib.hid (X0.out.below A)
  have Y3 := Lib.hid (Y3.out.below A)
  have Z0 := Lib.hid (Z0.out.below A)
  have Y6 := Lib.hid (Y6.out.below A)
  have Y11 := Lib.hid (Y11.out.below A)
  have zw27 := A.size
  clear A
  obtain ⟨Y60, Y61, Y62, Y63⟩ := Y6.out
  go_wp2_with fail
  clear Y60 Y61 Y62 Y63
  refine (heldTens _ _ _ _ _ 1 _ hS (by omega) K6.fs).mono ?_
  rintro e w28 ⟨rfl, A⟩
  have T := T.trans (A.mono T.size)
  have K3 := K3.below A
  have K4 := K4.below A
  have K5 := K5.below A
  have K6 := K6.below A
  have K9 := K9.below A
  have K10 := K10.below A
  have K11 := K11.below A
  have X0 := Lib.hid (X0.out.below A)
  have Y3 := Lib.hid (Y3.out.below A)
  have Z0 := Lib.hid (Z0.out.below A)
  have Y6 := Lib.hid (Y6.out.below A)
  have Y11 := Lib.hid (Y11.out.below A)
  have zw28 := A.size
  clear A
  go_wp2
  go_ret
  exact ⟨rfl, T⟩
theorem own : ownKnob Try.prog.godebug = none := by kernel_rfl
theorem laidOut : laidOutB Try.prog = true := by kernel_rfl
set_option maxRecDepth 100000 in
theorem lifted (os : Os) (started : os.Started) (H : Type) (enc : TypeId × Value → H) :
    ReturnsInHanded {} Try.checked os 12 .any (Rows.fnExactMulRowSpec.pre6 enc Try.prog Try.f12 Rows.fnExactMulRowRow.domain false) (Rows.fnExactMulRowSpec.post enc Try.prog Try.f12 false true false false) := by
  refine returnsInHanded_of_change (C := Try.checked) own started (by kernel_rfl) Try.func12
    (ChangeSpec.witness6 (enc := enc) (C := Try.checked) false ⟨#[], #[.agg #[.int .i64 0, .int .i64 0, .slice none 0 0], .slice none 0 0], []⟩ 8 (by kernel_rfl) (by kernel_rfl) (by kernel_rfl) (by kernel_rfl)) ?_
  intro W base args ds gs before hval0 hW hcnd _
  have hval : ∀ (j : Nat) t v, Try.f12.params[j]? = some t → args[j]? = some v → Value.okWide Try.prog W .any base t v := hval0
  have hW' := hW
  obtain ⟨p, q, hA0, hV, rfl, hfz, hnd⟩ := hW
  have hA : DataW.TrodAll enc Try.prog W 0 (fun _ => true) true Try.f12.params.toList args.toList ds p := hA0
  rw [Try.params12] at hA hval
  obtain ⟨v0, vs0, d0, ds0, p0, q0, hargs, rfl, rfl, h0, r0⟩ := trodAll_cons hA
  obtain ⟨v1, vs1, d1, ds1, p1, q1, rfl, rfl, rfl, h1, r1⟩ := trodAll_cons r0
  obtain ⟨rfl, rfl, rfl⟩ := trodAll_nil r1
  obtain rfl : args = #[v0, v1] := by cases args; simp_all
  obtain ⟨rfl, rfl⟩ := trodVars_none hV
  have k0 := h0
  have lt0 : ∀ x ∈ p0, x.block < W.heap.size := by obtain ⟨m, hm⟩ := k0; exact DataW.trod_lt m _ _ _ hm
  have k1 := h1
  have lt1 : ∀ x ∈ p1, x.block < W.heap.size := by obtain ⟨m, hm⟩ := k1; exact DataW.trod_lt m _ _ _ hm
  obtain ⟨ro0, co0, a0, n0, c0, z0, rfl, f0, wr0, wc0, b0⟩ := open_tensor Try.underlying24 (by kernel_rfl) (by kernel_rfl) Try.underlying2 Try.underlying2 Try.underlying22 Try.underlying31 (by kernel_rfl) (hval 0 24 v0 rfl rfl) h0
  obtain ⟨a1, n1, c1, z1, rfl, f1, b1⟩ := open_floats Try.underlying22 Try.underlying31 (by kernel_rfl) (hval 1 22 v1 rfl rfl) h1
  clear hA0 hval0
  refine (walk W ro0 co0 a0 n0 c0 z0 f0 wr0 wc0 b0 a1 n1 c1 z1 f1 b1).mono fun e W' ⟨he, bel⟩ => ?_
  subst he
  exact ⟨_, rfl, _, _, _, [], _, [], hW', trodAll_mk1 (shut_bool Try.underlying4 _), (trodAll_cons_mk (Below.trod laidOut (by kernel_rfl) (of_decide_eq_true (by kernel_rfl)) k0 bel lt0) (trodAll_cons_mk (Below.trod laidOut (by kernel_rfl) (of_decide_eq_true (by kernel_rfl)) k1 bel lt1) trodAll_mk0)), rfl, bel.frame _, fun h => by cases h⟩

theorem over : Rows.fnExactMulRowRow.holds Try.pinned (OpenSpec.ofChange Rows.fnExactMulRowSpec) :=
  OpenClaim.holds_of_wide 12 Try.f12 rfl rfl rfl rfl rfl rfl rfl ⟨rfl, rfl, rfl, rfl, rfl⟩ rfl rfl rfl rfl rfl (by kernel_rfl) Try.func12 (by kernel_rfl)
    (of_decide_eq_true (by kernel_rfl)) (by unfold Func.isWrapper; first | (rw [if_pos (by decide +kernel)]; kernel_rfl) | (rw [if_neg (by decide +kernel)]; exact ⟨rfl, rfl⟩))
    (fun os started H enc _ => lifted os started H enc)

theorem proved : Rows.FnExactMulRowSaid := over
end Go.Proofs.Ytfmfddfcjbbklaa.mulRow
