/- The law FnExactScaleTensor holds for every input. No conditions. -/
import Derived.Test.YtfmfddfcjbbklaaValid
import Derived.Test.YtfmfddfcjbbklaaAcc
import Derived.Test.YtfmfddfcjbbklaaPlan
import Derived.Test.YtfmfddfcjbbklaaMapd
import Derived.Deep.CutRange
import Derived.Test.YtfmfddfcjbbklaaOpen
import Derived.ProofKit
import Derived.OpenShut
import Derived.ChangeOld
import Derived.WalkSmall
namespace Go.Proofs.Ytfmfddfcjbbklaa.scaleTensor
open Go.ChangeShapes Go.WideShapes Go.ChangeAt Go.RowKit Go.Fl Go.Reg
def F (xs : List Nat) (num : Nat) (i : Nat) : Nat := fop .mul .f32 (xs[i]?.getD 0) num
theorem specScale (r c : Int) (a : Option Addr) (n cap b0 num : Nat) (xs : List Nat) (w : World) (hn : n ≤ 1048576) (h1 : Fs w a n cap xs) (Q : Box w b0 r c a n cap) :
    Calls Try.prog 69 #[.pointer (some ⟨b0, 0, none⟩), .float .f32 num] w (RT1 31 w r c (upto (F xs num) n)) := by
  have HC := Lib.hid h1.cell
  clear h1
  obtain ⟨Q0, Q1, Q2, Q3⟩ := Q
  go_enter Try.func69, Try.ntmps69
  go_wp2_with fail
  go_cut [5] from 7 to 16 (fun s5 wx => ∃ b g, s5 = .pointer (some ⟨b, 0, none⟩) ∧ w.heap.size + 1 ≤ b ∧ Acc (w.heap.size + 1) b 31 r c (w.alloc (.cells #[.int .i64 0, .int .i64 0, .slice none 0 0] 27)) wx 0 (some ⟨g, 0, none⟩) 0 [])
  case first =>
    refine reg_at ?_
    intro w1 hA
    have T : Below w.heap.size w w1 := by rw [hA]; exact (Below.refl _ _).alloc (Nat.le_refl _) _
    have z1 : w.heap.size < w1.heap.size := by rw [hA]; simp
    have z2 : w1.heap.size = w.heap.size + 1 := by rw [hA]; simp
    have FACT : ∀ w', Below w1.heap.size w1 w' → w'.cell? ⟨b0, 0, none⟩ = some (.int .i64 r) ∧ w'.cell? ⟨b0, 1, none⟩ = some (.int .i64 c) := fun w' hb =>
      ⟨(hb.cell (p := ⟨b0, 0, none⟩) (by simp; omega)).trans ((T.cell (p := ⟨b0, 0, none⟩) Q3).trans Q0), (hb.cell (p := ⟨b0, 1, none⟩) (by simp; omega)).trans ((T.cell (p := ⟨b0, 1, none⟩) Q3).trans Q1)⟩
    have FA := Lib.hid FACT
    have Z2 := Lib.hid z2
    have HA := Lib.hid hA
    clear FACT z2 hA
    refine wp_plan 11 [0, 0, 0, 0, 0, 0, 0, 0, 2, 0, 2] (.go 0 (.go 1 (.go 2 (.go 3 (.go 4 (.go 5 (.go 6 (.go 7 (.either 8 10 (.go 10 (.go 9 .fin)) (.go 8 (.go 9 .fin)))))))))))
      (Bl w1) (by kernel_rfl) (by kernel_rfl) (Bl.refl _) Bl.drew ?_
    simp only [List.drop_succ_cons, List.drop_zero]
    iterate 8 (
      refine plan_go (pl0 (v := ?_) (by rfl) rfl rfl (fun w' hw' => ?_) (fun K hK => ?_))
      rotate_left
      · obtain ⟨q1, q2⟩ := FA.out w' hw'
        go_simp
        rfl
      go_simp
      refine hK _ _ ?_
      clear hK K)
    refine plan_either ?_ ?_
    · refine pl2 (by rfl) rfl rfl (fun K hK => ?_)
      go_simp
      intro n1
      refine ⟨(bdrew (Below.refl _ _) _).alloc (Nat.le_refl _) _, hK _ _ ?_⟩
      clear hK K
      refine plan_go (pl2 (by rfl) rfl rfl (fun K hK => ?_))
      go_simp
      intro n2
      refine ⟨((bdrew ((bdrew (Below.refl _ _) _).alloc (Nat.le_refl _) _) _).alloc (by simp) _), hK _ _ ?_⟩
      clear hK K
      refine plan_go (pl0 (v := ?_) (by rfl) rfl rfl (fun w' hw' => ?_) (fun K hK => ?_))
      rotate_left
      · go_simp
        rfl
      go_simp
      refine hK _ _ ?_
      clear hK K
      refine plan_fin (fun n3 => ?_)
      go_wp2_with fail
      go_meet
      obtain ⟨b, g, hb, hg, ACC⟩ := accStartA (r := r) (c := c) (t := 31) (tt := 27) (Below.refl w1.heap.size w1) (Nat.le_refl _) (1 + n1) n2 n3 _ rfl
      subst hb
      subst hg
      rw [← HA.out, ← Z2.out]
      exact ⟨_, _, rfl, by omega, ACC⟩
    · refine pl2 (by rfl) rfl rfl (fun K hK => ?_)
      go_simp
      intro n1
      refine ⟨(bdrew (Below.refl _ _) _).alloc (Nat.le_refl _) _, hK _ _ ?_⟩
      clear hK K
      refine plan_go (pl2 (by rfl) rfl rfl (fun K hK => ?_))
      go_simp
      intro n2
      refine ⟨((bdrew ((bdrew (Below.refl _ _) _).alloc (Nat.le_refl _) _) _).alloc (by simp) _), hK _ _ ?_⟩
      clear hK K
      refine plan_go (pl0 (v := ?_) (by rfl) rfl rfl (fun w' hw' => ?_) (fun K hK => ?_))
      rotate_left
      · go_simp
        rfl
      go_simp
      refine hK _ _ ?_
      clear hK K
      obtain ⟨e0, e1, e2, e3, e4, e5⟩ := frzs (w1.drewN (1 + n1)) 27
      change World.frozen? _ ⟨w1.heap.size, 0, none⟩ = _ at e0
      change World.frozen? _ ⟨w1.heap.size, 1, none⟩ = _ at e1
      change World.frozen? _ ⟨w1.heap.size, 2, none⟩ = _ at e2
      change World.cell? _ ⟨w1.heap.size, 0, none⟩ = _ at e3
      change World.cell? _ ⟨w1.heap.size, 1, none⟩ = _ at e4
      change World.cell? _ ⟨w1.heap.size, 2, none⟩ = _ at e5
      refine plan_fin (fun n3 => ?_)
      go_wp2_with fail
      go_meet
      obtain ⟨b, g, hb, hg, ACC⟩ := accStartB (r := r) (c := c) (t := 31) (tt := 27) (Below.refl w1.heap.size w1) (Nat.le_refl _) (1 + n1) n2 n3 _ rfl
      subst hb
      subst hg
      rw [← HA.out, ← Z2.out]
      exact ⟨_, _, rfl, by omega, ACC⟩
  case rest =>
  obtain ⟨b, g, rfl, hb, ACC⟩ := hcut
  obtain ⟨i0, hi, hz0, hz1, hz2⟩ := info_parts infoF32
  have HI := Lib.hid hi
  have HZ0 := Lib.hid hz0
  have HZ1 := Lib.hid hz1
  have HZ2 := Lib.hid hz2
  clear hi hz0 hz1 hz2
  have W0 : Below w.heap.size w (w.alloc (.cells #[.int .i64 0, .int .i64 0, .slice none 0 0] 27)) := (Below.refl _ _).alloc (Nat.le_refl _) _
  have HQ2 := Lib.hid Q2
  clear Q0 Q1 Q2
  have c2 : wc.cell? ⟨b0, 2, none⟩ = some (.slice a n cap) := ((W0.trans (ACC.below.mono (by simp))).cell (p := ⟨b0, 2, none⟩) Q3).trans HQ2.out
  have HA := Lib.hid ACC
  clear ACC
  go_wp2
  clear c2
  go_loopw [6] (fun i w' => ∃ (k : Nat) (a' : Option Addr) (cap' : Nat) (ys : List Nat), k ≤ n ∧ i = .int .i64 k ∧ Acc (w.heap.size + 1) b 31 r c (w.alloc (.cells #[.int .i64 0, .int .i64 0, .slice none 0 0] 27)) w' k a' cap' ys ∧ ys.map (cn .f32) = (upto (F xs num) k).map (cn .f32)) (fun i _ => n - (intOf i).toNat)
  case atStart => exact ⟨0, _, _, _, Nat.zero_le _, rfl, HA.out, rfl⟩
  case round =>
    obtain ⟨k, a', cap', ys, hk, rfl, acc, hys⟩ := hrel
    have BW : Below w.heap.size w wr := W0.trans (acc.below.mono (by simp))
    have c2 : wr.cell? ⟨b0, 2, none⟩ = some (.slice a n cap) := (BW.cell (p := ⟨b0, 2, none⟩) Q3).trans HQ2.out
    by_cases hlt : k < n
    · obtain ⟨ba, oa, rfl, hca⟩ := HC.out k hlt
      have hba : ba < w.heap.size := World.block_lt_of_cell? w _ hca
      have ca : wr.cell? ⟨ba, oa + k, none⟩ = some (.float .f32 (xs[k]?.getD 0)) := (BW.cell (p := ⟨ba, oa + k, none⟩) hba).trans hca
      have FACT : ∀ w', Cl (w.heap.size + 1) b wr w' → w'.cell? ⟨b, 2, none⟩ = some (.slice a' k cap') ∧ w'.cell? ⟨b0, 2, none⟩ = some (.slice (some ⟨ba, oa, none⟩) n cap) ∧ w'.cell? ⟨ba, oa + k, none⟩ = some (.float .f32 (xs[k]?.getD 0)) := fun w' h =>
        ⟨h.cell (.inr rfl) acc.box.c2, h.cell (.inl (by simp; omega)) c2, h.cell (.inl (by simp; omega)) ca⟩
      have FA := Lib.hid FACT
      have AC := Lib.hid acc
      have HY := Lib.hid hys
      clear FACT acc hys hca ca
      go_wp2_with fail
      clear c2
      refine wp_plan 14 [0, 0, 0, 0, 0, 0, 0, 0, 0, 0, 1, 2, 2, 0] (.go 0 (.go 1 (.go 2 (.go 3 (.go 4 (.go 5 (.go 6 (.go 7 (.go 8 (.go 9 (.only 10 (.only 11 (.only 12 (.only 13 .fin))))))))))))))
        (Cl (w.heap.size + 1) b wr) (by kernel_rfl) (by kernel_rfl) (Cl.refl _ _ _) Cl.drew ?_
      simp only [List.drop_succ_cons, List.drop_zero]
      iterate 10 (
        refine plan_go (pl0 (v := ?_) (by rfl) rfl rfl (fun w' hw' => ?_) (fun K hK => ?_))
        rotate_left
        · obtain ⟨q1, q2, q3⟩ := FA.out w' hw'
          go_simp
          rfl
        go_simp
        refine hK _ _ ?_
        clear hK K)
      refine plan_only (pl1 (by rfl) rfl rfl (fun K hK => ?_))
      go_simp
      intro w' _
      refine hK _ _ ?_
      clear hK K
      have HU : Hid (cn .f32 (fres .mul .f32 (xs[k]?.getD 0) num w') = cn .f32 (F xs num k)) := by unfold Hid F; rw [cn_fres, fop_cn, cn_fop]
      generalize fres .mul .f32 (xs[k]?.getD 0) num w' = u at *
      refine plan_only (pl2 (by rfl) rfl rfl (fun K hK => ?_))
      go_simp
      intro n1
      refine ⟨(Cl.drew _ _ (Cl.refl _ _ _)).alloc (by have := AC.out.box.lt; simp; omega) (by have := AC.out.box.lt; simp; omega) _, hK _ _ ?_⟩
      clear hK K
      have zb := AC.out.box.lt
      refine plan_only (pl2 (by rfl) rfl rfl (fun K hK n2 => ?_))
      refine uponV_append (.tmp 27) (.tmp 37) 22 rfl (w.heap.size + 1) 31 i0 (.float .f32 0) 1 4 Try.underlying22 HI.out HZ0.out HZ1.out HZ2.out rfl (by decide) (.slice a' k cap') k (fl ys) rfl (((AC.out.drew (1 + n1)).alloc (by simp; omega) _).drew n2).own ⟨wr.heap.size, 0, none⟩ 1 1 [.float .f32 u] rfl rfl ?c1 ?c2 ?c3 ?c4 ?c5 ?_
      case c1 =>
        intro j v hj
        match j, hj with
        | 0, hj => simp at hj; subst hj; exact cell_new (wr.drewN (1 + n1)) _ _
      case c2 => intro v hv; simp at hv; subst hv; rfl
      case c3 => unfold maxLen; omega
      case c4 => omega
      case c5 => simp; omega
      intro v' w2 hown hgr
      obtain ⟨a2, cap2, rfl, bx, fr, cl, acc2⟩ := Acc.app (by omega) (AC.out.drew (1 + n1)) hown ⟨hgr.os, hgr.tape, hgr.output, hgr.size, hgr.block⟩
      refine ⟨⟨⟨cl.below.os, cl.below.tape, cl.below.output, cl.below.size, cl.below.block⟩, cl.box⟩, ?_⟩
      go_simp
      refine hK _ _ ?_
      clear hK K hown hgr cl
      have AC2 := Lib.hid acc2
      clear acc2
      refine plan_only (pl0 (v := ?_) (by rfl) rfl rfl (fun w' hw' => ?_) (fun K hK => ?_))
      rotate_left
      · go_simp
        rfl
      go_simp
      refine hK _ _ ?_
      clear hK K
      refine plan_fin (fun n3 => ?_)
      obtain ⟨b0', b1', b2', b3'⟩ := bx
      go_wp2
      go_roundw
      case rel => exact ⟨k + 1, a2, cap2, ys ++ [u], by omega, by go_num, AC2.out.drew n3, upto_step HY.out HU.out⟩
      case measure => simp [intOf]; omega
    · have e : k = n := by omega
      subst e
      obtain ⟨d0, d1, d2, d3, d4, d5⟩ := frzs w 27
      have zc : w.heap.size < w.heap.size + 1 := by omega
      have f0 := (acc.below.frozen (p := ⟨w.heap.size, 0, none⟩) zc).trans d0
      have f1 := (acc.below.frozen (p := ⟨w.heap.size, 1, none⟩) zc).trans d1
      have f2 := (acc.below.frozen (p := ⟨w.heap.size, 2, none⟩) zc).trans d2
      have f3 := (acc.below.cell (p := ⟨w.heap.size, 0, none⟩) zc).trans d3
      have f4 := (acc.below.cell (p := ⟨w.heap.size, 1, none⟩) zc).trans d4
      have f5 := (acc.below.cell (p := ⟨w.heap.size, 2, none⟩) zc).trans d5
      clear d0 d1 d2 d3 d4 d5
      obtain ⟨b0', b1', b2', b3'⟩ := acc.box
      have AC := Lib.hid acc
      have HY := Lib.hid hys
      clear acc hys
      go_wp2
      refine bodyPost_ret (v := .agg #[.int .i64 r, .int .i64 c, .slice a' k cap']) (by simp [results, Try.results69, go_sem, f3, f4, f5]) rfl ?_
      have BB := W0.trans (AC.out.below.mono (by simp))
      have zz := BB.size
      have R : Row wr w.heap.size wr.heap.size 31 (.slice a' k cap') k ys := (AC.out.row (by have := b3'; omega)).down (by omega)
      unfold RT1
      rw [upto_length]
      refine ⟨a', cap', ys, rfl, ⟨own_set2 (own_set2 (own_set2 R.own ?_ _) ?_ _) ?_ _, ?_, ?_, ?_⟩, HY.out, ((BB.setCell (by simp) _).setCell (by simp) _).setCell (by simp) _⟩
      · intro q hq; subst hq; have := (AC.out.own.lt q.block rfl).1; simp; omega
      · intro q hq; subst hq; have := (AC.out.own.lt q.block rfl).1; simp; omega
      · intro q hq; subst hq; have := (AC.out.own.lt q.block rfl).1; simp; omega
      · simpa [World.setCell] using zz
      · simp [World.setCell]
      · simpa [World.setCell] using R.lt
theorem implScale (r c : Int) (a : Option Addr) (n cap num : Nat) (xs : List Nat) (w : World) (hn : n ≤ 1048576) (h1 : Fs w a n cap xs) :
    Calls Try.prog 70 #[.agg #[.int .i64 r, .int .i64 c, .slice a n cap], .float .f32 num] w (RT1 31 w r c (upto (F xs num) n)) := by
  have H1 := Lib.hid h1
  clear h1
  go_enter Try.func70, Try.ntmps70
  go_wp2_with fail
  refine calls_at ?_
  intro w1 hA
  have T : Below w.heap.size w w1 := by rw [hA]; exact (((Below.refl _ _).alloc (Nat.le_refl _) _).alloc (by simp) _).alloc (by simp; omega) _
  have z1 : w1.heap.size = w.heap.size + 1 + 1 + 1 := by rw [hA]; simp
  have hc : w1.cell? ⟨w.heap.size + 1, 0, none⟩ = some (.float .f32 num) := by rw [hA]; simp [go_sem]
  have hst : w1.cell? ⟨w.heap.size + 1 + 1, 0, none⟩ = some (.int .i64 0) ∧ w1.cell? ⟨w.heap.size + 1 + 1, 1, none⟩ = some (.int .i64 0) ∧ w1.cell? ⟨w.heap.size + 1 + 1, 2, none⟩ = some (.slice none 0 0) ∧ w1.frozen? ⟨w.heap.size + 1 + 1, 0, none⟩ = false ∧ w1.frozen? ⟨w.heap.size + 1 + 1, 1, none⟩ = false ∧ w1.frozen? ⟨w.heap.size + 1 + 1, 2, none⟩ = false := by rw [hA]; simp [go_sem]
  clear hA
  have Z1 := Lib.hid z1
  clear z1
  refine (mapped 88 #[.pointer (some ⟨w.heap.size + 1, 0, none⟩)] (F xs num) r c a n cap xs w1 hn (H1.out.below T) (fun args w => by simp [go_sem]) ?_).mono ?_
  · intro w' i hi hb
    have hc' : w'.cell? ⟨w.heap.size + 1, 0, none⟩ = some (.float .f32 num) := (hb.cell (p := ⟨w.heap.size + 1, 0, none⟩) (by have := Z1.out; simp; omega)).trans hc
    show Calls Try.prog 88 #[.int .i64 i, .float .f32 (xs[i]?.getD 0), .pointer (some ⟨w.heap.size + 1, 0, none⟩)] w' _
    clear hc hb hst
    go_enter Try.func88, Try.ntmps88
    go_wp2
    go_ret
    exact ⟨_, rfl, by unfold F; rw [cn_fres, fop_cn, cn_fop], bdrew (Below.refl _ _) _⟩
  · rintro e w2 ⟨a2, cap2, ys, rfl, R, hy, b2⟩
    rw [upto_length] at R
    rw [upto_length]
    obtain ⟨d3, d4, d5, d0, d1, d2⟩ := hst
    have zc : w.heap.size + 1 + 1 < w1.heap.size := by have := Z1.out; omega
    have f0 := (b2.frozen (p := ⟨w.heap.size + 1 + 1, 0, none⟩) zc).trans d0
    have f1 := (b2.frozen (p := ⟨w.heap.size + 1 + 1, 1, none⟩) zc).trans d1
    have f2 := (b2.frozen (p := ⟨w.heap.size + 1 + 1, 2, none⟩) zc).trans d2
    have f3 := (b2.cell (p := ⟨w.heap.size + 1 + 1, 0, none⟩) zc).trans d3
    have f4 := (b2.cell (p := ⟨w.heap.size + 1 + 1, 1, none⟩) zc).trans d4
    have f5 := (b2.cell (p := ⟨w.heap.size + 1 + 1, 2, none⟩) zc).trans d5
    clear d0 d1 d2 d3 d4 d5 hc
    have RR := Lib.hid R
    have HY := Lib.hid hy
    have B2 := Lib.hid b2
    clear R hy b2
    go_wp2
    refine bodyPost_ret (v := .agg #[.int .i64 r, .int .i64 c, .slice a2 n cap2]) (by simp [results, Try.results70, go_sem, f3, f4, f5]) rfl ?_
    unfold RT1
    rw [upto_length]
    exact ⟨a2, cap2, ys, rfl, (row_set (row_set (row_set RR.out zc _) zc _) zc _).down (by omega), HY.out, (((T.trans (B2.out.mono (by have := Z1.out; omega))).setCell (by simp; omega) _).setCell (by simp; omega) _).setCell (by simp; omega) _⟩
theorem specS (r c : Int) (a : Option Addr) (n cap num : Nat) (xs : List Nat) (w : World) (h1 : Fs w a n cap xs) :
    Calls Try.prog 38 #[.agg #[.int .i64 r, .int .i64 c, .slice a n cap], .float .f32 num] w (RT 31 w (if vt r c n then r else 0) (if vt r c n then c else 0) (if vt r c n then upto (F xs num) n else []) (decide (vt r c n))) := by
  have hm' : n ≤ maxLen := Nat.le_trans h1.cap1 h1.cap2
  have H1 := Lib.hid h1
  have HM := Lib.hid hm'
  clear h1 hm'
  cases hv : decide (vt r c n)
  · have hv' := of_decide_eq_false hv
    rw [if_neg hv', if_neg hv', if_neg hv']
    clear hv'
    have HV := Lib.hid hv
    clear hv
    go_enter Try.func38, Try.ntmps38
    go_wp2_with fail
    refine calls_at ?_
    intro w1 hA
    have T : Below w.heap.size w w1 := by rw [hA]; exact ((Below.refl _ _).alloc (Nat.le_refl _) _).alloc (by simp) _
    have zc : w.heap.size + 1 < w1.heap.size := by rw [hA]; simp
    have Q : Box w1 w.heap.size r c a n cap := by rw [hA]; exact ⟨by simp [go_sem], by simp [go_sem], by simp [go_sem], by simp; omega⟩
    have hst : w1.cell? ⟨w.heap.size + 1, 0, none⟩ = some (.int .i64 0) ∧ w1.cell? ⟨w.heap.size + 1, 1, none⟩ = some (.int .i64 0) ∧ w1.cell? ⟨w.heap.size + 1, 2, none⟩ = some (.slice none 0 0) ∧ w1.frozen? ⟨w.heap.size + 1, 0, none⟩ = false ∧ w1.frozen? ⟨w.heap.size + 1, 1, none⟩ = false ∧ w1.frozen? ⟨w.heap.size + 1, 2, none⟩ = false := by rw [hA]; simp [go_sem]
    have ST := Lib.hid hst
    clear hA hst
    refine (isT r c a n cap _ _ _ HM.out Q.c0 Q.c1 Q.c2).mono ?_
    rintro e w2 ⟨rfl, mm, hw2⟩
    have b2 : Below w1.heap.size w1 w2 := below_of_drew hw2
    clear hw2
    rw [HV.out]
    have Q2 := Q.below b2
    have z2 := b2.size
    obtain ⟨d3, d4, d5, d0, d1, d2⟩ := ST.out
    have f0 := (b2.frozen (p := ⟨w.heap.size + 1, 0, none⟩) zc).trans d0
    have f1 := (b2.frozen (p := ⟨w.heap.size + 1, 1, none⟩) zc).trans d1
    have f2 := (b2.frozen (p := ⟨w.heap.size + 1, 2, none⟩) zc).trans d2
    have f3 := (b2.cell (p := ⟨w.heap.size + 1, 0, none⟩) zc).trans d3
    have f4 := (b2.cell (p := ⟨w.heap.size + 1, 1, none⟩) zc).trans d4
    have f5 := (b2.cell (p := ⟨w.heap.size + 1, 2, none⟩) zc).trans d5
    have T2 := T.trans (b2.mono T.size)
    have TT := Lib.hid T2
    clear d0 d1 d2 d3 d4 d5 b2 Q T T2 ST
    go_wp2
    refine bodyPost_ret (v := .tuple #[.agg #[.int .i64 0, .int .i64 0, .slice none 0 0], .bool false]) (by simp [results, Try.results38, go_sem, f3, f4, f5]) rfl ?_
    have TN := ((TT.out.setCell (p := ⟨w.heap.size + 1, 0, none⟩) (by simp) (.int .i64 0)).setCell (p := ⟨w.heap.size + 1, 1, none⟩) (by simp) (.int .i64 0)).setCell (p := ⟨w.heap.size + 1, 2, none⟩) (by simp) (.slice none 0 0)
    exact ⟨none, 0, [], rfl, Row.nil _ _ _ TN.size, rfl, TN⟩
  · have hv' := of_decide_eq_true hv
    rw [if_pos hv', if_pos hv', if_pos hv']
    clear hv'
    have hn := (vt_le (of_decide_eq_true hv)).2
    have HV := Lib.hid hv
    clear hv
    go_enter Try.func38, Try.ntmps38
    go_wp2_with fail
    refine calls_at ?_
    intro w1 hA
    have T : Below w.heap.size w w1 := by rw [hA]; exact ((Below.refl _ _).alloc (Nat.le_refl _) _).alloc (by simp) _
    have zc : w.heap.size + 1 < w1.heap.size := by rw [hA]; simp
    have Q : Box w1 w.heap.size r c a n cap := by rw [hA]; exact ⟨by simp [go_sem], by simp [go_sem], by simp [go_sem], by simp; omega⟩
    have hst : w1.cell? ⟨w.heap.size + 1, 0, none⟩ = some (.int .i64 0) ∧ w1.cell? ⟨w.heap.size + 1, 1, none⟩ = some (.int .i64 0) ∧ w1.cell? ⟨w.heap.size + 1, 2, none⟩ = some (.slice none 0 0) ∧ w1.frozen? ⟨w.heap.size + 1, 0, none⟩ = false ∧ w1.frozen? ⟨w.heap.size + 1, 1, none⟩ = false ∧ w1.frozen? ⟨w.heap.size + 1, 2, none⟩ = false := by rw [hA]; simp [go_sem]
    have ST := Lib.hid hst
    clear hA hst
    refine (isT r c a n cap _ _ _ HM.out Q.c0 Q.c1 Q.c2).mono ?_
    rintro e w2 ⟨rfl, mm, hw2⟩
    have b2 : Below w1.heap.size w1 w2 := below_of_drew hw2
    clear hw2
    rw [HV.out]
    have Q2 := Q.below b2
    have z2 := b2.size
    obtain ⟨d3, d4, d5, d0, d1, d2⟩ := ST.out
    have f0 := (b2.frozen (p := ⟨w.heap.size + 1, 0, none⟩) zc).trans d0
    have f1 := (b2.frozen (p := ⟨w.heap.size + 1, 1, none⟩) zc).trans d1
    have f2 := (b2.frozen (p := ⟨w.heap.size + 1, 2, none⟩) zc).trans d2
    have f3 := (b2.cell (p := ⟨w.heap.size + 1, 0, none⟩) zc).trans d3
    have f4 := (b2.cell (p := ⟨w.heap.size + 1, 1, none⟩) zc).trans d4
    have f5 := (b2.cell (p := ⟨w.heap.size + 1, 2, none⟩) zc).trans d5
    have T2 := T.trans (b2.mono T.size)
    have TT := Lib.hid T2
    clear d0 d1 d2 d3 d4 d5 b2 Q T T2 ST
    have F0 := Lib.hid f0
    have F1 := Lib.hid f1
    have F2 := Lib.hid f2
    have F3 := Lib.hid f3
    have F4 := Lib.hid f4
    have F5 := Lib.hid f5
    have QQ := Lib.hid Q2
    clear f0 f1 f2 f3 f4 f5
    obtain ⟨q0, q1, q2, q3⟩ := Q2
    go_wp2_with fail
    clear q0 q1 q2
    refine (specScale r c a n cap _ num xs _ (by omega) (H1.out.below TT.out) QQ.out).mono ?_
    rintro e w3 ⟨a2, cap2, ys, rfl, R, hy, b3⟩
    rw [upto_length] at R
    rw [upto_length]
    have zc2 : w.heap.size + 1 < w2.heap.size := by omega
    have f0 := (b3.frozen (p := ⟨w.heap.size + 1, 0, none⟩) zc2).trans F0.out
    have f1 := (b3.frozen (p := ⟨w.heap.size + 1, 1, none⟩) zc2).trans F1.out
    have f2 := (b3.frozen (p := ⟨w.heap.size + 1, 2, none⟩) zc2).trans F2.out
    have f3 := (b3.cell (p := ⟨w.heap.size + 1, 0, none⟩) zc2).trans F3.out
    have f4 := (b3.cell (p := ⟨w.heap.size + 1, 1, none⟩) zc2).trans F4.out
    have f5 := (b3.cell (p := ⟨w.heap.size + 1, 2, none⟩) zc2).trans F5.out
    have RR := Lib.hid R
    have HY := Lib.hid hy
    have B3 := Lib.hid b3
    clear R hy b3
    go_wp2
    refine bodyPost_ret (v := .tuple #[.agg #[.int .i64 r, .int .i64 c, .slice a2 n cap2], .bool true]) (by simp [results, Try.results38, go_sem, f3, f4, f5]) rfl ?_
    unfold RT
    rw [upto_length]
    exact ⟨a2, cap2, ys, rfl, (row_set (row_set (row_set RR.out zc2 _) zc2 _) zc2 _).down (by omega), HY.out, (((TT.out.trans (B3.out.mono (by omega))).setCell (by simp) _).setCell (by simp) _).setCell (by simp) _⟩
theorem implS (r c : Int) (a : Option Addr) (n cap num : Nat) (xs : List Nat) (w : World) (h1 : Fs w a n cap xs) :
    Calls Try.prog 39 #[.agg #[.int .i64 r, .int .i64 c, .slice a n cap], .float .f32 num] w (RT 31 w (if vt r c n then r else 0) (if vt r c n then c else 0) (if vt r c n then upto (F xs num) n else []) (decide (vt r c n))) := by
  have hm' : n ≤ maxLen := Nat.le_trans h1.cap1 h1.cap2
  have H1 := Lib.hid h1
  have HM := Lib.hid hm'
  clear h1 hm'
  cases hv : decide (vt r c n)
  · have hv' := of_decide_eq_false hv
    rw [if_neg hv', if_neg hv', if_neg hv']
    clear hv'
    have HV := Lib.hid hv
    clear hv
    go_enter Try.func39, Try.ntmps39
    go_wp2_with fail
    refine calls_at ?_
    intro w1 hA
    have T : Below w.heap.size w w1 := by rw [hA]; exact ((Below.refl _ _).alloc (Nat.le_refl _) _).alloc (by simp) _
    have zc : w.heap.size + 1 < w1.heap.size := by rw [hA]; simp
    have Q : Box w1 w.heap.size r c a n cap := by rw [hA]; exact ⟨by simp [go_sem], by simp [go_sem], by simp [go_sem], by simp; omega⟩
    have hst : w1.cell? ⟨w.heap.size + 1, 0, none⟩ = some (.int .i64 0) ∧ w1.cell? ⟨w.heap.size + 1, 1, none⟩ = some (.int .i64 0) ∧ w1.cell? ⟨w.heap.size + 1, 2, none⟩ = some (.slice none 0 0) ∧ w1.frozen? ⟨w.heap.size + 1, 0, none⟩ = false ∧ w1.frozen? ⟨w.heap.size + 1, 1, none⟩ = false ∧ w1.frozen? ⟨w.heap.size + 1, 2, none⟩ = false := by rw [hA]; simp [go_sem]
    have ST := Lib.hid hst
    clear hA hst
    refine (validT r c a n cap _ HM.out).mono ?_
    rintro e w2 ⟨rfl, b2⟩
    rw [HV.out]
    have Q2 := Q.below b2
    have z2 := b2.size
    obtain ⟨d3, d4, d5, d0, d1, d2⟩ := ST.out
    have f0 := (b2.frozen (p := ⟨w.heap.size + 1, 0, none⟩) zc).trans d0
    have f1 := (b2.frozen (p := ⟨w.heap.size + 1, 1, none⟩) zc).trans d1
    have f2 := (b2.frozen (p := ⟨w.heap.size + 1, 2, none⟩) zc).trans d2
    have f3 := (b2.cell (p := ⟨w.heap.size + 1, 0, none⟩) zc).trans d3
    have f4 := (b2.cell (p := ⟨w.heap.size + 1, 1, none⟩) zc).trans d4
    have f5 := (b2.cell (p := ⟨w.heap.size + 1, 2, none⟩) zc).trans d5
    have T2 := T.trans (b2.mono T.size)
    have TT := Lib.hid T2
    clear d0 d1 d2 d3 d4 d5 b2 Q T T2 ST
    go_wp2
    refine bodyPost_ret (v := .tuple #[.agg #[.int .i64 0, .int .i64 0, .slice none 0 0], .bool false]) (by simp [results, Try.results39, go_sem, f3, f4, f5]) rfl ?_
    have TN := ((TT.out.setCell (p := ⟨w.heap.size + 1, 0, none⟩) (by simp) (.int .i64 0)).setCell (p := ⟨w.heap.size + 1, 1, none⟩) (by simp) (.int .i64 0)).setCell (p := ⟨w.heap.size + 1, 2, none⟩) (by simp) (.slice none 0 0)
    exact ⟨none, 0, [], rfl, Row.nil _ _ _ TN.size, rfl, TN⟩
  · have hv' := of_decide_eq_true hv
    rw [if_pos hv', if_pos hv', if_pos hv']
    clear hv'
    have hn := (vt_le (of_decide_eq_true hv)).2
    have HV := Lib.hid hv
    clear hv
    go_enter Try.func39, Try.ntmps39
    go_wp2_with fail
    refine calls_at ?_
    intro w1 hA
    have T : Below w.heap.size w w1 := by rw [hA]; exact ((Below.refl _ _).alloc (Nat.le_refl _) _).alloc (by simp) _
    have zc : w.heap.size + 1 < w1.heap.size := by rw [hA]; simp
    have Q : Box w1 w.heap.size r c a n cap := by rw [hA]; exact ⟨by simp [go_sem], by simp [go_sem], by simp [go_sem], by simp; omega⟩
    have hst : w1.cell? ⟨w.heap.size + 1, 0, none⟩ = some (.int .i64 0) ∧ w1.cell? ⟨w.heap.size + 1, 1, none⟩ = some (.int .i64 0) ∧ w1.cell? ⟨w.heap.size + 1, 2, none⟩ = some (.slice none 0 0) ∧ w1.frozen? ⟨w.heap.size + 1, 0, none⟩ = false ∧ w1.frozen? ⟨w.heap.size + 1, 1, none⟩ = false ∧ w1.frozen? ⟨w.heap.size + 1, 2, none⟩ = false := by rw [hA]; simp [go_sem]
    have ST := Lib.hid hst
    clear hA hst
    refine (validT r c a n cap _ HM.out).mono ?_
    rintro e w2 ⟨rfl, b2⟩
    rw [HV.out]
    have Q2 := Q.below b2
    have z2 := b2.size
    obtain ⟨d3, d4, d5, d0, d1, d2⟩ := ST.out
    have f0 := (b2.frozen (p := ⟨w.heap.size + 1, 0, none⟩) zc).trans d0
    have f1 := (b2.frozen (p := ⟨w.heap.size + 1, 1, none⟩) zc).trans d1
    have f2 := (b2.frozen (p := ⟨w.heap.size + 1, 2, none⟩) zc).trans d2
    have f3 := (b2.cell (p := ⟨w.heap.size + 1, 0, none⟩) zc).trans d3
    have f4 := (b2.cell (p := ⟨w.heap.size + 1, 1, none⟩) zc).trans d4
    have f5 := (b2.cell (p := ⟨w.heap.size + 1, 2, none⟩) zc).trans d5
    have T2 := T.trans (b2.mono T.size)
    have TT := Lib.hid T2
    clear d0 d1 d2 d3 d4 d5 b2 Q T T2 ST
    have F0 := Lib.hid f0
    have F1 := Lib.hid f1
    have F2 := Lib.hid f2
    have F3 := Lib.hid f3
    have F4 := Lib.hid f4
    have F5 := Lib.hid f5
    have QQ := Lib.hid Q2
    clear f0 f1 f2 f3 f4 f5
    obtain ⟨q0, q1, q2, q3⟩ := Q2
    go_wp2_with fail
    clear q0 q1 q2
    refine (implScale r c a n cap num xs _ (by omega) (H1.out.below TT.out)).mono ?_
    rintro e w3 ⟨a2, cap2, ys, rfl, R, hy, b3⟩
    rw [upto_length] at R
    rw [upto_length]
    have zc2 : w.heap.size + 1 < w2.heap.size := by omega
    have f0 := (b3.frozen (p := ⟨w.heap.size + 1, 0, none⟩) zc2).trans F0.out
    have f1 := (b3.frozen (p := ⟨w.heap.size + 1, 1, none⟩) zc2).trans F1.out
    have f2 := (b3.frozen (p := ⟨w.heap.size + 1, 2, none⟩) zc2).trans F2.out
    have f3 := (b3.cell (p := ⟨w.heap.size + 1, 0, none⟩) zc2).trans F3.out
    have f4 := (b3.cell (p := ⟨w.heap.size + 1, 1, none⟩) zc2).trans F4.out
    have f5 := (b3.cell (p := ⟨w.heap.size + 1, 2, none⟩) zc2).trans F5.out
    have RR := Lib.hid R
    have HY := Lib.hid hy
    have B3 := Lib.hid b3
    clear R hy b3
    go_wp2
    refine bodyPost_ret (v := .tuple #[.agg #[.int .i64 r, .int .i64 c, .slice a2 n cap2], .bool true]) (by simp [results, Try.results39, go_sem, f3, f4, f5]) rfl ?_
    unfold RT
    rw [upto_length]
    exact ⟨a2, cap2, ys, rfl, (row_set (row_set (row_set RR.out zc2 _) zc2 _) zc2 _).down (by omega), HY.out, (((TT.out.trans (B3.out.mono (by omega))).setCell (by simp) _).setCell (by simp) _).setCell (by simp) _⟩
theorem both (r c : Int) (n : Nat) (xs : List Nat) (num : Nat) (_hn : n ≤ 1048576) (_hl : n = xs.length) (_wr : (Lit.int .i64 r).wf = true) (_wc : (Lit.int .i64 c).wf = true) (_w : (Lit.float .f32 num).wf = true) :
    ∃ ok R0 C0 S, S.length ≤ 1048576 ∧ (∀ w a cap, Fs w a n cap xs → Calls Try.prog 38 #[.agg #[.int .i64 r, .int .i64 c, .slice a n cap], .float .f32 num] w (RT 31 w R0 C0 S ok)) ∧ (∀ w a cap, Fs w a n cap xs → Calls Try.prog 39 #[.agg #[.int .i64 r, .int .i64 c, .slice a n cap], .float .f32 num] w (RT 31 w R0 C0 S ok)) :=
  ⟨_, _, _, _, by split <;> simp [upto_length, _hn], fun w a cap h1 => specS r c a n cap num xs w h1, fun w a cap h1 => implS r c a n cap num xs w h1⟩
set_option maxHeartbeats 4000000 in
theorem walk (w : World) (ro0 co0 : Int) (a0 : Option Addr) (n0 c0 : Nat) (xs0 : List Nat) (h0 : Fs w a0 n0 c0 xs0) (_wr0 : (Lit.int .i64 ro0).wf = true) (_wc0 : (Lit.int .i64 co0).wf = true) (_b0 : ∀ x ∈ xs0, x < 4294967296) (a1 : Nat) (_w1 : (Lit.float .f32 a1).wf = true) :
    Calls Try.prog 10 #[.agg #[.int .i64 ro0, .int .i64 co0, .slice a0 n0 c0], .float .f32 a1] w fun e w' => e = .returned (.bool true) ∧ Below w.heap.size w w' := by
  have m0 := h0.cap2
  have q0 := h0.cap1
  unfold maxLen at m0
  by_cases g0 : 1048576 < n0
  · go_enter Try.func10, Try.ntmps10
    have T := Below.refl w.heap.size w
    go_wp2_with fail
    refine calls_at ?_
    intro w1 hA
    obtain ⟨Q, A, z1, z2⟩ := box_new hA
    clear hA
    have X0 := Lib.hid Q
    clear Q
    have T := T.trans (A.mono T.size)
    have zw1 := A.size
    clear A
    have yw1 := z1
    have xw1 := z2
    clear z1 z2
    refine (szNo _ _ _ _ _ _ _ (Nat.le_trans h0.cap1 h0.cap2) (by omega) (by omega)).mono ?_
    rintro e wz ⟨rfl, A⟩
    have T := T.trans (A.mono T.size)
    go_wp2
    go_ret
    exact ⟨rfl, T⟩
  have hn0 : n0 ≤ 1048576 := by omega
  obtain ⟨ok, R0, C0, S, hS, hs, hi⟩ := both ro0 co0 n0 xs0 a1 hn0 h0.len _wr0 _wc0 _w1
  go_enter Try.func10, Try.ntmps10
  have T := Below.refl w.heap.size w
  go_wp2_with fail
  refine calls_at ?_
  intro w1 hA
  obtain ⟨Q, A, z1, z2⟩ := box_new hA
  clear hA
  have X0 := Lib.hid Q
  clear Q
  have T := T.trans (A.mono T.size)
  have zw1 := A.size
  clear A
  have yw1 := z1
  have xw1 := z2
  clear z1 z2
  refine (szYes _ _ _ _ _ _ _ (by omega) (by omega)).mono ?_
  rintro e w2 ⟨rfl, A⟩
  have T := T.trans (A.mono T.size)
  have X0 := Lib.hid (X0.out.below A)
  have zw2 := A.size
  clear A
  obtain ⟨X00, X01, X02, X03⟩ := X0.out
  go_wp2_with fail
  clear X00 X01 X02 X03
  refine (toTens _ _ _ _ _ _ _ hn0 (h0.below T)).mono ?_
  rintro e w3 ⟨g1, rfl, R, A⟩
  have T := T.trans (A.mono T.size)
  have X0 := Lib.hid (X0.out.below A)
  have zw3 := A.size
  clear A
  have K1 := R
  clear R
  go_wp2_with fail
  refine (hs w3 _ _ K1.fs).mono ?_
  rintro e w4 ⟨b2, p2, ys2, rfl, R, E2, A⟩
  have T := T.trans (A.mono T.size)
  have K1 := K1.below A
  have X0 := Lib.hid (X0.out.below A)
  have zw4 := A.size
  clear A
  have K2 := R
  clear R
  have E2h := Lib.hid E2
  clear E2
  obtain ⟨X00, X01, X02, X03⟩ := X0.out
  go_wp2_with fail
  clear X00 X01 X02 X03
  refine calls_at ?_
  intro w5 hA
  obtain ⟨Q, A, z1, z2⟩ := box_new (r := R0) (c := C0) (a := b2) (n := S.length) (cap := p2) hA
  clear hA
  have Y2 := Lib.hid Q
  clear Q
  have T := T.trans (A.mono T.size)
  have K1 := K1.below A
  have K2 := K2.below A
  have X0 := Lib.hid (X0.out.below A)
  have zw5 := A.size
  clear A
  have yw5 := z1
  have xw5 := z2
  clear z1 z2
  refine (toTens _ _ _ _ _ _ _ hn0 (h0.below T)).mono ?_
  rintro e w6 ⟨g3, rfl, R, A⟩
  have T := T.trans (A.mono T.size)
  have K1 := K1.below A
  have K2 := K2.below A
  have X0 := Lib.hid (X0.out.below A)
  have Y2 := Lib.hid (Y2.out.below A)
  have zw6 := A.size
  clear A
  have K3 := R
  clear R
  go_wp2_with fail
  refine calls_at ?_
  intro w7 hA
  obtain ⟨Q, A, z1, z2⟩ := box_new (r := ro0) (c := co0) (a := (some ⟨g3, 0, none⟩)) (n := n0) (cap := n0) hA
  clear hA
  have Z0 := Lib.hid Q
  clear Q
  have T := T.trans (A.mono T.size)
  have K1 := K1.below A
  have K2 := K2.below A
  have K3 := K3.below A
  have X0 := Lib.hid (X0.out.below A)
  have Y2 := Lib.hid (Y2.out.below A)
  have zw7 := A.size
  clear A
  have yw7 := z1
  have xw7 := z2
  clear z1 z2
  refine (hi w7 _ _ K3.fs).mono ?_
  rintro e w8 ⟨b4, p4, ys4, rfl, R, E4, A⟩
  have T := T.trans (A.mono T.size)
  have K1 := K1.below A
  have K2 := K2.below A
  have K3 := K3.below A
  have X0 := Lib.hid (X0.out.below A)
  have Y2 := Lib.hid (Y2.out.below A)
  have Z0 := Lib.hid (Z0.out.below A)
  have zw8 := A.size
  clear A
  have K4 := R
  clear R
  have E4h := Lib.hid E4
  clear E4
  obtain ⟨Y20, Y21, Y22, Y23⟩ := Y2.out
  go_wp2_with fail
  clear Y20 Y21 Y22 Y23
  refine calls_at ?_
  intro w9 hA
  obtain ⟨Q, A, z1, z2⟩ := box_new (r := R0) (c := C0) (a := b4) (n := S.length) (cap := p4) hA
  clear hA
  have Y4 := Lib.hid Q
  clear Q
  have T := T.trans (A.mono T.size)
  have K1 := K1.below A
  have K2 := K2.below A
  have K3 := K3.below A
  have K4 := K4.below A
  have X0 := Lib.hid (X0.out.below A)
  have Y2 := Lib.hid (Y2.out.below A)
  have Z0 := Lib.hid (Z0.out.below A)
  have zw9 := A.size
  clear A
  have yw9 := z1
  have xw9 := z2
  clear z1 z2
  refine (eqTens _ _ _ _ _ _ _ _ _ _ hS K4.fs K2.fs (E4h.out.trans E2h.out.symm)).mono ?_
  rintro e w10 ⟨rfl, A⟩
  have T := T.trans (A.mono T.size)
  have K1 := K1.below A
  have K2 := K2.below A
  have K3 := K3.below A
  have K4 := K4.below A
  have X0 := Lib.hid (X0.out.below A)
  have Y2 := Lib.hid (Y2.out.below A)
  have Z0 := Lib.hid (Z0.out.below A)
  have Y4 := Lib.hid (Y4.out.below A)
  have zw10 := A.size
  clear A
  go_wp2_with fail
  refine wp_bl 4 [0, 0, 2, 2, 0] (by kernel_rfl) (by kernel_rfl) ?_
  simp only [List.take_succ_cons, List.take_zero, List.drop_succ_cons, List.drop_zero]
  with_reducible refine bl_step ?_
  intro K hK
  go_simp
  refine ⟨.agg #[.int .i64 ro0, .int .i64 co0, .slice (some ⟨g3, 0, none⟩) n0 n0], fun w' hw' => ?_, hK _ _ ?_⟩
  · obtain ⟨q0, q1, q2, q3⟩ := Z0.out.below hw'
    go_simp
  clear hK K
  with_reducible refine bl_step ?_
  intro K hK
  go_simp
  refine ⟨.agg #[.int .i64 ro0, .int .i64 co0, .slice a0 n0 c0], fun w' hw' => ?_, hK _ _ ?_⟩
  · obtain ⟨q0, q1, q2, q3⟩ := X0.out.below hw'
    go_simp
  clear hK K
  with_reducible refine bl_step ?_
  intro K hK
  go_simp
  intro _
  refine (toTens _ _ _ _ _ _ _ hn0 ((h0.below T).drew _)).mono ?_
  rintro e w11 ⟨g5, rfl, R, A0⟩
  have A := (bdrew (Below.refl _ _) _).trans A0
  clear A0
  refine ⟨_, rfl, A, hK _ _ ?_⟩
  clear hK K
  have BL : Below w10.heap.size w10 w11 := A
  have T := T.trans (A.mono T.size)
  have K1 := K1.below A
  have K2 := K2.below A
  have K3 := K3.below A
  have K4 := K4.below A
  have X0 := Lib.hid (X0.out.below A)
  have Y2 := Lib.hid (Y2.out.below A)
  have Z0 := Lib.hid (Z0.out.below A)
  have Y4 := Lib.hid (Y4.out.below A)
  have zw11 := A.size
  clear A
  have K5 := R
  clear R
  with_reducible refine bl_step ?_
  intro K hK
  go_simp
  intro _
  refine (eqTens _ _ _ _ _ _ _ _ _ _ hn0 (K3.fs.drew _) (K5.fs.drew _) rfl).mono ?_
  rintro e w12 ⟨rfl, A0⟩
  have A := (bdrew (Below.refl _ _) _).trans A0
  clear A0
  refine ⟨_, rfl, BL.trans (A.mono BL.size), hK _ _ ?_⟩
  clear hK K BL
  have T := T.trans (A.mono T.size)
  have K1 := K1.below A
  have K2 := K2.below A
  have K3 := K3.below A
  have K4 := K4.below A
  have K5 := K5.below A
  have X0 := Lib.hid (X0.out.below A)
  have Y2 := Lib.hid (Y2.out.below A)
  have Z0 := Lib.hid (Z0.out.below A)
  have Y4 := Lib.hid (Y4.out.below A)
  have zw12 := A.size
  clear A
  with_reducible refine wpR_nil (fun nq => ?_)
  generalize hA : w12.drewN nq = w13
  have A := below_of_drew hA.symm
  clear hA
  have T := T.trans (A.mono T.size)
  have K1 := K1.below A
  have K2 := K2.below A
  have K3 := K3.below A
  have K4 := K4.below A
  have K5 := K5.below A
  have X0 := Lib.hid (X0.out.below A)
  have Y2 := Lib.hid (Y2.out.below A)
  have Z0 := Lib.hid (Z0.out.below A)
  have Y4 := Lib.hid (Y4.out.below A)
  have zw13 := A.size
  clear A
  clear K1 K5
  obtain ⟨Z00, Z01, Z02, Z03⟩ := Z0.out
  go_wp2_with fail
  clear Z00 Z01 Z02 Z03
  refine (markTens _ _ _ _ _ _ _ _ (1) _ hn0 (by omega) K3).mono ?_
  rintro e w14 ⟨rfl, R, A⟩
  have z := A.size
  have t := T.size
  have T := T.trans (A.below (by omega) (by omega))
  have K2 := K2.keep A (by omega)
  have K4 := K4.keep A (by omega)
  have X0 := Lib.hid (X0.out.keep A (by omega))
  have Y2 := Lib.hid (Y2.out.keep A (by omega))
  have Z0 := Lib.hid (Z0.out.keep A (by omega))
  have Y4 := Lib.hid (Y4.out.keep A (by omega))
  have K3 := R
  have zw14 := z
  clear A R z t
  obtain ⟨Y40, Y41, Y42, Y43⟩ := Y4.out
  obtain ⟨Y20, Y21, Y22, Y23⟩ := Y2.out
  go_wp2_with fail
  clear Y40 Y41 Y42 Y43 Y20 Y21 Y22 Y23
  refine (eqTens _ _ _ _ _ _ _ _ _ _ hS K4.fs K2.fs (E4h.out.trans E2h.out.symm)).mono ?_
  rintro e w15 ⟨rfl, A⟩
  have T := T.trans (A.mono T.size)
  have K2 := K2.below A
  have K3 := K3.below A
  have K4 := K4.below A
  have X0 := Lib.hid (X0.out.below A)
  have Y2 := Lib.hid (Y2.out.below A)
  have Z0 := Lib.hid (Z0.out.below A)
  have Y4 := Lib.hid (Y4.out.below A)
  have zw15 := A.size
  clear A
  obtain ⟨Y40, Y41, Y42, Y43⟩ := Y4.out
  go_wp2_with fail
  clear Y40 Y41 Y42 Y43
  refine (markTens _ _ _ _ _ _ _ _ 1 _ hS (by omega) K4).mono ?_
  rintro e w16 ⟨rfl, R, A⟩
  have z := A.size
  have t := T.size
  have T := T.trans (A.below (by omega) (by omega))
  have K2 := K2.keep A (by omega)
  have K3 := K3.keep A (by omega)
  have X0 := Lib.hid (X0.out.keep A (by omega))
  have Y2 := Lib.hid (Y2.out.keep A (by omega))
  have Z0 := Lib.hid (Z0.out.keep A (by omega))
  have Y4 := Lib.hid (Y4.out.keep A (by omega))
  have K4 := R
  have zw16 := z
  clear A R z t
  obtain ⟨Y40, Y41, Y42, Y43⟩ := Y4.out
  go_wp2_with fail
  clear Y40 Y41 Y42 Y43
  refine (heldTens _ _ _ _ _ 1 _ hS (by omega) K4.fs).mono ?_
  rintro e w17 ⟨rfl, A⟩
  have T := T.trans (A.mono T.size)
  have K2 := K2.below A
  have K3 := K3.below A
  have K4 := K4.below A
  have X0 := Lib.hid (X0.out.below A)
  have Y2 := Lib.hid (Y2.out.below A)
  have Z0 := Lib.hid (Z0.out.below A)
  have Y4 := Lib.hid (Y4.out.below A)
  have zw17 := A.size
  clear A
  obtain ⟨X00, X01, X02, X03⟩ := X0.out
  go_wp2_with fail
  clear X00 X01 X02 X03
  refine (toTens _ _ _ _ _ _ _ hn0 (h0.below T)).mono ?_
  rintro e w18 ⟨g6, rfl, R, A⟩
  have T := T.trans (A.mono T.size)
  have K2 := K2.below A
  have K3 := K3.below A
  have K4 := K4.below A
  have X0 := Lib.hid (X0.out.below A)
  have Y2 := Lib.hid (Y2.out.below A)
  have Z0 := Lib.hid (Z0.out.below A)
  have Y4 := Lib.hid (Y4.out.below A)
  have zw18 := A.size
  clear A
  have K6 := R
  clear R
  go_wp2_with fail
  refine (hi w18 _ _ K6.fs).mono ?_
  rintro e w19 ⟨b7, p7, ys7, rfl, R, E7, A⟩
  have T := T.trans (A.mono T.size)
  have K2 := K2.below A
  have K3 := K3.below A
  have K4 := K4.below A
  have K6 := K6.below A
  have X0 := Lib.hid (X0.out.below A)
  have Y2 := Lib.hid (Y2.out.below A)
  have Z0 := Lib.hid (Z0.out.below A)
  have Y4 := Lib.hid (Y4.out.below A)
  have zw19 := A.size
  clear A
  have K7 := R
  clear R
  have E7h := Lib.hid E7
  clear E7
  obtain ⟨Y20, Y21, Y22, Y23⟩ := Y2.out
  go_wp2_with fail
  clear Y20 Y21 Y22 Y23
  refine calls_at ?_
  intro w20 hA
  obtain ⟨Q, A, z1, z2⟩ := box_new (r := R0) (c := C0) (a := b7) (n := S.length) (cap := p7) hA
  clear hA
  have Y7 := Lib.hid Q
  clear Q
  have T := T.trans (A.mono T.size)
  have K2 := K2.below A
  have K3 := K3.below A
  have K4 := K4.below A
  have K6 := K6.below A
  have K7 := K7.below A
  have X0 := Lib.hid (X0.out.below A)
  have Y2 := Lib.hid (Y2.out.below A)
  have Z0 := Lib.hid (Z0.out.below A)
  have Y4 := Lib.hid (Y4.out.below A)
  have zw20 := A.size
  clear A
  have yw20 := z1
  have xw20 := z2
  clear z1 z2
  refine (eqTens _ _ _ _ _ _ _ _ _ _ hS K7.fs K2.fs (E7h.out.trans E2h.out.symm)).mono ?_
  rintro e w21 ⟨rfl, A⟩
  have T := T.trans (A.mono T.size)
  have K2 := K2.below A
  have K3 := K3.below A
  have K4 := K4.below A
  have K6 := K6.below A
  have K7 := K7.below A
  have X0 := Lib.hid (X0.out.below A)
  have Y2 := Lib.hid (Y2.out.below A)
  have Z0 := Lib.hid (Z0.out.below A)
  have Y4 := Lib.hid (Y4.out.below A)
  have Y7 := Lib.hid (Y7.out.below A)
  have zw21 := A.size
  clear A
  obtain ⟨Y40, Y41, Y42, Y43⟩ := Y4.out
  go_wp2_with fail
  clear Y40 Y41 Y42 Y43
  refine (heldTens _ _ _ _ _ 1 _ hS (by omega) K4.fs).mono ?_
  rintro e w22 ⟨rfl, A⟩
  have T := T.trans (A.mono T.size)
  have K2 := K2.below A
  have K3 := K3.below A
  have K4 := K4.below A
  have K6 := K6.below A
  have K7 := K7.below A
  have X0 := Lib.hid (X0.out.below A)
  have Y2 := Lib.hid (Y2.out.below A)
  have Z0 := Lib.hid (Z0.out.below A)
  have Y4 := Lib.hid (Y4.out.below A)
  have Y7 := Lib.hid (Y7.out.below A)
  have zw22 := A.size
  clear A
  go_wp2
  go_ret
  exact ⟨rfl, T⟩
theorem own : ownKnob Try.prog.godebug = none := by kernel_rfl
theorem laidOut : laidOutB Try.prog = true := by kernel_rfl
set_option maxRecDepth 100000 in
theorem lifted (os : Os) (started : os.Started) (H : Type) (enc : TypeId × Value → H) :
    ReturnsInHanded {} Try.checked os 10 .any (Rows.fnExactScaleTensorSpec.pre6 enc Try.prog Try.f10 Rows.fnExactScaleTensorRow.domain false) (Rows.fnExactScaleTensorSpec.post enc Try.prog Try.f10 false true false false) := by
  refine returnsInHanded_of_change (C := Try.checked) own started (by kernel_rfl) Try.func10
    (ChangeSpec.witness6 (enc := enc) (C := Try.checked) false ⟨#[], #[.agg #[.int .i64 0, .int .i64 0, .slice none 0 0], .float .f32 0], []⟩ 8 (by kernel_rfl) (by kernel_rfl) (by kernel_rfl) (by kernel_rfl)) ?_
  intro W base args ds gs before hval0 hW hcnd _
  have hval : ∀ (j : Nat) t v, Try.f10.params[j]? = some t → args[j]? = some v → Value.okWide Try.prog W .any base t v := hval0
  have hW' := hW
  obtain ⟨p, q, hA0, hV, rfl, hfz, hnd⟩ := hW
  have hA : DataW.TrodAll enc Try.prog W 0 (fun _ => true) true Try.f10.params.toList args.toList ds p := hA0
  rw [Try.params10] at hA hval
  obtain ⟨v0, vs0, d0, ds0, p0, q0, hargs, rfl, rfl, h0, r0⟩ := trodAll_cons hA
  obtain ⟨v1, vs1, d1, ds1, p1, q1, rfl, rfl, rfl, h1, r1⟩ := trodAll_cons r0
  obtain ⟨rfl, rfl, rfl⟩ := trodAll_nil r1
  obtain rfl : args = #[v0, v1] := by cases args; simp_all
  obtain ⟨rfl, rfl⟩ := trodVars_none hV
  have k0 := h0
  have lt0 : ∀ x ∈ p0, x.block < W.heap.size := by obtain ⟨m, hm⟩ := k0; exact DataW.trod_lt m _ _ _ hm
  have k1 := h1
  have lt1 : ∀ x ∈ p1, x.block < W.heap.size := by obtain ⟨m, hm⟩ := k1; exact DataW.trod_lt m _ _ _ hm
  obtain ⟨ro0, co0, a0, n0, c0, z0, rfl, f0, wr0, wc0, b0⟩ := open_tensor Try.underlying24 (by kernel_rfl) (by kernel_rfl) Try.underlying2 Try.underlying2 Try.underlying22 Try.underlying31 (by kernel_rfl) (hval 0 24 v0 rfl rfl) h0
  obtain ⟨a1, rfl, rfl, rfl, w1⟩ := open_float Try.underlying31 (hval 1 31 v1 rfl rfl) h1
  clear hA0 hval0
  refine (walk W ro0 co0 a0 n0 c0 z0 f0 wr0 wc0 b0 a1 w1).mono fun e W' ⟨he, bel⟩ => ?_
  subst he
  exact ⟨_, rfl, _, _, _, [], _, [], hW', trodAll_mk1 (shut_bool Try.underlying4 _), (trodAll_cons_mk (Below.trod laidOut (by kernel_rfl) (of_decide_eq_true (by kernel_rfl)) k0 bel lt0) (trodAll_cons_mk (Below.trod laidOut (by kernel_rfl) (of_decide_eq_true (by kernel_rfl)) k1 bel lt1) trodAll_mk0)), rfl, bel.frame _, fun h => by cases h⟩

theorem over : Rows.fnExactScaleTensorRow.holds Try.pinned (OpenSpec.ofChange Rows.fnExactScaleTensorSpec) :=
  OpenClaim.holds_of_wide 10 Try.f10 rfl rfl rfl rfl rfl rfl rfl ⟨rfl, rfl, rfl, rfl, rfl⟩ rfl rfl rfl rfl rfl (by kernel_rfl) Try.func10 (by kernel_rfl)
    (of_decide_eq_true (by kernel_rfl)) (by unfold Func.isWrapper; first | (rw [if_pos (by decide +kernel)]; kernel_rfl) | (rw [if_neg (by decide +kernel)]; exact ⟨rfl, rfl⟩))
    (fun os started H enc _ => lifted os started H enc)

theorem proved : Rows.FnExactScaleTensorSaid := over
end Go.Proofs.Ytfmfddfcjbbklaa.scaleTensor
