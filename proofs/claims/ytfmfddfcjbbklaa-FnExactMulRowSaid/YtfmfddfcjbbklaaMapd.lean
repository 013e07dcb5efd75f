/- The program's (Tensor).mapped: a tensor of what a function makes of each number. -/
import Derived.Test.YtfmfddfcjbbklaaLst
import Derived.Test.YtfmfddfcjbbklaaAcc
import Derived.Test.YtfmfddfcjbbklaaPlan
namespace Go.Proofs.Ytfmfddfcjbbklaa
open Go.RowKit Go.Fl Go.Reg
set_option maxHeartbeats 1000000 in
theorem mapped (f : FuncId) (caps : Array Value) (F : Nat → Nat) (r c : Int) (a : Option Addr) (n cap : Nat) (xs : List Nat) (w : World) (hn : n ≤ 1048576) (h1 : Fs w a n cap xs)
    (HR : ∀ args w, Sem.run Try.prog (callFunc f args) w = .ok (.enter f args) w)
    (hf : ∀ w' i, i < n → Below w.heap.size w w' → Calls Try.prog f (#[.int .i64 (i : Nat), .float .f32 (xs[i]?.getD 0)] ++ caps) w' fun e w2 => ∃ u, e = .returned (.float .f32 u) ∧ cn .f32 u = cn .f32 (F i) ∧ Below w'.heap.size w' w2) :
    Calls Try.prog 87 #[.agg #[.int .i64 r, .int .i64 c, .slice a n cap], .func (.func f) #[] caps] w (RT1 31 w r c (upto F n)) := by
  have HC := Lib.hid h1.cell
  have HF := Lib.hid hf
  clear h1 hf
  go_enter Try.func87, Try.ntmps87
  go_wp2
  obtain ⟨i0, hi, hz0, hz1, hz2⟩ := info_parts infoF32
  have HI := Lib.hid hi
  have HZ0 := Lib.hid hz0
  have HZ1 := Lib.hid hz1
  have HZ2 := Lib.hid hz2
  clear hi hz0 hz1 hz2
  obtain ⟨W1, hW1⟩ : ∃ W1, W1 = (w.alloc (.cells #[.int .i64 r, .int .i64 c, .slice a n cap] 27)).alloc (.cells #[.int .i64 0, .int .i64 0, .slice none 0 0] 27) := ⟨_, rfl⟩
  have W0 : Below w.heap.size w W1 := by rw [hW1]; exact ((Below.refl _ _).alloc (Nat.le_refl _) _).alloc (by simp) _
  have hs : W1.heap.size = w.heap.size + 1 + 1 := by rw [hW1]; simp
  have hst : W1.cell? ⟨w.heap.size + 1, 0, none⟩ = some (.int .i64 0) ∧ W1.cell? ⟨w.heap.size + 1, 1, none⟩ = some (.int .i64 0) ∧ W1.cell? ⟨w.heap.size + 1, 2, none⟩ = some (.slice none 0 0) ∧ W1.frozen? ⟨w.heap.size + 1, 0, none⟩ = false ∧ W1.frozen? ⟨w.heap.size + 1, 1, none⟩ = false ∧ W1.frozen? ⟨w.heap.size + 1, 2, none⟩ = false := by rw [hW1]; simp [go_sem]
  have A0 := accNil W1 31 27 r c
  rw [← hW1]
  rw [← hs]
  have HS := Lib.hid hs
  have HT := Lib.hid hst
  clear hW1 hs hst
  have HA := Lib.hid A0
  clear A0
  go_loopw [16] (fun i w' => ∃ (k : Nat) (a' : Option Addr) (cap' : Nat) (ys : List Nat), k ≤ n ∧ i = .int .i64 k ∧ Acc W1.heap.size W1.heap.size 31 r c W1 w' k a' cap' ys ∧ ys.map (cn .f32) = (upto F k).map (cn .f32)) (fun i _ => n - (intOf i).toNat)
  case atStart => exact ⟨0, _, _, _, Nat.zero_le _, rfl, HA.out, rfl⟩
  case round =>
    obtain ⟨k, a', cap', ys, hk, rfl, acc, hys⟩ := hrel
    have BW : Below w.heap.size w wr := W0.trans (acc.below.mono (by have := HS.out; omega))
    by_cases hlt : k < n
    · obtain ⟨ba, oa, rfl, hca⟩ := HC.out k hlt
      have hba : ba < w.heap.size := World.block_lt_of_cell? w _ hca
      have ca : wr.cell? ⟨ba, oa + k, none⟩ = some (.float .f32 (xs[k]?.getD 0)) := (BW.cell (p := ⟨ba, oa + k, none⟩) hba).trans hca
      have FACT : ∀ w', Cl W1.heap.size W1.heap.size wr w' → w'.cell? ⟨W1.heap.size, 2, none⟩ = some (.slice a' k cap') := fun w' h => h.cell (.inr rfl) acc.box.c2
      have FA := Lib.hid FACT
      have AC := Lib.hid acc
      have HY := Lib.hid hys
      clear FACT acc hys hca
      go_wp2_with fail
      clear ca
      refine wp_plan 8 [0, 0, 0, 0, 0, 2, 2, 2] (.go 0 (.go 1 (.go 2 (.go 3 (.go 4 (.only 5 (.only 6 (.only 7 .fin))))))))
        (Cl W1.heap.size W1.heap.size wr) (by kernel_rfl) (by kernel_rfl) (Cl.refl _ _ _) Cl.drew ?_
      simp only [List.drop_succ_cons, List.drop_zero]
      iterate 5 (
        refine plan_go (pl0 (v := ?_) (by rfl) rfl rfl (fun w' hw' => ?_) (fun K hK => ?_))
        rotate_left
        · have q1 := FA.out w' hw'
          go_simp
          rfl
        go_simp
        refine hK _ _ ?_
        clear hK K)
      refine plan_only (pl2 (by rfl) rfl rfl (fun K hK => ?_))
      go_simp
      intro n1
      have zb := AC.out.box.lt
      refine (HF.out _ k hlt (bdrew BW _)).mono ?_
      rintro e w3 ⟨u, rfl, hu, b3⟩
      have b3 : Below wr.heap.size wr w3 := (bdrew (Below.refl _ _) (1 + n1)).trans b3
      have AC3 := Lib.hid (AC.out.next b3 (by omega))
      have HU := Lib.hid hu
      have z3 := b3.size
      have C3 := Lib.hid (show Cl W1.heap.size W1.heap.size wr w3 from ⟨b3.mono (by omega), b3.block _ (by omega)⟩)
      refine ⟨_, rfl, C3.out, hK _ _ ?_⟩
      clear hK K hu b3
      refine plan_only (pl2 (by rfl) rfl rfl (fun K hK => ?_))
      go_simp
      intro n2
      refine ⟨?_, hK _ _ ?_⟩
      · exact (Cl.drew _ _ C3.out).alloc (by simp; omega) (by simp; omega) _
      clear hK K
      refine plan_only (pl2 (by rfl) rfl rfl (fun K hK n4 => ?_))
      refine uponV_append (.tmp 22) (.tmp 27) 22 rfl W1.heap.size 31 i0 (.float .f32 0) 1 4 Try.underlying22 HI.out HZ0.out HZ1.out HZ2.out rfl (by decide) (.slice a' k cap') k (fl ys) rfl (((AC3.out.drew n2).alloc (by simp; omega) _).drew n4).own ⟨w3.heap.size, 0, none⟩ 1 1 [.float .f32 u] rfl rfl ?c1 ?c2 ?c3 ?c4 ?c5 ?_
      case c1 =>
        intro j v hj
        match j, hj with
        | 0, hj => simp at hj; subst hj; exact cell_new (w3.drewN n2) _ _
      case c2 => intro v hv; simp at hv; subst hv; rfl
      case c3 => unfold maxLen; omega
      case c4 => omega
      case c5 => simp; omega
      intro v' w2 hown hgr
      obtain ⟨a2, cap2, rfl, bx, fr, cl, acc2⟩ := Acc.app (Nat.le_refl _) (AC3.out.drew n2) hown ⟨hgr.os, hgr.tape, hgr.output, hgr.size, hgr.block⟩
      refine ⟨C3.out.trans ⟨⟨cl.below.os, cl.below.tape, cl.below.output, cl.below.size, cl.below.block⟩, cl.box⟩, ?_⟩
      go_simp
      refine hK _ _ ?_
      clear hK K hown hgr cl
      have AC2 := Lib.hid acc2
      clear acc2
      refine plan_fin (fun n3 => ?_)
      obtain ⟨b0', b1', b2', b3'⟩ := bx
      go_wp2
      go_roundw
      case rel => exact ⟨k + 1, a2, cap2, ys ++ [u], by omega, by go_num, AC2.out.drew n3, upto_step HY.out HU.out⟩
      case measure => simp [intOf]; omega
    · have e : k = n := by omega
      subst e
      obtain ⟨d3, d4, d5, d0, d1, d2⟩ := HT.out
      have zc : w.heap.size + 1 < W1.heap.size := by have := HS.out; omega
      have f0 := (acc.below.frozen (p := ⟨w.heap.size + 1, 0, none⟩) zc).trans d0
      have f1 := (acc.below.frozen (p := ⟨w.heap.size + 1, 1, none⟩) zc).trans d1
      have f2 := (acc.below.frozen (p := ⟨w.heap.size + 1, 2, none⟩) zc).trans d2
      have f3 := (acc.below.cell (p := ⟨w.heap.size + 1, 0, none⟩) zc).trans d3
      have f4 := (acc.below.cell (p := ⟨w.heap.size + 1, 1, none⟩) zc).trans d4
      have f5 := (acc.below.cell (p := ⟨w.heap.size + 1, 2, none⟩) zc).trans d5
      clear d0 d1 d2 d3 d4 d5
      obtain ⟨b0', b1', b2', b3'⟩ := acc.box
      have AC := Lib.hid acc
      have HY := Lib.hid hys
      clear acc hys
      go_wp2
      refine bodyPost_ret (v := .agg #[.int .i64 r, .int .i64 c, .slice a' k cap']) (by simp [results, Try.results87, go_sem, f3, f4, f5]) rfl ?_
      have zz := BW.size
      have R : Row wr w.heap.size wr.heap.size 31 (.slice a' k cap') k ys := (AC.out.row (by omega)).down (by omega)
      unfold RT1
      rw [upto_length]
      refine ⟨a', cap', ys, rfl, ⟨own_set2 (own_set2 (own_set2 R.own ?_ _) ?_ _) ?_ _, ?_, ?_, ?_⟩, HY.out, ((BW.setCell (by simp) _).setCell (by simp) _).setCell (by simp) _⟩
      · intro q hq; subst hq; have := (AC.out.own.lt q.block rfl).1; simp; omega
      · intro q hq; subst hq; have := (AC.out.own.lt q.block rfl).1; simp; omega
      · intro q hq; subst hq; have := (AC.out.own.lt q.block rfl).1; simp; omega
      · simpa [World.setCell] using zz
      · simp [World.setCell]
      · simpa [World.setCell] using R.lt
end Go.Proofs.Ytfmfddfcjbbklaa
