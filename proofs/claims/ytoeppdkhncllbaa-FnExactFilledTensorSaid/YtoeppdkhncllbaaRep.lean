/- slices.Repeat of one number: the row is filled by copies of its own front. -/
import Derived.Test.YtoeppdkhncllbaaValid
import Derived.Test.YtoeppdkhncllbaaFin
import Derived.Test.YtoeppdkhncllbaaClone
import Derived.Shelf.Bits.Mul64
import Derived.Laws.IdiomCopy
namespace Go.Proofs.Ytoeppdkhncllbaa.rep
open Go.RowKit Go.Fl Go.Reg
theorem row_cell {w : World} {lo hi : Nat} {t : TypeId} {g n cap : Nat} {ys : List Nat} (R : Row w lo hi t (.slice (some ⟨g, 0, none⟩) n cap) n ys) {j : Nat} (hj : j < n) : w.cell? ⟨g, j, none⟩ = some (.float .f32 (ys[j]?.getD 0)) := by
  obtain ⟨b, o, e, hc⟩ := R.fs.cell j hj
  injection e with e; injection e with e1 e2 e3
  subst e1; subst e2
  rwa [Nat.zero_add] at hc
theorem row_put {w : World} {lo : Nat} {t : TypeId} {g n cap : Nat} {ys : List Nat} (R : Row w lo w.heap.size t (.slice (some ⟨g, 0, none⟩) n cap) n ys) (j u : Nat) : Row (w.setCell ⟨g, j, none⟩ (.float .f32 u)) lo (w.setCell ⟨g, j, none⟩ (.float .f32 u)).heap.size t (.slice (some ⟨g, 0, none⟩) n cap) n (ys.set j u) := by
  have h := (R.own.stored j (.float .f32 u)).1
  rw [fl_set] at h
  exact Row.of h (by simpa [World.setCell] using R.low)
theorem row_lo {w : World} {lo hi : Nat} {t : TypeId} {g n cap : Nat} {ys : List Nat} (R : Row w lo hi t (.slice (some ⟨g, 0, none⟩) n cap) n ys) : lo ≤ g := (R.own.lt g rfl).1
theorem row_fz {w : World} {lo hi : Nat} {t : TypeId} {g n cap : Nat} {ys : List Nat} (R : Row w lo hi t (.slice (some ⟨g, 0, none⟩) n cap) n ys) (j : Nat) : w.frozen? ⟨g, j, none⟩ = false := R.own.frozenAt j
theorem row_len {w : World} {lo hi : Nat} {t : TypeId} {v : Value} {n : Nat} {ys : List Nat} (R : Row w lo hi t v n ys) : ys.length = n := by
  have := R.own.1; simpa [fl_length] using this
/-- the number v is written k times, from the place o on -/
theorem row_puts {lo : Nat} {t : TypeId} {g n cap : Nat} (v : Nat) : ∀ (k o : Nat) (w : World) (ys : List Nat), o + k ≤ n → Row w lo w.heap.size t (.slice (some ⟨g, 0, none⟩) n cap) n ys → (∀ j, j < o → ys[j]? = some v) →
    ∃ zs, Row (w.setCells g o (fl (List.replicate k v))) lo (w.setCells g o (fl (List.replicate k v))).heap.size t (.slice (some ⟨g, 0, none⟩) n cap) n zs ∧ (∀ j, j < o + k → zs[j]? = some v) ∧ Below lo w (w.setCells g o (fl (List.replicate k v)))
  | 0, _, w, ys, _, R, h => ⟨ys, R, h, (Below.refl w.heap.size w).mono R.low⟩
  | k + 1, o, w, ys, hk, R, h => by
    have hl := row_len R
    have hB : Below lo w (w.setCell ⟨g, o, none⟩ (.float .f32 v)) := ((Below.refl w.heap.size w).mono R.low).setCell (p := ⟨g, o, none⟩) (row_lo R) _
    obtain ⟨zs, R2, h2, B2⟩ := row_puts v k (o + 1) (w.setCell ⟨g, o, none⟩ (.float .f32 v)) (ys.set o v) (by omega) (row_put R o v) (fun j hj => by
      by_cases e : o = j
      · subst e; rw [List.getElem?_set_self (by omega)]
      · rw [List.getElem?_set_ne e]; exact h j (by omega))
    exact ⟨zs, R2, fun j hj => h2 j (by omega), hB.trans B2⟩
theorem all_v {zs : List Nat} {n v : Nat} (hl : zs.length = n) (h : ∀ j, j < n → zs[j]? = some v) : zs = List.replicate n v := by
  subst hl
  apply List.ext_getElem?
  intro j
  rcases Nat.lt_or_ge j zs.length with hj | hj
  · rw [h j hj, List.getElem?_replicate, if_pos hj]
  · rw [List.getElem?_eq_none hj, List.getElem?_eq_none (by simpa using hj)]
theorem mul64 (y : Nat) (hy : y ≤ 256) (w : World) : Calls Try.prog 76 #[.int .u64 1, .int .u64 (y : Int)] w fun e w' => e = .returned (.tuple #[.int .u64 0, .int .u64 (y : Int)]) ∧ w' = w := by
  have h1 : bits .and .u64 (1 : Int) 4294967295 = 1 := by decide
  have h2 : bits .and .u64 (y : Int) 4294967295 = (y : Int) := by
    have := Mul64.maskN y (by omega)
    rw [Nat.mod_eq_of_lt (by omega)] at this
    exact this
  have h3 : (y : Int) / 4294967296 = 0 := by omega
  have h4 : IntKind.u64.wrap (y : Int) = (y : Int) := Mul64.wrapN y (by omega)
  go_enter Try.func76, Try.ntmps76
  go_wp2
  go_ret2
  exact ⟨rfl, rfl⟩
theorem mulU (y : Nat) (hy : y ≤ 256) (w : World) : Calls Try.prog 74 #[.int .u64 1, .int .u64 (y : Int)] w fun e w' => e = .returned (.tuple #[.int .u64 0, .int .u64 (y : Int)]) ∧ w' = w := by
  go_enter Try.func74, Try.ntmps74
  go_wp2_with fail
  refine (mul64 y hy _).mono ?_
  rintro e w' ⟨rfl, hsame⟩
  replace hsame := hsame.symm
  subst hsame
  go_wp2
  go_ret2
  exact ⟨rfl, rfl⟩
theorem repeatI (g v m : Nat) (hm : 1 ≤ m ∧ m ≤ 256) (w : World) (hc : w.cell? ⟨g, 0, none⟩ = some (.float .f32 v)) :
    Calls Try.prog 70 #[.slice (some ⟨g, 0, none⟩) 1 1, .int .i64 (m : Int)] w (RW 33 w m (List.replicate m v)) := by
  obtain ⟨i0, hi, hz0, hz1, hz2⟩ := info_parts infoF32
  have hw1 : IntKind.u64.wrap (m : Int) = (m : Int) := Mul64.wrapN m (by omega)
  have hgb : g < w.heap.size := World.block_lt_of_cell? w _ hc
  go_enter Try.func70, Try.ntmps70
  go_wp2_with fail
  refine (mulU m hm.2 _).mono ?_
  rintro e w' ⟨rfl, hsame⟩
  replace hsame := hsame.symm
  subst hsame
  go_wp2_with (at_make; refine wpList_make_full _ rfl _ _ 22 rfl w.heap.size 33 i0 (.float .f32 0) 1 Try.underlying22 hi hz0 hz1 _ _ _ _ m rfl rfl rfl rfl (by rw [hz2]; omega) (by unfold maxLen; omega) (Nat.le_refl _) ?_)
  intro w1 hown hgr
  rw [zeros_fl] at hown
  have T := bel_grown hgr
  have R0 := Row.of hown T.size
  have HR := Lib.hid R0
  obtain ⟨zs, R1_, hz_, B1⟩ := row_puts v 1 0 w1 _ (by omega) R0 (fun j hj => absurd hj (by omega))
  have hs : (Try.prog.info? 33).map (·.size) = some 1 := by rw [hi]; simp [hz1]
  have hcopy : ∀ ty, (Builtin.copy_ #[22, 22] ty #[.slice (some ⟨w.heap.size, 0, none⟩) m m, .slice (some ⟨g, 0, none⟩) 1 1]).run Try.prog w1 = .ok (goInt 1) (w1.setCells w.heap.size 0 (fl (List.replicate 1 v))) := fun ty => by
    have hg1 : w1.cell? ⟨g, 0, none⟩ = some (.float .f32 v) := (T.cell (p := ⟨g, 0, none⟩) hgb).trans hc
    refine run_copy_cells (P := Try.prog) w1 _ _ ty 33 w.heap.size 0 m m ⟨g, 0, none⟩ 1 1 (fl (List.replicate 1 v)) Try.underlying22 hs (show 1 = min 1 m by omega) ?_ ?_ ?_ ?_
    · intro j u hj
      match j, hj with
      | 0, hj => simp [fl] at hj; subst hj; exact hg1
      | j + 1, hj => simp [fl] at hj
    · intro j hj
      rw [Nat.zero_add, row_cell R0 (by simp [fl] at hj; omega)]; rfl
    · intro j hj; exact row_fz R0 _
    · intro u hu; simp [fl] at hu; subst hu; rfl
  generalize hw2 : w1.setCells w.heap.size 0 (fl (List.replicate 1 v)) = w2 at *
  have T2 := Lib.hid (T.trans B1)
  have R2 := Lib.hid R1_
  have Z2 := Lib.hid hz_
  clear hown hgr R0 HR R1_ hz_ B1 hw2 hi hz0 hz1 hz2 T hc hw1
  have HS := Lib.hid hs
  clear hs
  go_wp2
  clear hcopy
  go_loopw [8] (fun i w' => ∃ (k : Nat) (ys : List Nat), 1 ≤ k ∧ k ≤ m ∧ i = .int .i64 k ∧ Row w' w.heap.size w'.heap.size 33 (.slice (some ⟨w.heap.size, 0, none⟩) m m) m ys ∧ Hid (∀ j, j < k → ys[j]? = some v) ∧ Below w.heap.size w w') (fun i _ => m - (intOf i).toNat)
  case atStart => exact ⟨1, zs, Nat.le_refl _, hm.1, rfl, R2.out, Z2, T2.out⟩
  case round =>
    clear R2 Z2 T2
    obtain ⟨k, ys, hk1, hk, rfl, R, hz, B⟩ := hrel
    have HR := Lib.hid R
    have HB := Lib.hid B
    clear R B
    by_cases hlt : k < m
    · go_wp2_with fail
      have y1 : ¬ m = k := by omega
      have y2 : (k : Int) ≤ (m : Int) := by omega
      obtain ⟨p, hp⟩ : ∃ p, p = min k (m - k) := ⟨_, rfl⟩
      have hp1 : 1 ≤ p := by omega
      have hp2 : p ≤ k := by omega
      have hp3 : k + p ≤ m := by omega
      have HP := Lib.hid hp
      clear hp
      have y3 : IntKind.i64.wrap ((k : Int) + (p : Int)) = (k : Int) + (p : Int) := IntWalk.i64_in _ (by omega)
      refine wp_plan 9 [0, 0, 0, 0, 0, 0, 0, 2, 0, 0] (.go 0 (.go 1 (.go 2 (.go 3 (.go 4 (.go 5 (.go 6 (.only 7 (.go 8 .fin))))))))) (Bl w) (by kernel_rfl) (by kernel_rfl) HB.out Bl.drew ?_
      simp only [List.drop_succ_cons, List.drop_zero]
      refine plan_go (pl0 (v := ?_) (by rfl) rfl rfl (fun w' hw' => ?_) (fun K hK => ?_))
      rotate_left
      · skip
        go_simp
        rfl
      go_simp
      refine hK _ _ ?_
      clear hK K
      refine plan_go (pl0 (v := ?_) (by rfl) rfl rfl (fun w' hw' => ?_) (fun K hK => ?_))
      rotate_left
      · skip
        go_simp
        rfl
      go_simp
      refine hK _ _ ?_
      clear hK K
      refine plan_go (pl0 (v := ?_) (by rfl) rfl rfl (fun w' hw' => ?_) (fun K hK => ?_))
      rotate_left
      · skip
        go_simp
        rfl
      go_simp
      refine hK _ _ ?_
      clear hK K
      refine plan_go (pl0 (v := ?_) (by rfl) rfl rfl (fun w' hw' => ?_) (fun K hK => ?_))
      rotate_left
      · skip
        go_simp
        rfl
      go_simp
      refine hK _ _ ?_
      clear hK K
      refine plan_go (pl0 (v := ?_) (by rfl) rfl rfl (fun w' hw' => ?_) (fun K hK => ?_))
      rotate_left
      · skip
        go_simp
        rfl
      go_simp
      refine hK _ _ ?_
      clear hK K
      refine plan_go (pl0 (v := ?_) (by rfl) rfl rfl (fun w' hw' => ?_) (fun K hK => ?_))
      rotate_left
      · skip
        go_simp
        rfl
      go_simp
      refine hK _ _ ?_
      clear hK K
      refine plan_go (pl0 (v := ?_) (by rfl) rfl rfl (fun w' hw' => ?_) (fun K hK => ?_))
      rotate_left
      · skip
        go_simp
        rfl
      go_simp
      refine hK _ _ ?_
      clear hK K
      refine plan_only (pl2 (by rfl) rfl rfl (fun K hK => ?_))
      go_simp
      intro n1
      obtain ⟨zs2, R2_, hz2_, B2_⟩ := row_puts v p k (wr.drewN (1 + n1)) ys (by omega) (HR.out.drew _) hz.out
      have hcp : (Builtin.copy_ #[22, 22] 3 #[.slice (some ⟨w.heap.size, k, none⟩) (m - k) (m - k), .slice (some ⟨w.heap.size, 0, none⟩) k m]).run Try.prog (wr.drewN (1 + n1)) = .ok (goInt (p : Int)) ((wr.drewN (1 + n1)).setCells w.heap.size k (fl (List.replicate p v))) := by
        have hl : (fl (List.replicate p v)).length = p := by simp [fl]
        have hh := run_copy_cells (P := Try.prog) (wr.drewN (1 + n1)) 22 22 3 33 w.heap.size k (m - k) (m - k) ⟨w.heap.size, 0, none⟩ k m (fl (List.replicate p v)) Try.underlying22 HS.out (by rw [hl]; exact HP.out) ?_ ?_ ?_ ?_
        · rw [hl] at hh; exact hh
        · intro j u hj
          have hjp : j < p := by
            rcases Nat.lt_or_ge j p with h | h
            · exact h
            · rw [List.getElem?_eq_none (by omega)] at hj; cases hj
          have hc := row_cell (HR.out.drew (1 + n1)) (j := j) (by omega)
          rw [hz.out j (by omega)] at hc
          simp only [fl, List.map_replicate, List.getElem?_replicate, if_pos hjp, Option.some.injEq] at hj
          subst hj
          rw [add_at, Nat.zero_add]; exact hc
        · intro j hj
          rw [row_cell (HR.out.drew (1 + n1)) (by omega)]; rfl
        · intro j _; exact row_fz (HR.out.drew (1 + n1)) _
        · intro u hu; simp [fl] at hu; rw [hu.2]; rfl
      rw [hcp]
      clear hcp
      generalize hw5 : (wr.drewN (1 + n1)).setCells w.heap.size k (fl (List.replicate p v)) = w5 at *
      have B5 := Lib.hid ((bdrew HB.out (1 + n1)).trans B2_)
      have R5 := Lib.hid R2_
      have Z5 := Lib.hid hz2_
      clear R2_ hz2_ B2_ hw5
      go_simp
      refine ⟨B5.out, hK _ _ ?_⟩
      clear hK K
      refine plan_go (pl0 (v := ?_) (by rfl) rfl rfl (fun w' hw' => ?_) (fun K hK => ?_))
      rotate_left
      · skip
        go_simp
        rfl
      go_simp
      refine hK _ _ ?_
      clear hK K
      refine plan_fin (fun n3 => ?_)
      go_wp2
      go_roundw
      case rel => exact ⟨k + p, zs2, by omega, by omega, by go_num, R5.out.drew _, Z5, bdrew B5.out _⟩
      case measure => simp [intOf]; omega
    · have e : k = m := by omega
      subst e
      go_wp2
      go_ret
      exact ⟨_, _, rfl, by rw [← all_v (row_len HR.out) hz.out]; exact HR.out, HB.out⟩
end Go.Proofs.Ytoeppdkhncllbaa.rep
