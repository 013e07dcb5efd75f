/- The laws' own helpers on slices of numbers: a copy, and the comparison of two. -/
import Derived.Test.YtcfnhkadljlgcaaSame
import Derived.Test.YtcfnhkadljlgcaaMem
namespace Go.Proofs.Ytcfnhkadljlgcaa
open Go.RowKit Go.Fl Go.Reg

theorem infoF32 : (Try.prog.info? 30).map (fun i => (i.zero, i.size, i.bytes)) = some (some (.float .f32 0), 1, 4) := by kernel_rfl

theorem toF32 (a : Option Addr) (n cap : Nat) (xs : List Nat) (w : World) (hn : n ≤ 1048576) (h1 : Fs w a n cap xs) :
    Calls Try.prog 26 #[.slice a n cap] w fun e w' => ∃ g, e = .returned (.slice (some ⟨g, 0, none⟩) n n) ∧ w'.ownsRow w.heap.size 30 1 (.slice (some ⟨g, 0, none⟩) n n) n (fl xs) ∧ Below w.heap.size w w' := by
  obtain ⟨i0, hi, hz0, hz1, hz2⟩ := info_parts infoF32
  have HC := Lib.hid h1.cell
  have HL := Lib.hid h1.len
  clear h1
  go_enter Try.func26, Try.ntmps26
  go_wp2_with (at_make; refine wpList_make_full _ rfl _ _ 31 rfl w.heap.size 30 i0 (.float .f32 0) 1 Try.underlying31 hi hz0 hz1 _ _ _ _ n rfl rfl rfl rfl (by rw [hz2]; omega) (by unfold maxLen; omega) (Nat.le_refl _) ?_)
  intro w1 hown hgr
  rw [zeros_fl] at hown
  have hb1 := bel_grown hgr
  have hrel0 : w1.ownsRow w.heap.size 30 1 (.slice (some ⟨w.heap.size, 0, none⟩) n n) n (fl (xs.take 0 ++ List.replicate (n - 0) 0)) := by simpa using hown
  clear hown hgr
  go_wp2
  go_loopw [4] (fun i w' => ∃ k : Nat, k ≤ n ∧ i = .int .i64 k ∧ w'.ownsRow w.heap.size 30 1 (.slice (some ⟨w.heap.size, 0, none⟩) n n) n (fl (xs.take k ++ List.replicate (n - k) 0)) ∧ Below w.heap.size w w') (fun i _ => n - (intOf i).toNat)
  case atStart => exact ⟨0, Nat.zero_le _, rfl, hrel0, hb1⟩
  case round =>
    obtain ⟨k, hk, rfl, hown, hb⟩ := hrel
    by_cases hlt : k < n
    · obtain ⟨b, o, rfl, hc⟩ := HC.out k hlt
      have hcw := (hb.cell (p := ⟨b, o + k, none⟩) (World.block_lt_of_cell? w _ hc)).trans hc
      have hlen : (fl (xs.take k ++ List.replicate (n - k) 0)).length = n := by have := hown.1; rw [Nat.mul_one] at this; exact this
      have hco : ∃ u, wr.cell? ⟨w.heap.size, k, none⟩ = some u := by rw [hown.cellAt k (by omega)]; exact ⟨_, List.getElem?_eq_getElem (by omega)⟩
      obtain ⟨u, hco⟩ := hco
      have hfo := hown.frozenAt k
      have hst := hown.stored k (.float .f32 (xs[k]?.getD 0))
      rw [copy_step xs n k HL.out hlt] at hst
      have HS := Lib.hid hst
      have HB := Lib.hid hb
      have HO := Lib.hid hown
      clear hst hb hown hlen hc
      go_wp2
      go_roundw
      case rel => exact ⟨k + 1, by omega, by go_num, HS.out.1, HB.out.trans (bel_grow HS.out.2 (Nat.le_refl _) (by have := (HO.out.lt w.heap.size rfl).2; omega))⟩
      case measure => simp [intOf]; omega
    · go_wp2
      go_ret
      have : k = n := by omega
      subst this
      rw [copy_end xs k HL.out] at hown
      exact ⟨_, rfl, hown, hb⟩

theorem eqF32 (a b : Option Addr) (n c1 c2 : Nat) (xs ys : List Nat) (w : World) (hn : n ≤ 1048576) (h1 : Fs w a n c1 xs) (h2 : Fs w b n c2 ys) (he : xs.map (cn .f32) = ys.map (cn .f32)) :
    Calls Try.prog 31 #[.slice a n c1, .slice b n c2] w fun e w' => ∃ m, e = .returned (.bool true) ∧ w' = w.drewN m := by
  have HX := Lib.hid h1.cell
  have HY := Lib.hid h2.cell
  have HE : Hid (∀ k, k < n → cn .f32 (xs[k]?.getD 0) = cn .f32 (ys[k]?.getD 0)) := fun k hk => by
    have hx : k < xs.length := by have := h1.len; omega
    have hy : k < ys.length := by have := h2.len; omega
    have := congrArg (fun l => l[k]?) he
    simpa [hx, hy] using this
  clear h1 h2 he
  go_enter Try.func31, Try.ntmps31
  go_wp2
  go_loopw [5] (fun i w' => ∃ k m : Nat, k ≤ n ∧ i = .int .i64 k ∧ w' = w.drewN m) (fun i _ => n - (intOf i).toNat)
  case atStart => exact ⟨0, 0, Nat.zero_le _, rfl, rfl⟩
  case round =>
    obtain ⟨k, m, hk, rfl, rfl⟩ := hrel
    by_cases hlt : k < n
    · obtain ⟨b1, o1, rfl, g1⟩ := HX.out k hlt
      obtain ⟨b2, o2, rfl, g2⟩ := HY.out k hlt
      go_wp2
      refine wp_dr 11 [0, 0, 0, 0, 1, 0, 0, 0, 0, 1, 2, 0] (by kernel_rfl) (by kernel_rfl) ?_
      simp only [List.take_succ_cons, List.take_zero, List.drop_succ_cons, List.drop_zero]
      iterate 10 (with_reducible refine dr_step ?_; intro K hK; go_simp; (try intro _); refine hK _ _ ?_; clear hK K)
      with_reducible refine dr_step ?_
      intro K hK
      go_simp
      intro _
      refine (sameFloat _ _ _ (cnw (HE.out k hlt) _ _)).mono ?_
      rintro e w1 ⟨rfl, rfl⟩
      refine ⟨_, rfl, Dr.of (by omega), hK _ _ ?_⟩
      clear hK K
      refine wpR_nil (fun nq => ?_)
      go_wp2
      go_roundw
      case rel => exact ⟨k + 1, _, by omega, by go_num, rfl⟩
      case measure => simp [intOf]; omega
    · go_wp2
      go_ret
      exact ⟨_, rfl, rfl⟩
end Go.Proofs.Ytcfnhkadljlgcaa
