/- Models with other parameters: the marks read back, and the pieces of the lists that are taken. -/
import Derived.Test.YtclhemjanhhioaaLayG
import Derived.Test.YtclhemjanhhioaaClone
namespace Go.Proofs.Ytclhemjanhhioaa
open Go.RowKit Go.Fl Go.Reg
set_option maxHeartbeats 2000000 in
theorem heldLS (a : Option Addr) (n cap : Nat) (L : List LD) (k : Int) (w : World) (hn : n ≤ 1048576) (hs : szs L n ≤ 1048576) (hk : 0 ≤ k ∧ k ≤ 2147483648) (hL : n = L.length) (h : Ls w a n cap (mkL k L n)) :
    Calls Try.prog 47 #[.slice a n cap, .int .i64 k] w fun e w' => e = .returned (.int .i64 (sj k L n)) ∧ Below w.heap.size w w' := by
  have HL := Lib.hid hL
  have H := Lib.hid h
  have hcap := h.cap1
  have hcap2 := h.cap2
  unfold maxLen at hcap2
  clear hL h
  go_enter Try.func47, Try.ntmps47
  go_wp2
  go_loopw [1, 5] (fun kk i w' => ∃ (j : Nat) (q : Int), j ≤ n ∧ i = .int .i64 j ∧ kk = .int .i64 q ∧ Hid (q = sj k L j) ∧ Hid (Below w.heap.size w w')) (fun _ i _ => n - (intOf i).toNat)
  case atStart => exact ⟨0, k, Nat.zero_le _, rfl, rfl, by show _ = _; unfold sj szs; simp, Below.refl _ _⟩
  case round =>
    obtain ⟨j, q, hj, rfl, rfl, hq, hB⟩ := hrel
    by_cases hlt : j < n
    · have hat := szs_at L hlt
      have hmo := szs_mono L (show j ≤ n by omega)
      have hq2 := hq.out
      unfold sj at hq2
      have hq0 : 0 ≤ q := by omega
      have hq1 : q ≤ 3000000000 := by omega
      have hnx : (lat L j).xs.length ≤ 1048576 := by omega
      have hny : (lat L j).ys.length ≤ 1048576 := by omega
      have HSQ := Lib.hid (show sj k L (j + 1) = q + 1 + 1 + 1 + ((lat L j).xs.length : Int) + ((lat L j).ys.length : Int) by rw [hq.out]; unfold sj; show k + 3 * ((j + 1 : Nat) : Int) + ((szs L j + ((lat L j).xs.length + (lat L j).ys.length) : Nat) : Int) = _; omega)
      clear hq2 hat hmo
      obtain ⟨b, o, rfl, a1, c1, a2, c2, QL, F1, F2⟩ := (H.out.below hB.out).cell j hlt
      rw [mkL_at k L n j (by have := HL.out; omega), if_pos hlt, ← hq.out] at QL F1 F2
      simp only [mkd, mks_length] at QL F1 F2
      obtain ⟨nx, hx⟩ : ∃ x, x = (lat L j).xs.length := ⟨_, rfl⟩
      obtain ⟨ny, hy⟩ : ∃ x, x = (lat L j).ys.length := ⟨_, rfl⟩
      rw [← hx] at QL F1 F2 HSQ hnx
      rw [← hy] at QL F2 HSQ hny
      clear hx hy
      have G1 := Lib.hid F1
      have G2 := Lib.hid F2
      have HQ := Lib.hid QL
      obtain ⟨q0, q1, q2, q3, q4, q5⟩ := QL
      clear F1 F2
      go_wp2_with fail
      clear q0 q1 q2 q3 q4 q5
      refine (heldF32r _ _ _ (q + 1 + 1 + 1) _ hnx (by omega) G1.out).mono ?_
      rintro e w2 ⟨rfl, A⟩
      have hs1 : decide (q + 1 + 1 + 1 + (nx : Int) < 0) = false := by simp; omega
      have G3 := Lib.hid (G2.out.below A)
      have HB2 := Lib.hid (hB.out.trans (A.mono hB.out.size))
      obtain ⟨q0, q1, q2, q3, q4, q5⟩ := HQ.out.below A
      clear A G1 G2
      go_wp2_with fail
      clear q0 q1 q2 q3 q4 q5 hs1
      refine (heldF32r _ _ _ (q + 1 + 1 + 1 + (nx : Int)) _ hny (by omega) G3.out).mono ?_
      rintro e w3 ⟨rfl, A⟩
      have hs1 : decide (q + 1 + 1 + 1 + (nx : Int) + (ny : Int) < 0) = false := by simp; omega
      have HB3 := Lib.hid (HB2.out.trans (A.mono HB2.out.size))
      clear A
      go_wp2
      go_roundw
      case rel => exact ⟨j + 1, _, by omega, by go_num, rfl, (by show _ = _; rw [HSQ.out]), HB3⟩
      case measure => simp [intOf]; omega
    · have e : j = n := by omega
      subst e
      go_wp2
      go_ret
      exact ⟨by rw [hq.out]; rfl, hB.out⟩
theorem heldMod (a : Option Addr) (n cap : Nat) (L : List LD) (k : Int) (w : World) (hn : n ≤ 1048576) (hs : szs L n ≤ 1048576) (hk : 0 ≤ k ∧ k ≤ 2147483648) (hL : n = L.length) (h : Ls w a n cap (mkL k L n)) :
    Calls Try.prog 30 #[.agg #[.slice a n cap], .int .i64 k] w fun e w' => e = .returned (.int .i64 (sj k L n)) ∧ Below w.heap.size w w' := by
  have HL := Lib.hid hL
  have H := Lib.hid h
  clear hL h
  go_enter Try.func30, Try.ntmps30
  go_wp2_with fail
  refine calls_at ?_
  intro w1 hA
  have A : Below w.heap.size w w1 := by rw [hA]; exact (Below.refl _ _).alloc (Nat.le_refl _) _
  clear hA
  refine (heldLS _ _ _ _ k _ hn hs hk HL.out (H.out.below A)).mono ?_
  rintro e w2 ⟨rfl, B⟩
  have K3 := Lib.hid (A.trans (B.mono A.size))
  clear A B
  have hr0 : 0 ≤ sj k L n := by unfold sj; omega
  obtain ⟨r, hr⟩ : ∃ r, r = sj k L n := ⟨_, rfl⟩
  rw [← hr] at hr0 ⊢
  have HR := Lib.hid hr
  clear hr
  have hs1 : decide (r < 0) = false := by simp; omega
  go_wp2
  go_ret
  exact ⟨by rw [← HR.out]; rfl, K3.out⟩
theorem fs_seg {w : World} {b o n cap : Nat} {xs : List Nat} (h : Fs w (some ⟨b, o, none⟩) n cap xs) {i m : Nat} (him : i + m ≤ n) : Fs w (some ⟨b, if cap = i then o else o + i, none⟩) m (cap - i) ((xs.drop i).take m) := by
  have h1 := h.len
  have h2 := h.cap1
  have h3 := h.cap2
  by_cases e : cap = i
  · rw [if_pos e]
    have : m = 0 := by omega
    subst this
    exact ⟨by simp, by omega, by omega, fun k hk => by omega⟩
  · rw [if_neg e]
    have := h.sub (i := i) (j := i + m) (by omega) him (cap - i) rfl
    rwa [show i + m - i = m by omega] at this
/-- a piece is taken off the list in block b1: a copy of its own, and what is left -/
def TP (w : World) (b1 bl o n cap m : Nat) (zs : List Nat) (e : Ending) (w' : World) : Prop :=
  ∃ g c, e = .returned (.slice (some ⟨g, 0, none⟩) m c) ∧ w.heap.size ≤ g ∧ R1 w' g m c (zs.take m) ∧ Bx w.heap.size b1 w w' ∧ w'.cell? ⟨b1, 0, none⟩ = some (.slice (some ⟨bl, if cap = m then o else o + m, none⟩) (n - m) (cap - m)) ∧ w'.frozen? ⟨b1, 0, none⟩ = false
theorem takeI (bl o n cap m b1 : Nat) (zs : List Nat) (w : World) (hm : m ≤ n) (hn : n ≤ 1048576) (c1 : w.cell? ⟨b1, 0, none⟩ = some (.slice (some ⟨bl, o, none⟩) n cap)) (f1 : w.frozen? ⟨b1, 0, none⟩ = false) (h : Fs w (some ⟨bl, o, none⟩) n cap zs) :
    Calls Try.prog 53 #[.int .i64 (m : Int), .pointer (some ⟨b1, 0, none⟩)] w (TP w b1 bl o n cap m zs) := by
  have hc1 := h.cap1
  have hc2 := h.cap2
  unfold maxLen at hc2
  have H := Lib.hid h
  have hlt := World.block_lt_of_cell? w _ c1
  clear h
  go_enter Try.func53, Try.ntmps53
  go_wp2_with fail
  have F := H.out.sub (i := 0) (j := m) (Nat.zero_le _) hm cap (by omega)
  rw [Nat.add_zero, Nat.sub_zero, List.drop_zero] at F
  refine (cloneI bl o m cap (zs.take m) _ (by omega) F).mono ?_
  rintro e w2 ⟨p, c, rfl, R, B⟩
  obtain ⟨g, rfl, hg1, hg2, Rg⟩ := R1.of R
  have c2 := (B.cell (p := ⟨b1, 0, none⟩) hlt).trans c1
  have f2 := (B.frozen (p := ⟨b1, 0, none⟩) hlt).trans f1
  have HR := Lib.hid Rg
  have HB := Lib.hid B
  have HG := Lib.hid hg1
  have hgb : g ≠ b1 := by omega
  have hlt2 : b1 < w2.heap.size := by have := B.size; omega
  clear F R B Rg hg1 hg2 c1 f1
  by_cases e : cap = m
  · have e2 : n = m := by omega
    subst e2
    subst e
    go_wp2
    go_ret
    exact ⟨g, c, rfl, HG.out, HR.out.set hgb _ _, (Bx.of HB.out).setCell (p := ⟨b1, 0, none⟩) rfl _, by simp [go_sem, c2], by simp [go_sem, f2]⟩
  · go_wp2
    go_ret
    exact ⟨g, c, rfl, HG.out, HR.out.set hgb _ _, (Bx.of HB.out).setCell (p := ⟨b1, 0, none⟩) rfl _, by simp [go_sem, c2, e], by simp [go_sem, f2]⟩
end Go.Proofs.Ytclhemjanhhioaa
