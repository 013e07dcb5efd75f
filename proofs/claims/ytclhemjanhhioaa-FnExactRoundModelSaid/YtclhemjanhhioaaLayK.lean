/- The marks on a model of the law's own. -/
import Derived.Test.YtclhemjanhhioaaLayO
namespace Go.Proofs.Ytclhemjanhhioaa
open Go.RowKit Go.Fl Go.Reg
theorem lat_set {L : List LD} {j : Nat} (hj : j < L.length) (l : LD) (i : Nat) : lat (L.set j l) i = if i = j then l else lat L i := by
  unfold lat
  by_cases e : i = j
  · subst e; rw [if_pos rfl, List.getElem?_set_self hj]; rfl
  · rw [if_neg e, List.getElem?_set_ne (fun h => e h.symm)]
theorem Keep.wide {lo hi lo' hi' : Nat} {w w' : World} (h : Keep lo hi w w') (h1 : lo' ≤ lo) (h2 : hi ≤ hi') : Keep lo' hi' w w' := ⟨h.os, h.tape, h.output, h.size, fun k hk hr => h.block k hk (by omega)⟩
theorem Keep.put {lo hi : Nat} {w w' : World} (h : Keep lo hi w w') {p : Addr} (h1 : lo ≤ p.block) (h2 : p.block < hi) (u : Value) : Keep lo hi w (w'.setCell p u) :=
  h.trans ⟨rfl, rfl, rfl, by simp [World.setCell], fun k _ hr => Below.heap_setCell _ _ _ _ (by omega)⟩
section
variable {w w' : World} {B g n cap : Nat} {L : List LD} {cs : List Value} {A1 A2 : Nat → Option Addr} {C1 C2 Q : Nat → Nat}
theorem own_keep5 {lo hi : Nat} (h : w.ownsRow B 27 5 (.slice (some ⟨g, 0, none⟩) n cap) n cs) (k : Keep lo hi w w') (hg : ¬ (lo ≤ g ∧ g < hi)) : w'.ownsRow B 27 5 (.slice (some ⟨g, 0, none⟩) n cap) n cs := by
  refine ⟨h.1, ?_⟩
  have hl := h.lt
  rcases h.2 with hn | ⟨g', cap', cur, e, hbg, hgg, rest⟩
  · exact .inl hn
  · have eg : g' = g := by injection e with e1; injection e1 with e1; injection e1 with e1; exact e1.symm
    subst eg
    exact .inr ⟨g', cap', cur, e, hbg, by rw [k.block g' (hl g' rfl).2 (by omega)]; exact hgg, rest⟩
/-- one row of a layer is written anew: the weights -/
theorem Mw.row1 (h : Mw w B g n cap L n cs A1 A2 C1 C2 Q) (hL : n = L.length) {j : Nat} (hj : j < n) (K : Keep (Q (2 * j)) (Q (2 * j + 1)) w w') {zs : List Nat} (hz : zs.length = (lat L j).xs.length) (R : Row w' (Q (2 * j)) (Q (2 * j + 1)) 67 (.slice (A1 j) (lat L j).xs.length (C1 j)) (lat L j).xs.length zs) :
    Mw w' B g n cap (L.set j ⟨(lat L j).k, (lat L j).i, (lat L j).u, zs, (lat L j).ys⟩) n cs A1 A2 C1 C2 Q := by
  refine ⟨own_keep5 h.own K (h.gq _ (by omega)), h.low, fun i hi => ?_, fun i hi => ?_, h.qm, Nat.le_trans h.qn K.size, h.gq, Nat.lt_of_lt_of_le h.gb K.size, h.sm⟩
  · rw [lat_set (by omega)]
    by_cases e : i = j
    · subst e; rw [if_pos rfl]; obtain ⟨k0, k1, k2, k3, k4⟩ := h.c i hi; exact ⟨k0, k1, k2, by rw [hz]; exact k3, k4⟩
    · rw [if_neg e]; exact h.c i hi
  · rw [lat_set (by omega)]
    by_cases e : i = j
    · subst e
      rw [if_pos rfl]
      exact ⟨by rw [hz]; exact R, (h.r i hi).2.keep K (.inr (Nat.le_refl _))⟩
    · rw [if_neg e]
      obtain ⟨r1, r2⟩ := h.r i hi
      rcases Nat.lt_or_gt_of_ne e with e | e
      · have m1 := h.mono (show 2 * i + 1 ≤ 2 * j by omega) (by omega)
        have m2 := h.mono (show 2 * i + 2 ≤ 2 * j by omega) (by omega)
        exact ⟨r1.keep K (.inl m1), r2.keep K (.inl m2)⟩
      · have m1 := h.mono (show 2 * j + 1 ≤ 2 * i by omega) (by omega)
        have m2 := h.mono (show 2 * j + 1 ≤ 2 * i + 1 by omega) (by omega)
        exact ⟨r1.keep K (.inr m1), r2.keep K (.inr m2)⟩
/-- .. the biases -/
theorem Mw.row2 (h : Mw w B g n cap L n cs A1 A2 C1 C2 Q) (hL : n = L.length) {j : Nat} (hj : j < n) (K : Keep (Q (2 * j + 1)) (Q (2 * j + 2)) w w') {zs : List Nat} (hz : zs.length = (lat L j).ys.length) (R : Row w' (Q (2 * j + 1)) (Q (2 * j + 2)) 67 (.slice (A2 j) (lat L j).ys.length (C2 j)) (lat L j).ys.length zs) :
    Mw w' B g n cap (L.set j ⟨(lat L j).k, (lat L j).i, (lat L j).u, (lat L j).xs, zs⟩) n cs A1 A2 C1 C2 Q := by
  refine ⟨own_keep5 h.own K (h.gq _ (by omega)), h.low, fun i hi => ?_, fun i hi => ?_, h.qm, Nat.le_trans h.qn K.size, h.gq, Nat.lt_of_lt_of_le h.gb K.size, h.sm⟩
  · rw [lat_set (by omega)]
    by_cases e : i = j
    · subst e; rw [if_pos rfl]; obtain ⟨k0, k1, k2, k3, k4⟩ := h.c i hi; exact ⟨k0, k1, k2, k3, by rw [hz]; exact k4⟩
    · rw [if_neg e]; exact h.c i hi
  · rw [lat_set (by omega)]
    by_cases e : i = j
    · subst e
      rw [if_pos rfl]
      exact ⟨(h.r i hi).1.keep K (.inl (Nat.le_refl _)), by rw [hz]; exact R⟩
    · rw [if_neg e]
      obtain ⟨r1, r2⟩ := h.r i hi
      rcases Nat.lt_or_gt_of_ne e with e | e
      · have m1 := h.mono (show 2 * i + 1 ≤ 2 * j + 1 by omega) (by omega)
        have m2 := h.mono (show 2 * i + 2 ≤ 2 * j + 1 by omega) (by omega)
        exact ⟨r1.keep K (.inl m1), r2.keep K (.inl m2)⟩
      · have m1 := h.mono (show 2 * j + 2 ≤ 2 * i by omega) (by omega)
        have m2 := h.mono (show 2 * j + 2 ≤ 2 * i + 1 by omega) (by omega)
        exact ⟨r1.keep K (.inr m1), r2.keep K (.inr m2)⟩
theorem row_put {w : World} {lo hi : Nat} {t : TypeId} {v : Value} {n : Nat} {xs : List Nat} {g : Nat} (h : Row w lo hi t v n xs) (hg : ¬ (lo ≤ g ∧ g < hi)) (o : Nat) (u : Value) : Row (w.setCell ⟨g, o, none⟩ u) lo hi t v n xs := by
  by_cases h1 : g < lo
  · exact row_set h (p := ⟨g, o, none⟩) h1 u
  · exact h.keep (Keep.put (Keep.refl g (g + 1) w) (p := ⟨g, o, none⟩) (Nat.le_refl _) (Nat.lt_succ_self _) u) (by omega)
/-- a layer's three whole numbers are written anew -/
theorem Mw.ints (h : Mw w B g n cap L n cs A1 A2 C1 C2 Q) (hL : n = L.length) {j : Nat} (hj : j < n) (k i u : Int) :
    ∃ cs', Mw (((w.setCell ⟨g, j * 5, none⟩ (.int .i64 k)).setCell ⟨g, j * 5 + 1, none⟩ (.int .i64 i)).setCell ⟨g, j * 5 + 2, none⟩ (.int .i64 u)) B g n cap (L.set j ⟨k, i, u, (lat L j).xs, (lat L j).ys⟩) n cs' A1 A2 C1 C2 Q := by
  have hlen : cs.length = n * 5 := h.own.1
  refine ⟨((cs.set (j * 5) (.int .i64 k)).set (j * 5 + 1) (.int .i64 i)).set (j * 5 + 2) (.int .i64 u), ((h.own.stored _ _).1.stored _ _).1.stored _ _ |>.1, h.low, fun q hq => ?_, fun q hq => ?_, h.qm, by simpa [World.setCell] using h.qn, h.gq, by simpa [World.setCell] using h.gb, h.sm⟩
  · rw [lat_set (by omega)]
    obtain ⟨k0, k1, k2, k3, k4⟩ := h.c q hq
    by_cases e : q = j
    · subst e; rw [if_pos rfl]
      refine ⟨?_, ?_, ?_, ?_, ?_⟩
      · rw [List.getElem?_set_ne (by omega), List.getElem?_set_ne (by omega), List.getElem?_set_self (by omega)]
      · rw [List.getElem?_set_ne (by omega), List.getElem?_set_self (by simp; omega)]
      · rw [List.getElem?_set_self (by simp; omega)]
      · rw [List.getElem?_set_ne (by omega), List.getElem?_set_ne (by omega), List.getElem?_set_ne (by omega)]; exact k3
      · rw [List.getElem?_set_ne (by omega), List.getElem?_set_ne (by omega), List.getElem?_set_ne (by omega)]; exact k4
    · rw [if_neg e]
      refine ⟨?_, ?_, ?_, ?_, ?_⟩ <;> rw [List.getElem?_set_ne (by omega), List.getElem?_set_ne (by omega), List.getElem?_set_ne (by omega)] <;> assumption
  · rw [lat_set (by omega)]
    obtain ⟨r1, r2⟩ := h.r q hq
    have p1 := h.gq (2 * q) (by omega)
    have p2 := h.gq (2 * q + 1) (by omega)
    have t1 := row_put (row_put (row_put r1 p1 (j * 5) (.int .i64 k)) p1 (j * 5 + 1) (.int .i64 i)) p1 (j * 5 + 2) (.int .i64 u)
    have t2 := row_put (row_put (row_put r2 p2 (j * 5) (.int .i64 k)) p2 (j * 5 + 1) (.int .i64 i)) p2 (j * 5 + 2) (.int .i64 u)
    by_cases e : q = j
    · subst e; rw [if_pos rfl]; exact ⟨t1, t2⟩
    · rw [if_neg e]; exact ⟨t1, t2⟩
end
/-- the number from which layer j is marked -/
def sj (k : Int) (L : List LD) (j : Nat) : Int := k + 3 * (j : Int) + (szs L j : Int)
/-- a layer with its marks -/
def mkd (s : Int) (l : LD) : LD := ⟨s, s + 1, s + 1 + 1, mks (s + 1 + 1 + 1) l.xs.length, mks (s + 1 + 1 + 1 + (l.xs.length : Int)) l.ys.length⟩
def mkL (k : Int) (L : List LD) : Nat → List LD
  | 0 => L
  | j + 1 => (mkL k L j).set j (mkd (sj k L j) (lat L j))
theorem mkL_len (k : Int) (L : List LD) : ∀ j, (mkL k L j).length = L.length
  | 0 => rfl
  | j + 1 => by show ((mkL k L j).set j _).length = _; rw [List.length_set, mkL_len k L j]
theorem mkL_at (k : Int) (L : List LD) : ∀ j i, j ≤ L.length → lat (mkL k L j) i = if i < j then mkd (sj k L i) (lat L i) else lat L i
  | 0, i, _ => by rw [if_neg (by omega)]; rfl
  | j + 1, i, h => by
    show lat ((mkL k L j).set j _) i = _
    rw [lat_set (by rw [mkL_len]; omega), mkL_at k L j i (by omega)]
    by_cases e : i = j
    · subst e; rw [if_pos rfl, if_pos (by omega)]
    · rw [if_neg e]
      by_cases e2 : i < j
      · rw [if_pos e2, if_pos (by omega)]
      · rw [if_neg e2, if_neg (by omega)]
theorem set3 {L : List LD} {j : Nat} (hj : j < L.length) (s : Int) :
    (let L1 := L.set j ⟨s, s + 1, s + 1 + 1, (lat L j).xs, (lat L j).ys⟩
     let L2 := L1.set j ⟨(lat L1 j).k, (lat L1 j).i, (lat L1 j).u, mks (s + 1 + 1 + 1) (lat L1 j).xs.length, (lat L1 j).ys⟩
     L2.set j ⟨(lat L2 j).k, (lat L2 j).i, (lat L2 j).u, (lat L2 j).xs, mks (s + 1 + 1 + 1 + ((lat L j).xs.length : Int)) (lat L2 j).ys.length⟩) = L.set j (mkd s (lat L j)) := by
  have h1 : ∀ l, lat (L.set j l) j = l := fun l => by rw [lat_set hj, if_pos rfl]
  simp only [List.set_set, h1]
  rfl
theorem lat_self {L : List LD} {j : Nat} (hj : j < L.length) (l : LD) : lat (L.set j l) j = l := by rw [lat_set hj, if_pos rfl]
set_option maxHeartbeats 2000000 in
theorem markLS (g n cap B hi : Nat) (L : List LD) (cs : List Value) (A1 A2 : Nat → Option Addr) (C1 C2 Q : Nat → Nat) (k : Int) (w : World) (hn : n ≤ 1048576) (hs : szs L n ≤ 1048576) (hk : 0 ≤ k ∧ k ≤ 2147483648) (hL : n = L.length) (M : Mw w B g n cap L n cs A1 A2 C1 C2 Q) (hQ : Q (2 * n) ≤ hi) (hg : g < hi) (hB : B ≤ g) :
    Calls Try.prog 44 #[.slice (some ⟨g, 0, none⟩) n cap, .int .i64 k] w fun e w' => ∃ cs', e = .returned (.int .i64 (sj k L n)) ∧ Mw w' B g n cap (mkL k L n) n cs' A1 A2 C1 C2 Q ∧ Keep B hi w w' := by
  have HL := Lib.hid hL
  have HM := Lib.hid M
  have hcap := (M.ls hL).cap1
  have hcap2 := (M.ls hL).cap2
  unfold maxLen at hcap2
  clear hL M
  go_enter Try.func44, Try.ntmps44
  go_wp2
  go_loopw [1, 5] (fun kk i w' => ∃ (j : Nat) (cs' : List Value) (q : Int), j ≤ n ∧ i = .int .i64 j ∧ kk = .int .i64 q ∧ Hid (q = sj k L j) ∧ Hid (Mw w' B g n cap (mkL k L j) n cs' A1 A2 C1 C2 Q) ∧ Hid (Keep B hi w w')) (fun _ i _ => n - (intOf i).toNat)
  case atStart => exact ⟨0, cs, k, Nat.zero_le _, rfl, rfl, by show _ = _; unfold sj szs; simp, HM.out, Keep.refl _ _ _⟩
  case round =>
    obtain ⟨j, cs', q, hj, rfl, rfl, hq, hM, hK⟩ := hrel
    by_cases hlt : j < n
    · have hat := szs_at L hlt
      have hmo := szs_mono L (show j ≤ n by omega)
      have hq2 := hq.out
      unfold sj at hq2
      have hq0 : 0 ≤ q := by omega
      have hq1 : q ≤ 3000000000 := by omega
      have HX := Lib.hid (show lat (mkL k L j) j = lat L j by rw [mkL_at k L j j (by have := HL.out; omega), if_neg (by omega)])
      have HLL := Lib.hid (show n = (mkL k L j).length by rw [mkL_len]; exact HL.out)
      have HEND := Lib.hid (show mkL k L (j + 1) = (mkL k L j).set j (mkd q (lat (mkL k L j) j)) by rw [HX.out]; show (mkL k L j).set j _ = _; rw [hq.out])
      have hnx : (lat (mkL k L j) j).xs.length ≤ 1048576 := by rw [HX.out]; omega
      have hny : (lat (mkL k L j) j).ys.length ≤ 1048576 := by rw [HX.out]; omega
      have HSQ := Lib.hid (show sj k L (j + 1) = q + 3 + ((lat (mkL k L j) j).xs.length : Int) + ((lat (mkL k L j) j).ys.length : Int) by rw [HX.out, hq.out]; unfold sj; show k + 3 * ((j + 1 : Nat) : Int) + ((szs L j + ((lat L j).xs.length + (lat L j).ys.length) : Nat) : Int) = _; omega)
      clear hq2 hat hmo
      generalize hLj : mkL k L j = Lj at *
      have HLJ := Lib.hid hLj
      clear hLj
      obtain ⟨l, hl⟩ : ∃ l, l = lat Lj j := ⟨_, rfl⟩
      have fz0 := hM.out.own.frozenAt (j * 5)
      have fz1 := hM.out.own.frozenAt (j * 5 + 1)
      have fz2 := hM.out.own.frozenAt (j * 5 + 2)
      obtain ⟨v0, x0⟩ := own_cell5 hM.out.own (q := j * 5) (by omega)
      obtain ⟨v1, x1⟩ := own_cell5 hM.out.own (q := j * 5 + 1) (by omega)
      obtain ⟨v2, x2⟩ := own_cell5 hM.out.own (q := j * 5 + 2) (by omega)
      have x3 := (hM.out.own.cellAt (j * 5 + 3) (by omega)).trans (hM.out.c j hlt).2.2.2.1
      obtain ⟨cs3, M3_⟩ := hM.out.ints HLL.out hlt q (q + 1) (q + 1 + 1)
      rw [← hl] at hnx hny x3 M3_
      have HX2 := Lib.hid hl
      have hjl : j < Lj.length := by have := HLL.out; omega
      have M3 := Lib.hid M3_
      clear M3_ hl
      go_wp2_with fail
      clear fz0 fz1 fz2 x0 x1 x2 x3
      have R1 := (M3.out.r j hlt).1
      rw [lat_self hjl] at R1
      refine (markF32 _ _ _ _ _ _ (q + 1 + 1 + 1) _ hnx (by omega) R1).mono ?_
      rintro e w2 ⟨rfl, R2, K2⟩
      have M4 := Lib.hid (M3.out.row1 (by rw [List.length_set]; exact HLL.out) hlt K2 (zs := mks (q + 1 + 1 + 1) l.xs.length) (by rw [mks_length, lat_self hjl]) (by rw [lat_self hjl]; exact R2))
      have HK2 := Lib.hid K2
      clear R1 R2 K2
      have x4 := (M4.out.own.cellAt (j * 5 + 4) (by omega)).trans (M4.out.c j hlt).2.2.2.2
      rw [lat_self (by rw [List.length_set]; exact hjl), lat_self hjl] at x4
      go_wp2_with fail
      clear x4
      have R3 := (M4.out.r j hlt).2
      rw [lat_self (by rw [List.length_set]; exact hjl), lat_self hjl] at R3
      refine (markF32 _ _ _ _ _ _ (q + 1 + 1 + 1 + (l.xs.length : Int)) _ hny (by omega) R3).mono ?_
      rintro e w3 ⟨rfl, R4, K4⟩
      have hj2 : j < (Lj.set j ⟨q, q + 1, q + 1 + 1, l.xs, l.ys⟩).length := by rw [List.length_set]; exact hjl
      have M5_ := M4.out.row2 (by rw [List.length_set, List.length_set]; exact HLL.out) hlt K4 (zs := mks (q + 1 + 1 + 1 + (l.xs.length : Int)) l.ys.length) (by rw [lat_self hj2, lat_self hjl, mks_length]) (by rw [lat_self hj2, lat_self hjl]; exact R4)
      have hs3 := set3 hjl q
      rw [← HX2.out] at hs3
      dsimp only at hs3
      rw [lat_self hjl] at M5_ hs3
      rw [lat_self hj2] at M5_
      rw [show (⟨q, q + 1, q + 1 + 1, l.xs, l.ys⟩ : LD) = ⟨q, q + 1, q + 1 + 1, l.xs, l.ys⟩ from rfl, lat_self hj2] at hs3
      have hM5 : Mw w3 B g n cap (Lj.set j (mkd q l)) n cs3 A1 A2 C1 C2 Q := by rw [← hs3]; exact M5_
      have M5 := Lib.hid hM5
      have q1 := hM.out.mono (show 2 * j + 1 ≤ 2 * n by omega) (Nat.le_refl _)
      have q2 := hM.out.mono (show 2 * j + 2 ≤ 2 * n by omega) (Nat.le_refl _)
      have q3 := hM.out.mono (Nat.zero_le (2 * j)) (by omega)
      have q4 := hM.out.mono (show 2 * j ≤ 2 * j + 1 by omega) (by omega)
      have q5 := hM.out.low
      have KK := Lib.hid (((Keep.put (Keep.put (Keep.put hK.out (p := ⟨g, j * 5, none⟩) hB hg (.int .i64 q)) (p := ⟨g, j * 5 + 1, none⟩) hB hg (.int .i64 (q + 1))) (p := ⟨g, j * 5 + 2, none⟩) hB hg (.int .i64 (q + 1 + 1))).trans (Keep.wide HK2.out (by omega) (by omega))).trans (Keep.wide K4 (by omega) (by omega)))
      clear R3 R4 K4 M5_ hM5 hs3 q1 q2 q3 q4 q5
      have HMD := Lib.hid (show mkL k L (j + 1) = Lj.set j (mkd q l) by rw [HEND.out, HX2.out])
      have HSQ2 := Lib.hid (show sj k L (j + 1) = q + 1 + 1 + 1 + (l.xs.length : Int) + (l.ys.length : Int) by rw [HSQ.out, HX2.out]; omega)
      go_wp2
      go_roundw
      case rel => exact ⟨j + 1, cs3, _, by omega, by go_num, rfl, (by show _ = _; rw [HSQ2.out]), (by rw [HMD.out]; exact M5), KK⟩
      case measure => simp [intOf]; omega
    · have e : j = n := by omega
      subst e
      go_wp2
      go_ret
      exact ⟨cs', by rw [hq.out]; rfl, hM.out, hK.out⟩
theorem markMod (g n cap B hi : Nat) (L : List LD) (cs : List Value) (A1 A2 : Nat → Option Addr) (C1 C2 Q : Nat → Nat) (k : Int) (w : World) (hn : n ≤ 1048576) (hs : szs L n ≤ 1048576) (hk : 0 ≤ k ∧ k ≤ 2147483648) (hL : n = L.length) (M : Mw w B g n cap L n cs A1 A2 C1 C2 Q) (hQ : Q (2 * n) ≤ hi) (hg : g < hi) (hB : B ≤ g) :
    Calls Try.prog 24 #[.agg #[.slice (some ⟨g, 0, none⟩) n cap], .int .i64 k] w fun e w' => ∃ cs', e = .returned (.int .i64 (sj k L n)) ∧ Mw w' B g n cap (mkL k L n) n cs' A1 A2 C1 C2 Q ∧ Keep B hi w w' := by
  have HL := Lib.hid hL
  have HM := Lib.hid M
  clear hL M
  go_enter Try.func24, Try.ntmps24
  go_wp2_with fail
  refine calls_at ?_
  intro w1 hA
  have A : Below w.heap.size w w1 := by rw [hA]; exact (Below.refl _ _).alloc (Nat.le_refl _) _
  clear hA
  refine (markLS _ _ _ _ _ _ _ _ _ _ _ _ k _ hn hs hk HL.out (HM.out.below A) hQ hg hB).mono ?_
  rintro e w2 ⟨cs', rfl, M2, K⟩
  have M3 := Lib.hid M2
  have K3 := Lib.hid ((Keep.of A).trans K)
  clear M2 K A
  obtain ⟨r, hr⟩ : ∃ r, r = sj k L n := ⟨_, rfl⟩
  rw [← hr]
  have HR := Lib.hid hr
  clear hr
  go_wp2
  go_ret
  exact ⟨cs', by rw [← HR.out]; rfl, M3.out, K3.out⟩
end Go.Proofs.Ytclhemjanhhioaa
