/- The marks on a list of tensors of the law's own; such a list as an argument, opened. -/
import Derived.Test.YtoeppdkhncllbaaTlS
namespace Go.Proofs.Ytoeppdkhncllbaa
open Go.RowKit Go.Fl Go.Reg
theorem tat_set {L : List TD} {j : Nat} (hj : j < L.length) (l : TD) (i : Nat) : tat (L.set j l) i = if i = j then l else tat L i := by
  unfold tat
  by_cases e : i = j
  · subst e; rw [if_pos rfl, List.getElem?_set_self hj]; rfl
  · rw [if_neg e, List.getElem?_set_ne (fun h => e h.symm)]
theorem keep_wide {lo hi lo' hi' : Nat} {w w' : World} (h : Keep lo hi w w') (h1 : lo' ≤ lo) (h2 : hi ≤ hi') : Keep lo' hi' w w' := ⟨h.os, h.tape, h.output, h.size, fun k hk hr => h.block k hk (by omega)⟩
theorem keep_put {lo hi : Nat} {w w' : World} (h : Keep lo hi w w') {p : Addr} (h1 : lo ≤ p.block) (h2 : p.block < hi) (u : Value) : Keep lo hi w (w'.setCell p u) :=
  h.trans ⟨rfl, rfl, rfl, by simp [World.setCell], fun k _ hr => Below.heap_setCell _ _ _ _ (by omega)⟩
section
variable {w w' : World} {B g n cap : Nat} {L : List TD} {cs : List Value} {A C Q : Nat → Nat}
theorem own_keep3 {lo hi : Nat} (h : w.ownsRow B 26 3 (.slice (some ⟨g, 0, none⟩) n cap) n cs) (k : Keep lo hi w w') (hg : g < lo) : w'.ownsRow B 26 3 (.slice (some ⟨g, 0, none⟩) n cap) n cs := by
  refine ⟨h.1, ?_⟩
  have hl := h.lt
  rcases h.2 with hn | ⟨g', cap', cur, e, hbg, hgg, rest⟩
  · exact .inl hn
  · have eg : g' = g := by injection e with e1; injection e1 with e1; injection e1 with e1; exact e1.symm
    subst eg
    exact .inr ⟨g', cap', cur, e, hbg, by rw [k.block g' (hl g' rfl).2 (by omega)]; exact hgg, rest⟩
theorem Nw.row (h : Nw w B g n cap L n cs A C Q) (hL : n = L.length) {j : Nat} (hj : j < n) (K : Keep (Q j) (Q (j + 1)) w w') {zs : List Nat} (hz : zs.length = (tat L j).xs.length) (R : Row w' (Q j) (Q (j + 1)) 33 (.slice (some ⟨A j, 0, none⟩) (tat L j).xs.length (C j)) (tat L j).xs.length zs) :
    Nw w' B g n cap (L.set j ⟨(tat L j).r, (tat L j).c, zs⟩) n cs A C Q := by
  refine ⟨own_keep3 h.own K (Nat.lt_of_lt_of_le h.low (h.mono (Nat.zero_le _) (by omega))), h.low, fun i hi => ?_, fun i hi => ?_, h.qm, Nat.le_trans h.qn K.size, h.gb⟩
  · rw [tat_set (by omega)]
    by_cases e : i = j
    · subst e; rw [if_pos rfl]; obtain ⟨k0, k1, k2⟩ := h.c i hi; exact ⟨k0, k1, by rw [hz]; exact k2⟩
    · rw [if_neg e]; exact h.c i hi
  · rw [tat_set (by omega)]
    by_cases e : i = j
    · subst e
      rw [if_pos rfl]
      show Row w' _ _ _ (.slice _ zs.length _) zs.length zs
      rw [hz]; exact R
    · rw [if_neg e]
      rcases Nat.lt_or_gt_of_ne e with e | e
      · exact (h.r i hi).keep K (.inl (h.mono (show i + 1 ≤ j by omega) (by omega)))
      · exact (h.r i hi).keep K (.inr (h.mono (show j + 1 ≤ i by omega) (by omega)))
theorem Nw.ints (h : Nw w B g n cap L n cs A C Q) (hL : n = L.length) {j : Nat} (hj : j < n) (r c : Int) :
    ∃ cs', Nw ((w.setCell ⟨g, j * 3, none⟩ (.int .i64 r)).setCell ⟨g, j * 3 + 1, none⟩ (.int .i64 c)) B g n cap (L.set j ⟨r, c, (tat L j).xs⟩) n cs' A C Q := by
  have hlen : cs.length = n * 3 := h.own.1
  refine ⟨(cs.set (j * 3) (.int .i64 r)).set (j * 3 + 1) (.int .i64 c), (h.own.stored _ _).1.stored _ _ |>.1, h.low, fun q hq => ?_, fun q hq => ?_, h.qm, by simpa [World.setCell] using h.qn, h.gb⟩
  · rw [tat_set (by omega)]
    obtain ⟨k0, k1, k2⟩ := h.c q hq
    by_cases e : q = j
    · subst e; rw [if_pos rfl]
      refine ⟨?_, ?_, ?_⟩
      · rw [List.getElem?_set_ne (by omega), List.getElem?_set_self (by omega)]
      · rw [List.getElem?_set_self (by simp; omega)]
      · rw [List.getElem?_set_ne (by omega), List.getElem?_set_ne (by omega)]; exact k2
    · rw [if_neg e]
      refine ⟨?_, ?_, ?_⟩ <;> rw [List.getElem?_set_ne (by omega), List.getElem?_set_ne (by omega)] <;> assumption
  · rw [tat_set (by omega)]
    have p1 : g < Q q := Nat.lt_of_lt_of_le h.low (h.mono (Nat.zero_le _) (by omega))
    have t1 := row_set (row_set (h.r q hq) (p := ⟨g, j * 3, none⟩) p1 (.int .i64 r)) (p := ⟨g, j * 3 + 1, none⟩) p1 (.int .i64 c)
    by_cases e : q = j
    · subst e; rw [if_pos rfl]; exact t1
    · rw [if_neg e]; exact t1
end
/-- the number from which tensor j is marked -/
def tj (k : Int) (L : List TD) (j : Nat) : Int := k + 2 * (j : Int) + (tzs L j : Int)
/-- behind the marks of the first j tensors every later one is as it was -/
def Mk (L L' : List TD) (j : Nat) : Prop := L'.length = L.length ∧ ∀ i, j ≤ i → tat L' i = tat L i
theorem tat_self {L : List TD} {j : Nat} (hj : j < L.length) (l : TD) : tat (L.set j l) j = l := by rw [tat_set hj, if_pos rfl]
set_option maxHeartbeats 2000000 in
theorem markTS (g n cap B hi : Nat) (L : List TD) (cs : List Value) (A C Q : Nat → Nat) (k : Int) (w : World) (hn : n ≤ 1048576) (hs : tzs L n ≤ 1048576) (hk : 0 ≤ k ∧ k ≤ 2147483648) (hL : n = L.length) (M : Nw w B g n cap L n cs A C Q) (hQ : Q n ≤ hi) (hg : g < hi) :
    Calls Try.prog 38 #[.slice (some ⟨g, 0, none⟩) n cap, .int .i64 k] w fun e w' => e = .returned (.int .i64 (tj k L n)) ∧ Keep B hi w w' := by
  have HL := Lib.hid hL
  have HM := Lib.hid M
  have hcap := (M.ts hL).cap1
  have hcap2 := (M.ts hL).cap2
  have hB := M.gb
  unfold maxLen at hcap2
  clear hL M
  go_enter Try.func38, Try.ntmps38
  go_wp2
  go_loopw [1, 5] (fun kk i w' => ∃ (j : Nat) (cs' : List Value) (L' : List TD) (q : Int), j ≤ n ∧ i = .int .i64 j ∧ kk = .int .i64 q ∧ Hid (q = tj k L j) ∧ Hid (Mk L L' j) ∧ Hid (Nw w' B g n cap L' n cs' A C Q) ∧ Hid (Keep B hi w w')) (fun _ i _ => n - (intOf i).toNat)
  case atStart => exact ⟨0, cs, L, k, Nat.zero_le _, rfl, rfl, by show _ = _; unfold tj tzs; simp, ⟨rfl, fun _ _ => rfl⟩, HM.out, Keep.refl _ _ _⟩
  case round =>
    obtain ⟨j, cs', Lj, q, hj, rfl, rfl, hq, hMk, hM, hK⟩ := hrel
    by_cases hlt : j < n
    · have hat := tzs_at L hlt
      have hmo := tzs_mono L (show j ≤ n by omega)
      have hq2 := hq.out
      unfold tj at hq2
      have hq0 : 0 ≤ q := by omega
      have hq1 : q ≤ 3000000000 := by omega
      have HX := Lib.hid (hMk.out.2 j (Nat.le_refl _))
      have HLL := Lib.hid (show n = Lj.length by rw [hMk.out.1]; exact HL.out)
      have hnx : (tat Lj j).xs.length ≤ 1048576 := by rw [HX.out]; omega
      have HSQ := Lib.hid (show tj k L (j + 1) = q + 1 + 1 + ((tat Lj j).xs.length : Int) by rw [HX.out, hq.out]; unfold tj; show k + 2 * ((j + 1 : Nat) : Int) + ((tzs L j + (tat L j).xs.length : Nat) : Int) = _; omega)
      clear hq2 hat hmo
      obtain ⟨l, hl⟩ : ∃ l, l = tat Lj j := ⟨_, rfl⟩
      have fz0 := hM.out.own.frozenAt (j * 3)
      have fz1 := hM.out.own.frozenAt (j * 3 + 1)
      obtain ⟨v0, x0⟩ := own_cell3 hM.out.own (q := j * 3) (by omega)
      obtain ⟨v1, x1⟩ := own_cell3 hM.out.own (q := j * 3 + 1) (by omega)
      have x3 := (hM.out.own.cellAt (j * 3 + 2) (by omega)).trans (hM.out.c j hlt).2.2
      obtain ⟨cs3, M3_⟩ := hM.out.ints HLL.out hlt q (q + 1)
      rw [← hl] at hnx x3 M3_
      have HX2 := Lib.hid hl
      have hjl : j < Lj.length := by have := HLL.out; omega
      have M3 := Lib.hid M3_
      clear M3_ hl
      go_wp2_with fail
      clear fz0 fz1 x0 x1 x3
      have R1 := M3.out.r j hlt
      rw [tat_self hjl] at R1
      refine (markF32 _ _ _ _ _ _ (q + 1 + 1) _ hnx (by omega) R1).mono ?_
      rintro e w2 ⟨rfl, R2, K2⟩
      have M4 := Lib.hid (M3.out.row (by rw [List.length_set]; exact HLL.out) hlt K2 (zs := mks (q + 1 + 1) l.xs.length) (by rw [mks_length, tat_self hjl]) (by rw [tat_self hjl]; exact R2))
      have q1 := hM.out.mono (show j + 1 ≤ n by omega) (Nat.le_refl _)
      have q3 := hM.out.mono (Nat.zero_le j) (by omega)
      have q5 := hM.out.low
      have KK := Lib.hid ((keep_put (keep_put hK.out (p := ⟨g, j * 3, none⟩) hB hg (.int .i64 q)) (p := ⟨g, j * 3 + 1, none⟩) hB hg (.int .i64 (q + 1))).trans (keep_wide K2 (by omega) (by omega)))
      have HSQ2 := Lib.hid (show tj k L (j + 1) = q + 1 + 1 + (l.xs.length : Int) by rw [HSQ.out, HX2.out])
      clear R1 R2 K2 q1 q3 q5
      go_wp2
      go_roundw
      case rel =>
        refine ⟨j + 1, cs3, _, _, by omega, by go_num, rfl, (by show _ = _; rw [HSQ2.out]), ?_, M4, KK⟩
        refine ⟨by rw [List.length_set, List.length_set]; exact hMk.out.1, fun i hi => ?_⟩
        rw [tat_set (by rw [List.length_set]; exact hjl), if_neg (by omega), tat_set hjl, if_neg (by omega)]
        exact hMk.out.2 i (by omega)
      case measure => simp [intOf]; omega
    · have e : j = n := by omega
      subst e
      go_wp2
      go_ret
      exact ⟨by rw [hq.out]; rfl, hK.out⟩
/-! ### the argument, opened -/
section
open Go.ChangeShapes Go.WideShapes Go.Deep
variable {H : Type} {enc : TypeId × Value → H} {P : Program} {w : World} {base : Nat} {spare : Nat → Bool} {held : Bool}
theorem open_tensors {r : Reach} {b0 : Nat} {t tl e : TypeId} {f0 f1 f2 : Field} {v : Value} {d : DataW H} {p : List MemPlace} (hs : P.underlying t = some (.slice tl)) (hl : P.underlying tl = some (.struct #[f0, f1, f2])) (honel : Deep.oneCellFields P #[f0, f1, f2] = true) (hCl : P.cellsOf tl = 3)
    (h0 : P.underlying f0.type = some (.int .i64)) (h1 : P.underlying f1.type = some (.int .i64)) (h2 : P.underlying f2.type = some (.slice e)) (he : P.underlying e = some (.float .f32)) (hc : P.cellsOf e = 1)
    (hv : Value.okWide P w r b0 t v) (h : DataW.Trod enc P w base spare held t v d p) :
    ∃ (a : Option Addr) (n cap : Nat) (L : List TD), v = .slice a n cap ∧ Ts w a n cap L := by
  obtain ⟨a, l, c, rfl⟩ := okWide_slice hs hv
  obtain ⟨fuel, hf⟩ := h
  have q0' : DataW.trod enc P w base spare held fuel t [Value.slice a l c] = some (d, p) := by simpa [Value.cells] using hf
  rcases Deep.open_slice hs q0' with ⟨hcs, _⟩ | ⟨x, len, cap, m, k, D, Pl, hcs, _, hle, hm, hmm, _, hxx⟩
  · simp at hcs
    obtain ⟨rfl, rfl, rfl⟩ := hcs
    exact ⟨none, 0, 0, [], rfl, rfl, Nat.le_refl _, Nat.zero_le _, fun j hj => by omega⟩
  · simp at hcs
    obtain ⟨rfl, rfl, rfl⟩ := hcs
    have hlm : l ≤ m := by rw [hmm]; split <;> omega
    have l3 : ∀ {cs : List Value}, cs.length = 3 → ∃ a b c, cs = [a, b, c] := fun {cs} h => by
      match cs, h with
      | [a, b, c], _ => exact ⟨a, b, c, rfl⟩
    have key : ∀ j, j < l → ∃ z : TD, ∃ b o, x = ⟨b, o, none⟩ ∧ Tx w b (o + j * 3) z := by
      intro j hj
      obtain ⟨cs', h1', h2'⟩ := hxx j (by omega)
      rw [hCl] at h1'
      obtain ⟨hA, hlen, hB⟩ := World.cells?_some h1'
      obtain ⟨v0, v1, v2, rfl⟩ := l3 hlen
      obtain ⟨bb, oo, ss⟩ := x
      have e0 : w.cell? ((Addr.mk bb oo ss).add (j * 3 + 0)) = some v0 := by rw [← Deep.add_add]; exact hB 0 (by omega)
      have e1 : w.cell? ((Addr.mk bb oo ss).add (j * 3 + 1)) = some v1 := by rw [← Deep.add_add]; exact hB 1 (by omega)
      have e2 : w.cell? ((Addr.mk bb oo ss).add (j * 3 + 2)) = some v2 := by rw [← Deep.add_add]; exact hB 2 (by omega)
      have hs0 : ss = none := by
        obtain ⟨cs0, h10, -⟩ := hxx 0 (by omega)
        rw [hCl] at h10
        obtain ⟨-, hl0, hB0⟩ := World.cells?_some h10
        obtain ⟨t0, t1, t2, rfl⟩ := l3 hl0
        have ez : w.cell? (((Addr.mk bb oo ss).add (0 * 3)).add 0) = some t0 := hB0 0 (by omega)
        simpa [Addr.add] using World.cell?_spot ez
      subst hs0
      rw [Addr.add_lit] at e0 e1 e2
      obtain ⟨xs, n', _, hx, _, hxl, hff⟩ := DataW.trod_struct hl h2'
      obtain ⟨o0, k0⟩ := hone_of honel 0 f0 rfl
      obtain ⟨o1, k1⟩ := hone_of honel 1 f1 rfl
      obtain ⟨o2, k2⟩ := hone_of honel 2 f2 rfl
      match xs, hxl with
      | [y0, y1, y2], _ =>
        have g0 := hff 0 f0 rfl
        have g1 := hff 1 f1 rfl
        have g2 := hff 2 f2 rfl
        rw [o0, k0] at g0
        rw [o1, k1] at g1
        rw [o2, k2] at g2
        obtain ⟨R, rfl, -⟩ := trod_int h0 (show DataW.trod enc P w base spare held n' f0.type [v0] = some y0 from g0)
        obtain ⟨C, rfl, -⟩ := trod_int h1 (show DataW.trod enc P w base spare held n' f1.type [v1] = some y1 from g1)
        obtain ⟨a1, n1, c1, zs, rfl, fa, -⟩ := trod_floats h2 he hc (show DataW.trod enc P w base spare held n' f2.type [v2] = some y2 from g2)
        have z1 := fa.len
        subst z1
        exact ⟨⟨R, C, zs⟩, bb, oo, rfl, a1, c1, ⟨e0, by rw [Nat.add_assoc]; exact e1, by rw [Nat.add_assoc]; exact e2, World.block_lt_of_cell? w _ e0⟩, fa⟩
    obtain ⟨Z, hZ⟩ := Deep.choose_lt (α := TD) (p := fun j z => ∃ b o, x = ⟨b, o, none⟩ ∧ Tx w b (o + j * 3) z) key
    refine ⟨some x, l, c, (List.range l).map Z, rfl, by simp, hle, hm, fun j hj => ?_⟩
    obtain ⟨b, o, e, hx2⟩ := hZ j hj
    exact ⟨b, o, by rw [e], by rw [show tat ((List.range l).map Z) j = Z j by unfold tat; simp [hj]]; exact hx2⟩
end
end Go.Proofs.Ytoeppdkhncllbaa
