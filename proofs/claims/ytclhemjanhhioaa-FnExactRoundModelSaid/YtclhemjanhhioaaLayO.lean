/- Lists of layers that the call owns: the laws' copies of models, and the marks on them. -/
import Derived.Test.YtclhemjanhhioaaLayS
namespace Go.Proofs.Ytclhemjanhhioaa
open Go.RowKit Go.Fl Go.Reg
theorem infoLay : (Try.prog.info? 27).map (fun i => (i.zero, i.size, i.bytes)) = some (some (.agg #[.int .i64 0, .int .i64 0, .int .i64 0, .slice none 0 0, .slice none 0 0]), 5, 72) := by kernel_rfl
theorem own_below5 {w w' : World} {base : Nat} {e : TypeId} {k : Nat} {v : Value} {n : Nat} {xs : List Value} (h : w.ownsRow base e k v n xs) (hb : Below w.heap.size w w') : w'.ownsRow base e k v n xs := by
  refine ⟨h.1, ?_⟩
  have hl := h.lt
  rcases h.2 with hn | ⟨g, cap, cur, rfl, hbg, hgg, rest⟩
  · exact .inl hn
  · exact .inr ⟨g, cap, cur, rfl, hbg, by rw [hb.block g (hl g rfl).2]; exact hgg, rest⟩
/-- the first j layers lie in a block of their own, each with its two rows in stretches of blocks that follow each other -/
structure Mw (w : World) (B g n cap : Nat) (L : List LD) (j : Nat) (cs : List Value) (A1 A2 : Nat → Option Addr) (C1 C2 Q : Nat → Nat) : Prop where
  own : w.ownsRow B 27 5 (.slice (some ⟨g, 0, none⟩) n cap) n cs
  low : B ≤ Q 0
  c : ∀ i, i < j → cs[i * 5]? = some (.int .i64 (lat L i).k) ∧ cs[i * 5 + 1]? = some (.int .i64 (lat L i).i) ∧ cs[i * 5 + 2]? = some (.int .i64 (lat L i).u) ∧ cs[i * 5 + 3]? = some (.slice (A1 i) (lat L i).xs.length (C1 i)) ∧ cs[i * 5 + 4]? = some (.slice (A2 i) (lat L i).ys.length (C2 i))
  r : ∀ i, i < j → Row w (Q (2 * i)) (Q (2 * i + 1)) 67 (.slice (A1 i) (lat L i).xs.length (C1 i)) (lat L i).xs.length (lat L i).xs ∧ Row w (Q (2 * i + 1)) (Q (2 * i + 2)) 67 (.slice (A2 i) (lat L i).ys.length (C2 i)) (lat L i).ys.length (lat L i).ys
  qm : ∀ i, i < 2 * j → Q i ≤ Q (i + 1)
  qn : Q (2 * j) ≤ w.heap.size
  gq : ∀ i, i < 2 * j → ¬ (Q i ≤ g ∧ g < Q (i + 1))
  gb : g < w.heap.size
  sm : ∀ i, i < j → (∃ p, A1 i = some ⟨p, 0, none⟩) ∧ ∃ p, A2 i = some ⟨p, 0, none⟩
theorem own_cell5 {w : World} {base : Nat} {e : TypeId} {g n cap : Nat} {xs : List Value} (h : w.ownsRow base e 5 (.slice (some ⟨g, 0, none⟩) n cap) n xs) {q : Nat} (hq : q < n * 5) : ∃ v, w.cell? ⟨g, q, none⟩ = some v := by
  rw [h.cellAt q hq, List.getElem?_eq_getElem (by rw [h.1]; exact hq)]
  exact ⟨_, rfl⟩
section
variable {w w' : World} {B g n cap j : Nat} {L : List LD} {cs : List Value} {A1 A2 : Nat → Option Addr} {C1 C2 Q : Nat → Nat}
theorem Mw.below (h : Mw w B g n cap L j cs A1 A2 C1 C2 Q) (hb : Below w.heap.size w w') : Mw w' B g n cap L j cs A1 A2 C1 C2 Q :=
  ⟨own_below5 h.own hb, h.low, h.c, fun i hi => ⟨(h.r i hi).1.below hb, (h.r i hi).2.below hb⟩, h.qm, Nat.le_trans h.qn hb.size, h.gq, Nat.lt_of_lt_of_le h.gb hb.size, h.sm⟩
theorem Mw.mono (h : Mw w B g n cap L j cs A1 A2 C1 C2 Q) {a b : Nat} (hab : a ≤ b) (hb : b ≤ 2 * j) : Q a ≤ Q b := by
  induction b with
  | zero => have : a = 0 := by omega
            subst this; exact Nat.le_refl _
  | succ b ih =>
    by_cases e : a = b + 1
    · subst e; exact Nat.le_refl _
    · exact Nat.le_trans (ih (by omega) (by omega)) (h.qm b (by omega))
/-- what the list reads as -/
theorem Mw.ls (h : Mw w B g n cap L n cs A1 A2 C1 C2 Q) (hl : n = L.length) : Ls w (some ⟨g, 0, none⟩) n cap L := by
  have hcap : n ≤ cap ∧ cap ≤ maxLen := by
    rcases h.own.2 with ⟨e, _⟩ | ⟨g', cap', cur, e, _, _, h1, h2, _⟩
    · cases e
    · injection e with e1 e2 e3; subst e3; exact ⟨h1, h2⟩
  refine ⟨hl, hcap.1, hcap.2, fun i hi => ⟨g, 0, rfl, A1 i, C1 i, A2 i, C2 i, ?_, (h.r i hi).1.fs, (h.r i hi).2.fs⟩⟩
  obtain ⟨k0, k1, k2, k3, k4⟩ := h.c i hi
  rw [Nat.zero_add]
  exact ⟨(h.own.cellAt _ (by omega)).trans k0, (h.own.cellAt _ (by omega)).trans k1, (h.own.cellAt _ (by omega)).trans k2, (h.own.cellAt _ (by omega)).trans k3, (h.own.cellAt _ (by omega)).trans k4, h.gb⟩
end
/-- five cells of a list -/
def put5 (cs : List Value) (p : Nat) (v0 v1 v2 v3 v4 : Value) : List Value := ((((cs.set p v0).set (p + 1) v1).set (p + 2) v2).set (p + 3) v3).set (p + 4) v4
theorem put5_ne {cs : List Value} {p q : Nat} {v0 v1 v2 v3 v4 : Value} (h : q < p ∨ p + 4 < q) : (put5 cs p v0 v1 v2 v3 v4)[q]? = cs[q]? := by
  unfold put5
  rw [List.getElem?_set_ne (by omega), List.getElem?_set_ne (by omega), List.getElem?_set_ne (by omega), List.getElem?_set_ne (by omega), List.getElem?_set_ne (by omega)]
theorem put5_at {cs : List Value} {p : Nat} {v0 v1 v2 v3 v4 : Value} (h : p + 4 < cs.length) : (put5 cs p v0 v1 v2 v3 v4)[p]? = some v0 ∧ (put5 cs p v0 v1 v2 v3 v4)[p + 1]? = some v1 ∧ (put5 cs p v0 v1 v2 v3 v4)[p + 2]? = some v2 ∧ (put5 cs p v0 v1 v2 v3 v4)[p + 3]? = some v3 ∧ (put5 cs p v0 v1 v2 v3 v4)[p + 4]? = some v4 := by
  unfold put5
  refine ⟨?_, ?_, ?_, ?_, ?_⟩
  · rw [List.getElem?_set_ne (by omega), List.getElem?_set_ne (by omega), List.getElem?_set_ne (by omega), List.getElem?_set_ne (by omega), List.getElem?_set_self (by omega)]
  · rw [List.getElem?_set_ne (by omega), List.getElem?_set_ne (by omega), List.getElem?_set_ne (by omega), List.getElem?_set_self (by simp; omega)]
  · rw [List.getElem?_set_ne (by omega), List.getElem?_set_ne (by omega), List.getElem?_set_self (by simp; omega)]
  · rw [List.getElem?_set_ne (by omega), List.getElem?_set_self (by simp; omega)]
  · rw [List.getElem?_set_self (by simp; omega)]
theorem Mw.put {w : World} {B g n cap j : Nat} {L : List LD} {cs : List Value} {A1 A2 : Nat → Option Addr} {C1 C2 Q : Nat → Nat} {z q z' c d : Nat} {a b : Option Addr} (h : Mw w B g n cap L j cs A1 A2 C1 C2 Q) (hj : j < n)
    (R1 : Row w z q 67 (.slice a (lat L j).xs.length c) (lat L j).xs.length (lat L j).xs) (R2 : Row w q z' 67 (.slice b (lat L j).ys.length d) (lat L j).ys.length (lat L j).ys) (hz : Q (2 * j) ≤ z) (hg : g < Q 0) (ha : ∃ p, a = some ⟨p, 0, none⟩) (hb : ∃ p, b = some ⟨p, 0, none⟩) :
    ∃ cs' A1' A2' C1' C2' Q', Q' 0 = Q 0 ∧ Mw (((((w.setCell ⟨g, j * 5, none⟩ (.int .i64 (lat L j).k)).setCell ⟨g, j * 5 + 1, none⟩ (.int .i64 (lat L j).i)).setCell ⟨g, j * 5 + 2, none⟩ (.int .i64 (lat L j).u)).setCell ⟨g, j * 5 + 3, none⟩ (.slice a (lat L j).xs.length c)).setCell ⟨g, j * 5 + 4, none⟩ (.slice b (lat L j).ys.length d)) B g n cap L (j + 1) cs' A1' A2' C1' C2' Q' := by
  have hgq : ∀ i, i ≤ 2 * j → g < Q i := fun i hi => Nat.lt_of_lt_of_le hg (h.mono (Nat.zero_le _) hi)
  have hrs : ∀ {lo hi : Nat} {v : Value} {m : Nat} {xs : List Nat}, Row w lo hi 67 v m xs → g < lo → ∀ (o0 o1 o2 o3 o4 : Nat) (u0 u1 u2 u3 u4 : Value), Row (((((w.setCell ⟨g, o0, none⟩ u0).setCell ⟨g, o1, none⟩ u1).setCell ⟨g, o2, none⟩ u2).setCell ⟨g, o3, none⟩ u3).setCell ⟨g, o4, none⟩ u4) lo hi 67 v m xs :=
    fun R hlo o0 o1 o2 o3 o4 u0 u1 u2 u3 u4 => row_set (row_set (row_set (row_set (row_set R (p := ⟨g, o0, none⟩) hlo u0) (p := ⟨g, o1, none⟩) hlo u1) (p := ⟨g, o2, none⟩) hlo u2) (p := ⟨g, o3, none⟩) hlo u3) (p := ⟨g, o4, none⟩) hlo u4
  have hlen : cs.length = n * 5 := h.own.1
  have hq1 := R1.low
  have hq2 := R2.low
  have hq3 := R2.top
  refine ⟨put5 cs (j * 5) (.int .i64 (lat L j).k) (.int .i64 (lat L j).i) (.int .i64 (lat L j).u) (.slice a (lat L j).xs.length c) (.slice b (lat L j).ys.length d), fun i => if i = j then a else A1 i, fun i => if i = j then b else A2 i, fun i => if i = j then c else C1 i, fun i => if i = j then d else C2 i, fun i => if i ≤ 2 * j then Q i else if i = 2 * j + 1 then q else z', by simp, ?_⟩
  refine ⟨?_, ?_, ?_, ?_, ?_, ?_, ?_, ?_, ?_⟩
  · exact ((((h.own.stored _ _).1.stored _ _).1.stored _ _).1.stored _ _).1.stored _ _ |>.1
  · simp; exact h.low
  · intro i hi
    by_cases e : i = j
    · subst e
      simp only [if_true]
      exact put5_at (by omega)
    · obtain ⟨k0, k1, k2, k3, k4⟩ := h.c i (by omega)
      simp only [if_neg e]
      rw [put5_ne (by omega), put5_ne (by omega), put5_ne (by omega), put5_ne (by omega), put5_ne (by omega)]
      exact ⟨k0, k1, k2, k3, k4⟩
  · intro i hi
    by_cases e : i = j
    · subst e
      simp only [if_true, Nat.le_refl, show ¬ (2 * i + 1 ≤ 2 * i) by omega, show ¬ (2 * i + 2 ≤ 2 * i) by omega, show ¬ (2 * i + 2 = 2 * i + 1) by omega, if_false]
      exact ⟨hrs (R1.down hz) (hgq _ (Nat.le_refl _)) _ _ _ _ _ _ _ _ _ _, hrs R2 (by have := hgq (2 * i) (Nat.le_refl _); omega) _ _ _ _ _ _ _ _ _ _⟩
    · obtain ⟨r1, r2⟩ := h.r i (by omega)
      simp only [if_neg e, show 2 * i ≤ 2 * j by omega, show 2 * i + 1 ≤ 2 * j by omega, show 2 * i + 2 ≤ 2 * j by omega, if_true]
      exact ⟨hrs r1 (hgq _ (by omega)) _ _ _ _ _ _ _ _ _ _, hrs r2 (hgq _ (by omega)) _ _ _ _ _ _ _ _ _ _⟩
  · intro i hi
    show (if i ≤ 2 * j then Q i else if i = 2 * j + 1 then q else z') ≤ (if i + 1 ≤ 2 * j then Q (i + 1) else if i + 1 = 2 * j + 1 then q else z')
    by_cases e1 : i + 1 ≤ 2 * j
    · rw [if_pos (by omega), if_pos e1]; exact h.qm i (by omega)
    · by_cases e2 : i = 2 * j
      · subst e2; rw [if_pos (by omega), if_neg e1, if_pos rfl]; omega
      · rw [if_neg (by omega), if_pos (by omega), if_neg e1, if_neg (by omega)]; omega
  · show (if 2 * (j + 1) ≤ 2 * j then _ else if 2 * (j + 1) = 2 * j + 1 then _ else z') ≤ _
    rw [if_neg (by omega), if_neg (by omega)]
    simpa [World.setCell] using hq3
  · intro i hi
    show ¬ ((if i ≤ 2 * j then Q i else if i = 2 * j + 1 then q else z') ≤ g ∧ _)
    rintro ⟨hle, -⟩
    have := hgq (2 * j) (Nat.le_refl _)
    by_cases e1 : i ≤ 2 * j
    · rw [if_pos e1] at hle; have := hgq i e1; omega
    · rw [if_neg e1, if_pos (by omega)] at hle; omega
  · simpa [World.setCell] using h.gb
  · intro i hi
    by_cases e : i = j
    · subst e; simp only [if_true]; exact ⟨ha, hb⟩
    · simp only [if_neg e]; exact h.sm i (by omega)
theorem bset {B : Nat} {w w' : World} {p : Addr} (h : Below B w w') (hp : B ≤ p.block) (u : Value) : Below B w (w'.setCell p u) := h.setCell hp u
set_option maxHeartbeats 2000000 in
theorem toLS (a : Option Addr) (n cap : Nat) (L : List LD) (w : World) (hn : n ≤ 1048576) (hs : szs L n ≤ 1048576) (h : Ls w a n cap L) :
    Calls Try.prog 39 #[.slice a n cap] w fun e w' => ∃ g cs A1 A2 C1 C2 Q, e = .returned (.slice (some ⟨g, 0, none⟩) n n) ∧ Mw w' w.heap.size g n n L n cs A1 A2 C1 C2 Q ∧ Below w.heap.size w w' := by
  obtain ⟨i0, hi, hz0, hz1, hz2⟩ := info_parts infoLay
  have H := Lib.hid h
  clear h
  go_enter Try.func39, Try.ntmps39
  go_wp2_with (at_make; refine wpList_make_full _ rfl _ _ 36 rfl w.heap.size 27 i0 (.agg #[.int .i64 0, .int .i64 0, .int .i64 0, .slice none 0 0, .slice none 0 0]) 5 Try.underlying36 hi hz0 hz1 _ _ _ _ n rfl rfl rfl rfl (by rw [hz2]; omega) (by unfold maxLen; omega) (Nat.le_refl _) ?_)
  intro w1 hown hgr
  have hb1 := bel_grown hgr
  have hg1 : w.heap.size < w1.heap.size := (hown.lt w.heap.size rfl).2
  have HO := Lib.hid hown
  have HB := Lib.hid hb1
  clear hown hb1 hgr hi hz0 hz1 hz2
  generalize (madeCells _ _).toList = cs0 at *
  go_wp2
  go_loopw [4] (fun i w' => ∃ (j : Nat) (cs : List Value) (A1 A2 : Nat → Option Addr) (C1 C2 Q : Nat → Nat), j ≤ n ∧ i = .int .i64 j ∧ Hid (Mw w' w.heap.size w.heap.size n n L j cs A1 A2 C1 C2 Q) ∧ Hid (w.heap.size < Q 0) ∧ Hid (Below w.heap.size w w')) (fun i _ => n - (intOf i).toNat)
  case atStart => exact ⟨0, cs0, fun _ => none, fun _ => none, fun _ => 0, fun _ => 0, fun _ => w1.heap.size, Nat.zero_le _, rfl, ⟨HO.out, by show _ ≤ w1.heap.size; omega, fun i hi => by omega, fun i hi => by omega, fun i hi => by omega, Nat.le_refl _, fun i hi => by omega, hg1, fun i hi => by omega⟩, hg1, HB.out⟩
  case round =>
    obtain ⟨j, cs, A1, A2, C1, C2, Q, hj, rfl, hM, hQ0, hB⟩ := hrel
    by_cases hlt : j < n
    · obtain ⟨b, o, rfl, a1, c1, a2, c2, QL, F1, F2⟩ := (H.out.below hB.out).cell j hlt
      have hat := szs_at L hlt
      have hx : (lat L j).xs.length ≤ 1048576 := by omega
      have hy : (lat L j).ys.length ≤ 1048576 := by omega
      have G1 := Lib.hid F1
      have G2 := Lib.hid F2
      clear F1 F2 hat
      obtain ⟨q0, q1, q2, q3, q4, q5⟩ := QL
      go_wp2_with fail
      clear q0 q1 q2 q3 q4 q5
      refine (toLay _ _ _ _ _ _ _ _ _ _ _ _ hx hy G1.out G2.out).mono ?_
      rintro e w2 ⟨g1, g2, q, rfl, R1, R2, A⟩
      have M2 := Lib.hid (hM.out.below A)
      have HR1 := Lib.hid R1
      have HR2 := Lib.hid R2
      have HA := Lib.hid A
      clear A R1 R2 G1 G2
      have fz0 := M2.out.own.frozenAt (j * 5)
      have fz1 := M2.out.own.frozenAt (j * 5 + 1)
      have fz2 := M2.out.own.frozenAt (j * 5 + 2)
      have fz3 := M2.out.own.frozenAt (j * 5 + 3)
      have fz4 := M2.out.own.frozenAt (j * 5 + 4)
      obtain ⟨v0, x0⟩ := own_cell5 M2.out.own (q := j * 5) (by omega)
      obtain ⟨v1, x1⟩ := own_cell5 M2.out.own (q := j * 5 + 1) (by omega)
      obtain ⟨v2, x2⟩ := own_cell5 M2.out.own (q := j * 5 + 2) (by omega)
      obtain ⟨v3, x3⟩ := own_cell5 M2.out.own (q := j * 5 + 3) (by omega)
      obtain ⟨v4, x4⟩ := own_cell5 M2.out.own (q := j * 5 + 4) (by omega)
      go_wp2
      go_roundw
      case rel =>
        obtain ⟨cs', A1', A2', C1', C2', Q', hQ, hM'⟩ := M2.out.put hlt HR1.out HR2.out (by have := hM.out.qn; exact this) hQ0.out ⟨_, rfl⟩ ⟨_, rfl⟩
        exact ⟨j + 1, cs', A1', A2', C1', C2', Q', by omega, by go_num, hM', (by show _ < Q' 0; rw [hQ]; exact hQ0.out), bset (bset (bset (bset (bset (hB.out.trans (HA.out.mono hB.out.size)) (Nat.le_refl _) _) (Nat.le_refl _) _) (Nat.le_refl _) _) (Nat.le_refl _) _) (Nat.le_refl _) _⟩
      case measure => simp [intOf]; omega
    · have e : j = n := by omega
      subst e
      go_wp2
      go_ret
      exact ⟨_, cs, A1, A2, C1, C2, Q, rfl, hM.out, hB.out⟩
theorem own_set5 {w : World} {base : Nat} {e : TypeId} {v : Value} {n : Nat} {xs : List Value} (h : w.ownsRow base e 5 v n xs) {p : Addr} (hp : p.block < base) (u : Value) : (w.setCell p u).ownsRow base e 5 v n xs :=
  h.kept (row := some p.block) ⟨rfl, rfl, rfl, by simp [World.setCell], fun k hk hr => Below.heap_setCell _ _ _ _ (by simpa using hr)⟩ (by right; intro e'; have := h.lt p.block e'; omega)
theorem own_base5 {w : World} {base base' : Nat} {e : TypeId} {v : Value} {n : Nat} {xs : List Value} (h : w.ownsRow base e 5 v n xs) (hb : base' ≤ base) : w.ownsRow base' e 5 v n xs := by
  refine ⟨h.1, ?_⟩
  rcases h.2 with hn | ⟨g, cap, cur, rfl, hbg, rest⟩
  · exact .inl hn
  · exact .inr ⟨g, cap, cur, rfl, by omega, rest⟩
theorem Mw.set {w : World} {B g n cap j : Nat} {L : List LD} {cs : List Value} {A1 A2 : Nat → Option Addr} {C1 C2 Q : Nat → Nat} (h : Mw w B g n cap L j cs A1 A2 C1 C2 Q) {p : Addr} (hp : p.block < B) (u : Value) : Mw (w.setCell p u) B g n cap L j cs A1 A2 C1 C2 Q :=
  ⟨own_set5 h.own hp u, h.low, h.c, fun i hi => ⟨row_set (h.r i hi).1 (by have := h.mono (Nat.zero_le (2 * i)) (by omega); have := h.low; omega) u, row_set (h.r i hi).2 (by have := h.mono (Nat.zero_le (2 * i + 1)) (by omega); have := h.low; omega) u⟩, h.qm, by simpa [World.setCell] using h.qn, h.gq, by simpa [World.setCell] using h.gb, h.sm⟩
theorem Mw.down {w : World} {B B' g n cap j : Nat} {L : List LD} {cs : List Value} {A1 A2 : Nat → Option Addr} {C1 C2 Q : Nat → Nat} (h : Mw w B g n cap L j cs A1 A2 C1 C2 Q) (hb : B' ≤ B) : Mw w B' g n cap L j cs A1 A2 C1 C2 Q :=
  ⟨own_base5 h.own hb, Nat.le_trans hb h.low, h.c, h.r, h.qm, h.qn, h.gq, h.gb, h.sm⟩
theorem toMod (a : Option Addr) (n cap : Nat) (L : List LD) (w : World) (hn : n ≤ 1048576) (hs : szs L n ≤ 1048576) (h : Ls w a n cap L) :
    Calls Try.prog 16 #[.agg #[.slice a n cap]] w fun e w' => ∃ g cs A1 A2 C1 C2 Q, e = .returned (.agg #[.slice (some ⟨g, 0, none⟩) n n]) ∧ Mw w' w.heap.size g n n L n cs A1 A2 C1 C2 Q ∧ Below w.heap.size w w' := by
  go_enter Try.func16, Try.ntmps16
  go_wp2_with fail
  refine (toLS _ _ _ _ _ hn hs (h.below ((((Below.refl _ _).alloc (Nat.le_refl _) _).alloc (by simp) _).alloc (by simp; omega) _))).mono ?_
  rintro e w1 ⟨g, cs, A1, A2, C1, C2, Q, rfl, M, bel⟩
  obtain ⟨hc, hf⟩ := bcell bel
  have hz : w.heap.size + 2 < w1.heap.size := by have := bel.size; simp at this; omega
  have hz1 : w.heap.size + 1 < w1.heap.size := by omega
  have hz0 : w.heap.size < w1.heap.size := by omega
  have OM := Lib.hid M
  have BE := Lib.hid bel
  clear M bel
  go_wp2_with fail
  refine bodyPost_ret (v := .agg #[.slice (some ⟨g, 0, none⟩) n n]) (by simp [results, Try.results16, go_sem, hc]) rfl ⟨g, cs, A1, A2, C1, C2, Q, rfl, ?_, ?_⟩
  · exact ((OM.out.set (by simp) _).set (by simp <;> omega) _).down (by simp <;> omega)
  · refine ((Below.trans ?_ (BE.out.mono (by simp; omega))).setCell (by simp; omega) _).setCell (by simp) _
    exact (((Below.refl _ _).alloc (Nat.le_refl _) _).alloc (by simp) _).alloc (by simp; omega) _
theorem eqMod (a b : Option Addr) (n c1 c2 : Nat) (L L' : List LD) (w : World) (hn : n ≤ 1048576) (hs : szs L n ≤ 1048576) (h1 : Ls w a n c1 L) (h2 : Ls w b n c2 L') (he : ∀ j, j < n → LEq (lat L j) (lat L' j)) :
    Calls Try.prog 18 #[.agg #[.slice a n c1], .agg #[.slice b n c2]] w fun e w' => e = .returned (.bool true) ∧ Below w.heap.size w w' := by
  go_enter Try.func18, Try.ntmps18
  go_wp2_with fail
  refine calls_at ?_
  intro w1 hA
  have A : Below w.heap.size w w1 := by rw [hA]; exact ((Below.refl _ _).alloc (Nat.le_refl _) _).alloc (by simp) _
  clear hA
  refine (eqLS _ _ _ _ _ _ _ _ hn hs (h1.below A) (h2.below A) he).mono ?_
  rintro e w2 ⟨rfl, B⟩
  go_wp2_with fail
  go_ret
  exact ⟨rfl, A.trans (B.mono A.size)⟩
theorem szMod (a : Option Addr) (n cap : Nat) (L : List LD) (left : Int) (w : World) (hl : left ≤ 1048576) (hl0 : 0 ≤ left) (h : Ls w a n cap L) :
    Calls Try.prog 14 #[.agg #[.slice a n cap], .int .i64 left] w fun e w' => ∃ r, e = .returned (.int .i64 r) ∧ ((n : Int) + szs L n ≤ left → r = left - n - szs L n) ∧ (left < (n : Int) + szs L n → r = -1) ∧ Below w.heap.size w w' := by
  go_enter Try.func14, Try.ntmps14
  go_wp2_with fail
  refine calls_at ?_
  intro w1 hA
  have A : Below w.heap.size w w1 := by rw [hA]; exact (Below.refl _ _).alloc (Nat.le_refl _) _
  clear hA
  refine (szLS _ _ _ _ _ _ hl hl0 (h.below A)).mono ?_
  rintro e w2 ⟨r, rfl, k1, k2, B⟩
  by_cases hs : (n : Int) + szs L n ≤ left
  · have e1 := k1 hs
    have hr : 0 ≤ r := by omega
    have K := Lib.hid e1
    have HS := Lib.hid hs
    clear k1 k2 e1 hs
    go_wp2
    go_ret
    exact ⟨r, rfl, fun _ => K.out, fun h => by have := HS.out; omega, A.trans (B.mono A.size)⟩
  · have e1 := k2 (by omega)
    subst e1
    have HS := Lib.hid hs
    clear k1 k2 hs
    go_wp2
    go_ret
    exact ⟨-1, rfl, fun h => by have := HS.out; omega, fun _ => rfl, A.trans (B.mono A.size)⟩
/-- a slice of layers whose rows are none of them nil -/
structure Lz (w : World) (a : Option Addr) (n cap : Nat) (L : List LD) : Prop where
  ls : Ls w a n cap L
  cell : ∀ j, j < n → ∃ b o, a = some ⟨b, o, none⟩ ∧ ∃ b1 o1 c1 b2 o2 c2, Lb w b (o + j * 5) (lat L j).k (lat L j).i (lat L j).u (some ⟨b1, o1, none⟩) (lat L j).xs.length c1 (some ⟨b2, o2, none⟩) (lat L j).ys.length c2 ∧ Fs w (some ⟨b1, o1, none⟩) (lat L j).xs.length c1 (lat L j).xs ∧ Fs w (some ⟨b2, o2, none⟩) (lat L j).ys.length c2 (lat L j).ys
theorem Lz.below {w w' : World} {a : Option Addr} {n cap : Nat} {L : List LD} (h : Lz w a n cap L) (hb : Below w.heap.size w w') : Lz w' a n cap L :=
  ⟨h.ls.below hb, fun j hj => by obtain ⟨b, o, e, b1, o1, c1, b2, o2, c2, x, y, z⟩ := h.cell j hj; exact ⟨b, o, e, b1, o1, c1, b2, o2, c2, x.below hb, y.below hb, z.below hb⟩⟩
theorem Mw.lz {w : World} {B g n cap : Nat} {L : List LD} {cs : List Value} {A1 A2 : Nat → Option Addr} {C1 C2 Q : Nat → Nat} (h : Mw w B g n cap L n cs A1 A2 C1 C2 Q) (hl : n = L.length) : Lz w (some ⟨g, 0, none⟩) n cap L := by
  refine ⟨h.ls hl, fun i hi => ?_⟩
  obtain ⟨⟨p, hp⟩, ⟨q, hq⟩⟩ := h.sm i hi
  obtain ⟨k0, k1, k2, k3, k4⟩ := h.c i hi
  obtain ⟨r1, r2⟩ := h.r i hi
  rw [hp] at k3 r1
  rw [hq] at k4 r2
  refine ⟨g, 0, rfl, p, 0, C1 i, q, 0, C2 i, ?_, r1.fs, r2.fs⟩
  rw [Nat.zero_add]
  exact ⟨(h.own.cellAt _ (by omega)).trans k0, (h.own.cellAt _ (by omega)).trans k1, (h.own.cellAt _ (by omega)).trans k2, (h.own.cellAt _ (by omega)).trans k3, (h.own.cellAt _ (by omega)).trans k4, h.gb⟩
end Go.Proofs.Ytclhemjanhhioaa
