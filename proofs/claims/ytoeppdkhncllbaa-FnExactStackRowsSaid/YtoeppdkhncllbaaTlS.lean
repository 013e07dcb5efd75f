/- Lists of tensors: the laws' helpers on them. -/
import Derived.Test.YtoeppdkhncllbaaTens
import Derived.Test.YtoeppdkhncllbaaAcc
import Derived.Test.YtoeppdkhncllbaaOpen
namespace Go.Proofs.Ytoeppdkhncllbaa
open Go.RowKit Go.Fl Go.Reg
/-- a tensor's data -/
structure TD where
  r : Int
  c : Int
  xs : List Nat
deriving Inhabited
def tat (L : List TD) (j : Nat) : TD := L[j]?.getD default
structure Tb (w : World) (b o : Nat) (r c : Int) (a : Option Addr) (n cap : Nat) : Prop where
  c0 : w.cell? ⟨b, o, none⟩ = some (.int .i64 r)
  c1 : w.cell? ⟨b, o + 1, none⟩ = some (.int .i64 c)
  c2 : w.cell? ⟨b, o + 2, none⟩ = some (.slice a n cap)
  lt : b < w.heap.size
theorem Tb.below {w w' : World} {b o : Nat} {r c : Int} {a : Option Addr} {n cap : Nat} (h : Tb w b o r c a n cap) (hb : Below w.heap.size w w') : Tb w' b o r c a n cap :=
  ⟨(hb.cell (p := ⟨b, o, none⟩) h.lt).trans h.c0, (hb.cell (p := ⟨b, o + 1, none⟩) h.lt).trans h.c1, (hb.cell (p := ⟨b, o + 2, none⟩) h.lt).trans h.c2, Nat.lt_of_lt_of_le h.lt hb.size⟩
def Tx (w : World) (b o : Nat) (l : TD) : Prop := ∃ a1 c1, Tb w b o l.r l.c a1 l.xs.length c1 ∧ Fs w a1 l.xs.length c1 l.xs
theorem Tx.below {w w' : World} {b o : Nat} {l : TD} (h : Tx w b o l) (hb : Below w.heap.size w w') : Tx w' b o l := by
  obtain ⟨a1, c1, h1, h2⟩ := h
  exact ⟨a1, c1, h1.below hb, h2.below hb⟩
/-- a slice of tensors that is read -/
structure Ts (w : World) (a : Option Addr) (n cap : Nat) (L : List TD) : Prop where
  len : n = L.length
  cap1 : n ≤ cap
  cap2 : cap ≤ maxLen
  cell : ∀ j, j < n → ∃ b o, a = some ⟨b, o, none⟩ ∧ Tx w b (o + j * 3) (tat L j)
theorem Ts.below {w w' : World} {a : Option Addr} {n cap : Nat} {L : List TD} (h : Ts w a n cap L) (hb : Below w.heap.size w w') : Ts w' a n cap L :=
  ⟨h.len, h.cap1, h.cap2, fun j hj => by obtain ⟨b, o, e, hx⟩ := h.cell j hj; exact ⟨b, o, e, hx.below hb⟩⟩
theorem Ts.drew {w : World} {a : Option Addr} {n cap : Nat} {L : List TD} (h : Ts w a n cap L) (m : Nat) : Ts (w.drewN m) a n cap L := h.below (bdrew (Below.refl _ _) _)
/-- how many numbers the first j tensors have -/
def tzs (L : List TD) : Nat → Nat
  | 0 => 0
  | j + 1 => tzs L j + (tat L j).xs.length
theorem tzs_mono (L : List TD) {a b : Nat} (h : a ≤ b) : tzs L a ≤ tzs L b := by
  induction b with
  | zero => have : a = 0 := by omega
            subst this; exact Nat.le_refl _
  | succ b ih =>
    by_cases e : a = b + 1
    · subst e; exact Nat.le_refl _
    · have := ih (by omega)
      show _ ≤ tzs L b + _
      omega
theorem tzs_at (L : List TD) {j n : Nat} (h : j < n) : (tat L j).xs.length ≤ tzs L n := by
  have := tzs_mono L (show j + 1 ≤ n by omega)
  have e : tzs L (j + 1) = tzs L j + (tat L j).xs.length := rfl
  omega
set_option maxHeartbeats 1000000 in
theorem szTS (a : Option Addr) (n cap : Nat) (L : List TD) (left : Int) (w : World) (hl : left ≤ 1048576) (hl0 : 0 ≤ left) (h : Ts w a n cap L) :
    Calls Try.prog 33 #[.slice a n cap, .int .i64 left] w fun e w' => ∃ r, e = .returned (.int .i64 r) ∧ ((n : Int) + tzs L n ≤ left → r = left - n - tzs L n) ∧ (left < (n : Int) + tzs L n → r = -1) ∧ Below w.heap.size w w' := by
  have hc1 := h.cap1
  have hc2 := h.cap2
  unfold maxLen at hc2
  have H := Lib.hid h
  clear h
  by_cases hb : left < (n : Int)
  · go_enter Try.func33, Try.ntmps33
    go_wp2
    go_ret
    exact ⟨-1, rfl, fun h => by omega, fun _ => rfl, Below.refl _ _⟩
  · go_enter Try.func33, Try.ntmps33
    go_wp2
    go_loopw [1, 5] (fun lf i w' => ∃ (j : Nat) (q : Int), j ≤ n ∧ i = .int .i64 j ∧ lf = .int .i64 q ∧ Hid (q = left - n - tzs L j) ∧ 0 ≤ q ∧ q ≤ 1048576 ∧ Hid (Below w.heap.size w w')) (fun _ i _ => n - (intOf i).toNat)
    case atStart => exact ⟨0, _, Nat.zero_le _, rfl, rfl, by show _ = _; simp [tzs], by omega, by omega, Below.refl _ _⟩
    case round =>
      obtain ⟨j, q, hj, rfl, rfl, hq, hq0, hq1, hB⟩ := hrel
      by_cases hlt : j < n
      · obtain ⟨b, o, rfl, a1, c1, Q, F1⟩ := (H.out.below hB.out).cell j hlt
        obtain ⟨q0, q1, q2, q5⟩ := Q
        have es : tzs L (j + 1) = tzs L j + (tat L j).xs.length := rfl
        have hmo := tzs_mono L (show j + 1 ≤ n by omega)
        have f1 := Nat.le_trans F1.cap1 F1.cap2
        have G1 := Lib.hid f1
        clear f1 F1
        by_cases hs : (((tat L j).xs.length : Nat) : Int) ≤ q
        · have ES := Lib.hid es
          clear es hmo
          go_wp2_with fail
          refine (szYes _ _ _ _ _ _ _ hq1 hs).mono ?_
          rintro e w1 ⟨rfl, A⟩
          have HA := Lib.hid (hB.out.trans (A.mono hB.out.size))
          clear A q0 q1 q2 q5
          have hr0 : 0 ≤ q - ((tat L j).xs.length : Int) := by omega
          obtain ⟨r, hr⟩ : ∃ r, r = q - ((tat L j).xs.length : Int) := ⟨_, rfl⟩
          rw [← hr] at hr0 ⊢
          have HR := Lib.hid hr
          clear hr hs
          go_wp2
          go_roundw
          case rel => exact ⟨j + 1, r, by omega, by go_num, rfl, (by have := ES.out; have := hq.out; have := HR.out; show _ = _; omega), hr0, (by have := HR.out; omega), HA⟩
          case measure => simp [intOf]; omega
        · have HES := Lib.hid es
          have HMO := Lib.hid hmo
          clear es hmo
          go_wp2_with fail
          refine (szNo _ _ _ _ _ _ _ G1.out hq0 (by omega)).mono ?_
          rintro e w1 ⟨rfl, A⟩
          have HA := Lib.hid (hB.out.trans (A.mono hB.out.size))
          clear A q0 q1 q2 q5
          have HS := Lib.hid hs
          clear hs
          go_wp2
          go_ret
          exact ⟨-1, rfl, fun h => by have := HS.out; have := HES.out; have := HMO.out; have := hq.out; omega, fun _ => rfl, HA.out⟩
      · have e : j = n := by omega
        subst e
        go_wp2
        go_ret
        exact ⟨q, rfl, fun _ => hq.out, fun h => by have := hq.out; omega, hB.out⟩
set_option maxHeartbeats 1000000 in
theorem eqTS (a b : Option Addr) (n c1 c2 : Nat) (L : List TD) (w : World) (hs : tzs L n ≤ 1048576) (h1 : Ts w a n c1 L) (h2 : Ts w b n c2 L) :
    Calls Try.prog 37 #[.slice a n c1, .slice b n c2] w fun e w' => e = .returned (.bool true) ∧ Below w.heap.size w w' := by
  have H1 := Lib.hid h1
  have H2 := Lib.hid h2
  have hk1 := h1.cap1
  have hk2 := h1.cap2
  unfold maxLen at hk2
  clear h1 h2
  go_enter Try.func37, Try.ntmps37
  go_wp2
  go_loopw [5] (fun i w' => ∃ j : Nat, j ≤ n ∧ i = .int .i64 j ∧ Hid (Below w.heap.size w w')) (fun i _ => n - (intOf i).toNat)
  case atStart => exact ⟨0, Nat.zero_le _, rfl, Below.refl _ _⟩
  case round =>
    obtain ⟨j, hj, rfl, hB⟩ := hrel
    by_cases hlt : j < n
    · obtain ⟨b1, o1, rfl, a1, d1, Q, F1⟩ := (H1.out.below hB.out).cell j hlt
      obtain ⟨b2, o2, rfl, a3, d3, Q', F3⟩ := (H2.out.below hB.out).cell j hlt
      have hx := Nat.le_trans (tzs_at L hlt) hs
      have HQ := Lib.hid Q
      have HQ' := Lib.hid Q'
      have G1 := Lib.hid F1
      have G3 := Lib.hid F3
      clear Q Q' F1 F3
      go_wp2_with fail
      refine wp_bl 9 [0, 0, 0, 0, 0, 0, 0, 0, 2, 0] (by kernel_rfl) (by kernel_rfl) ?_
      simp only [List.take_succ_cons, List.take_zero, List.drop_succ_cons, List.drop_zero]
      with_reducible refine bl_step ?_
      intro K hK
      go_simp
      first
        | (refine hK _ _ ?_)
        | (refine ⟨?_, fun w' hw' => ?_, hK _ _ ?_⟩
           rotate_left
           · obtain ⟨q0, q1, q2, q5⟩ := HQ.out.below hw'
             obtain ⟨p0, p1, p2, p5⟩ := HQ'.out.below hw'
             go_simp
             rfl
           go_simp)
      clear hK K
      with_reducible refine bl_step ?_
      intro K hK
      go_simp
      first
        | (refine hK _ _ ?_)
        | (refine ⟨?_, fun w' hw' => ?_, hK _ _ ?_⟩
           rotate_left
           · obtain ⟨q0, q1, q2, q5⟩ := HQ.out.below hw'
             obtain ⟨p0, p1, p2, p5⟩ := HQ'.out.below hw'
             go_simp
             rfl
           go_simp)
      clear hK K
      with_reducible refine bl_step ?_
      intro K hK
      go_simp
      first
        | (refine hK _ _ ?_)
        | (refine ⟨?_, fun w' hw' => ?_, hK _ _ ?_⟩
           rotate_left
           · obtain ⟨q0, q1, q2, q5⟩ := HQ.out.below hw'
             obtain ⟨p0, p1, p2, p5⟩ := HQ'.out.below hw'
             go_simp
             rfl
           go_simp)
      clear hK K
      with_reducible refine bl_step ?_
      intro K hK
      go_simp
      first
        | (refine hK _ _ ?_)
        | (refine ⟨?_, fun w' hw' => ?_, hK _ _ ?_⟩
           rotate_left
           · obtain ⟨q0, q1, q2, q5⟩ := HQ.out.below hw'
             obtain ⟨p0, p1, p2, p5⟩ := HQ'.out.below hw'
             go_simp
             rfl
           go_simp)
      clear hK K
      with_reducible refine bl_step ?_
      intro K hK
      go_simp
      first
        | (refine hK _ _ ?_)
        | (refine ⟨?_, fun w' hw' => ?_, hK _ _ ?_⟩
           rotate_left
           · obtain ⟨q0, q1, q2, q5⟩ := HQ.out.below hw'
             obtain ⟨p0, p1, p2, p5⟩ := HQ'.out.below hw'
             go_simp
             rfl
           go_simp)
      clear hK K
      with_reducible refine bl_step ?_
      intro K hK
      go_simp
      first
        | (refine hK _ _ ?_)
        | (refine ⟨?_, fun w' hw' => ?_, hK _ _ ?_⟩
           rotate_left
           · obtain ⟨q0, q1, q2, q5⟩ := HQ.out.below hw'
             obtain ⟨p0, p1, p2, p5⟩ := HQ'.out.below hw'
             go_simp
             rfl
           go_simp)
      clear hK K
      with_reducible refine bl_step ?_
      intro K hK
      go_simp
      first
        | (refine hK _ _ ?_)
        | (refine ⟨?_, fun w' hw' => ?_, hK _ _ ?_⟩
           rotate_left
           · obtain ⟨q0, q1, q2, q5⟩ := HQ.out.below hw'
             obtain ⟨p0, p1, p2, p5⟩ := HQ'.out.below hw'
             go_simp
             rfl
           go_simp)
      clear hK K
      with_reducible refine bl_step ?_
      intro K hK
      go_simp
      first
        | (refine hK _ _ ?_)
        | (refine ⟨?_, fun w' hw' => ?_, hK _ _ ?_⟩
           rotate_left
           · obtain ⟨q0, q1, q2, q5⟩ := HQ.out.below hw'
             obtain ⟨p0, p1, p2, p5⟩ := HQ'.out.below hw'
             go_simp
             rfl
           go_simp)
      clear hK K
      with_reducible refine bl_step ?_
      intro K hK
      go_simp
      intro _
      refine (eqTens _ _ _ _ _ _ _ _ _ _ hx (G1.out.drew _) (G3.out.drew _) rfl).mono ?_
      rintro e w8 ⟨rfl, A0⟩
      have A := Lib.hid ((bdrew (Below.refl _ _) _).trans A0)
      clear A0
      refine ⟨_, rfl, A.out, hK _ _ ?_⟩
      clear hK K
      with_reducible refine wpR_nil (fun nq => ?_)
      go_wp2
      go_roundw
      case rel => exact ⟨j + 1, by omega, by go_num, hB.out.trans ((bdrew A.out _).mono hB.out.size)⟩
      case measure => simp [intOf]; omega
    · go_wp2
      go_ret
      exact ⟨rfl, hB.out⟩
theorem infoTen : (Try.prog.info? 26).map (fun i => (i.zero, i.size, i.bytes)) = some (some (.agg #[.int .i64 0, .int .i64 0, .slice none 0 0]), 3, 40) := by kernel_rfl
theorem own_below3 {w w' : World} {base : Nat} {e : TypeId} {k : Nat} {v : Value} {n : Nat} {xs : List Value} (h : w.ownsRow base e k v n xs) (hb : Below w.heap.size w w') : w'.ownsRow base e k v n xs := by
  refine ⟨h.1, ?_⟩
  have hl := h.lt
  rcases h.2 with hn | ⟨g, cap, cur, rfl, hbg, hgg, rest⟩
  · exact .inl hn
  · exact .inr ⟨g, cap, cur, rfl, hbg, by rw [hb.block g (hl g rfl).2]; exact hgg, rest⟩
theorem row_set {w : World} {lo hi : Nat} {t : TypeId} {v : Value} {n : Nat} {xs : List Nat} (h : Row w lo hi t v n xs) {p : Addr} (hp : p.block < lo) (u : Value) : Row (w.setCell p u) lo hi t v n xs :=
  ⟨own_set h.own hp u, h.low, by simpa [World.setCell] using h.top, h.lt⟩
/-- the first j tensors lie in a block of their own, each with its row in a stretch of blocks; the stretches follow each other -/
structure Nw (w : World) (B g n cap : Nat) (L : List TD) (j : Nat) (cs : List Value) (A : Nat → Nat) (C Q : Nat → Nat) : Prop where
  own : w.ownsRow B 26 3 (.slice (some ⟨g, 0, none⟩) n cap) n cs
  low : g < Q 0
  c : ∀ i, i < j → cs[i * 3]? = some (.int .i64 (tat L i).r) ∧ cs[i * 3 + 1]? = some (.int .i64 (tat L i).c) ∧ cs[i * 3 + 2]? = some (.slice (some ⟨A i, 0, none⟩) (tat L i).xs.length (C i))
  r : ∀ i, i < j → Row w (Q i) (Q (i + 1)) 33 (.slice (some ⟨A i, 0, none⟩) (tat L i).xs.length (C i)) (tat L i).xs.length (tat L i).xs
  qm : ∀ i, i < j → Q i ≤ Q (i + 1)
  qn : Q j ≤ w.heap.size
  gb : B ≤ g
section
variable {w w' : World} {B g n cap j : Nat} {L : List TD} {cs : List Value} {A C Q : Nat → Nat}
theorem Nw.below (h : Nw w B g n cap L j cs A C Q) (hb : Below w.heap.size w w') : Nw w' B g n cap L j cs A C Q :=
  ⟨own_below3 h.own hb, h.low, h.c, fun i hi => (h.r i hi).below hb, h.qm, Nat.le_trans h.qn hb.size, h.gb⟩
theorem Nw.mono (h : Nw w B g n cap L j cs A C Q) {a b : Nat} (hab : a ≤ b) (hb : b ≤ j) : Q a ≤ Q b := by
  induction b with
  | zero => have : a = 0 := by omega
            subst this; exact Nat.le_refl _
  | succ b ih =>
    by_cases e : a = b + 1
    · subst e; exact Nat.le_refl _
    · exact Nat.le_trans (ih (by omega) (by omega)) (h.qm b (by omega))
theorem Nw.glt (h : Nw w B g n cap L j cs A C Q) : g < w.heap.size := (h.own.lt g rfl).2
/-- what the list reads as; no row is nil -/
theorem Nw.at (h : Nw w B g n cap L n cs A C Q) {i : Nat} (hi : i < n) : Tb w g (0 + i * 3) (tat L i).r (tat L i).c (some ⟨A i, 0, none⟩) (tat L i).xs.length (C i) ∧ Fs w (some ⟨A i, 0, none⟩) (tat L i).xs.length (C i) (tat L i).xs := by
  obtain ⟨k0, k1, k2⟩ := h.c i hi
  rw [Nat.zero_add]
  exact ⟨⟨(h.own.cellAt _ (by omega)).trans k0, (h.own.cellAt _ (by omega)).trans k1, (h.own.cellAt _ (by omega)).trans k2, h.glt⟩, (h.r i hi).fs⟩
theorem Nw.ts (h : Nw w B g n cap L n cs A C Q) (hl : n = L.length) : Ts w (some ⟨g, 0, none⟩) n cap L := by
  have hcap : n ≤ cap ∧ cap ≤ maxLen := by
    rcases h.own.2 with ⟨e, _⟩ | ⟨g', cap', cur, e, _, _, h1, h2, _⟩
    · cases e
    · injection e with e1 e2 e3; subst e3; exact ⟨h1, h2⟩
  exact ⟨hl, hcap.1, hcap.2, fun i hi => ⟨g, 0, rfl, _, _, (h.at hi).1, (h.at hi).2⟩⟩
theorem own_cell3 {base : Nat} {e : TypeId} {g n cap : Nat} {xs : List Value} (h : w.ownsRow base e 3 (.slice (some ⟨g, 0, none⟩) n cap) n xs) {q : Nat} (hq : q < n * 3) : ∃ v, w.cell? ⟨g, q, none⟩ = some v := by
  rw [h.cellAt q hq, List.getElem?_eq_getElem (by rw [h.1]; exact hq)]
  exact ⟨_, rfl⟩
theorem Nw.put {z q p d : Nat} (h : Nw w B g n cap L j cs A C Q) (hj : j < n) (R1 : Row w z q 33 (.slice (some ⟨p, 0, none⟩) (tat L j).xs.length d) (tat L j).xs.length (tat L j).xs) (hz : Q j ≤ z) :
    ∃ cs' A' C' Q', Nw (((w.setCell ⟨g, j * 3, none⟩ (.int .i64 (tat L j).r)).setCell ⟨g, j * 3 + 1, none⟩ (.int .i64 (tat L j).c)).setCell ⟨g, j * 3 + 2, none⟩ (.slice (some ⟨p, 0, none⟩) (tat L j).xs.length d)) B g n cap L (j + 1) cs' A' C' Q' := by
  have hgq : ∀ i, i ≤ j → g < Q i := fun i hi => Nat.lt_of_lt_of_le h.low (h.mono (Nat.zero_le _) hi)
  have hrs : ∀ {lo hi : Nat} {v : Value} {m : Nat} {xs : List Nat}, Row w lo hi 33 v m xs → g < lo → ∀ (o0 o1 o2 : Nat) (u0 u1 u2 : Value), Row (((w.setCell ⟨g, o0, none⟩ u0).setCell ⟨g, o1, none⟩ u1).setCell ⟨g, o2, none⟩ u2) lo hi 33 v m xs :=
    fun R hlo o0 o1 o2 u0 u1 u2 => row_set (row_set (row_set R (p := ⟨g, o0, none⟩) hlo u0) (p := ⟨g, o1, none⟩) hlo u1) (p := ⟨g, o2, none⟩) hlo u2
  have hlen : cs.length = n * 3 := h.own.1
  have hq1 := R1.low
  have hq3 := R1.top
  refine ⟨((cs.set (j * 3) (.int .i64 (tat L j).r)).set (j * 3 + 1) (.int .i64 (tat L j).c)).set (j * 3 + 2) (.slice (some ⟨p, 0, none⟩) (tat L j).xs.length d), fun i => if i = j then p else A i, fun i => if i = j then d else C i, fun i => if i ≤ j then Q i else q, ?_, ?_, ?_, ?_, ?_, ?_, ?_⟩
  · exact ((h.own.stored _ _).1.stored _ _).1.stored _ _ |>.1
  · simp; exact h.low
  · intro i hi
    by_cases e : i = j
    · subst e
      simp only [if_true]
      refine ⟨?_, ?_, ?_⟩
      · rw [List.getElem?_set_ne (by omega), List.getElem?_set_ne (by omega), List.getElem?_set_self (by omega)]
      · rw [List.getElem?_set_ne (by omega), List.getElem?_set_self (by simp; omega)]
      · rw [List.getElem?_set_self (by simp; omega)]
    · obtain ⟨k0, k1, k2⟩ := h.c i (by omega)
      simp only [if_neg e]
      refine ⟨?_, ?_, ?_⟩ <;> rw [List.getElem?_set_ne (by omega), List.getElem?_set_ne (by omega), List.getElem?_set_ne (by omega)] <;> assumption
  · intro i hi
    by_cases e : i = j
    · subst e
      simp only [if_true, Nat.le_refl, show ¬ (i + 1 ≤ i) by omega, if_false]
      exact hrs (R1.down hz) (hgq _ (Nat.le_refl _)) _ _ _ _ _ _
    · have r1 := h.r i (by omega)
      simp only [if_neg e, show i ≤ j by omega, show i + 1 ≤ j by omega, if_true]
      exact hrs r1 (hgq _ (by omega)) _ _ _ _ _ _
  · intro i hi
    show (if i ≤ j then Q i else q) ≤ (if i + 1 ≤ j then Q (i + 1) else q)
    by_cases e1 : i + 1 ≤ j
    · rw [if_pos (by omega), if_pos e1]; exact h.qm i (by omega)
    · have e2 : i = j := by omega
      subst e2; rw [if_pos (Nat.le_refl _), if_neg e1]; omega
  · show (if j + 1 ≤ j then _ else q) ≤ _
    rw [if_neg (by omega)]
    simpa [World.setCell] using hq3
  · exact h.gb
end
set_option maxHeartbeats 2000000 in
theorem toTS (a : Option Addr) (n cap : Nat) (L : List TD) (w : World) (hn : n ≤ 1048576) (hs : tzs L n ≤ 1048576) (h : Ts w a n cap L) :
    Calls Try.prog 35 #[.slice a n cap] w fun e w' => ∃ g cs A C Q, e = .returned (.slice (some ⟨g, 0, none⟩) n n) ∧ Nw w' w.heap.size g n n L n cs A C Q ∧ Below w.heap.size w w' := by
  obtain ⟨i0, hi, hz0, hz1, hz2⟩ := info_parts infoTen
  have H := Lib.hid h
  clear h
  go_enter Try.func35, Try.ntmps35
  go_wp2_with (at_make; refine wpList_make_full _ rfl _ _ 48 rfl w.heap.size 26 i0 (.agg #[.int .i64 0, .int .i64 0, .slice none 0 0]) 3 Try.underlying48 hi hz0 hz1 _ _ _ _ n rfl rfl rfl rfl (by rw [hz2]; omega) (by unfold maxLen; omega) (Nat.le_refl _) ?_)
  intro w1 hown hgr
  have hb1 := bel_grown hgr
  have hg1 : w.heap.size < w1.heap.size := (hown.lt w.heap.size rfl).2
  have HO := Lib.hid hown
  have HB := Lib.hid hb1
  clear hown hb1 hgr hi hz0 hz1 hz2
  generalize (madeCells _ _).toList = cs0 at *
  go_wp2
  go_loopw [4] (fun i w' => ∃ (j : Nat) (cs : List Value) (A C Q : Nat → Nat), j ≤ n ∧ i = .int .i64 j ∧ Hid (Nw w' w.heap.size w.heap.size n n L j cs A C Q) ∧ Hid (Below w.heap.size w w')) (fun i _ => n - (intOf i).toNat)
  case atStart => exact ⟨0, cs0, fun _ => 0, fun _ => 0, fun _ => w1.heap.size, Nat.zero_le _, rfl, ⟨HO.out, hg1, fun i hi => by omega, fun i hi => by omega, fun i hi => by omega, Nat.le_refl _, Nat.le_refl _⟩, HB.out⟩
  case round =>
    obtain ⟨j, cs, A, C, Q, hj, rfl, hM, hB⟩ := hrel
    by_cases hlt : j < n
    · obtain ⟨b, o, rfl, a1, c1, QL, F1⟩ := (H.out.below hB.out).cell j hlt
      have hx := Nat.le_trans (tzs_at L hlt) hs
      have G1 := Lib.hid F1
      clear F1
      obtain ⟨q0, q1, q2, q5⟩ := QL
      go_wp2_with fail
      clear q0 q1 q2 q5
      refine (toTens _ _ _ _ _ _ _ hx G1.out).mono ?_
      rintro e w2 ⟨g1, rfl, R1, A9⟩
      have M2 := Lib.hid (hM.out.below A9)
      have HR1 := Lib.hid R1
      have HA := Lib.hid A9
      clear A9 R1 G1
      have fz0 := M2.out.own.frozenAt (j * 3)
      have fz1 := M2.out.own.frozenAt (j * 3 + 1)
      have fz2 := M2.out.own.frozenAt (j * 3 + 2)
      obtain ⟨v0, x0⟩ := own_cell3 M2.out.own (q := j * 3) (by omega)
      obtain ⟨v1, x1⟩ := own_cell3 M2.out.own (q := j * 3 + 1) (by omega)
      obtain ⟨v2, x2⟩ := own_cell3 M2.out.own (q := j * 3 + 2) (by omega)
      go_wp2
      go_roundw
      case rel =>
        obtain ⟨cs', A', C', Q', hM'⟩ := M2.out.put hlt HR1.out (by have := hM.out.qn; exact this)
        exact ⟨j + 1, cs', A', C', Q', by omega, by go_num, hM', (((hB.out.trans (HA.out.mono hB.out.size)).setCell (Nat.le_refl _) _).setCell (Nat.le_refl _) _).setCell (Nat.le_refl _) _⟩
      case measure => simp [intOf]; omega
    · have e : j = n := by omega
      subst e
      go_wp2
      go_ret
      exact ⟨_, cs, A, C, Q, rfl, hM.out, hB.out⟩
end Go.Proofs.Ytoeppdkhncllbaa
