/- StackRows: a tensor whose rows and numbers grow; what both functions compute. -/
import Derived.Test.YtoeppdkhncllbaaTlS
import Derived.Test.YtoeppdkhncllbaaValid
import Derived.Test.YtoeppdkhncllbaaFin
import Derived.Test.YtoeppdkhncllbaaOwnS
import Derived.Test.YtoeppdkhncllbaaClone
import Derived.Test.YtoeppdkhncllbaaCls
namespace Go.Proofs.Ytoeppdkhncllbaa
open Go.RowKit Go.Fl Go.Reg
/-- the tensor in block b, rows r so far, numbers ys so far -/
structure St (B b : Nat) (t : TypeId) (c : Int) (w0 w : World) (r : Int) (k : Nat) (a : Option Addr) (cap : Nat) (ys : List Nat) : Prop where
  below : Below B w0 w
  box : Box w b r c a k cap
  f0 : w.frozen? ⟨b, 0, none⟩ = false
  f2 : w.frozen? ⟨b, 2, none⟩ = false
  own : w.ownsRow B t 1 (.slice a k cap) k (fl ys)
  ne : ∀ q, a = some q → q.block ≠ b
  hB : B ≤ b
section
variable {B b : Nat} {t : TypeId} {r c : Int} {w0 w w' : World} {k : Nat} {a : Option Addr} {cap : Nat} {ys : List Nat}
theorem St.next (h : St B b t c w0 w r k a cap ys) (hb : Below w.heap.size w w') : St B b t c w0 w' r k a cap ys :=
  ⟨h.below.trans (hb.mono (Nat.le_trans h.hB (Nat.le_of_lt h.box.lt))), h.box.below hb, (hb.frozen (p := ⟨b, 0, none⟩) h.box.lt).trans h.f0, (hb.frozen (p := ⟨b, 2, none⟩) h.box.lt).trans h.f2, own_below h.own hb, h.ne, h.hB⟩
theorem St.rows (h : St B b t c w0 w r k a cap ys) (r' : Int) : St B b t c w0 (w.setCell ⟨b, 0, none⟩ (.int .i64 r')) r' k a cap ys :=
  ⟨h.below.setCell h.hB _, ⟨by simp [go_sem, h.box.c0], by simp [go_sem, h.box.c1], by simp [go_sem, h.box.c2], by simpa [World.setCell] using h.box.lt⟩, by simp [go_sem, h.f0], by simp [go_sem, h.f2], own_set2 h.own (fun q hq => h.ne q hq) _, h.ne, h.hB⟩
theorem St.app {v' : Value} {m : Nat} {us : List Nat} (h : St B b t c w0 w r k a cap ys) (hm : 0 < k + m) (hown : w'.ownsRow B t 1 v' (k + m) (fl ys ++ fl us)) (hg : w.grownBy w' (Value.slice a k cap).ownBlock) :
    ∃ a' cap', v' = .slice a' (k + m) cap' ∧ Box w' b r c a k cap ∧ w'.frozen? ⟨b, 2, none⟩ = false ∧ St B b t c w0 (w'.setCell ⟨b, 2, none⟩ (.slice a' (k + m) cap')) r (k + m) a' cap' (ys ++ us) := by
  obtain ⟨a', cap', rfl, hp⟩ := own_shape hown
  have hlt := h.box.lt
  have hle : B ≤ w.heap.size := Nat.le_trans h.hB (Nat.le_of_lt hlt)
  have hrow : ∀ q, (Value.slice a k cap).ownBlock = some q → B ≤ q ∧ q ≠ b := fun q hq => ⟨(h.own.lt q hq).1, by
    cases a with
    | none => cases hq
    | some p => have := h.ne p rfl; simp [Value.ownBlock] at hq; omega⟩
  have hbl : w'.heap[b]? = w.heap[b]? := hg.block b hlt (by intro e; exact (hrow b e.symm).2 rfl)
  have hbox : Box w' b r c a k cap := ⟨(World.cell?_of_block (a := ⟨b, 0, none⟩) hbl).trans h.box.c0, (World.cell?_of_block (a := ⟨b, 1, none⟩) hbl).trans h.box.c1, (World.cell?_of_block (a := ⟨b, 2, none⟩) hbl).trans h.box.c2, Nat.lt_of_lt_of_le hlt hg.size⟩
  have hf0 : w'.frozen? ⟨b, 0, none⟩ = false := (World.frozen?_of_block (a := ⟨b, 0, none⟩) hbl).trans h.f0
  have hf2 : w'.frozen? ⟨b, 2, none⟩ = false := (World.frozen?_of_block (a := ⟨b, 2, none⟩) hbl).trans h.f2
  have hbel : Below B w w' := (Below.refl B w).grown hg hle (fun q hq => (hrow q hq).1)
  have hne : ∀ q, a' = some q → q.block ≠ b := by
    intro q hq e
    obtain ⟨g, rfl⟩ := hp q hq
    subst hq
    have h0 := hown.cellAt 0 (by omega)
    simp only at e
    subst e
    rw [hbox.c0] at h0
    rw [fl_append] at h0
    cases hz : ys ++ us with
    | nil => rw [hz] at h0; simp [fl] at h0
    | cons x xs => rw [hz] at h0; simp [fl] at h0
  refine ⟨a', cap', rfl, hbox, hf2, (h.below.trans hbel).setCell h.hB _, ⟨by simp [go_sem, hbox.c0], by simp [go_sem, hbox.c1], by simp [go_sem, hbox.c2], by simpa [World.setCell] using hbox.lt⟩, by simp [go_sem, hf0], by simp [go_sem, hf2], ?_, hne, h.hB⟩
  rw [← fl_append]
  exact own_set2 hown (fun q hq => hne q hq) _
theorem St.len (h : St B b t c w0 w r k a cap ys) : ys.length = k := by have := h.own.1; rw [fl_length, Nat.mul_one] at this; exact this
end
/-- the rows of the first j tensors, their numbers, whether they fit -/
def sr (L : List TD) : Nat → Int
  | 0 => 0
  | j + 1 => sr L j + (tat L j).r
def sp (L : List TD) : Nat → List Nat
  | 0 => []
  | j + 1 => sp L j ++ (tat L j).xs
theorem sp_len (L : List TD) : ∀ j, (sp L j).length = tzs L j
  | 0 => rfl
  | j + 1 => by show (sp L j ++ (tat L j).xs).length = _; rw [List.length_append, sp_len L j]; rfl
def okT (L : List TD) (j : Nat) : Bool := decide (vt (tat L j).r (tat L j).c (tat L j).xs.length) && decide ((tat L j).c = (tat L 0).c)
def allT (L : List TD) : Nat → Bool
  | 0 => true
  | j + 1 => allT L j && okT L j
theorem allT_no {L : List TD} {j n : Nat} (hj : j < n) (h : okT L j = false) : allT L n = false := by
  induction n with
  | zero => omega
  | succ n ih =>
    show (allT L n && okT L n) = false
    by_cases e : j = n
    · subst e; rw [h, Bool.and_false]
    · rw [ih (by omega), Bool.false_and]
theorem allT_yes {L : List TD} {j : Nat} (h1 : allT L j = true) (h2 : okT L j = true) : allT L (j + 1) = true := by show (allT L j && okT L j) = true; rw [h1, h2]; rfl
def sok (L : List TD) (n : Nat) : Bool := inr (n : Int) 1 16 && (allT L n && decide (vt (sr L n) (tat L 0).c (tzs L n)))
theorem sok_n {L : List TD} {n : Nat} (h : inr (n : Int) 1 16 = false) : sok L n = false := by unfold sok; rw [h]; rfl
theorem sok_a {L : List TD} {j n : Nat} (hj : j < n) (h : okT L j = false) : sok L n = false := by unfold sok; rw [allT_no hj h]; simp
theorem sok_e {L : List TD} {n : Nat} (h : inr (n : Int) 1 16 = true) (h2 : allT L n = true) : sok L n = decide (vt (sr L n) (tat L 0).c (tzs L n)) := by unfold sok; rw [h, h2]; simp
theorem okT_v {L : List TD} {j : Nat} (h : decide (vt (tat L j).r (tat L j).c (tat L j).xs.length) = false) : okT L j = false := by unfold okT; rw [h]; rfl
theorem okT_c {L : List TD} {j : Nat} (h : ¬ (tat L j).c = (tat L 0).c) : okT L j = false := by unfold okT; rw [decide_eq_false h]; simp
theorem okT_y {L : List TD} {j : Nat} (h : decide (vt (tat L j).r (tat L j).c (tat L j).xs.length) = true) (h2 : (tat L j).c = (tat L 0).c) : okT L j = true := by unfold okT; rw [h, decide_eq_true h2]; rfl
def sR (L : List TD) (n : Nat) : Int := if sok L n = true then sr L n else 0
def sC (L : List TD) (n : Nat) : Int := if sok L n = true then (tat L 0).c else 0
def sS (L : List TD) (n : Nat) : List Nat := if sok L n = true then sp L n else []
theorem sS_len (L : List TD) (n : Nat) : (sS L n).length ≤ 1048576 := by
  unfold sS; split
  · rename_i h
    unfold sok at h
    simp at h
    rw [sp_len]
    have := (vt_le h.2.2).2
    omega
  · exact Nat.zero_le _
theorem reg_at3 {P : Program} {c : Code} {Q : Exit → Act → World → Prop} {a : Act} {w : World} (h : ∀ w', w' = w → c.wp P Q a w') : c.wp P Q a w := h _ rfl
theorem ifT (r c : Int) (a : Option Addr) (n cap : Nat) (w : World) (hm : n ≤ maxLen) :
    Calls Try.prog 67 #[.agg #[.int .i64 r, .int .i64 c, .slice a n cap]] w fun e w' => (e = if vt r c n then .returned (.tuple #[.agg #[.int .i64 r, .int .i64 c, .slice a n cap], .bool true]) else .returned (.tuple #[.agg #[.int .i64 0, .int .i64 0, .slice none 0 0], .bool false])) ∧ Below w.heap.size w w' := by
  have HM := Lib.hid hm
  clear hm
  cases hv : decide (vt r c n)
  · skip
    have hv' := of_decide_eq_false hv
    rw [if_neg hv']
    clear hv'
    have HV := Lib.hid hv
    clear hv
    go_enter Try.func67, Try.ntmps67
    go_wp2_with fail
    refine calls_at ?_
    intro w1 hA
    have A : Below w.heap.size w w1 := by rw [hA]; exact ((Below.refl _ _).alloc (Nat.le_refl _) _).alloc (by simp <;> omega) _
    have zw1 : w1.heap.size = w.heap.size + 1 + 1 := by rw [hA]; simp
    have Q_ : Box w1 (w.heap.size) r c a n cap := by rw [hA]; exact ⟨by simp [go_sem], by simp [go_sem], by simp [go_sem], by simp <;> omega⟩
    have ZR_ : Zbox w1 (w.heap.size + 1) := by rw [hA]; exact ⟨⟨by simp [go_sem], by simp [go_sem], by simp [go_sem], by simp <;> omega⟩, by simp [go_sem], by simp [go_sem], by simp [go_sem]⟩
    clear hA
    have zw1a := Nat.le_of_eq zw1
    have zw1b := Nat.le_of_eq zw1.symm
    clear zw1
    have T := A
    clear A
    have Q := Lib.hid Q_
    clear Q_
    have ZR := Lib.hid ZR_
    clear ZR_
    obtain ⟨Q0, Q1, Q2, Q3⟩ := Q.out
    refine (validT _ _ _ _ _ _ HM.out).mono ?_
    rintro e w2 ⟨rfl, A⟩
    have T := T.trans (A.mono T.size)
    have Q := Lib.hid (Q.out.below A)
    have ZR := Lib.hid (ZR.out.below A)
    have zw2 := A.size
    clear A
    rw [HV.out]
    obtain ⟨⟨ZR0, ZR1, ZR2, ZR3⟩, ZR4, ZR5, ZR6⟩ := ZR.out
    go_wp2
    refine bodyPost_ret (v := .tuple #[.agg #[.int .i64 0, .int .i64 0, .slice none 0 0], .bool false]) (by simp [results, Try.results67, go_sem, ZR0, ZR1, ZR2]) rfl ⟨rfl, ?_⟩
    exact ((T.setCell (by simp <;> omega) _).setCell (by simp <;> omega) _).setCell (by simp <;> omega) _
  · skip
    have hv' := of_decide_eq_true hv
    rw [if_pos hv']
    clear hv'
    have HV := Lib.hid hv
    clear hv
    go_enter Try.func67, Try.ntmps67
    go_wp2_with fail
    refine calls_at ?_
    intro w1 hA
    have A : Below w.heap.size w w1 := by rw [hA]; exact ((Below.refl _ _).alloc (Nat.le_refl _) _).alloc (by simp <;> omega) _
    have zw1 : w1.heap.size = w.heap.size + 1 + 1 := by rw [hA]; simp
    have Q_ : Box w1 (w.heap.size) r c a n cap := by rw [hA]; exact ⟨by simp [go_sem], by simp [go_sem], by simp [go_sem], by simp <;> omega⟩
    have ZR_ : Zbox w1 (w.heap.size + 1) := by rw [hA]; exact ⟨⟨by simp [go_sem], by simp [go_sem], by simp [go_sem], by simp <;> omega⟩, by simp [go_sem], by simp [go_sem], by simp [go_sem]⟩
    clear hA
    have zw1a := Nat.le_of_eq zw1
    have zw1b := Nat.le_of_eq zw1.symm
    clear zw1
    have T := A
    clear A
    have Q := Lib.hid Q_
    clear Q_
    have ZR := Lib.hid ZR_
    clear ZR_
    obtain ⟨Q0, Q1, Q2, Q3⟩ := Q.out
    refine (validT _ _ _ _ _ _ HM.out).mono ?_
    rintro e w2 ⟨rfl, A⟩
    have T := T.trans (A.mono T.size)
    have Q := Lib.hid (Q.out.below A)
    have ZR := Lib.hid (ZR.out.below A)
    have zw2 := A.size
    clear A
    rw [HV.out]
    obtain ⟨Q0, Q1, Q2, Q3⟩ := Q.out
    obtain ⟨⟨ZR0, ZR1, ZR2, ZR3⟩, ZR4, ZR5, ZR6⟩ := ZR.out
    go_wp2
    refine bodyPost_ret (v := .tuple #[.agg #[.int .i64 r, .int .i64 c, .slice a n cap], .bool true]) (by simp [results, Try.results67, go_sem, ZR0, ZR1, ZR2]) rfl ⟨rfl, ?_⟩
    exact ((T.setCell (by simp <;> omega) _).setCell (by simp <;> omega) _).setCell (by simp <;> omega) _
/-- the tensors, none of them with a nil row -/
structure Tz (w : World) (a : Option Addr) (n cap : Nat) (L : List TD) : Prop where
  ts : Ts w a n cap L
  cell : ∀ j, j < n → ∃ b o, a = some ⟨b, o, none⟩ ∧ ∃ p c1, Tb w b (o + j * 3) (tat L j).r (tat L j).c (some ⟨p, 0, none⟩) (tat L j).xs.length c1 ∧ Fs w (some ⟨p, 0, none⟩) (tat L j).xs.length c1 (tat L j).xs
theorem Tz.below {w w' : World} {a : Option Addr} {n cap : Nat} {L : List TD} (h : Tz w a n cap L) (hb : Below w.heap.size w w') : Tz w' a n cap L :=
  ⟨h.ts.below hb, fun j hj => by obtain ⟨b, o, e, p, c1, x, y⟩ := h.cell j hj; exact ⟨b, o, e, p, c1, x.below hb, y.below hb⟩⟩
theorem Nw.tz {w : World} {B g n cap : Nat} {L : List TD} {cs : List Value} {A C Q : Nat → Nat} (h : Nw w B g n cap L n cs A C Q) (hl : n = L.length) : Tz w (some ⟨g, 0, none⟩) n cap L :=
  ⟨h.ts hl, fun i hi => ⟨g, 0, rfl, A i, C i, (h.at hi).1, (h.at hi).2⟩⟩
theorem fs_news {w : World} {b o n c : Nat} {xs : List Nat} (h : Fs w (some ⟨b, o, none⟩) n c xs) (j : Nat) (u : Value) (hj : (fl xs)[j]? = some u) : w.cell? ((⟨b, o, none⟩ : Addr).add j) = some u := by
  have hl := h.len
  have hjl : j < n := by
    rcases Nat.lt_or_ge j n with h | h
    · exact h
    · rw [List.getElem?_eq_none (by rw [fl_length]; omega)] at hj; cases hj
  rw [fl_get _ j (by omega)] at hj
  injection hj with hj
  subst hj
  obtain ⟨b', o', e, hc⟩ := h.cell j hjl
  injection e with e; injection e with e1 e2 e3
  subst e1; subst e2
  rw [add_at]; exact hc
theorem RT_row {t : TypeId} {w wr : World} {rb : Nat} {r c : Int} {a : Option Addr} {k cap : Nat} {ys : List Nat} (T : Below w.heap.size w wr) (hr : w.heap.size ≤ rb) (R : Row wr (rb + 1) wr.heap.size t (.slice a k cap) k ys) :
    RT t w r c ys true (.returned (.tuple #[.agg #[.int .i64 r, .int .i64 c, .slice a k cap], .bool true])) (((wr.setCell ⟨rb, 0, none⟩ (.int .i64 r)).setCell ⟨rb, 1, none⟩ (.int .i64 c)).setCell ⟨rb, 2, none⟩ (.slice a k cap)) := by
  have hl : ys.length = k := R.fs.len.symm
  exact RT_end T hr R (Nat.lt_succ_self _) rfl hl
set_option maxHeartbeats 4000000 in
theorem stkI (a : Option Addr) (n cap : Nat) (L : List TD) (w : World) (hs : tzs L n ≤ 1048576) (h : Tz w a n cap L) :
    Calls Try.prog 36 #[.slice a n cap] w (RT 33 w (sR L n) (sC L n) (sS L n) (sok L n)) := by
  have hc1 := h.ts.cap1
  have hc2 := h.ts.cap2
  unfold maxLen at hc2
  have H := Lib.hid h
  clear h
  cases hi : inr (n : Int) 1 16
  · have ho := sok_n (L := L) hi
    rw [show sR L n = 0 by unfold sR; rw [ho]; rfl, show sC L n = 0 by unfold sC; rw [ho]; rfl, show sS L n = [] by unfold sS; rw [ho]; rfl, ho]
    have hcase : n < 1 ∨ 16 < n := by
      unfold inr at hi
      rcases Nat.lt_or_ge n 1 with h | h
      · exact .inl h
      · right
        simp at hi
        omega
    clear ho hi
    rcases hcase with hcase | hcase
    · skip
      go_enter Try.func36, Try.ntmps36
      go_wp2
      refine bodyPost_ret (v := .tuple #[.agg #[.int .i64 0, .int .i64 0, .slice none 0 0], .bool false]) (by simp [results, Try.results36, go_sem]) rfl ?_
      have BB := (((((Below.refl w.heap.size w).alloc (Nat.le_refl _) (.cells #[.int .i64 0, .int .i64 0, .slice none 0 0] 26)).setCell (p := ⟨w.heap.size, 0, none⟩) (Nat.le_refl _) (.int .i64 0)).setCell (p := ⟨w.heap.size, 1, none⟩) (Nat.le_refl _) (.int .i64 0)).setCell (p := ⟨w.heap.size, 2, none⟩) (Nat.le_refl _) (.slice none 0 0))
      have AA := (Below.refl w.heap.size w).alloc (Nat.le_refl _) (.cells #[.int .i64 0, .int .i64 0, .slice none 0 0] 26)
      exact ⟨none, 0, [], rfl, Row.nil _ _ _ (by simp), rfl, by first | exact AA | exact BB⟩
    · skip
      go_enter Try.func36, Try.ntmps36
      go_wp2
      refine bodyPost_ret (v := .tuple #[.agg #[.int .i64 0, .int .i64 0, .slice none 0 0], .bool false]) (by simp [results, Try.results36, go_sem]) rfl ?_
      have BB := (((((Below.refl w.heap.size w).alloc (Nat.le_refl _) (.cells #[.int .i64 0, .int .i64 0, .slice none 0 0] 26)).setCell (p := ⟨w.heap.size, 0, none⟩) (Nat.le_refl _) (.int .i64 0)).setCell (p := ⟨w.heap.size, 1, none⟩) (Nat.le_refl _) (.int .i64 0)).setCell (p := ⟨w.heap.size, 2, none⟩) (Nat.le_refl _) (.slice none 0 0))
      have AA := (Below.refl w.heap.size w).alloc (Nat.le_refl _) (.cells #[.int .i64 0, .int .i64 0, .slice none 0 0] 26)
      exact ⟨none, 0, [], rfl, Row.nil _ _ _ (by simp), rfl, by first | exact AA | exact BB⟩
  · have hn1 : 1 ≤ n ∧ n ≤ 16 := by unfold inr at hi; simp at hi; omega
    have HI16 := Lib.hid hi
    clear hi
    obtain ⟨R9, e1⟩ : ∃ x, x = sR L n := ⟨_, rfl⟩
    obtain ⟨C9, e2⟩ : ∃ x, x = sC L n := ⟨_, rfl⟩
    obtain ⟨S9, e3⟩ : ∃ x, x = sS L n := ⟨_, rfl⟩
    obtain ⟨ok9, e4⟩ : ∃ x, x = sok L n := ⟨_, rfl⟩
    rw [← e1, ← e2, ← e3, ← e4]
    have HE1 := Lib.hid e1
    have HE2 := Lib.hid e2
    have HE3 := Lib.hid e3
    have HE4 := Lib.hid e4
    clear e1 e2 e3 e4
    obtain ⟨i0, hi0, hz0, hz1, hz2⟩ := info_parts infoF32
    have HI := Lib.hid hi0
    have HZ0 := Lib.hid hz0
    have HZ1 := Lib.hid hz1
    have HZ2 := Lib.hid hz2
    clear hi0 hz0 hz1 hz2
    obtain ⟨bb, oo, ea, pp, cc, Q0, F0⟩ := H.out.cell 0 (by omega)
    subst ea
    have x1 : w.cell? ⟨bb, oo + 1, none⟩ = some (.int .i64 (tat L 0).c) := by have := Q0.c1; rwa [Nat.zero_mul, Nat.add_zero] at this
    have xl := Q0.lt
    clear Q0 F0
    obtain ⟨w1, hw1⟩ : ∃ w1, w1 = w.alloc (.cells #[.int .i64 0, .int .i64 0, .slice none 0 0] 26) := ⟨_, rfl⟩
    obtain ⟨ZR_, T_, -⟩ := zbox_new hw1
    have ZR := Lib.hid ZR_
    have HT := Lib.hid T_
    have hw1s : w1.heap.size = w.heap.size + 1 := by rw [hw1]; simp
    have ST : St (w.heap.size + 1) (w.heap.size + 1) 33 (tat L 0).c w1 (w1.alloc (.cells #[.int .i64 0, .int .i64 (tat L 0).c, .slice none 0 0] 26)) 0 0 none 0 [] := by
      rw [← hw1s]
      exact ⟨(Below.refl _ _).alloc (Nat.le_refl _) _, (box_new rfl).1, by simp [go_sem], by simp [go_sem], World.ownsRow_nil _ _ _ _, (fun q hq => by cases hq), Nat.le_refl _⟩
    have HST := Lib.hid ST
    have HW1 := Lib.hid hw1
    have HW1S := Lib.hid (Nat.le_of_eq hw1s)
    have HW1T := Lib.hid (Nat.le_of_eq hw1s.symm)
    clear ZR_ T_ ST hw1 hw1s
    have hdn : decide ((n : Int) < 1) = false := by simp; omega
    have hdm : decide (16 < (n : Int)) = false := by simp; omega
    go_enter Try.func36, Try.ntmps36
    go_wp2
    clear x1 xl hdn hdm
    go_loopw [23] (fun i w' => ∃ (j k : Nat) (r : Int) (a' : Option Addr) (cap' : Nat), j ≤ n ∧ i = .int .i64 j ∧ Hid (allT L j = true) ∧ Hid (r = sr L j) ∧ 0 ≤ r ∧ r ≤ 16 * (j : Int) ∧ Hid (k = tzs L j) ∧ Hid (St (w.heap.size + 1) (w.heap.size + 1) 33 (tat L 0).c w1 w' r k a' cap' (sp L j))) (fun i _ => n - (intOf i).toNat)
    case atStart => exact ⟨0, 0, 0, none, 0, Nat.zero_le _, rfl, rfl, rfl, by omega, by omega, rfl, by have := HST.out; rw [HW1.out] at this ⊢; exact this⟩
    case round =>
      obtain ⟨j, k, r, a', cap', hj, rfl, hall, hr, hr0, hr1, hk, hS⟩ := hrel
      have BW := Lib.hid (HT.out.trans (hS.out.below.mono (by omega)))
      have ZW := Lib.hid (ZR.out.upto hS.out.below (Nat.lt_succ_self _))
      by_cases hlt : j < n
      · obtain ⟨b, o, eb, p, c1, Q0, F0⟩ := H.out.cell j hlt
        injection eb with eb
        injection eb with eb1 eb2 eb3
        subst eb1
        subst eb2
        have HF := Lib.hid F0
        have XM := Lib.hid (Nat.le_trans F0.cap1 F0.cap2)
        obtain ⟨q0, q1, q2, q5⟩ := Q0.below BW.out
        clear Q0 F0
        go_wp2_with fail
        clear q0 q1 q2 q5
        refine calls_at ?_
        intro w3 hA
        obtain ⟨QB_, A, z1, z2⟩ := box_new hA
        clear hA
        have S3 := Lib.hid (hS.out.next A)
        have Z3 := Lib.hid (ZW.out.below A)
        have B3 := Lib.hid (BW.out.trans (A.mono BW.out.size))
        have HQB := Lib.hid QB_
        clear A QB_
        refine (validT _ _ _ _ _ _ XM.out).mono ?_
        rintro e w4 ⟨rfl, A⟩
        have S4 := Lib.hid (S3.out.next A)
        have Z4 := Lib.hid (Z3.out.below A)
        have B4 := Lib.hid (B3.out.trans (A.mono B3.out.size))
        have HQ4 := Lib.hid (HQB.out.below A)
        clear A
        cases hv : decide (vt (tat L j).r (tat L j).c (tat L j).xs.length)
        · have ho := sok_a hlt (okT_v hv)
          have HNO := Lib.hid (show R9 = 0 ∧ C9 = 0 ∧ S9 = [] ∧ ok9 = false from ⟨by rw [HE1.out]; unfold sR; rw [ho]; rfl, by rw [HE2.out]; unfold sC; rw [ho]; rfl, by rw [HE3.out]; unfold sS; rw [ho]; rfl, by rw [HE4.out]; exact ho⟩)
          clear ho hv
          obtain ⟨⟨y0, y1, y2, y3⟩, y4, y5, y6⟩ := Z4.out
          go_wp2
          refine bodyPost_ret (v := .tuple #[.agg #[.int .i64 0, .int .i64 0, .slice none 0 0], .bool false]) (by simp [results, Try.results36, go_sem, y0, y1, y2]) rfl ?_
          obtain ⟨n1, n2, n3, n4⟩ := HNO.out
          rw [n1, n2, n3, n4]
          exact RT_no B4.out (Nat.le_refl _)
        · by_cases hcc : (tat L j).c = (tat L 0).c
          · have hvt := of_decide_eq_true hv
            have hb1 : 1 ≤ (tat L j).r := hvt.1
            have hb2 : (tat L j).r ≤ 16 := hvt.2.1
            have hpos := (vt_le hvt).1
            have hle := (vt_le hvt).2
            have HAL := Lib.hid (allT_yes hall.out (okT_y hv hcc))
            have e9 : ((tat L j).c != (tat L 0).c) = false := by simpa using hcc
            have hat := tzs_mono L (show j + 1 ≤ n by omega)
            have hk2 := hk.out
            have es : tzs L (j + 1) = tzs L j + (tat L j).xs.length := rfl
            have hkb : k + (tat L j).xs.length ≤ 1048576 := by omega
            have HR := Lib.hid (show sr L (j + 1) = r + (tat L j).r by rw [hr.out]; rfl)
            have HK := Lib.hid (show tzs L (j + 1) = k + (tat L j).xs.length by rw [hk.out]; rfl)
            clear hv hcc hvt hat hk2 es
            obtain ⟨y0, y1, y2, y3⟩ := HQ4.out
            obtain ⟨x0, x1, x2, x3⟩ := S4.out.box
            have f0 := S4.out.f0
            have S5 := Lib.hid (S4.out.rows (r + (tat L j).r))
            have B5 := Lib.hid (B4.out.setCell (p := ⟨w.heap.size + 1, 0, none⟩) (Nat.le_succ _) (.int .i64 (r + (tat L j).r)))
            go_wp2_with (at_builtin; refine wpList_append_own _ rfl (.tmp 45) (.tmp 47) 22 rfl (w.heap.size + 1) 33 i0 (.float .f32 0) 1 4 Try.underlying22 HI.out HZ0.out HZ1.out HZ2.out rfl (by decide) (.slice a' k cap') k (fl (sp L j)) rfl S5.out.own ⟨p, 0, none⟩ (tat L j).xs.length c1 (fl (tat L j).xs) rfl (by rw [fl_length, Nat.mul_one]) (fs_news (HF.out.below B5.out)) (fl_one _) (by unfold maxLen; omega) (by omega) (Nat.le_of_lt S5.out.box.lt) ?_)
            intro v' w6 hown hgr _
            obtain ⟨a2, cap2, rfl, BX, FR, S6_⟩ := S5.out.app (us := (tat L j).xs) (by omega) hown hgr
            have S6 := Lib.hid S6_
            clear S6_ hown hgr y0 y1 y2 y3 x0 x1 x2 x3 f0
            obtain ⟨b0', b1', b2', b3'⟩ := BX
            go_wp2
            go_roundw
            case rel => exact ⟨j + 1, k + (tat L j).xs.length, r + (tat L j).r, a2, cap2, by omega, by go_num, HAL, HR.out.symm, by omega, by omega, HK.out.symm, S6⟩
            case measure => simp [intOf]; omega
          · have ho := sok_a hlt (okT_c hcc)
            have HNO := Lib.hid (show R9 = 0 ∧ C9 = 0 ∧ S9 = [] ∧ ok9 = false from ⟨by rw [HE1.out]; unfold sR; rw [ho]; rfl, by rw [HE2.out]; unfold sC; rw [ho]; rfl, by rw [HE3.out]; unfold sS; rw [ho]; rfl, by rw [HE4.out]; exact ho⟩)
            have e9 : ((tat L j).c != (tat L 0).c) = true := by simpa using hcc
            clear ho hv hcc
            obtain ⟨y0, y1, y2, y3⟩ := HQ4.out
            obtain ⟨x0, x1, x2, x3⟩ := S4.out.box
            obtain ⟨⟨v0, v1, v2, v3⟩, v4, v5, v6⟩ := Z4.out
            go_wp2
            refine bodyPost_ret (v := .tuple #[.agg #[.int .i64 0, .int .i64 0, .slice none 0 0], .bool false]) (by simp [results, Try.results36, go_sem, v0, v1, v2]) rfl ?_
            obtain ⟨n1, n2, n3, n4⟩ := HNO.out
            rw [n1, n2, n3, n4]
            exact RT_no B4.out (Nat.le_refl _)
      · have e : j = n := by omega
        subst e
        have hkm : k ≤ maxLen := by have := hk.out; unfold maxLen; omega
        have HKM := Lib.hid hkm
        have hSo := sok_e HI16.out hall.out
        rw [← hr.out, ← hk.out] at hSo
        have HSO := Lib.hid hSo
        clear hkm hSo
        obtain ⟨x0, x1, x2, x3⟩ := hS.out.box
        go_wp2_with fail
        clear x0 x1 x2 x3
        refine (ifT _ _ _ _ _ _ HKM.out).mono ?_
        rintro e w7 ⟨he, A⟩
        have S7 := Lib.hid (hS.out.next A)
        have Z7 := Lib.hid (ZW.out.below A)
        have B7 := Lib.hid (BW.out.trans (A.mono BW.out.size))
        clear A
        obtain ⟨⟨v0, v1, v2, v3⟩, v4, v5, v6⟩ := Z7.out
        cases hv : decide (vt r (tat L 0).c k)
        · rw [if_neg (of_decide_eq_false hv)] at he
          subst he
          have ho := HSO.out.trans hv
          have HNO := Lib.hid (show R9 = 0 ∧ C9 = 0 ∧ S9 = [] ∧ ok9 = false from ⟨by rw [HE1.out]; unfold sR; rw [ho]; rfl, by rw [HE2.out]; unfold sC; rw [ho]; rfl, by rw [HE3.out]; unfold sS; rw [ho]; rfl, by rw [HE4.out]; exact ho⟩)
          clear ho hv
          go_wp2
          refine bodyPost_ret (v := .tuple #[.agg #[.int .i64 0, .int .i64 0, .slice none 0 0], .bool false]) (by simp [results, Try.results36, go_sem, v0, v1, v2]) rfl ?_
          obtain ⟨n1, n2, n3, n4⟩ := HNO.out
          rw [n1, n2, n3, n4]
          exact RT_no B7.out (Nat.le_refl _)
        · rw [if_pos (of_decide_eq_true hv)] at he
          subst he
          have ho := HSO.out.trans hv
          have HNO := Lib.hid (show R9 = r ∧ C9 = (tat L 0).c ∧ S9 = sp L j ∧ ok9 = true from ⟨by rw [HE1.out, hr.out]; unfold sR; rw [ho]; rfl, by rw [HE2.out]; unfold sC; rw [ho]; rfl, by rw [HE3.out]; unfold sS; rw [ho]; rfl, by rw [HE4.out]; exact ho⟩)
          clear ho hv
          go_wp2
          refine bodyPost_ret (v := .tuple #[.agg #[.int .i64 r, .int .i64 (tat L 0).c, .slice a' k cap'], .bool true]) (by simp [results, Try.results36, go_sem, v0, v1, v2]) rfl ?_
          obtain ⟨n1, n2, n3, n4⟩ := HNO.out
          rw [n1, n2, n3, n4]
          exact RT_row B7.out (Nat.le_refl _) (Row.of S7.out.own (Nat.le_of_lt S7.out.box.lt))
theorem St.drew {B b : Nat} {t : TypeId} {r c : Int} {w0 w : World} {k : Nat} {a : Option Addr} {cap : Nat} {ys : List Nat} (h : St B b t c w0 w r k a cap ys) (m : Nat) : St B b t c w0 (w.drewN m) r k a cap ys :=
  ⟨bdrew h.below m, ⟨h.box.c0, h.box.c1, h.box.c2, h.box.lt⟩, h.f0, h.f2, h.own, h.ne, h.hB⟩
theorem st_start (w1 : World) (c : Int) (q : Nat) (hq : w1.heap.size = q) : St q (q + 1) 33 c w1 ((w1.alloc (.cells #[] 33)).alloc (.cells #[.int .i64 0, .int .i64 c, .slice (some ⟨q, 0, none⟩) 0 0] 26)) 0 0 (some ⟨q, 0, none⟩) 0 [] := by
  subst hq
  have e : (w1.alloc (.cells #[] 33)).heap.size = w1.heap.size + 1 := by simp
  refine ⟨((Below.refl _ _).alloc (Nat.le_refl _) _).alloc (by simp) _, ?_, by simp [go_sem], by simp [go_sem], ?_, (fun q hq => by cases hq; show w1.heap.size ≠ w1.heap.size + 1; omega), Nat.le_succ _⟩
  · rw [← e]; exact (box_new rfl).1
  · exact own_below (made0 w1 _) ((Below.refl _ _).alloc (Nat.le_refl _) _)
set_option maxHeartbeats 4000000 in
theorem stkS (a : Option Addr) (n cap : Nat) (L : List TD) (w : World) (hs : tzs L n ≤ 1048576) (h : Tz w a n cap L) :
    Calls Try.prog 34 #[.slice a n cap] w (RT 33 w (sR L n) (sC L n) (sS L n) (sok L n)) := by
  have hc1 := h.ts.cap1
  have hc2 := h.ts.cap2
  unfold maxLen at hc2
  have H := Lib.hid h
  clear h
  obtain ⟨R9, e1⟩ : ∃ x, x = sR L n := ⟨_, rfl⟩
  obtain ⟨C9, e2⟩ : ∃ x, x = sC L n := ⟨_, rfl⟩
  obtain ⟨S9, e3⟩ : ∃ x, x = sS L n := ⟨_, rfl⟩
  obtain ⟨ok9, e4⟩ : ∃ x, x = sok L n := ⟨_, rfl⟩
  rw [← e1, ← e2, ← e3, ← e4]
  have HE1 := Lib.hid e1
  have HE2 := Lib.hid e2
  have HE3 := Lib.hid e3
  have HE4 := Lib.hid e4
  clear e1 e2 e3 e4
  have HNOT : sok L n = false → R9 = 0 ∧ C9 = 0 ∧ S9 = [] ∧ ok9 = false := fun ho => ⟨by rw [HE1.out]; unfold sR; rw [ho]; rfl, by rw [HE2.out]; unfold sC; rw [ho]; rfl, by rw [HE3.out]; unfold sS; rw [ho]; rfl, by rw [HE4.out]; exact ho⟩
  have HNT := Lib.hid HNOT
  clear HNOT
  cases hi : inr (n : Int) 1 16
  · have HNO := Lib.hid (HNT.out (sok_n (L := L) hi))
    have HIV := Lib.hid hi
    clear hi
    go_enter Try.func34, Try.ntmps34
    go_wp2_with fail
    refine calls_at ?_
    intro w1 hA
    obtain ⟨Z, A, -⟩ := zbox_new hA
    clear hA
    have HA := Lib.hid A
    clear A
    refine (inS _ _ _ _).mono ?_
    rintro e w2 ⟨rfl, hsame⟩
    replace hsame := hsame.symm
    subst hsame
    rw [HIV.out]
    obtain ⟨⟨v0, v1, v2, v3⟩, v4, v5, v6⟩ := Z
    go_wp2
    refine bodyPost_ret (v := .tuple #[.agg #[.int .i64 0, .int .i64 0, .slice none 0 0], .bool false]) (by simp [results, Try.results34, go_sem, v0, v1, v2]) rfl ?_
    obtain ⟨n1, n2, n3, n4⟩ := HNO.out
    rw [n1, n2, n3, n4]
    exact RT_no HA.out (Nat.le_refl _)
  · have hn1 : 1 ≤ n ∧ n ≤ 16 := by unfold inr at hi; simp at hi; omega
    have HI16 := Lib.hid hi
    clear hi
    obtain ⟨i0, hi0, hz0, hz1, hz2⟩ := info_parts infoF32
    have HI := Lib.hid hi0
    have HZ0 := Lib.hid hz0
    have HZ1 := Lib.hid hz1
    have HZ2 := Lib.hid hz2
    clear hi0 hz0 hz1 hz2
    obtain ⟨bb, oo, ea, pp, cc, Q0, F0⟩ := H.out.cell 0 (by omega)
    subst ea
    go_enter Try.func34, Try.ntmps34
    go_wp2_with fail
    refine calls_at ?_
    intro w1 hA
    obtain ⟨Z, A, -⟩ := zbox_new hA
    have hw1s : w1.heap.size = w.heap.size + 1 := by rw [hA]; simp
    clear hA
    have HT := Lib.hid A
    have ZR := Lib.hid Z
    have Q1 := Q0.below A
    have x1 : w1.cell? ⟨bb, oo + 1, none⟩ = some (.int .i64 (tat L 0).c) := by have := Q1.c1; rwa [Nat.zero_mul, Nat.add_zero] at this
    have xl := Q1.lt
    have HST := Lib.hid (st_start w1 (tat L 0).c w1.heap.size rfl)
    have HW1S := Lib.hid hw1s
    clear A Z Q0 F0 Q1 hw1s
    refine (inS _ _ _ _).mono ?_
    rintro e w2 ⟨rfl, hsame⟩
    replace hsame := hsame.symm
    subst hsame
    rw [HI16.out]
    go_wp2
    clear x1 xl
    go_loopw [5] (fun i w' => ∃ (j k : Nat) (r : Int) (a' : Option Addr) (cap' : Nat), j ≤ n ∧ i = .int .i64 j ∧ Hid (allT L j = true) ∧ Hid (r = sr L j) ∧ 0 ≤ r ∧ r ≤ 16 * (j : Int) ∧ Hid (k = tzs L j) ∧ Hid (St w1.heap.size (w1.heap.size + 1) 33 (tat L 0).c w1 w' r k a' cap' (sp L j))) (fun i _ => n - (intOf i).toNat)
    case atStart => exact ⟨0, 0, 0, _, 0, Nat.zero_le _, rfl, rfl, rfl, by omega, by omega, rfl, HST.out⟩
    case round =>
      obtain ⟨j, k, r, a', cap', hj, rfl, hall, hr, hr0, hr1, hk, hS⟩ := hrel
      have hw1s := HW1S.out
      have BW := Lib.hid (HT.out.trans (hS.out.below.mono (by omega)))
      have ZW := Lib.hid (ZR.out.upto hS.out.below (by omega))
      have hww : w.heap.size < w1.heap.size := by omega
      clear hw1s
      by_cases hlt : j < n
      · obtain ⟨b, o, eb, p, c1, Q0, F0⟩ := H.out.cell j hlt
        injection eb with eb
        injection eb with eb1 eb2 eb3
        subst eb1
        subst eb2
        have HF := Lib.hid F0
        have XM := Lib.hid (Nat.le_trans F0.cap1 F0.cap2)
        have HQ := Lib.hid (Q0.below BW.out)
        have QW := Lib.hid Q0
        have hbl := Q0.lt
        clear Q0 F0
        cases hv : decide (vt (tat L j).r (tat L j).c (tat L j).xs.length)
        · have HNO := Lib.hid (HNT.out (sok_a hlt (okT_v hv)))
          have HV := Lib.hid hv
          clear hv
          go_wp2_with fail
          refine wp_bl 14 [0, 0, 0, 2, 0, 0, 0, 0, 0, 0, 0, 0, 0, 0, 0] (by kernel_rfl) (by kernel_rfl) ?_
          simp only [List.take_succ_cons, List.take_zero, List.drop_succ_cons, List.drop_zero]
          with_reducible refine bl_step ?_
          intro K hK
          go_simp
          first
            | (refine hK _ _ ?_)
            | (refine ⟨?_, fun w' hw' => ?_, hK _ _ ?_⟩
               rotate_left
               · obtain ⟨q0, q1, q2, q3⟩ := HQ.out.below hw'
                 obtain ⟨x0, x1, x2, x3⟩ := hS.out.box.below hw'
                 go_simp
                 rfl
               go_simp)
          clear hK K
          with_reducible refine bl_step ?_
          intro K hK
          go_simp
          first
            | (refine hK _ _ ?_)
            | (refine ⟨?_, fun w' hw' => ?_, hK _ _ ?_⟩
               rotate_left
               · obtain ⟨q0, q1, q2, q3⟩ := HQ.out.below hw'
                 obtain ⟨x0, x1, x2, x3⟩ := hS.out.box.below hw'
                 go_simp
                 rfl
               go_simp)
          clear hK K
          with_reducible refine bl_step ?_
          intro K hK
          go_simp
          first
            | (refine hK _ _ ?_)
            | (refine ⟨?_, fun w' hw' => ?_, hK _ _ ?_⟩
               rotate_left
               · obtain ⟨q0, q1, q2, q3⟩ := HQ.out.below hw'
                 obtain ⟨x0, x1, x2, x3⟩ := hS.out.box.below hw'
                 go_simp
                 rfl
               go_simp)
          clear hK K
          with_reducible refine bl_step ?_
          intro K hK
          go_simp
          intro _
          refine (isT _ _ _ _ _ _ _ _ XM.out (HQ.out.below (bdrew (Below.refl _ _) _)).c0 (HQ.out.below (bdrew (Below.refl _ _) _)).c1 (HQ.out.below (bdrew (Below.refl _ _) _)).c2).mono ?_
          rintro e w8 ⟨rfl, q, hw8⟩
          have A := Lib.hid ((bdrew (Below.refl _ _) _).trans (below_of_drew hw8))
          clear hw8
          rw [HV.out]
          refine ⟨_, rfl, A.out, hK _ _ ?_⟩
          clear hK K
          with_reducible refine bl_step ?_
          intro K hK
          go_simp
          first
            | (refine hK _ _ ?_)
            | (refine ⟨?_, fun w' hw' => ?_, hK _ _ ?_⟩
               rotate_left
               · obtain ⟨q0, q1, q2, q3⟩ := HQ.out.below hw'
                 obtain ⟨x0, x1, x2, x3⟩ := hS.out.box.below hw'
                 go_simp
                 rfl
               go_simp)
          clear hK K
          with_reducible refine bl_step ?_
          intro K hK
          go_simp
          first
            | (refine hK _ _ ?_)
            | (refine ⟨?_, fun w' hw' => ?_, hK _ _ ?_⟩
               rotate_left
               · obtain ⟨q0, q1, q2, q3⟩ := HQ.out.below hw'
                 obtain ⟨x0, x1, x2, x3⟩ := hS.out.box.below hw'
                 go_simp
                 rfl
               go_simp)
          clear hK K
          with_reducible refine bl_step ?_
          intro K hK
          go_simp
          first
            | (refine hK _ _ ?_)
            | (refine ⟨?_, fun w' hw' => ?_, hK _ _ ?_⟩
               rotate_left
               · obtain ⟨q0, q1, q2, q3⟩ := HQ.out.below hw'
                 obtain ⟨x0, x1, x2, x3⟩ := hS.out.box.below hw'
                 go_simp
                 rfl
               go_simp)
          clear hK K
          with_reducible refine bl_step ?_
          intro K hK
          go_simp
          first
            | (refine hK _ _ ?_)
            | (refine ⟨?_, fun w' hw' => ?_, hK _ _ ?_⟩
               rotate_left
               · obtain ⟨q0, q1, q2, q3⟩ := HQ.out.below hw'
                 obtain ⟨x0, x1, x2, x3⟩ := hS.out.box.below hw'
                 go_simp
                 rfl
               go_simp)
          clear hK K
          with_reducible refine bl_step ?_
          intro K hK
          go_simp
          first
            | (refine hK _ _ ?_)
            | (refine ⟨?_, fun w' hw' => ?_, hK _ _ ?_⟩
               rotate_left
               · obtain ⟨q0, q1, q2, q3⟩ := HQ.out.below hw'
                 obtain ⟨x0, x1, x2, x3⟩ := hS.out.box.below hw'
                 go_simp
                 rfl
               go_simp)
          clear hK K
          with_reducible refine bl_step ?_
          intro K hK
          go_simp
          first
            | (refine hK _ _ ?_)
            | (refine ⟨?_, fun w' hw' => ?_, hK _ _ ?_⟩
               rotate_left
               · obtain ⟨q0, q1, q2, q3⟩ := HQ.out.below hw'
                 obtain ⟨x0, x1, x2, x3⟩ := hS.out.box.below hw'
                 go_simp
                 rfl
               go_simp)
          clear hK K
          with_reducible refine bl_step ?_
          intro K hK
          go_simp
          first
            | (refine hK _ _ ?_)
            | (refine ⟨?_, fun w' hw' => ?_, hK _ _ ?_⟩
               rotate_left
               · obtain ⟨q0, q1, q2, q3⟩ := HQ.out.below hw'
                 obtain ⟨x0, x1, x2, x3⟩ := hS.out.box.below hw'
                 go_simp
                 rfl
               go_simp)
          clear hK K
          with_reducible refine bl_step ?_
          intro K hK
          go_simp
          first
            | (refine hK _ _ ?_)
            | (refine ⟨?_, fun w' hw' => ?_, hK _ _ ?_⟩
               rotate_left
               · obtain ⟨q0, q1, q2, q3⟩ := HQ.out.below hw'
                 obtain ⟨x0, x1, x2, x3⟩ := hS.out.box.below hw'
                 go_simp
                 rfl
               go_simp)
          clear hK K
          with_reducible refine bl_step ?_
          intro K hK
          go_simp
          first
            | (refine hK _ _ ?_)
            | (refine ⟨?_, fun w' hw' => ?_, hK _ _ ?_⟩
               rotate_left
               · obtain ⟨q0, q1, q2, q3⟩ := HQ.out.below hw'
                 obtain ⟨x0, x1, x2, x3⟩ := hS.out.box.below hw'
                 go_simp
                 rfl
               go_simp)
          clear hK K
          with_reducible refine bl_step ?_
          intro K hK
          go_simp
          first
            | (refine hK _ _ ?_)
            | (refine ⟨?_, fun w' hw' => ?_, hK _ _ ?_⟩
               rotate_left
               · obtain ⟨q0, q1, q2, q3⟩ := HQ.out.below hw'
                 obtain ⟨x0, x1, x2, x3⟩ := hS.out.box.below hw'
                 go_simp
                 rfl
               go_simp)
          clear hK K
          with_reducible refine wpR_nil (fun nq => ?_)
          obtain ⟨⟨v0, v1, v2, v3⟩, v4, v5, v6⟩ := ZW.out.below A.out
          have B8 := Lib.hid (BW.out.trans ((bdrew A.out nq).mono BW.out.size))
          go_wp2
          refine bodyPost_ret (v := .tuple #[.agg #[.int .i64 0, .int .i64 0, .slice none 0 0], .bool false]) (by simp [results, Try.results34, go_sem, v0, v1, v2]) rfl ?_
          obtain ⟨n1, n2, n3, n4⟩ := HNO.out
          rw [n1, n2, n3, n4]
          exact RT_no B8.out (Nat.le_refl _)
        · by_cases hcc : (tat L j).c = (tat L 0).c
          · have hvt := of_decide_eq_true hv
            have hb1 : 1 ≤ (tat L j).r := hvt.1
            have hb2 : (tat L j).r ≤ 16 := hvt.2.1
            have hpos := (vt_le hvt).1
            have HAL := Lib.hid (allT_yes hall.out (okT_y hv hcc))
            have e9 : ((tat L j).c != (tat L 0).c) = false := by simpa using hcc
            have hat := tzs_mono L (show j + 1 ≤ n by omega)
            have hk2 := hk.out
            have es : tzs L (j + 1) = tzs L j + (tat L j).xs.length := rfl
            have hkb : k + (tat L j).xs.length ≤ 1048576 := by omega
            have HR := Lib.hid (show sr L (j + 1) = r + (tat L j).r by rw [hr.out]; rfl)
            have HK := Lib.hid (show tzs L (j + 1) = k + (tat L j).xs.length by rw [hk.out]; rfl)
            have HV := Lib.hid hv
            clear hv hcc hvt hat hk2 es
            go_wp2_with fail
            refine wp_bl 14 [0, 0, 0, 2, 0, 0, 0, 0, 0, 0, 0, 0, 0, 0, 0] (by kernel_rfl) (by kernel_rfl) ?_
            simp only [List.take_succ_cons, List.take_zero, List.drop_succ_cons, List.drop_zero]
            with_reducible refine bl_step ?_
            intro K hK
            go_simp
            first
              | (refine hK _ _ ?_)
              | (refine ⟨?_, fun w' hw' => ?_, hK _ _ ?_⟩
                 rotate_left
                 · obtain ⟨q0, q1, q2, q3⟩ := HQ.out.below hw'
                   obtain ⟨x0, x1, x2, x3⟩ := hS.out.box.below hw'
                   go_simp
                   rfl
                 go_simp)
            clear hK K
            with_reducible refine bl_step ?_
            intro K hK
            go_simp
            first
              | (refine hK _ _ ?_)
              | (refine ⟨?_, fun w' hw' => ?_, hK _ _ ?_⟩
                 rotate_left
                 · obtain ⟨q0, q1, q2, q3⟩ := HQ.out.below hw'
                   obtain ⟨x0, x1, x2, x3⟩ := hS.out.box.below hw'
                   go_simp
                   rfl
                 go_simp)
            clear hK K
            with_reducible refine bl_step ?_
            intro K hK
            go_simp
            first
              | (refine hK _ _ ?_)
              | (refine ⟨?_, fun w' hw' => ?_, hK _ _ ?_⟩
                 rotate_left
                 · obtain ⟨q0, q1, q2, q3⟩ := HQ.out.below hw'
                   obtain ⟨x0, x1, x2, x3⟩ := hS.out.box.below hw'
                   go_simp
                   rfl
                 go_simp)
            clear hK K
            with_reducible refine bl_step ?_
            intro K hK
            go_simp
            intro _
            refine (isT _ _ _ _ _ _ _ _ XM.out (HQ.out.below (bdrew (Below.refl _ _) _)).c0 (HQ.out.below (bdrew (Below.refl _ _) _)).c1 (HQ.out.below (bdrew (Below.refl _ _) _)).c2).mono ?_
            rintro e w8 ⟨rfl, q, hw8⟩
            have A := Lib.hid ((bdrew (Below.refl _ _) _).trans (below_of_drew hw8))
            clear hw8
            rw [HV.out]
            refine ⟨_, rfl, A.out, hK _ _ ?_⟩
            clear hK K
            with_reducible refine bl_step ?_
            intro K hK
            go_simp
            first
              | (refine hK _ _ ?_)
              | (refine ⟨?_, fun w' hw' => ?_, hK _ _ ?_⟩
                 rotate_left
                 · obtain ⟨q0, q1, q2, q3⟩ := HQ.out.below hw'
                   obtain ⟨x0, x1, x2, x3⟩ := hS.out.box.below hw'
                   go_simp
                   rfl
                 go_simp)
            clear hK K
            with_reducible refine bl_step ?_
            intro K hK
            go_simp
            first
              | (refine hK _ _ ?_)
              | (refine ⟨?_, fun w' hw' => ?_, hK _ _ ?_⟩
                 rotate_left
                 · obtain ⟨q0, q1, q2, q3⟩ := HQ.out.below hw'
                   obtain ⟨x0, x1, x2, x3⟩ := hS.out.box.below hw'
                   go_simp
                   rfl
                 go_simp)
            clear hK K
            with_reducible refine bl_step ?_
            intro K hK
            go_simp
            first
              | (refine hK _ _ ?_)
              | (refine ⟨?_, fun w' hw' => ?_, hK _ _ ?_⟩
                 rotate_left
                 · obtain ⟨q0, q1, q2, q3⟩ := HQ.out.below hw'
                   obtain ⟨x0, x1, x2, x3⟩ := hS.out.box.below hw'
                   go_simp
                   rfl
                 go_simp)
            clear hK K
            with_reducible refine bl_step ?_
            intro K hK
            go_simp
            first
              | (refine hK _ _ ?_)
              | (refine ⟨?_, fun w' hw' => ?_, hK _ _ ?_⟩
                 rotate_left
                 · obtain ⟨q0, q1, q2, q3⟩ := HQ.out.below hw'
                   obtain ⟨x0, x1, x2, x3⟩ := hS.out.box.below hw'
                   go_simp
                   rfl
                 go_simp)
            clear hK K
            with_reducible refine bl_step ?_
            intro K hK
            go_simp
            first
              | (refine hK _ _ ?_)
              | (refine ⟨?_, fun w' hw' => ?_, hK _ _ ?_⟩
                 rotate_left
                 · obtain ⟨q0, q1, q2, q3⟩ := HQ.out.below hw'
                   obtain ⟨x0, x1, x2, x3⟩ := hS.out.box.below hw'
                   go_simp
                   rfl
                 go_simp)
            clear hK K
            with_reducible refine bl_step ?_
            intro K hK
            go_simp
            first
              | (refine hK _ _ ?_)
              | (refine ⟨?_, fun w' hw' => ?_, hK _ _ ?_⟩
                 rotate_left
                 · obtain ⟨q0, q1, q2, q3⟩ := HQ.out.below hw'
                   obtain ⟨x0, x1, x2, x3⟩ := hS.out.box.below hw'
                   go_simp
                   rfl
                 go_simp)
            clear hK K
            with_reducible refine bl_step ?_
            intro K hK
            go_simp
            first
              | (refine hK _ _ ?_)
              | (refine ⟨?_, fun w' hw' => ?_, hK _ _ ?_⟩
                 rotate_left
                 · obtain ⟨q0, q1, q2, q3⟩ := HQ.out.below hw'
                   obtain ⟨x0, x1, x2, x3⟩ := hS.out.box.below hw'
                   go_simp
                   rfl
                 go_simp)
            clear hK K
            with_reducible refine bl_step ?_
            intro K hK
            go_simp
            first
              | (refine hK _ _ ?_)
              | (refine ⟨?_, fun w' hw' => ?_, hK _ _ ?_⟩
                 rotate_left
                 · obtain ⟨q0, q1, q2, q3⟩ := HQ.out.below hw'
                   obtain ⟨x0, x1, x2, x3⟩ := hS.out.box.below hw'
                   go_simp
                   rfl
                 go_simp)
            clear hK K
            with_reducible refine bl_step ?_
            intro K hK
            go_simp
            first
              | (refine hK _ _ ?_)
              | (refine ⟨?_, fun w' hw' => ?_, hK _ _ ?_⟩
                 rotate_left
                 · obtain ⟨q0, q1, q2, q3⟩ := HQ.out.below hw'
                   obtain ⟨x0, x1, x2, x3⟩ := hS.out.box.below hw'
                   go_simp
                   rfl
                 go_simp)
            clear hK K
            with_reducible refine bl_step ?_
            intro K hK
            go_simp
            first
              | (refine hK _ _ ?_)
              | (refine ⟨?_, fun w' hw' => ?_, hK _ _ ?_⟩
                 rotate_left
                 · obtain ⟨q0, q1, q2, q3⟩ := HQ.out.below hw'
                   obtain ⟨x0, x1, x2, x3⟩ := hS.out.box.below hw'
                   go_simp
                   rfl
                 go_simp)
            clear hK K
            with_reducible refine wpR_nil (fun nq => ?_)
            have A9 := bdrew A.out nq
            generalize w8.drewN nq = w9 at *
            clear A
            have S9s := Lib.hid (hS.out.next A9)
            have Q9 := Lib.hid (HQ.out.below A9)
            have B9 := Lib.hid (BW.out.trans (A9.mono BW.out.size))
            clear A9 e9
            obtain ⟨x0, x1, x2, x3⟩ := S9s.out.box
            obtain ⟨q0, q1, q2, q3⟩ := Q9.out
            have f0 := S9s.out.f0
            have hwr : IntKind.i64.wrap (r + (tat L j).r) = r + (tat L j).r := IntWalk.i64_in _ (by omega)
            go_wp2_with fail
            refine wp_dr 9 [0, 0, 0, 0, 0, 0, 0, 0, 0, 0] (by kernel_rfl) (by kernel_rfl) ?_
            simp only [List.take_succ_cons, List.take_zero, List.drop_succ_cons, List.drop_zero]
            iterate 9 (with_reducible refine dr_step ?_; intro K hK; go_simp; (try intro _); refine hK _ _ ?_; clear hK K)
            refine wpR_nil (fun nq => ?_)
            go_wp2_with fail
            clear x0 x1 x2 x3 q0 q1 q2 q3 f0 hwr
            refine reg_at3 ?_
            intro w10 hA
            have S10 := Lib.hid (show St w1.heap.size (w1.heap.size + 1) 33 (tat L 0).c w1 w10 (r + (tat L j).r) k a' cap' (sp L j) by rw [hA]; first | exact (S9s.out.drew _).rows _ | exact (S9s.out.rows _).drew _)
            have B10 := Lib.hid (show Below w.heap.size w w10 by rw [hA]; first | exact (bdrew B9.out _).setCell (by simp <;> omega) _ | exact bdrew (B9.out.setCell (by simp <;> omega) _) _)
            clear hA
            have FACT : ∀ w', Cl w1.heap.size (w1.heap.size + 1) w10 w' → w'.cell? ⟨w1.heap.size + 1, 2, none⟩ = some (.slice a' k cap') ∧ w'.cell? ⟨bb, oo + j * 3 + 2, none⟩ = some (.slice (some ⟨p, 0, none⟩) (tat L j).xs.length c1) := fun w' h => ⟨h.cell (.inr rfl) S10.out.box.c2, h.cell (.inl (show bb < w1.heap.size by omega)) (QW.out.below B10.out).c2⟩
            have FA := Lib.hid FACT
            clear FACT
            refine wp_cl w1.heap.size (w1.heap.size + 1) 9 [0, 0, 0, 0, 0, 0, 0, 2, 0, 0] (by kernel_rfl) (by kernel_rfl) ?_
            simp only [List.take_succ_cons, List.take_zero, List.drop_succ_cons, List.drop_zero]
            with_reducible refine cl_step ?_
            intro K hK
            go_simp
            first
              | (refine hK _ _ ?_)
              | (refine ⟨?_, fun w' hw' => ?_, hK _ _ ?_⟩
                 rotate_left
                 · obtain ⟨y0, y1⟩ := FA.out w' hw'
                   go_simp
                   rfl
                 go_simp)
            clear hK K
            with_reducible refine cl_step ?_
            intro K hK
            go_simp
            first
              | (refine hK _ _ ?_)
              | (refine ⟨?_, fun w' hw' => ?_, hK _ _ ?_⟩
                 rotate_left
                 · obtain ⟨y0, y1⟩ := FA.out w' hw'
                   go_simp
                   rfl
                 go_simp)
            clear hK K
            with_reducible refine cl_step ?_
            intro K hK
            go_simp
            first
              | (refine hK _ _ ?_)
              | (refine ⟨?_, fun w' hw' => ?_, hK _ _ ?_⟩
                 rotate_left
                 · obtain ⟨y0, y1⟩ := FA.out w' hw'
                   go_simp
                   rfl
                 go_simp)
            clear hK K
            with_reducible refine cl_step ?_
            intro K hK
            go_simp
            first
              | (refine hK _ _ ?_)
              | (refine ⟨?_, fun w' hw' => ?_, hK _ _ ?_⟩
                 rotate_left
                 · obtain ⟨y0, y1⟩ := FA.out w' hw'
                   go_simp
                   rfl
                 go_simp)
            clear hK K
            with_reducible refine cl_step ?_
            intro K hK
            go_simp
            first
              | (refine hK _ _ ?_)
              | (refine ⟨?_, fun w' hw' => ?_, hK _ _ ?_⟩
                 rotate_left
                 · obtain ⟨y0, y1⟩ := FA.out w' hw'
                   go_simp
                   rfl
                 go_simp)
            clear hK K
            with_reducible refine cl_step ?_
            intro K hK
            go_simp
            first
              | (refine hK _ _ ?_)
              | (refine ⟨?_, fun w' hw' => ?_, hK _ _ ?_⟩
                 rotate_left
                 · obtain ⟨y0, y1⟩ := FA.out w' hw'
                   go_simp
                   rfl
                 go_simp)
            clear hK K
            with_reducible refine cl_step ?_
            intro K hK
            go_simp
            first
              | (refine hK _ _ ?_)
              | (refine ⟨?_, fun w' hw' => ?_, hK _ _ ?_⟩
                 rotate_left
                 · obtain ⟨y0, y1⟩ := FA.out w' hw'
                   go_simp
                   rfl
                 go_simp)
            clear hK K
            with_reducible refine step2 (by rfl) (fun K hK n2 => ?_)
            refine uponV_append (.tmp 49) (.tmp 54) 22 rfl w1.heap.size 33 i0 (.float .f32 0) 1 4 Try.underlying22 HI.out HZ0.out HZ1.out HZ2.out rfl (by decide) (.slice a' k cap') k (fl (sp L j)) rfl ((S10.out.drew 1).drew n2).own ⟨p, 0, none⟩ (tat L j).xs.length c1 (fl (tat L j).xs) rfl ?c1 ?c2 ?c3 ?c4 ?c5 ?c6 ?_
            case c1 => rw [fl_length, Nat.mul_one]
            case c2 => exact fs_news (((HF.out.below B10.out).drew _).drew _)
            case c3 => exact fl_one _
            case c4 => unfold maxLen; omega
            case c5 => omega
            case c6 =>
              have := S10.out.box.lt
              show w1.heap.size ≤ w10.heap.size
              omega
            intro v' w11 hown hgr
            obtain ⟨a2, cap2, rfl, BX, FR, S11_⟩ := ((S10.out.drew 1).drew n2).app (us := (tat L j).xs) (by omega) hown hgr
            have CC : Cl w1.heap.size (w1.heap.size + 1) w10 w11 := (Cl.drew _ _ (Cl.drew _ _ (Cl.refl _ _ _))).grown hgr (by have := S10.out.box.lt; show w1.heap.size ≤ w10.heap.size; omega) (by have := S10.out.box.lt; exact this) (fun q hq => ⟨(S10.out.own.lt q hq).1, by
                cases a' with
                | none => cases hq
                | some pq => have := S10.out.ne pq rfl; simp [Value.ownBlock] at hq; omega⟩)
            have HCC := Lib.hid CC
            have S11 := Lib.hid S11_
            clear CC S11_ hown hgr
            refine ⟨HCC.out, ?_⟩
            go_simp
            refine hK _ _ ?_
            clear hK K
            with_reducible refine cl_step ?_
            intro K hK
            go_simp
            first
              | (refine hK _ _ ?_)
              | (refine ⟨?_, fun w' hw' => ?_, hK _ _ ?_⟩
                 rotate_left
                 · obtain ⟨y0, y1⟩ := FA.out w' hw'
                   go_simp
                   rfl
                 go_simp)
            clear hK K
            with_reducible refine wpR_nil (fun n3 => ?_)
            obtain ⟨b0', b1', b2', b3'⟩ := BX
            go_wp2
            go_roundw
            case rel => exact ⟨j + 1, k + (tat L j).xs.length, r + (tat L j).r, a2, cap2, by omega, by go_num, HAL, HR.out.symm, by omega, by omega, HK.out.symm, S11.out.drew n3⟩
            case measure => simp [intOf]; omega
          · have HNO := Lib.hid (HNT.out (sok_a hlt (okT_c hcc)))
            have e9 : ((tat L j).c != (tat L 0).c) = true := by simpa using hcc
            have HV := Lib.hid hv
            clear hv hcc
            go_wp2_with fail
            refine wp_bl 14 [0, 0, 0, 2, 0, 0, 0, 0, 0, 0, 0, 0, 0, 0, 0] (by kernel_rfl) (by kernel_rfl) ?_
            simp only [List.take_succ_cons, List.take_zero, List.drop_succ_cons, List.drop_zero]
            with_reducible refine bl_step ?_
            intro K hK
            go_simp
            first
              | (refine hK _ _ ?_)
              | (refine ⟨?_, fun w' hw' => ?_, hK _ _ ?_⟩
                 rotate_left
                 · obtain ⟨q0, q1, q2, q3⟩ := HQ.out.below hw'
                   obtain ⟨x0, x1, x2, x3⟩ := hS.out.box.below hw'
                   go_simp
                   rfl
                 go_simp)
            clear hK K
            with_reducible refine bl_step ?_
            intro K hK
            go_simp
            first
              | (refine hK _ _ ?_)
              | (refine ⟨?_, fun w' hw' => ?_, hK _ _ ?_⟩
                 rotate_left
                 · obtain ⟨q0, q1, q2, q3⟩ := HQ.out.below hw'
                   obtain ⟨x0, x1, x2, x3⟩ := hS.out.box.below hw'
                   go_simp
                   rfl
                 go_simp)
            clear hK K
            with_reducible refine bl_step ?_
            intro K hK
            go_simp
            first
              | (refine hK _ _ ?_)
              | (refine ⟨?_, fun w' hw' => ?_, hK _ _ ?_⟩
                 rotate_left
                 · obtain ⟨q0, q1, q2, q3⟩ := HQ.out.below hw'
                   obtain ⟨x0, x1, x2, x3⟩ := hS.out.box.below hw'
                   go_simp
                   rfl
                 go_simp)
            clear hK K
            with_reducible refine bl_step ?_
            intro K hK
            go_simp
            intro _
            refine (isT _ _ _ _ _ _ _ _ XM.out (HQ.out.below (bdrew (Below.refl _ _) _)).c0 (HQ.out.below (bdrew (Below.refl _ _) _)).c1 (HQ.out.below (bdrew (Below.refl _ _) _)).c2).mono ?_
            rintro e w8 ⟨rfl, q, hw8⟩
            have A := Lib.hid ((bdrew (Below.refl _ _) _).trans (below_of_drew hw8))
            clear hw8
            rw [HV.out]
            refine ⟨_, rfl, A.out, hK _ _ ?_⟩
            clear hK K
            with_reducible refine bl_step ?_
            intro K hK
            go_simp
            first
              | (refine hK _ _ ?_)
              | (refine ⟨?_, fun w' hw' => ?_, hK _ _ ?_⟩
                 rotate_left
                 · obtain ⟨q0, q1, q2, q3⟩ := HQ.out.below hw'
                   obtain ⟨x0, x1, x2, x3⟩ := hS.out.box.below hw'
                   go_simp
                   rfl
                 go_simp)
            clear hK K
            with_reducible refine bl_step ?_
            intro K hK
            go_simp
            first
              | (refine hK _ _ ?_)
              | (refine ⟨?_, fun w' hw' => ?_, hK _ _ ?_⟩
                 rotate_left
                 · obtain ⟨q0, q1, q2, q3⟩ := HQ.out.below hw'
                   obtain ⟨x0, x1, x2, x3⟩ := hS.out.box.below hw'
                   go_simp
                   rfl
                 go_simp)
            clear hK K
            with_reducible refine bl_step ?_
            intro K hK
            go_simp
            first
              | (refine hK _ _ ?_)
              | (refine ⟨?_, fun w' hw' => ?_, hK _ _ ?_⟩
                 rotate_left
                 · obtain ⟨q0, q1, q2, q3⟩ := HQ.out.below hw'
                   obtain ⟨x0, x1, x2, x3⟩ := hS.out.box.below hw'
                   go_simp
                   rfl
                 go_simp)
            clear hK K
            with_reducible refine bl_step ?_
            intro K hK
            go_simp
            first
              | (refine hK _ _ ?_)
              | (refine ⟨?_, fun w' hw' => ?_, hK _ _ ?_⟩
                 rotate_left
                 · obtain ⟨q0, q1, q2, q3⟩ := HQ.out.below hw'
                   obtain ⟨x0, x1, x2, x3⟩ := hS.out.box.below hw'
                   go_simp
                   rfl
                 go_simp)
            clear hK K
            with_reducible refine bl_step ?_
            intro K hK
            go_simp
            first
              | (refine hK _ _ ?_)
              | (refine ⟨?_, fun w' hw' => ?_, hK _ _ ?_⟩
                 rotate_left
                 · obtain ⟨q0, q1, q2, q3⟩ := HQ.out.below hw'
                   obtain ⟨x0, x1, x2, x3⟩ := hS.out.box.below hw'
                   go_simp
                   rfl
                 go_simp)
            clear hK K
            with_reducible refine bl_step ?_
            intro K hK
            go_simp
            first
              | (refine hK _ _ ?_)
              | (refine ⟨?_, fun w' hw' => ?_, hK _ _ ?_⟩
                 rotate_left
                 · obtain ⟨q0, q1, q2, q3⟩ := HQ.out.below hw'
                   obtain ⟨x0, x1, x2, x3⟩ := hS.out.box.below hw'
                   go_simp
                   rfl
                 go_simp)
            clear hK K
            with_reducible refine bl_step ?_
            intro K hK
            go_simp
            first
              | (refine hK _ _ ?_)
              | (refine ⟨?_, fun w' hw' => ?_, hK _ _ ?_⟩
                 rotate_left
                 · obtain ⟨q0, q1, q2, q3⟩ := HQ.out.below hw'
                   obtain ⟨x0, x1, x2, x3⟩ := hS.out.box.below hw'
                   go_simp
                   rfl
                 go_simp)
            clear hK K
            with_reducible refine bl_step ?_
            intro K hK
            go_simp
            first
              | (refine hK _ _ ?_)
              | (refine ⟨?_, fun w' hw' => ?_, hK _ _ ?_⟩
                 rotate_left
                 · obtain ⟨q0, q1, q2, q3⟩ := HQ.out.below hw'
                   obtain ⟨x0, x1, x2, x3⟩ := hS.out.box.below hw'
                   go_simp
                   rfl
                 go_simp)
            clear hK K
            with_reducible refine bl_step ?_
            intro K hK
            go_simp
            first
              | (refine hK _ _ ?_)
              | (refine ⟨?_, fun w' hw' => ?_, hK _ _ ?_⟩
                 rotate_left
                 · obtain ⟨q0, q1, q2, q3⟩ := HQ.out.below hw'
                   obtain ⟨x0, x1, x2, x3⟩ := hS.out.box.below hw'
                   go_simp
                   rfl
                 go_simp)
            clear hK K
            with_reducible refine bl_step ?_
            intro K hK
            go_simp
            first
              | (refine hK _ _ ?_)
              | (refine ⟨?_, fun w' hw' => ?_, hK _ _ ?_⟩
                 rotate_left
                 · obtain ⟨q0, q1, q2, q3⟩ := HQ.out.below hw'
                   obtain ⟨x0, x1, x2, x3⟩ := hS.out.box.below hw'
                   go_simp
                   rfl
                 go_simp)
            clear hK K
            with_reducible refine wpR_nil (fun nq => ?_)
            obtain ⟨⟨v0, v1, v2, v3⟩, v4, v5, v6⟩ := ZW.out.below A.out
            have B8 := Lib.hid (BW.out.trans ((bdrew A.out nq).mono BW.out.size))
            go_wp2
            refine bodyPost_ret (v := .tuple #[.agg #[.int .i64 0, .int .i64 0, .slice none 0 0], .bool false]) (by simp [results, Try.results34, go_sem, v0, v1, v2]) rfl ?_
            obtain ⟨n1, n2, n3, n4⟩ := HNO.out
            rw [n1, n2, n3, n4]
            exact RT_no B8.out (Nat.le_refl _)
      · have e : j = n := by omega
        subst e
        have hkm : k ≤ maxLen := by have := hk.out; unfold maxLen; omega
        have HKM := Lib.hid hkm
        have hSo := sok_e HI16.out hall.out
        rw [← hr.out, ← hk.out] at hSo
        have HSO := Lib.hid hSo
        clear hkm hSo
        go_wp2_with fail
        refine (isT r (tat L 0).c a' k cap' (w1.heap.size + 1) 0 _ HKM.out hS.out.box.c0 hS.out.box.c1 hS.out.box.c2).mono ?_
        rintro e w7 ⟨rfl, mq, hw7⟩
        have A := below_of_drew hw7
        clear hw7
        have S7 := Lib.hid (hS.out.next A)
        have Z7 := Lib.hid (ZW.out.below A)
        have B7 := Lib.hid (BW.out.trans (A.mono BW.out.size))
        clear A
        obtain ⟨⟨v0, v1, v2, v3⟩, v4, v5, v6⟩ := Z7.out
        cases hv : decide (vt r (tat L 0).c k)
        · have ho := HSO.out.trans hv
          have HNO := Lib.hid (HNT.out ho)
          clear ho hv
          go_wp2
          refine bodyPost_ret (v := .tuple #[.agg #[.int .i64 0, .int .i64 0, .slice none 0 0], .bool false]) (by simp [results, Try.results34, go_sem, v0, v1, v2]) rfl ?_
          obtain ⟨n1, n2, n3, n4⟩ := HNO.out
          rw [n1, n2, n3, n4]
          exact RT_no B7.out (Nat.le_refl _)
        · have ho := HSO.out.trans hv
          have HNO := Lib.hid (show R9 = r ∧ C9 = (tat L 0).c ∧ S9 = sp L j ∧ ok9 = true from ⟨by rw [HE1.out, hr.out]; unfold sR; rw [ho]; rfl, by rw [HE2.out]; unfold sC; rw [ho]; rfl, by rw [HE3.out]; unfold sS; rw [ho]; rfl, by rw [HE4.out]; exact ho⟩)
          clear ho hv
          obtain ⟨x0, x1, x2, x3⟩ := S7.out.box
          go_wp2
          refine bodyPost_ret (v := .tuple #[.agg #[.int .i64 r, .int .i64 (tat L 0).c, .slice a' k cap'], .bool true]) (by simp [results, Try.results34, go_sem, v0, v1, v2]) rfl ?_
          obtain ⟨n1, n2, n3, n4⟩ := HNO.out
          rw [n1, n2, n3, n4]
          exact RT_row B7.out (Nat.le_refl _) (Row.of (own_base S7.out.own (by have := HW1S.out; omega)) (by have := S7.out.box.lt; have := HW1S.out; omega))
end Go.Proofs.Ytoeppdkhncllbaa
