/- Lists of operations of a tape: the laws' helpers on them. -/
import Derived.Test.YtcfnhkadljlgcaaTens
import Derived.Test.YtcfnhkadljlgcaaAcc
import Derived.Test.YtcfnhkadljlgcaaOpen
import Derived.Laws.ResultCell
namespace Go.Proofs.Ytcfnhkadljlgcaa
open Go.RowKit Go.Fl Go.Reg
/-- an operation -/
structure OD where
  k : Int
  a : Int
  b : Int
  z : Nat
  r : Int
  c : Int
  xs : List Nat
deriving Inhabited
def oat (L : List OD) (j : Nat) : OD := L[j]?.getD default
/-- seven cells that read as an operation -/
structure Ob (w : World) (p o : Nat) (l : OD) (a : Option Addr) (n cap : Nat) : Prop where
  c0 : w.cell? ⟨p, o, none⟩ = some (.int .i64 l.k)
  c1 : w.cell? ⟨p, o + 1, none⟩ = some (.int .i64 l.a)
  c2 : w.cell? ⟨p, o + 2, none⟩ = some (.int .i64 l.b)
  c3 : w.cell? ⟨p, o + 3, none⟩ = some (.float .f32 l.z)
  c4 : w.cell? ⟨p, o + 4, none⟩ = some (.int .i64 l.r)
  c5 : w.cell? ⟨p, o + 5, none⟩ = some (.int .i64 l.c)
  c6 : w.cell? ⟨p, o + 6, none⟩ = some (.slice a n cap)
  lt : p < w.heap.size
theorem Ob.below {w w' : World} {p o : Nat} {l : OD} {a : Option Addr} {n cap : Nat} (h : Ob w p o l a n cap) (hb : Below w.heap.size w w') : Ob w' p o l a n cap :=
  ⟨(hb.cell (p := ⟨p, o, none⟩) h.lt).trans h.c0, (hb.cell (p := ⟨p, o + 1, none⟩) h.lt).trans h.c1, (hb.cell (p := ⟨p, o + 2, none⟩) h.lt).trans h.c2, (hb.cell (p := ⟨p, o + 3, none⟩) h.lt).trans h.c3, (hb.cell (p := ⟨p, o + 4, none⟩) h.lt).trans h.c4, (hb.cell (p := ⟨p, o + 5, none⟩) h.lt).trans h.c5, (hb.cell (p := ⟨p, o + 6, none⟩) h.lt).trans h.c6, Nat.lt_of_lt_of_le h.lt hb.size⟩
def Ox (w : World) (p o : Nat) (l : OD) : Prop := ∃ a1 c1, Ob w p o l a1 l.xs.length c1 ∧ Fs w a1 l.xs.length c1 l.xs
theorem Ox.below {w w' : World} {p o : Nat} {l : OD} (h : Ox w p o l) (hb : Below w.heap.size w w') : Ox w' p o l := by
  obtain ⟨a1, c1, h1, h2⟩ := h
  exact ⟨a1, c1, h1.below hb, h2.below hb⟩
/-- a slice of operations that is read -/
structure Os (w : World) (a : Option Addr) (n cap : Nat) (L : List OD) : Prop where
  len : n = L.length
  cap1 : n ≤ cap
  cap2 : cap ≤ maxLen
  cell : ∀ j, j < n → ∃ p o, a = some ⟨p, o, none⟩ ∧ Ox w p (o + j * 7) (oat L j)
theorem Os.below {w w' : World} {a : Option Addr} {n cap : Nat} {L : List OD} (h : Os w a n cap L) (hb : Below w.heap.size w w') : Os w' a n cap L :=
  ⟨h.len, h.cap1, h.cap2, fun j hj => by obtain ⟨b, o, e, hx⟩ := h.cell j hj; exact ⟨b, o, e, hx.below hb⟩⟩
theorem Os.drew {w : World} {a : Option Addr} {n cap : Nat} {L : List OD} (h : Os w a n cap L) (m : Nat) : Os (w.drewN m) a n cap L := h.below (bdrew (Below.refl _ _) _)
/-- how many numbers the first j operations have -/
def ozs (L : List OD) : Nat → Nat
  | 0 => 0
  | j + 1 => ozs L j + (oat L j).xs.length
theorem ozs_mono (L : List OD) {a b : Nat} (h : a ≤ b) : ozs L a ≤ ozs L b := by
  induction b with
  | zero => have : a = 0 := by omega
            subst this; exact Nat.le_refl _
  | succ b ih =>
    by_cases e : a = b + 1
    · subst e; exact Nat.le_refl _
    · have := ih (by omega)
      show _ ≤ ozs L b + _
      omega
theorem ozs_at (L : List OD) {j n : Nat} (h : j < n) : (oat L j).xs.length ≤ ozs L n := by
  have := ozs_mono L (show j + 1 ≤ n by omega)
  have e : ozs L (j + 1) = ozs L j + (oat L j).xs.length := rfl
  omega
/-- an operation as a value -/
def ov (l : OD) (a : Option Addr) (n cap : Nat) : Value := .agg #[.int .i64 l.k, .int .i64 l.a, .int .i64 l.b, .float .f32 l.z, .int .i64 l.r, .int .i64 l.c, .slice a n cap]
theorem szOYes (l : OD) (a : Option Addr) (n cap : Nat) (left : Int) (w : World) (hl : left ≤ 1048576) (h : (n : Int) ≤ left) :
    Calls Try.prog 9 #[ov l a n cap, .int .i64 left] w fun e w' => e = .returned (.int .i64 (left - n)) ∧ Below w.heap.size w w' := by
  unfold ov
  go_enter Try.func9, Try.ntmps9
  go_wp2_with go_in
  go_ret
  exact ⟨rfl, ((Below.refl _ _).alloc (Nat.le_refl _) _).alloc (by simp) _⟩
theorem szONo (l : OD) (a : Option Addr) (n cap : Nat) (left : Int) (w : World) (hn : n ≤ maxLen) (hl : 0 ≤ left) (h : left < (n : Int)) :
    Calls Try.prog 9 #[ov l a n cap, .int .i64 left] w fun e w' => e = .returned (.int .i64 (-1)) ∧ Below w.heap.size w w' := by
  unfold maxLen at hn
  unfold ov
  go_enter Try.func9, Try.ntmps9
  go_wp2_with go_in
  go_ret
  exact ⟨rfl, ((Below.refl _ _).alloc (Nat.le_refl _) _).alloc (by simp) _⟩
set_option maxHeartbeats 1000000 in
theorem szOS (a : Option Addr) (n cap : Nat) (L : List OD) (left : Int) (w : World) (hl : left ≤ 1048576) (hl0 : 0 ≤ left) (h : Os w a n cap L) :
    Calls Try.prog 4 #[.slice a n cap, .int .i64 left] w fun e w' => ∃ r, e = .returned (.int .i64 r) ∧ ((n : Int) + ozs L n ≤ left → r = left - n - ozs L n) ∧ (left < (n : Int) + ozs L n → r = -1) ∧ Below w.heap.size w w' := by
  have hc1 := h.cap1
  have hc2 := h.cap2
  unfold maxLen at hc2
  have H := Lib.hid h
  clear h
  by_cases hb : left < (n : Int)
  · go_enter Try.func4, Try.ntmps4
    go_wp2
    go_ret
    exact ⟨-1, rfl, fun h => by omega, fun _ => rfl, Below.refl _ _⟩
  · go_enter Try.func4, Try.ntmps4
    go_wp2
    go_loopw [1, 5] (fun lf i w' => ∃ (j : Nat) (q : Int), j ≤ n ∧ i = .int .i64 j ∧ lf = .int .i64 q ∧ Hid (q = left - n - ozs L j) ∧ 0 ≤ q ∧ q ≤ 1048576 ∧ Hid (Below w.heap.size w w')) (fun _ i _ => n - (intOf i).toNat)
    case atStart => exact ⟨0, _, Nat.zero_le _, rfl, rfl, by show _ = _; simp [ozs], by omega, by omega, Below.refl _ _⟩
    case round =>
      obtain ⟨j, q, hj, rfl, rfl, hq, hq0, hq1, hB⟩ := hrel
      by_cases hlt : j < n
      · obtain ⟨b, o, rfl, a1, c1, Q, F1⟩ := (H.out.below hB.out).cell j hlt
        obtain ⟨q0, q1, q2, q3, q4, q5, q6, q7⟩ := Q
        have es : ozs L (j + 1) = ozs L j + (oat L j).xs.length := rfl
        have hmo := ozs_mono L (show j + 1 ≤ n by omega)
        have f1 := Nat.le_trans F1.cap1 F1.cap2
        have G1 := Lib.hid f1
        clear f1 F1
        by_cases hs : (((oat L j).xs.length : Nat) : Int) ≤ q
        · have ES := Lib.hid es
          clear es hmo
          go_wp2_with fail
          refine (szOYes (oat L j) _ _ _ _ _ hq1 hs).mono ?_
          rintro e w1 ⟨rfl, A⟩
          have HA := Lib.hid (hB.out.trans (A.mono hB.out.size))
          clear A q0 q1 q2 q3 q4 q5 q6 q7
          have hr0 : 0 ≤ q - ((oat L j).xs.length : Int) := by omega
          obtain ⟨r, hr⟩ : ∃ r, r = q - ((oat L j).xs.length : Int) := ⟨_, rfl⟩
          rw [← hr] at hr0 ⊢
          have HR := Lib.hid hr
          clear hr hs
          go_wp2
          go_roundw
          case rel => exact ⟨j + 1, r, by omega, by go_num, rfl, (by have := ES.out; have := hq.out; have := HR.out; show _ = _; omega), hr0, (by have := HR.out; omega), HA⟩
          case measure => simp [intOf]; omega
        · have HES := Lib.hid es
          have HMO := Lib.hid hmo
          clear es hmo
          go_wp2_with fail
          refine (szONo (oat L j) _ _ _ _ _ G1.out hq0 (by omega)).mono ?_
          rintro e w1 ⟨rfl, A⟩
          have HA := Lib.hid (hB.out.trans (A.mono hB.out.size))
          clear A q0 q1 q2 q3 q4 q5 q6 q7
          have HS := Lib.hid hs
          clear hs
          go_wp2
          go_ret
          exact ⟨-1, rfl, fun h => by have := HS.out; have := HES.out; have := HMO.out; have := hq.out; omega, fun _ => rfl, HA.out⟩
      · have e : j = n := by omega
        subst e
        go_wp2
        go_ret
        exact ⟨q, rfl, fun _ => hq.out, fun h => by have := hq.out; omega, hB.out⟩
theorem eqO (l : OD) (a b : Option Addr) (n c1 c2 : Nat) (xs : List Nat) (w : World) (hn : n ≤ 1048576) (h1 : Fs w a n c1 xs) (h2 : Fs w b n c2 xs) :
    Calls Try.prog 13 #[ov l a n c1, ov l b n c2] w fun e w' => e = .returned (.bool true) ∧ Below w.heap.size w w' := by
  unfold ov
  go_enter Try.func13, Try.ntmps13
  go_wp2_with fail
  refine (sameFloatr _ _ _ ?_).mono ?_
  · rw [fwid_wid, fwid_wid]
  rintro e w1 ⟨rfl, A⟩
  have B0 : Below w.heap.size w w1 := by
    refine Below.trans ?_ (A.mono (by simp <;> omega))
    exact bdrew (((Below.refl _ _).alloc (Nat.le_refl _) _).alloc (by simp) _) _
  obtain ⟨hc, hf⟩ := bcell A
  have hz : w.heap.size + 1 < w1.heap.size := by have := A.size; simp at this; omega
  have hz0 : w.heap.size < w1.heap.size := by omega
  have G1 := Lib.hid (h1.below B0)
  have G2 := Lib.hid (h2.below B0)
  have HB0 := Lib.hid B0
  clear A B0 h1 h2 hf
  go_wp2_with fail
  refine (eqTens _ _ _ _ _ _ _ _ _ _ hn G1.out G2.out rfl).mono ?_
  rintro e w2 ⟨rfl, A⟩
  go_wp2_with fail
  go_ret
  exact ⟨rfl, HB0.out.trans (A.mono HB0.out.size)⟩
set_option maxHeartbeats 1000000 in
theorem eqOS (a b : Option Addr) (n c1 c2 : Nat) (L : List OD) (w : World) (hs : ozs L n ≤ 1048576) (h1 : Os w a n c1 L) (h2 : Os w b n c2 L) :
    Calls Try.prog 8 #[.slice a n c1, .slice b n c2] w fun e w' => e = .returned (.bool true) ∧ Below w.heap.size w w' := by
  have H1 := Lib.hid h1
  have H2 := Lib.hid h2
  have hk1 := h1.cap1
  have hk2 := h1.cap2
  unfold maxLen at hk2
  clear h1 h2
  go_enter Try.func8, Try.ntmps8
  go_wp2
  go_loopw [5] (fun i w' => ∃ j : Nat, j ≤ n ∧ i = .int .i64 j ∧ Hid (Below w.heap.size w w')) (fun i _ => n - (intOf i).toNat)
  case atStart => exact ⟨0, Nat.zero_le _, rfl, Below.refl _ _⟩
  case round =>
    obtain ⟨j, hj, rfl, hB⟩ := hrel
    by_cases hlt : j < n
    · obtain ⟨b1, o1, rfl, a1, d1, Q, F1⟩ := (H1.out.below hB.out).cell j hlt
      obtain ⟨b2, o2, rfl, a3, d3, Q', F3⟩ := (H2.out.below hB.out).cell j hlt
      have hx := Nat.le_trans (ozs_at L hlt) hs
      have HQ := Lib.hid Q
      have HQ' := Lib.hid Q'
      have G1 := Lib.hid F1
      have G3 := Lib.hid F3
      clear Q Q' F1 F3
      go_wp2_with fail
      refine wp_bl 9 [0, 0, 0, 0, 0, 0, 0, 0, 2, 0] (by kernel_rfl) (by kernel_rfl) ?_
      simp only [List.take_succ_cons, List.take_zero, List.drop_succ_cons, List.drop_zero]
      with_reducible refine bl_step ?_
      intro K hK
      go_simp
      first
        | (refine hK _ _ ?_)
        | (refine ⟨?_, fun w' hw' => ?_, hK _ _ ?_⟩
           rotate_left
           · obtain ⟨q0, q1, q2, q3, q4, q5, q6, q7⟩ := HQ.out.below hw'
             obtain ⟨p0, p1, p2, p3, p4, p5, p6, p7⟩ := HQ'.out.below hw'
             go_simp
             rfl
           go_simp)
      clear hK K
      with_reducible refine bl_step ?_
      intro K hK
      go_simp
      first
        | (refine hK _ _ ?_)
        | (refine ⟨?_, fun w' hw' => ?_, hK _ _ ?_⟩
           rotate_left
           · obtain ⟨q0, q1, q2, q3, q4, q5, q6, q7⟩ := HQ.out.below hw'
             obtain ⟨p0, p1, p2, p3, p4, p5, p6, p7⟩ := HQ'.out.below hw'
             go_simp
             rfl
           go_simp)
      clear hK K
      with_reducible refine bl_step ?_
      intro K hK
      go_simp
      first
        | (refine hK _ _ ?_)
        | (refine ⟨?_, fun w' hw' => ?_, hK _ _ ?_⟩
           rotate_left
           · obtain ⟨q0, q1, q2, q3, q4, q5, q6, q7⟩ := HQ.out.below hw'
             obtain ⟨p0, p1, p2, p3, p4, p5, p6, p7⟩ := HQ'.out.below hw'
             go_simp
             rfl
           go_simp)
      clear hK K
      with_reducible refine bl_step ?_
      intro K hK
      go_simp
      first
        | (refine hK _ _ ?_)
        | (refine ⟨?_, fun w' hw' => ?_, hK _ _ ?_⟩
           rotate_left
           · obtain ⟨q0, q1, q2, q3, q4, q5, q6, q7⟩ := HQ.out.below hw'
             obtain ⟨p0, p1, p2, p3, p4, p5, p6, p7⟩ := HQ'.out.below hw'
             go_simp
             rfl
           go_simp)
      clear hK K
      with_reducible refine bl_step ?_
      intro K hK
      go_simp
      first
        | (refine hK _ _ ?_)
        | (refine ⟨?_, fun w' hw' => ?_, hK _ _ ?_⟩
           rotate_left
           · obtain ⟨q0, q1, q2, q3, q4, q5, q6, q7⟩ := HQ.out.below hw'
             obtain ⟨p0, p1, p2, p3, p4, p5, p6, p7⟩ := HQ'.out.below hw'
             go_simp
             rfl
           go_simp)
      clear hK K
      with_reducible refine bl_step ?_
      intro K hK
      go_simp
      first
        | (refine hK _ _ ?_)
        | (refine ⟨?_, fun w' hw' => ?_, hK _ _ ?_⟩
           rotate_left
           · obtain ⟨q0, q1, q2, q3, q4, q5, q6, q7⟩ := HQ.out.below hw'
             obtain ⟨p0, p1, p2, p3, p4, p5, p6, p7⟩ := HQ'.out.below hw'
             go_simp
             rfl
           go_simp)
      clear hK K
      with_reducible refine bl_step ?_
      intro K hK
      go_simp
      first
        | (refine hK _ _ ?_)
        | (refine ⟨?_, fun w' hw' => ?_, hK _ _ ?_⟩
           rotate_left
           · obtain ⟨q0, q1, q2, q3, q4, q5, q6, q7⟩ := HQ.out.below hw'
             obtain ⟨p0, p1, p2, p3, p4, p5, p6, p7⟩ := HQ'.out.below hw'
             go_simp
             rfl
           go_simp)
      clear hK K
      with_reducible refine bl_step ?_
      intro K hK
      go_simp
      first
        | (refine hK _ _ ?_)
        | (refine ⟨?_, fun w' hw' => ?_, hK _ _ ?_⟩
           rotate_left
           · obtain ⟨q0, q1, q2, q3, q4, q5, q6, q7⟩ := HQ.out.below hw'
             obtain ⟨p0, p1, p2, p3, p4, p5, p6, p7⟩ := HQ'.out.below hw'
             go_simp
             rfl
           go_simp)
      clear hK K
      with_reducible refine bl_step ?_
      intro K hK
      go_simp
      intro _
      refine (eqO (oat L j) _ _ _ _ _ _ _ hx (G1.out.drew _) (G3.out.drew _)).mono ?_
      rintro e w8 ⟨rfl, A0⟩
      have A := Lib.hid ((bdrew (Below.refl _ _) _).trans A0)
      clear A0
      refine ⟨_, rfl, A.out, hK _ _ ?_⟩
      clear hK K
      with_reducible refine wpR_nil (fun nq => ?_)
      go_wp2
      go_roundw
      case rel => exact ⟨j + 1, by omega, by go_num, hB.out.trans ((bdrew A.out _).mono hB.out.size)⟩
      case measure => simp [intOf]; omega
    · go_wp2
      go_ret
      exact ⟨rfl, hB.out⟩
theorem infoOp : (Try.prog.info? 38).map (fun i => (i.zero, i.size, i.bytes)) = some (some (.agg #[.int .i64 0, .int .i64 0, .int .i64 0, .float .f32 0, .int .i64 0, .int .i64 0, .slice none 0 0]), 7, 72) := by kernel_rfl
set_option maxHeartbeats 1000000 in
theorem toO (l : OD) (a : Option Addr) (n cap : Nat) (w : World) (hn : n ≤ 1048576) (h1 : Fs w a n cap l.xs) :
    Calls Try.prog 11 #[ov l a n cap] w fun e w' => ∃ g, e = .returned (ov l (some ⟨g, 0, none⟩) n n) ∧ Row w' w.heap.size w'.heap.size 30 (.slice (some ⟨g, 0, none⟩) n n) n l.xs ∧ Below w.heap.size w w' := by
  unfold ov
  go_enter Try.func11, Try.ntmps11
  go_wp2_with fail
  refine (toTens _ _ _ _ _ _ _ hn (((h1.alloc _).alloc _).alloc _)).mono ?_
  rintro e w1 ⟨g, rfl, own, bel⟩
  obtain ⟨hc, hf⟩ := bcell bel
  have hz : w.heap.size + 2 < w1.heap.size := by have := bel.size; simp at this; omega
  have hz1 : w.heap.size + 1 < w1.heap.size := by omega
  have hz0 : w.heap.size < w1.heap.size := by omega
  have OW := Lib.hid own
  have BE := Lib.hid bel
  clear own bel
  go_wp2_with fail
  refine bodyPost_ret (v := .agg #[.int .i64 l.k, .int .i64 l.a, .int .i64 l.b, .float .f32 l.z, .int .i64 l.r, .int .i64 l.c, .slice (some ⟨g, 0, none⟩) n n]) (by simp [results, Try.results11, go_sem, hc]) rfl ⟨g, rfl, ?_, ?_⟩
  · refine Row.of (own_base (base := w.heap.size + 3) ?_ (by omega)) (by simp; omega)
    repeat' (refine own_set ?_ (by simp <;> omega) _)
    exact own_base OW.out.own (by simp)
  · repeat' (refine Below.setCell ?_ (by simp <;> omega) _)
    refine Below.trans ?_ (BE.out.mono (by simp; omega))
    exact (((Below.refl _ _).alloc (Nat.le_refl _) _).alloc (by simp) _).alloc (by simp; omega) _
theorem fs_set {w : World} {q n cap : Nat} {xs : List Nat} (h : Fs w (some ⟨q, 0, none⟩) n cap xs) {p o : Nat} (hne : q ≠ p) (u : Value) : Fs (w.setCell ⟨p, o, none⟩ u) (some ⟨q, 0, none⟩) n cap xs :=
  ⟨h.len, h.cap1, h.cap2, fun i hi => by
    obtain ⟨b, o', e, hc⟩ := h.cell i hi
    injection e with e; injection e with e1 e2 e3
    subst e1
    subst e2
    exact ⟨q, 0, rfl, (World.cell?_of_block (a := ⟨q, 0 + i, none⟩) (Below.heap_setCell _ _ _ _ (by first | exact hne | exact hne.symm | simpa using hne))).trans hc⟩⟩
theorem own_below7 {w w' : World} {base : Nat} {e : TypeId} {k : Nat} {v : Value} {n : Nat} {xs : List Value} (h : w.ownsRow base e k v n xs) (hb : Below w.heap.size w w') : w'.ownsRow base e k v n xs := by
  refine ⟨h.1, ?_⟩
  have hl := h.lt
  rcases h.2 with hn | ⟨g, cap, cur, rfl, hbg, hgg, rest⟩
  · exact .inl hn
  · exact .inr ⟨g, cap, cur, rfl, hbg, by rw [hb.block g (hl g rfl).2]; exact hgg, rest⟩
theorem own_cell7 {w : World} {base : Nat} {e : TypeId} {g n cap : Nat} {xs : List Value} (h : w.ownsRow base e 7 (.slice (some ⟨g, 0, none⟩) n cap) n xs) {q : Nat} (hq : q < n * 7) : ∃ v, w.cell? ⟨g, q, none⟩ = some v := by
  rw [h.cellAt q hq, List.getElem?_eq_getElem (by rw [h.1]; exact hq)]
  exact ⟨_, rfl⟩
def put7 (cs : List Value) (p : Nat) (v0 v1 v2 v3 v4 v5 v6 : Value) : List Value := ((((((cs.set p v0).set (p + 1) v1).set (p + 2) v2).set (p + 3) v3).set (p + 4) v4).set (p + 5) v5).set (p + 6) v6
theorem put7_ne {cs : List Value} {p q : Nat} {v0 v1 v2 v3 v4 v5 v6 : Value} (h : q < p ∨ p + 6 < q) : (put7 cs p v0 v1 v2 v3 v4 v5 v6)[q]? = cs[q]? := by
  unfold put7
  rw [List.getElem?_set_ne (by omega), List.getElem?_set_ne (by omega), List.getElem?_set_ne (by omega), List.getElem?_set_ne (by omega), List.getElem?_set_ne (by omega), List.getElem?_set_ne (by omega), List.getElem?_set_ne (by omega)]
theorem put7_at {cs : List Value} {p : Nat} {v0 v1 v2 v3 v4 v5 v6 : Value} (h : p + 6 < cs.length) : (put7 cs p v0 v1 v2 v3 v4 v5 v6)[p]? = some v0 ∧ (put7 cs p v0 v1 v2 v3 v4 v5 v6)[p + 1]? = some v1 ∧ (put7 cs p v0 v1 v2 v3 v4 v5 v6)[p + 2]? = some v2 ∧ (put7 cs p v0 v1 v2 v3 v4 v5 v6)[p + 3]? = some v3 ∧ (put7 cs p v0 v1 v2 v3 v4 v5 v6)[p + 4]? = some v4 ∧ (put7 cs p v0 v1 v2 v3 v4 v5 v6)[p + 5]? = some v5 ∧ (put7 cs p v0 v1 v2 v3 v4 v5 v6)[p + 6]? = some v6 := by
  unfold put7
  refine ⟨?_, ?_, ?_, ?_, ?_, ?_, ?_⟩
  · rw [List.getElem?_set_ne (by omega), List.getElem?_set_ne (by omega), List.getElem?_set_ne (by omega), List.getElem?_set_ne (by omega), List.getElem?_set_ne (by omega), List.getElem?_set_ne (by omega), List.getElem?_set_self (by omega)]
  · rw [List.getElem?_set_ne (by omega), List.getElem?_set_ne (by omega), List.getElem?_set_ne (by omega), List.getElem?_set_ne (by omega), List.getElem?_set_ne (by omega), List.getElem?_set_self (by simp; omega)]
  · rw [List.getElem?_set_ne (by omega), List.getElem?_set_ne (by omega), List.getElem?_set_ne (by omega), List.getElem?_set_ne (by omega), List.getElem?_set_self (by simp; omega)]
  · rw [List.getElem?_set_ne (by omega), List.getElem?_set_ne (by omega), List.getElem?_set_ne (by omega), List.getElem?_set_self (by simp; omega)]
  · rw [List.getElem?_set_ne (by omega), List.getElem?_set_ne (by omega), List.getElem?_set_self (by simp; omega)]
  · rw [List.getElem?_set_ne (by omega), List.getElem?_set_self (by simp; omega)]
  · rw [List.getElem?_set_self (by simp; omega)]
/-- the first j operations lie in a block of their own; no row is nil -/
structure Ow (w : World) (B g n cap : Nat) (L : List OD) (j : Nat) (cs : List Value) (A C : Nat → Nat) : Prop where
  own : w.ownsRow B 38 7 (.slice (some ⟨g, 0, none⟩) n cap) n cs
  c : ∀ i, i < j → cs[i * 7]? = some (.int .i64 (oat L i).k) ∧ cs[i * 7 + 1]? = some (.int .i64 (oat L i).a) ∧ cs[i * 7 + 2]? = some (.int .i64 (oat L i).b) ∧ cs[i * 7 + 3]? = some (.float .f32 (oat L i).z) ∧ cs[i * 7 + 4]? = some (.int .i64 (oat L i).r) ∧ cs[i * 7 + 5]? = some (.int .i64 (oat L i).c) ∧ cs[i * 7 + 6]? = some (.slice (some ⟨A i, 0, none⟩) (oat L i).xs.length (C i))
  r : ∀ i, i < j → Fs w (some ⟨A i, 0, none⟩) (oat L i).xs.length (C i) (oat L i).xs ∧ g < A i
section
variable {w w' : World} {B g n cap j : Nat} {L : List OD} {cs : List Value} {A C : Nat → Nat}
theorem Ow.below (h : Ow w B g n cap L j cs A C) (hb : Below w.heap.size w w') : Ow w' B g n cap L j cs A C :=
  ⟨own_below7 h.own hb, h.c, fun i hi => ⟨(h.r i hi).1.below hb, (h.r i hi).2⟩⟩
theorem Ow.glt (h : Ow w B g n cap L j cs A C) : g < w.heap.size := (h.own.lt g rfl).2
theorem Ow.at (h : Ow w B g n cap L n cs A C) {i : Nat} (hi : i < n) : Ob w g (i * 7) (oat L i) (some ⟨A i, 0, none⟩) (oat L i).xs.length (C i) ∧ Fs w (some ⟨A i, 0, none⟩) (oat L i).xs.length (C i) (oat L i).xs := by
  obtain ⟨k0, k1, k2, k3, k4, k5, k6⟩ := h.c i hi
  exact ⟨⟨(h.own.cellAt _ (by omega)).trans k0, (h.own.cellAt _ (by omega)).trans k1, (h.own.cellAt _ (by omega)).trans k2, (h.own.cellAt _ (by omega)).trans k3, (h.own.cellAt _ (by omega)).trans k4, (h.own.cellAt _ (by omega)).trans k5, (h.own.cellAt _ (by omega)).trans k6, h.glt⟩, (h.r i hi).1⟩
theorem Ow.caps (h : Ow w B g n cap L j cs A C) : n ≤ cap ∧ cap ≤ maxLen := by
  rcases h.own.2 with ⟨e, _⟩ | ⟨g', cap', cur, e, _, _, h1, h2, _⟩
  · cases e
  · injection e with e1 e2 e3; subst e3; exact ⟨h1, h2⟩
theorem Ow.os (h : Ow w B g n cap L n cs A C) (hl : n = L.length) : Os w (some ⟨g, 0, none⟩) n cap L :=
  ⟨hl, h.caps.1, h.caps.2, fun i hi => ⟨g, 0, rfl, _, _, by rw [Nat.zero_add]; exact (h.at hi).1, (h.at hi).2⟩⟩
theorem Ow.put {p d : Nat} (h : Ow w B g n cap L j cs A C) (hj : j < n) (R : Fs w (some ⟨p, 0, none⟩) (oat L j).xs.length d (oat L j).xs) (hg : g < p) :
    ∃ cs' A' C', Ow (((((((w.setCell ⟨g, j * 7, none⟩ (.int .i64 (oat L j).k)).setCell ⟨g, j * 7 + 1, none⟩ (.int .i64 (oat L j).a)).setCell ⟨g, j * 7 + 2, none⟩ (.int .i64 (oat L j).b)).setCell ⟨g, j * 7 + 3, none⟩ (.float .f32 (oat L j).z)).setCell ⟨g, j * 7 + 4, none⟩ (.int .i64 (oat L j).r)).setCell ⟨g, j * 7 + 5, none⟩ (.int .i64 (oat L j).c)).setCell ⟨g, j * 7 + 6, none⟩ (.slice (some ⟨p, 0, none⟩) (oat L j).xs.length d)) B g n cap L (j + 1) cs' A' C' := by
  have hlen : cs.length = n * 7 := h.own.1
  have hrs : ∀ {q m c : Nat} {xs : List Nat}, Fs w (some ⟨q, 0, none⟩) m c xs → g < q → ∀ (o0 o1 o2 o3 o4 o5 o6 : Nat) (u0 u1 u2 u3 u4 u5 u6 : Value), Fs (((((((w.setCell ⟨g, o0, none⟩ u0).setCell ⟨g, o1, none⟩ u1).setCell ⟨g, o2, none⟩ u2).setCell ⟨g, o3, none⟩ u3).setCell ⟨g, o4, none⟩ u4).setCell ⟨g, o5, none⟩ u5).setCell ⟨g, o6, none⟩ u6) (some ⟨q, 0, none⟩) m c xs :=
    fun F hq o0 o1 o2 o3 o4 o5 o6 u0 u1 u2 u3 u4 u5 u6 => fs_set (fs_set (fs_set (fs_set (fs_set (fs_set (fs_set F (by omega) _) (by omega) _) (by omega) _) (by omega) _) (by omega) _) (by omega) _) (by omega) _
  refine ⟨put7 cs (j * 7) (.int .i64 (oat L j).k) (.int .i64 (oat L j).a) (.int .i64 (oat L j).b) (.float .f32 (oat L j).z) (.int .i64 (oat L j).r) (.int .i64 (oat L j).c) (.slice (some ⟨p, 0, none⟩) (oat L j).xs.length d), fun i => if i = j then p else A i, fun i => if i = j then d else C i, ?_, ?_, ?_⟩
  · exact ((((((h.own.stored _ _).1.stored _ _).1.stored _ _).1.stored _ _).1.stored _ _).1.stored _ _).1.stored _ _ |>.1
  · intro i hi
    by_cases e : i = j
    · subst e
      simp only [if_true]
      exact put7_at (by omega)
    · simp only [if_neg e]
      rw [put7_ne (by omega), put7_ne (by omega), put7_ne (by omega), put7_ne (by omega), put7_ne (by omega), put7_ne (by omega), put7_ne (by omega)]
      exact h.c i (by omega)
  · intro i hi
    by_cases e : i = j
    · subst e
      simp only [if_true]
      exact ⟨hrs R hg _ _ _ _ _ _ _ _ _ _ _ _ _ _, hg⟩
    · simp only [if_neg e]
      obtain ⟨r1, r2⟩ := h.r i (by omega)
      exact ⟨hrs r1 r2 _ _ _ _ _ _ _ _ _ _ _ _ _ _, r2⟩
end
set_option maxHeartbeats 2000000 in
theorem toOS (a : Option Addr) (n cap : Nat) (L : List OD) (w : World) (hn : n ≤ 1048576) (hs : ozs L n ≤ 1048576) (h : Os w a n cap L) :
    Calls Try.prog 6 #[.slice a n cap] w fun e w' => ∃ g cs A C, e = .returned (.slice (some ⟨g, 0, none⟩) n n) ∧ Ow w' w.heap.size g n n L n cs A C ∧ Below w.heap.size w w' := by
  obtain ⟨i0, hi, hz0, hz1, hz2⟩ := info_parts infoOp
  have H := Lib.hid h
  clear h
  go_enter Try.func6, Try.ntmps6
  go_wp2_with (at_make; refine wpList_make_full _ rfl _ _ 25 rfl w.heap.size 38 i0 (.agg #[.int .i64 0, .int .i64 0, .int .i64 0, .float .f32 0, .int .i64 0, .int .i64 0, .slice none 0 0]) 7 Try.underlying25 hi hz0 hz1 _ _ _ _ n rfl rfl rfl rfl (by rw [hz2]; omega) (by unfold maxLen; omega) (Nat.le_refl _) ?_)
  intro w1 hown hgr
  have hb1 := bel_grown hgr
  have hg1 : w.heap.size < w1.heap.size := (hown.lt w.heap.size rfl).2
  have HO := Lib.hid hown
  have HB := Lib.hid hb1
  clear hown hb1 hgr hi hz0 hz1 hz2
  generalize (madeCells _ _).toList = cs0 at *
  go_wp2
  go_loopw [4] (fun i w' => ∃ (j : Nat) (cs : List Value) (A C : Nat → Nat), j ≤ n ∧ i = .int .i64 j ∧ Hid (Ow w' w.heap.size w.heap.size n n L j cs A C) ∧ Hid (Below w.heap.size w w')) (fun i _ => n - (intOf i).toNat)
  case atStart => exact ⟨0, cs0, fun _ => 0, fun _ => 0, Nat.zero_le _, rfl, ⟨HO.out, fun i hi => by omega, fun i hi => by omega⟩, HB.out⟩
  case round =>
    obtain ⟨j, cs, A, C, hj, rfl, hM, hB⟩ := hrel
    by_cases hlt : j < n
    · obtain ⟨b, o, rfl, a1, c1, QL, F1⟩ := (H.out.below hB.out).cell j hlt
      have hx := Nat.le_trans (ozs_at L hlt) hs
      have hgw := hM.out.glt
      have G1 := Lib.hid F1
      clear F1
      obtain ⟨q0, q1, q2, q3, q4, q5, q6, q7⟩ := QL
      go_wp2_with fail
      clear q0 q1 q2 q3 q4 q5 q6 q7
      refine (toO (oat L j) _ _ _ _ hx G1.out).mono ?_
      rintro e w2 ⟨g1, rfl, R1, A9⟩
      unfold ov
      have M2 := Lib.hid (hM.out.below A9)
      have hg9 : wr.heap.size ≤ g1 := (R1.own.lt g1 rfl).1
      have HR1 := Lib.hid R1
      have HA := Lib.hid A9
      clear A9 R1 G1
      have fz0 := M2.out.own.frozenAt (j * 7)
      have fz1 := M2.out.own.frozenAt (j * 7 + 1)
      have fz2 := M2.out.own.frozenAt (j * 7 + 2)
      have fz3 := M2.out.own.frozenAt (j * 7 + 3)
      have fz4 := M2.out.own.frozenAt (j * 7 + 4)
      have fz5 := M2.out.own.frozenAt (j * 7 + 5)
      have fz6 := M2.out.own.frozenAt (j * 7 + 6)
      obtain ⟨v0, x0⟩ := own_cell7 M2.out.own (q := j * 7) (by omega)
      obtain ⟨v1, x1⟩ := own_cell7 M2.out.own (q := j * 7 + 1) (by omega)
      obtain ⟨v2, x2⟩ := own_cell7 M2.out.own (q := j * 7 + 2) (by omega)
      obtain ⟨v3, x3⟩ := own_cell7 M2.out.own (q := j * 7 + 3) (by omega)
      obtain ⟨v4, x4⟩ := own_cell7 M2.out.own (q := j * 7 + 4) (by omega)
      obtain ⟨v5, x5⟩ := own_cell7 M2.out.own (q := j * 7 + 5) (by omega)
      obtain ⟨v6, x6⟩ := own_cell7 M2.out.own (q := j * 7 + 6) (by omega)
      go_wp2
      go_roundw
      case rel =>
        obtain ⟨cs', A', C', hM'⟩ := M2.out.put hlt HR1.out.fs (by omega)
        exact ⟨j + 1, cs', A', C', by omega, by go_num, hM', (((((((hB.out.trans (HA.out.mono hB.out.size)).setCell (Nat.le_refl _) _).setCell (Nat.le_refl _) _).setCell (Nat.le_refl _) _).setCell (Nat.le_refl _) _).setCell (Nat.le_refl _) _).setCell (Nat.le_refl _) _).setCell (Nat.le_refl _) _⟩
      case measure => simp [intOf]; omega
    · have e : j = n := by omega
      subst e
      go_wp2
      go_ret
      exact ⟨_, cs, A, C, rfl, hM.out, hB.out⟩
end Go.Proofs.Ytcfnhkadljlgcaa
