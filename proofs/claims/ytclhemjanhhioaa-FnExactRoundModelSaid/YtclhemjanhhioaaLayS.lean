/- Lists of layers that are read: the laws' helpers on them. -/
import Derived.Test.YtclhemjanhhioaaLay
import Derived.Test.YtclhemjanhhioaaLayH
import Derived.Test.YtclhemjanhhioaaOpenL
namespace Go.Proofs.Ytclhemjanhhioaa
open Go.RowKit Go.Fl Go.Reg
/-- a layer -/
structure LD where
  k : Int
  i : Int
  u : Int
  xs : List Nat
  ys : List Nat
deriving Inhabited
def lyD (l : LD) : Bool := ly l.k l.i l.u l.xs.length l.ys.length
/-- layer number j -/
def lat (L : List LD) (j : Nat) : LD := L[j]?.getD default
/-- a layer's numbers, in cells o .. o + 4 of block b -/
def Lx (w : World) (b o : Nat) (l : LD) : Prop := ∃ a1 c1 a2 c2, Lb w b o l.k l.i l.u a1 l.xs.length c1 a2 l.ys.length c2 ∧ Fs w a1 l.xs.length c1 l.xs ∧ Fs w a2 l.ys.length c2 l.ys
theorem Lx.below {w w' : World} {b o : Nat} {l : LD} (h : Lx w b o l) (hb : Below w.heap.size w w') : Lx w' b o l := by
  obtain ⟨a1, c1, a2, c2, h1, h2, h3⟩ := h
  exact ⟨a1, c1, a2, c2, h1.below hb, h2.below hb, h3.below hb⟩
/-- a slice of layers that is read -/
structure Ls (w : World) (a : Option Addr) (n cap : Nat) (L : List LD) : Prop where
  len : n = L.length
  cap1 : n ≤ cap
  cap2 : cap ≤ maxLen
  cell : ∀ j, j < n → ∃ b o, a = some ⟨b, o, none⟩ ∧ Lx w b (o + j * 5) (lat L j)
theorem Ls.below {w w' : World} {a : Option Addr} {n cap : Nat} {L : List LD} (h : Ls w a n cap L) (hb : Below w.heap.size w w') : Ls w' a n cap L :=
  ⟨h.len, h.cap1, h.cap2, fun j hj => by obtain ⟨b, o, e, hx⟩ := h.cell j hj; exact ⟨b, o, e, hx.below hb⟩⟩
theorem Ls.drew {w : World} {a : Option Addr} {n cap : Nat} {L : List LD} (h : Ls w a n cap L) (m : Nat) : Ls (w.drewN m) a n cap L := h.below (bdrew (Below.refl _ _) _)
/-- how many numbers the first j layers have -/
def szs (L : List LD) : Nat → Nat
  | 0 => 0
  | j + 1 => szs L j + ((lat L j).xs.length + (lat L j).ys.length)
theorem szs_mono (L : List LD) {a b : Nat} (h : a ≤ b) : szs L a ≤ szs L b := by
  induction b with
  | zero => have : a = 0 := by omega
            subst this; exact Nat.le_refl _
  | succ b ih =>
    by_cases e : a = b + 1
    · subst e; exact Nat.le_refl _
    · have := ih (by omega)
      show _ ≤ szs L b + _
      omega
theorem szs_at (L : List LD) {j n : Nat} (h : j < n) : (lat L j).xs.length + (lat L j).ys.length ≤ szs L n := by
  have := szs_mono L (show j + 1 ≤ n by omega)
  have e : szs L (j + 1) = szs L j + ((lat L j).xs.length + (lat L j).ys.length) := rfl
  omega
set_option maxHeartbeats 1000000 in
theorem szLS (a : Option Addr) (n cap : Nat) (L : List LD) (left : Int) (w : World) (hl : left ≤ 1048576) (hl0 : 0 ≤ left) (h : Ls w a n cap L) :
    Calls Try.prog 37 #[.slice a n cap, .int .i64 left] w fun e w' => ∃ r, e = .returned (.int .i64 r) ∧ ((n : Int) + szs L n ≤ left → r = left - n - szs L n) ∧ (left < (n : Int) + szs L n → r = -1) ∧ Below w.heap.size w w' := by
  have hc1 := h.cap1
  have hc2 := h.cap2
  unfold maxLen at hc2
  have H := Lib.hid h
  clear h
  by_cases hb : left < (n : Int)
  · go_enter Try.func37, Try.ntmps37
    go_wp2
    go_ret
    exact ⟨-1, rfl, fun h => by omega, fun _ => rfl, Below.refl _ _⟩
  · go_enter Try.func37, Try.ntmps37
    go_wp2
    go_loopw [1, 5] (fun lf i w' => ∃ (j : Nat) (q : Int), j ≤ n ∧ i = .int .i64 j ∧ lf = .int .i64 q ∧ Hid (q = left - n - szs L j) ∧ 0 ≤ q ∧ q ≤ 1048576 ∧ Hid (Below w.heap.size w w')) (fun _ i _ => n - (intOf i).toNat)
    case atStart => exact ⟨0, _, Nat.zero_le _, rfl, rfl, by show _ = _; simp [szs], by omega, by omega, Below.refl _ _⟩
    case round =>
      obtain ⟨j, q, hj, rfl, rfl, hq, hq0, hq1, hB⟩ := hrel
      by_cases hlt : j < n
      · obtain ⟨b, o, rfl, a1, c1, a2, c2, Q, F1, F2⟩ := (H.out.below hB.out).cell j hlt
        obtain ⟨q0, q1, q2, q3, q4, q5⟩ := Q
        have es : szs L (j + 1) = szs L j + ((lat L j).xs.length + (lat L j).ys.length) := rfl
        have hmo := szs_mono L (show j + 1 ≤ n by omega)
        have f1 := Nat.le_trans F1.cap1 F1.cap2
        have f2 := Nat.le_trans F2.cap1 F2.cap2
        have G1 := Lib.hid f1
        have G2 := Lib.hid f2
        clear f1 f2 F1 F2
        by_cases hs : (((lat L j).xs.length : Nat) : Int) + ((lat L j).ys.length : Int) ≤ q
        · have ES := Lib.hid es
          clear es hmo
          go_wp2_with fail
          refine (szLayYes _ _ _ _ _ _ _ _ _ _ _ hq1 hs).mono ?_
          rintro e w1 ⟨rfl, A⟩
          have HA := Lib.hid (hB.out.trans (A.mono hB.out.size))
          clear A q0 q1 q2 q3 q4 q5
          have hr0 : 0 ≤ q - ((lat L j).xs.length : Int) - ((lat L j).ys.length : Int) := by omega
          obtain ⟨r, hr⟩ : ∃ r, r = q - ((lat L j).xs.length : Int) - ((lat L j).ys.length : Int) := ⟨_, rfl⟩
          rw [← hr] at hr0 ⊢
          have HR := Lib.hid hr
          clear hr hs
          go_wp2
          go_roundw
          case rel => exact ⟨j + 1, r, by omega, by go_num, rfl, (by have := ES.out; have := hq.out; have := HR.out; show _ = _; omega), hr0, (by have := HR.out; omega), HA⟩
          case measure => simp [intOf]; omega
        · have HES := Lib.hid es
          have HMO := Lib.hid hmo
          clear es hmo
          go_wp2_with fail
          refine (szLayNo _ _ _ _ _ _ _ _ _ _ _ G1.out G2.out hq0 (by omega) hq1).mono ?_
          rintro e w1 ⟨rfl, A⟩
          have HA := Lib.hid (hB.out.trans (A.mono hB.out.size))
          clear A q0 q1 q2 q3 q4 q5
          have HS := Lib.hid hs
          clear hs
          go_wp2
          go_ret
          exact ⟨-1, rfl, fun h => by have := HS.out; have := HES.out; have := HMO.out; have := hq.out; omega, fun _ => rfl, HA.out⟩
      · have e : j = n := by omega
        subst e
        go_wp2
        go_ret
        exact ⟨q, rfl, fun _ => hq.out, fun h => by have := hq.out; omega, hB.out⟩
/-- two layers have the same numbers -/
structure LEq (l l' : LD) : Prop where
  k : l.k = l'.k
  i : l.i = l'.i
  u : l.u = l'.u
  x : l.xs.map (cn .f32) = l'.xs.map (cn .f32)
  y : l.ys.map (cn .f32) = l'.ys.map (cn .f32)
theorem LEq.refl (l : LD) : LEq l l := ⟨rfl, rfl, rfl, rfl, rfl⟩
theorem LEq.xl {l l' : LD} (h : LEq l l') : l'.xs.length = l.xs.length := by have := congrArg List.length h.x; simp at this; exact this.symm
theorem LEq.yl {l l' : LD} (h : LEq l l') : l'.ys.length = l.ys.length := by have := congrArg List.length h.y; simp at this; exact this.symm
/-- the other list's layer, told by the first one's -/
theorem Lx.other {w : World} {b o : Nat} {l l' : LD} (h : LEq l l') (x : Lx w b o l') : ∃ a1 c1 a2 c2, Lb w b o l.k l.i l.u a1 l.xs.length c1 a2 l.ys.length c2 ∧ Fs w a1 l.xs.length c1 l'.xs ∧ Fs w a2 l.ys.length c2 l'.ys := by
  obtain ⟨a1, c1, a2, c2, h1, h2, h3⟩ := x
  rw [h.xl] at h1 h2
  rw [h.yl] at h1 h3
  rw [← h.k, ← h.i, ← h.u] at h1
  exact ⟨a1, c1, a2, c2, h1, h2, h3⟩
set_option maxHeartbeats 1000000 in
theorem eqLS (a b : Option Addr) (n c1 c2 : Nat) (L L' : List LD) (w : World) (hn : n ≤ 1048576) (hs : szs L n ≤ 1048576) (h1 : Ls w a n c1 L) (h2 : Ls w b n c2 L') (he : ∀ j, j < n → LEq (lat L j) (lat L' j)) :
    Calls Try.prog 40 #[.slice a n c1, .slice b n c2] w fun e w' => e = .returned (.bool true) ∧ Below w.heap.size w w' := by
  have H1 := Lib.hid h1
  have H2 := Lib.hid h2
  have HE := Lib.hid he
  clear h1 h2 he
  go_enter Try.func40, Try.ntmps40
  go_wp2
  go_loopw [5] (fun i w' => ∃ j : Nat, j ≤ n ∧ i = .int .i64 j ∧ Hid (Below w.heap.size w w')) (fun i _ => n - (intOf i).toNat)
  case atStart => exact ⟨0, Nat.zero_le _, rfl, Below.refl _ _⟩
  case round =>
    obtain ⟨j, hj, rfl, hB⟩ := hrel
    by_cases hlt : j < n
    · obtain ⟨b1, o1, rfl, X⟩ := (H1.out.below hB.out).cell j hlt
      obtain ⟨b2, o2, rfl, Y⟩ := (H2.out.below hB.out).cell j hlt
      have hat := szs_at L hlt
      have eL := HE.out j hlt
      obtain ⟨a1, d1, a2, d2, Q, F1, F2⟩ := X
      obtain ⟨a3, d3, a4, d4, Q', F3, F4⟩ := Y.other eL
      obtain ⟨l, hl⟩ : ∃ l, l = lat L j := ⟨_, rfl⟩
      obtain ⟨l', hl'⟩ : ∃ l', l' = lat L' j := ⟨_, rfl⟩
      rw [← hl] at hat eL Q F1 F2 Q' F3 F4
      rw [← hl'] at eL F3 F4
      clear hl hl' Y
      have HQ := Lib.hid Q
      have HQ' := Lib.hid Q'
      have G1 := Lib.hid F1
      have G2 := Lib.hid F2
      have G3 := Lib.hid F3
      have G4 := Lib.hid F4
      have EL := Lib.hid eL
      have hx : l.xs.length ≤ 1048576 := by omega
      have hy : l.ys.length ≤ 1048576 := by omega
      clear Q Q' F1 F2 F3 F4 eL hat
      go_wp2_with fail
      refine wp_bl 9 [0, 0, 0, 0, 0, 0, 0, 0, 2, 0] (by kernel_rfl) (by kernel_rfl) ?_
      simp only [List.take_succ_cons, List.take_zero, List.drop_succ_cons, List.drop_zero]
      with_reducible refine bl_step ?_
      intro K hK
      go_simp
      first
        | (refine hK _ _ ?_)
        | (refine ⟨?_, fun w' hw' => ?_, hK _ _ ?_⟩
           rotate_left
           · obtain ⟨q0, q1, q2, q3, q4, q5⟩ := HQ.out.below hw'
             obtain ⟨p0, p1, p2, p3, p4, p5⟩ := HQ'.out.below hw'
             go_simp
             rfl
           go_simp)
      clear hK K
      with_reducible refine bl_step ?_
      intro K hK
      go_simp
      first
        | (refine hK _ _ ?_)
        | (refine ⟨?_, fun w' hw' => ?_, hK _ _ ?_⟩
           rotate_left
           · obtain ⟨q0, q1, q2, q3, q4, q5⟩ := HQ.out.below hw'
             obtain ⟨p0, p1, p2, p3, p4, p5⟩ := HQ'.out.below hw'
             go_simp
             rfl
           go_simp)
      clear hK K
      with_reducible refine bl_step ?_
      intro K hK
      go_simp
      first
        | (refine hK _ _ ?_)
        | (refine ⟨?_, fun w' hw' => ?_, hK _ _ ?_⟩
           rotate_left
           · obtain ⟨q0, q1, q2, q3, q4, q5⟩ := HQ.out.below hw'
             obtain ⟨p0, p1, p2, p3, p4, p5⟩ := HQ'.out.below hw'
             go_simp
             rfl
           go_simp)
      clear hK K
      with_reducible refine bl_step ?_
      intro K hK
      go_simp
      first
        | (refine hK _ _ ?_)
        | (refine ⟨?_, fun w' hw' => ?_, hK _ _ ?_⟩
           rotate_left
           · obtain ⟨q0, q1, q2, q3, q4, q5⟩ := HQ.out.below hw'
             obtain ⟨p0, p1, p2, p3, p4, p5⟩ := HQ'.out.below hw'
             go_simp
             rfl
           go_simp)
      clear hK K
      with_reducible refine bl_step ?_
      intro K hK
      go_simp
      first
        | (refine hK _ _ ?_)
        | (refine ⟨?_, fun w' hw' => ?_, hK _ _ ?_⟩
           rotate_left
           · obtain ⟨q0, q1, q2, q3, q4, q5⟩ := HQ.out.below hw'
             obtain ⟨p0, p1, p2, p3, p4, p5⟩ := HQ'.out.below hw'
             go_simp
             rfl
           go_simp)
      clear hK K
      with_reducible refine bl_step ?_
      intro K hK
      go_simp
      first
        | (refine hK _ _ ?_)
        | (refine ⟨?_, fun w' hw' => ?_, hK _ _ ?_⟩
           rotate_left
           · obtain ⟨q0, q1, q2, q3, q4, q5⟩ := HQ.out.below hw'
             obtain ⟨p0, p1, p2, p3, p4, p5⟩ := HQ'.out.below hw'
             go_simp
             rfl
           go_simp)
      clear hK K
      with_reducible refine bl_step ?_
      intro K hK
      go_simp
      first
        | (refine hK _ _ ?_)
        | (refine ⟨?_, fun w' hw' => ?_, hK _ _ ?_⟩
           rotate_left
           · obtain ⟨q0, q1, q2, q3, q4, q5⟩ := HQ.out.below hw'
             obtain ⟨p0, p1, p2, p3, p4, p5⟩ := HQ'.out.below hw'
             go_simp
             rfl
           go_simp)
      clear hK K
      with_reducible refine bl_step ?_
      intro K hK
      go_simp
      first
        | (refine hK _ _ ?_)
        | (refine ⟨?_, fun w' hw' => ?_, hK _ _ ?_⟩
           rotate_left
           · obtain ⟨q0, q1, q2, q3, q4, q5⟩ := HQ.out.below hw'
             obtain ⟨p0, p1, p2, p3, p4, p5⟩ := HQ'.out.below hw'
             go_simp
             rfl
           go_simp)
      clear hK K
      with_reducible refine bl_step ?_
      intro K hK
      go_simp
      intro _
      refine (eqLay _ _ _ _ _ _ _ _ _ _ _ _ _ _ _ _ _ _ hx hy (G1.out.drew _) (G3.out.drew _) (G2.out.drew _) (G4.out.drew _) EL.out.x EL.out.y).mono ?_
      rintro e w8 ⟨rfl, A0⟩
      have A := Lib.hid ((bdrew (Below.refl _ _) _).trans A0)
      clear A0
      refine ⟨_, rfl, A.out, hK _ _ ?_⟩
      clear hK K
      with_reducible refine wpR_nil (fun nq => ?_)
      go_wp2
      go_roundw
      case rel => exact ⟨j + 1, by omega, by go_num, hB.out.trans ((bdrew A.out _).mono hB.out.size)⟩
      case measure => simp [intOf]; omega
    · go_wp2
      go_ret
      exact ⟨rfl, hB.out⟩
end Go.Proofs.Ytclhemjanhhioaa
