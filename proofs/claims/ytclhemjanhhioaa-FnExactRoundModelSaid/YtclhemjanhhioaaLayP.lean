/- All parameters of a model, by the reference and by the program. -/
import Derived.Test.YtclhemjanhhioaaLayV
import Derived.Test.YtclhemjanhhioaaLayO
import Derived.Test.YtclhemjanhhioaaOwnS
import Derived.Test.YtclhemjanhhioaaClone
namespace Go.Proofs.Ytclhemjanhhioaa
open Go.RowKit Go.Fl Go.Reg
/-- the parameters of the first j layers -/
def pm (L : List LD) : Nat → List Nat
  | 0 => []
  | j + 1 => pm L j ++ (lat L j).xs ++ (lat L j).ys
theorem pm_len (L : List LD) : ∀ j, (pm L j).length = szs L j
  | 0 => rfl
  | j + 1 => by
    show (pm L j ++ (lat L j).xs ++ (lat L j).ys).length = szs L j + _
    rw [List.length_append, List.length_append, pm_len L j]; omega
theorem fs_news {w : World} {b o n c : Nat} {xs : List Nat} (h : Fs w (some ⟨b, o, none⟩) n c xs) (j : Nat) (u : Value) (hj : (fl xs)[j]? = some u) : w.cell? ((⟨b, o, none⟩ : Addr).add j) = some u := by
  have hl := h.len
  have hjl : j < n := by
    rcases Nat.lt_or_ge j n with h | h
    · exact h
    · rw [List.getElem?_eq_none (by rw [fl_length]; omega)] at hj; cases hj
  rw [fl_get _ j (by omega)] at hj
  injection hj with hj
  subst hj
  obtain ⟨b', o', e, hc⟩ := h.cell j hjl
  injection e with e; injection e with e1 e2 e3
  subst e1; subst e2
  rw [add_at]; exact hc
theorem OwnS.appS {B : Nat} {t : TypeId} {w0 w w' : World} {k g cap : Nat} {ys : List Nat} {v' : Value} {m : Nat} {us : List Nat} {o : Obj} (h : OwnS B t w0 w k (some ⟨g, 0, none⟩) cap ys) (hown : w'.ownsRow B t 1 v' (k + m) (fl ys ++ fl us)) (hg : (w.alloc o).grownBy w' (Value.slice (some ⟨g, 0, none⟩) k cap).ownBlock) (hz : ¬ v' = .slice none 0 0) :
    ∃ g' cap', v' = .slice (some ⟨g', 0, none⟩) (k + m) cap' ∧ OwnS B t w0 w' (k + m) (some ⟨g', 0, none⟩) cap' (ys ++ us) := by
  obtain ⟨a', cap', rfl, O⟩ := OwnS.app h hown hg
  obtain ⟨g', rfl⟩ := some_of O.own hz
  exact ⟨g', cap', rfl, O⟩
theorem OwnS.appS0 {B : Nat} {t : TypeId} {w0 w w' : World} {k g cap : Nat} {ys : List Nat} {v' : Value} {m : Nat} {us : List Nat} (h : OwnS B t w0 w k (some ⟨g, 0, none⟩) cap ys) (hown : w'.ownsRow B t 1 v' (k + m) (fl ys ++ fl us)) (hg : w.grownBy w' (Value.slice (some ⟨g, 0, none⟩) k cap).ownBlock) (hz : ¬ v' = .slice none 0 0) :
    ∃ g' cap', v' = .slice (some ⟨g', 0, none⟩) (k + m) cap' ∧ OwnS B t w0 w' (k + m) (some ⟨g', 0, none⟩) cap' (ys ++ us) := by
  obtain ⟨a', cap', rfl, O⟩ := OwnS.app0 h hown hg
  obtain ⟨g', rfl⟩ := some_of O.own hz
  exact ⟨g', cap', rfl, O⟩
/-- the parameters, in a row of their own -/
def PP (t : TypeId) (w : World) (n : Nat) (xs : List Nat) (e : Ending) (w' : World) : Prop := ∃ g cap, e = .returned (.slice (some ⟨g, 0, none⟩) n cap) ∧ OwnS w.heap.size t w w' n (some ⟨g, 0, none⟩) cap xs
set_option maxHeartbeats 2000000 in
theorem parS (a : Option Addr) (n cap b0 : Nat) (L : List LD) (w : World) (hs : szs L n ≤ 1048576) (h : Lz w a n cap L) (hm : MB w b0 a n cap) :
    Calls Try.prog 41 #[.pointer (some ⟨b0, 0, none⟩)] w (PP 67 w (szs L n) (pm L n)) := by
  obtain ⟨i0, hi, hz0, hz1, hz2⟩ := info_parts infoF32
  have HI := Lib.hid hi
  have HZ0 := Lib.hid hz0
  have HZ1 := Lib.hid hz1
  have HZ2 := Lib.hid hz2
  clear hi hz0 hz1 hz2
  have hc1 := h.ls.cap1
  have hc2 := h.ls.cap2
  unfold maxLen at hc2
  have H := Lib.hid h
  clear h
  have HM := Lib.hid hm
  obtain ⟨m0, m1⟩ := hm
  have ST := Lib.hid (own_start w 67)
  go_enter Try.func41, Try.ntmps41
  go_wp2
  clear m0
  go_loopw [3, 4] (fun v i w' => ∃ (j k : Nat) (a' cap' : Nat), j ≤ n ∧ i = .int .i64 j ∧ v = .slice (some ⟨a', 0, none⟩) k cap' ∧ Hid (k = szs L j) ∧ Hid (OwnS w.heap.size 67 w w' k (some ⟨a', 0, none⟩) cap' (pm L j))) (fun _ i _ => n - (intOf i).toNat)
  case atStart => exact ⟨0, 0, _, _, Nat.zero_le _, rfl, rfl, rfl, ST.out⟩
  case round =>
    obtain ⟨j, k, a', cap', hj, rfl, rfl, hk, hO⟩ := hrel
    by_cases hlt : j < n
    · skip
      have hat := szs_mono L (show j + 1 ≤ n by omega)
      have es : szs L (j + 1) = szs L j + ((lat L j).xs.length + (lat L j).ys.length) := rfl
      have hk2 := hk.out
      have b1 : k + (lat L j).xs.length + (lat L j).ys.length ≤ 1048576 := by omega
      have ES := Lib.hid es
      clear es hat hk2
      obtain ⟨b, o, rfl, p1, o1, c1, p2, o2, c2, QL, F1, F2⟩ := (H.out.below hO.out.below).cell j hlt
      have HQ := Lib.hid QL
      have G1 := Lib.hid F1
      have G2 := Lib.hid F2
      have HMB := Lib.hid (HM.out.below hO.out.below)
      obtain ⟨q0, q1, q2, q3, q4, q5⟩ := QL
      obtain ⟨m0, m1⟩ := HMB.out
      clear F1 F2
      go_wp2_with (at_builtin; refine wpList_append_own _ rfl (.tmp 15) (.tmp 23) 22 rfl w.heap.size 67 i0 (.float .f32 0) 1 4 Try.underlying22 HI.out HZ0.out HZ1.out HZ2.out rfl (by decide) (.slice (some ⟨a', 0, none⟩) (k) cap') (k) (fl (pm L j)) rfl hO.out.own ⟨p1, o1, none⟩ (lat L j).xs.length c1 (fl (lat L j).xs) rfl (by rw [fl_length, Nat.mul_one]) (fs_news G1.out) (fl_one _) (by unfold maxLen; omega) (by omega) hO.out.le ?_)
      intro v' w2 hown hgr hz
      obtain ⟨a2, cap2, rfl, O2_⟩ := OwnS.appS0 (us := (lat L j).xs) hO.out hown hgr hz
      have O2 := Lib.hid O2_
      clear O2_ hown hgr hz q0 q1 q2 q3 q4 q5 m0 m1
      have HB2 := Lib.hid ((H.out.below O2.out.below).cell j hlt)
      obtain ⟨b', o', eb, p1', o1', c1', p2', o2', c2', QL2, F3, F4⟩ := HB2.out
      injection eb with eb
      injection eb with eb1 eb2 eb3
      subst eb1
      subst eb2
      have G4 := Lib.hid F4
      obtain ⟨q0, q1, q2, q3, q4, q5⟩ := QL2
      obtain ⟨m0, m1⟩ := HM.out.below O2.out.below
      clear F3 F4
      go_wp2_with (at_builtin; refine wpList_append_own _ rfl (.tmp 25) (.tmp 33) 22 rfl w.heap.size 67 i0 (.float .f32 0) 1 4 Try.underlying22 HI.out HZ0.out HZ1.out HZ2.out rfl (by decide) (.slice (some ⟨a2, 0, none⟩) (k + (lat L j).xs.length) cap2) (k + (lat L j).xs.length) (fl (pm L j ++ (lat L j).xs)) rfl O2.out.own ⟨p2', o2', none⟩ (lat L j).ys.length c2' (fl (lat L j).ys) rfl (by rw [fl_length, Nat.mul_one]) (fs_news G4.out) (fl_one _) (by unfold maxLen; omega) (by omega) O2.out.le ?_)
      intro v' w3 hown hgr hz
      obtain ⟨a3, cap3, rfl, O3_⟩ := OwnS.appS0 (us := (lat L j).ys) O2.out hown hgr hz
      have O3 := Lib.hid O3_
      clear O3_ hown hgr hz q0 q1 q2 q3 q4 q5 m0 m1
      go_wp2
      go_roundw
      case rel => exact ⟨j + 1, k + (lat L j).xs.length + (lat L j).ys.length, a3, cap3, by omega, by go_num, rfl, (by have := ES.out; have := hk.out; show _ = _; omega), O3.out⟩
      case measure => simp [intOf]; omega
    · have e : j = n := by omega
      subst e
      have HK := Lib.hid hk.out
      obtain ⟨m0, m1⟩ := HM.out.below hO.out.below
      go_wp2
      go_ret
      refine ⟨a', cap', by rw [← HK.out]; rfl, ?_⟩
      have OO := hO.out
      rw [HK.out] at OO
      exact OO
set_option maxHeartbeats 2000000 in
theorem parI (a : Option Addr) (n cap : Nat) (L : List LD) (w : World) (hs : szs L n ≤ 1048576) (h : Lz w a n cap L) :
    Calls Try.prog 42 #[.agg #[.slice a n cap]] w (PP 67 w (szs L n) (pm L n)) := by
  obtain ⟨i0, hi, hz0, hz1, hz2⟩ := info_parts infoF32
  have HI := Lib.hid hi
  have HZ0 := Lib.hid hz0
  have HZ1 := Lib.hid hz1
  have HZ2 := Lib.hid hz2
  clear hi hz0 hz1 hz2
  have hc1 := h.ls.cap1
  have hc2 := h.ls.cap2
  unfold maxLen at hc2
  have H := Lib.hid h
  clear h
  go_enter Try.func42, Try.ntmps42
  go_wp2
  obtain ⟨wm, hwm⟩ : ∃ wm, wm = w.alloc (.cells #[.slice a n cap] 38) := ⟨_, rfl⟩
  obtain ⟨Q0, A0, z1, z2⟩ := mb_new hwm
  have HM := Lib.hid Q0
  have HA0 := Lib.hid A0
  have ST := Lib.hid (own_start wm 67)
  have HWM := Lib.hid hwm
  clear Q0 A0 hwm
  go_loopw [3, 10] (fun v i w' => ∃ (j k : Nat) (a' cap' : Nat), j ≤ n ∧ i = .int .i64 j ∧ v = .slice (some ⟨a', 0, none⟩) k cap' ∧ Hid (k = szs L j) ∧ Hid (OwnS wm.heap.size 67 wm w' k (some ⟨a', 0, none⟩) cap' (pm L j))) (fun _ i _ => n - (intOf i).toNat)
  case atStart => exact ⟨0, 0, _, _, Nat.zero_le _, rfl, rfl, rfl, by have := ST.out; rw [HWM.out] at this ⊢; rw [show (w.alloc (.cells #[.slice a n cap] 38)).heap.size = w.heap.size + 1 by simp] at this ⊢; exact this⟩
  case round =>
    obtain ⟨j, k, a', cap', hj, rfl, rfl, hk, hO⟩ := hrel
    by_cases hlt : j < n
    · skip
      have hat := szs_mono L (show j + 1 ≤ n by omega)
      have es : szs L (j + 1) = szs L j + ((lat L j).xs.length + (lat L j).ys.length) := rfl
      have hk2 := hk.out
      have b1 : k + (lat L j).xs.length + (lat L j).ys.length ≤ 1048576 := by omega
      have ES := Lib.hid es
      clear es hat hk2
      have BW := Lib.hid (HA0.out.trans (hO.out.below.mono HA0.out.size))
      obtain ⟨b, o, rfl, p1, o1, c1, p2, o2, c2, QL0, F1, F2⟩ := H.out.cell j hlt
      have QL := QL0.below BW.out
      clear QL0
      have HQ := Lib.hid QL
      have G1 := Lib.hid F1
      have G2 := Lib.hid F2
      have HMB := Lib.hid (HM.out.below hO.out.below)
      obtain ⟨q0, q1, q2, q3, q4, q5⟩ := QL
      obtain ⟨m0, m1⟩ := HMB.out
      clear F1 F2
      go_wp2_with (at_builtin; refine wpList_append_own _ rfl (.tmp 14) (.tmp 16) 22 rfl wm.heap.size 67 i0 (.float .f32 0) 1 4 Try.underlying22 HI.out HZ0.out HZ1.out HZ2.out rfl (by decide) (.slice (some ⟨a', 0, none⟩) (k) cap') (k) (fl (pm L j)) rfl (hO.out.alloc _).own ⟨p1, o1, none⟩ (lat L j).xs.length c1 (fl (lat L j).xs) rfl (by rw [fl_length, Nat.mul_one]) (fs_news ((G1.out.below BW.out).alloc _)) (fl_one _) (by unfold maxLen; omega) (by omega) (hO.out.alloc _).le ?_)
      intro v' w2 hown hgr hz
      have hne : (Value.slice (some ⟨a', 0, none⟩) k cap').ownBlock ≠ some wr.heap.size := by
        intro e
        have := (hO.out.own.lt _ e).2
        omega
      have r4 : w2.cell? ⟨wr.heap.size, 4, none⟩ = some (.slice (some ⟨p2, o2, none⟩) (lat L j).ys.length c2) := hgr.cell (by simp [go_sem]) hne.symm
      obtain ⟨a2, cap2, rfl, O2_⟩ := OwnS.appS (us := (lat L j).xs) hO.out hown hgr hz
      have O2 := Lib.hid O2_
      clear O2_ hown hgr hz hne q0 q1 q2 q3 q4 q5 m0 m1
      have BW2 := Lib.hid (HA0.out.trans (O2.out.below.mono HA0.out.size))
      go_wp2_with (at_builtin; refine wpList_append_own _ rfl (.tmp 18) (.tmp 20) 22 rfl wm.heap.size 67 i0 (.float .f32 0) 1 4 Try.underlying22 HI.out HZ0.out HZ1.out HZ2.out rfl (by decide) (.slice (some ⟨a2, 0, none⟩) (k + (lat L j).xs.length) cap2) (k + (lat L j).xs.length) (fl (pm L j ++ (lat L j).xs)) rfl O2.out.own ⟨p2, o2, none⟩ (lat L j).ys.length c2 (fl (lat L j).ys) rfl (by rw [fl_length, Nat.mul_one]) (fs_news (G2.out.below BW2.out)) (fl_one _) (by unfold maxLen; omega) (by omega) O2.out.le ?_)
      intro v' w3 hown hgr hz
      obtain ⟨a3, cap3, rfl, O3_⟩ := OwnS.appS0 (us := (lat L j).ys) O2.out hown hgr hz
      have O3 := Lib.hid O3_
      clear O3_ hown hgr hz r4
      go_wp2
      go_roundw
      case rel => exact ⟨j + 1, k + (lat L j).xs.length + (lat L j).ys.length, a3, cap3, by omega, by go_num, rfl, (by have := ES.out; have := hk.out; show _ = _; omega), O3.out⟩
      case measure => simp [intOf]; omega
    · have e : j = n := by omega
      subst e
      have HK := Lib.hid hk.out
      go_wp2
      go_ret
      refine ⟨a', cap', by rw [← HK.out]; rfl, ?_⟩
      have OO := hO.out
      rw [HK.out] at OO
      exact ⟨HA0.out.trans (OO.below.mono HA0.out.size), own_base OO.own HA0.out.size, Nat.le_trans HA0.out.size OO.le⟩
end Go.Proofs.Ytclhemjanhhioaa
