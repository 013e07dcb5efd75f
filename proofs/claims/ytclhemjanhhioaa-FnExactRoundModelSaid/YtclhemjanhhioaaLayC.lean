/- WithParams, by the reference and by the program: what is handed back. -/
import Derived.Test.YtclhemjanhhioaaLayR
import Derived.Test.YtclhemjanhhioaaLayP
namespace Go.Proofs.Ytclhemjanhhioaa
open Go.RowKit Go.Fl Go.Reg
theorem RM_yes {w w3 w4 : World} {rb g n cap : Nat} {L : List LD} {cs : List Value} {P C : Nat → Nat} (T : Below w.heap.size w w3) (M : Mb w4 w3.heap.size (.slice (some ⟨g, 0, none⟩) n cap) n L cs P C) (B : Below w3.heap.size w3 w4) (hr : w.heap.size ≤ rb) (hr2 : rb < w3.heap.size) (hl : L.length = n) :
    RM w L true (.returned (.tuple #[.agg #[.slice (some ⟨g, 0, none⟩) n cap], .bool true])) (w4.setCell ⟨rb, 0, none⟩ (.slice (some ⟨g, 0, none⟩) n cap)) := by
  subst hl
  have hs := T.size
  refine ⟨some ⟨g, 0, none⟩, cap, cs, P, C, rfl, Ml.of ((M.set hr2 _ _).down hs) ?_, (T.trans (B.mono hs)).setCell (p := ⟨rb, 0, none⟩) hr _⟩
  have := B.size
  simp [World.setCell]; omega
theorem mv_pos {L : List LD} {n : Nat} (h : mv L n = true) : 0 < n ∧ n ≤ 6 := by
  unfold mv at h
  simp at h
  omega
/-- the two boxes that such a function makes first -/
theorem two_new {w w' : World} {a : Option Addr} {n cap : Nat} {t u : TypeId} (h : w' = (w.alloc (.cells #[.slice a n cap] t)).alloc (.cells #[.slice none 0 0] u)) : MB w' w.heap.size a n cap ∧ Cq w' (w.heap.size + 1) (.slice none 0 0) ∧ Below w.heap.size w w' ∧ w.heap.size + 2 ≤ w'.heap.size := by
  subst h
  exact ⟨⟨by simp [go_sem], by simp; omega⟩, ⟨by simp [go_sem], by simp [go_sem], by simp⟩, ((Below.refl _ _).alloc (Nat.le_refl _) _).alloc (by simp) _, by simp⟩
def okW (L : List LD) (n m : Nat) : Bool := mv L n && decide (m = szs L n)
def SW (L : List LD) (n m : Nat) (zs : List Nat) : List LD := if okW L n m = true then wl L zs n else []
set_option maxHeartbeats 2000000 in
theorem specW (a : Option Addr) (n cap : Nat) (L : List LD) (bl ol m capl : Nat) (zs : List Nat) (w : World) (hn : n ≤ 1048576) (hs : szs L n ≤ 1048576) (h : Lz w a n cap L) (hz : Fs w (some ⟨bl, ol, none⟩) m capl zs) :
    Calls Try.prog 27 #[.agg #[.slice a n cap], .slice (some ⟨bl, ol, none⟩) m capl] w (RM w (SW L n m zs) (okW L n m)) := by
  have H := Lib.hid h
  have HZ := Lib.hid hz
  have hd1 := hz.cap1
  have hd2 := hz.cap2
  unfold maxLen at hd2
  have HS := Lib.hid hs
  clear h hz hs
  cases hv : mv L n
  · skip
    have ho : okW L n m = false := by unfold okW; rw [hv]; rfl
    rw [show SW L n m zs = [] from if_neg (by rw [ho]; simp), ho]
    clear ho
    have HV := Lib.hid hv
    clear hv
    go_enter Try.func27, Try.ntmps27
    go_wp2_with fail
    refine calls_at ?_
    intro w1 hA
    obtain ⟨Q, RC_, A, z1⟩ := two_new hA
    clear hA
    have HQ := Lib.hid Q
    have RC := Lib.hid RC_
    clear RC_
    refine (isM _ _ _ _ _ _ (H.out.below A).ls Q).mono ?_
    rintro e w2 ⟨rfl, B⟩
    have T := A.trans (B.mono A.size)
    have z2 := B.size
    have HQ := Lib.hid (HQ.out.below B)
    have RC := Lib.hid (RC.out.below B)
    clear A B Q
    rw [HV.out]
    obtain ⟨c0, _, c2⟩ := RC.out
    go_wp2
    refine bodyPost_ret (v := .tuple #[.agg #[.slice none 0 0], .bool false]) (by simp [results, Try.results27, go_sem, c0]) rfl ?_
    exact RM_no (T.setCell (p := ⟨w.heap.size + 1, 0, none⟩) (by simp) _)
  · skip
    have hpos := mv_pos hv
    have HV := Lib.hid hv
    clear hv
    go_enter Try.func27, Try.ntmps27
    go_wp2_with fail
    refine calls_at ?_
    intro w1 hA
    obtain ⟨Q, RC_, A, z1⟩ := two_new hA
    clear hA
    have HQ := Lib.hid Q
    have RC := Lib.hid RC_
    clear RC_
    refine (isM _ _ _ _ _ _ (H.out.below A).ls Q).mono ?_
    rintro e w2 ⟨rfl, B⟩
    have T := A.trans (B.mono A.size)
    have z2 := B.size
    have HQ := Lib.hid (HQ.out.below B)
    have RC := Lib.hid (RC.out.below B)
    clear A B Q
    rw [HV.out]
    go_wp2_with fail
    refine (parS _ _ _ _ _ _ HS.out (H.out.below T) HQ.out).mono ?_
    rintro e w3 ⟨a3, cap3, rfl, O⟩
    have B := O.below
    have T := T.trans (B.mono T.size)
    have z3 := B.size
    have HQ := Lib.hid (HQ.out.below B)
    have RC := Lib.hid (RC.out.below B)
    clear O B
    obtain ⟨s, hsd⟩ : ∃ s, s = szs L n := ⟨_, rfl⟩
    have hs := HS.out
    rw [← hsd] at hs ⊢
    have HSD := Lib.hid hsd
    clear hsd
    by_cases hm : m = s
    · subst hm
      have hm : m = szs L n := HSD.out
      have ho : okW L n m = true := by unfold okW; rw [HV.out, decide_eq_true hm]; rfl
      have HO := Lib.hid ho
      clear ho hm
      go_wp2_with fail
      refine (withS _ _ _ _ _ _ _ _ _ _ _ ⟨hpos.1, hn⟩ HS.out (H.out.below T) HQ.out HSD.out (HZ.out.below T)).mono ?_
      rintro e w4 ⟨g, cap2, cs, P, C, rfl, M_, B⟩
      have M := Lib.hid M_
      have BM := Lib.hid B
      have z4 := B.size
      have RC := Lib.hid (RC.out.below B)
      clear M_ B
      obtain ⟨c0, _, c2⟩ := RC.out
      go_wp2
      refine bodyPost_ret (v := .tuple #[.agg #[.slice (some ⟨g, 0, none⟩) n cap2], .bool true]) (by simp [results, Try.results27, go_sem, c0]) rfl ?_
      rw [show SW L n m zs = wl L zs n from if_pos HO.out, HO.out]
      exact RM_yes (rb := w.heap.size + 1) T M.out BM.out (by omega) (by omega) (wl_len _ _ _)
    · have ho : okW L n m = false := by unfold okW; rw [decide_eq_false (by rw [← HSD.out]; exact hm)]; simp
      have HO := Lib.hid ho
      clear ho
      have hm2 : ¬ (m : Int) = (s : Int) := by omega
      clear hm
      obtain ⟨c0, _, c2⟩ := RC.out
      go_wp2
      refine bodyPost_ret (v := .tuple #[.agg #[.slice none 0 0], .bool false]) (by simp [results, Try.results27, go_sem, c0]) rfl ?_
      rw [show SW L n m zs = [] from if_neg (by rw [HO.out]; simp), HO.out]
      exact RM_no (T.setCell (p := ⟨w.heap.size + 1, 0, none⟩) (by simp) _)
set_option maxHeartbeats 2000000 in
theorem implW (a : Option Addr) (n cap : Nat) (L : List LD) (bl ol m capl : Nat) (zs : List Nat) (w : World) (hn : n ≤ 1048576) (hs : szs L n ≤ 1048576) (h : Lz w a n cap L) (hz : Fs w (some ⟨bl, ol, none⟩) m capl zs) :
    Calls Try.prog 29 #[.agg #[.slice a n cap], .slice (some ⟨bl, ol, none⟩) m capl] w (RM w (SW L n m zs) (okW L n m)) := by
  have H := Lib.hid h
  have HZ := Lib.hid hz
  have hd1 := hz.cap1
  have hd2 := hz.cap2
  unfold maxLen at hd2
  have HS := Lib.hid hs
  clear h hz hs
  cases hv : mv L n
  · skip
    have ho : okW L n m = false := by unfold okW; rw [hv]; rfl
    rw [show SW L n m zs = [] from if_neg (by rw [ho]; simp), ho]
    clear ho
    have HV := Lib.hid hv
    clear hv
    go_enter Try.func29, Try.ntmps29
    go_wp2_with fail
    refine calls_at ?_
    intro w1 hA
    obtain ⟨Q, RC_, A, z1⟩ := two_new hA
    clear hA
    have HQ := Lib.hid Q
    have RC := Lib.hid RC_
    clear RC_
    refine (validM _ _ _ _ _ (H.out.below A).ls).mono ?_
    rintro e w2 ⟨rfl, B⟩
    have T := A.trans (B.mono A.size)
    have z2 := B.size
    have HQ := Lib.hid (HQ.out.below B)
    have RC := Lib.hid (RC.out.below B)
    clear A B Q
    rw [HV.out]
    obtain ⟨c0, _, c2⟩ := RC.out
    go_wp2
    refine bodyPost_ret (v := .tuple #[.agg #[.slice none 0 0], .bool false]) (by simp [results, Try.results29, go_sem, c0]) rfl ?_
    exact RM_no (T.setCell (p := ⟨w.heap.size + 1, 0, none⟩) (by simp) _)
  · skip
    have hpos := mv_pos hv
    have HV := Lib.hid hv
    clear hv
    go_enter Try.func29, Try.ntmps29
    go_wp2_with fail
    refine calls_at ?_
    intro w1 hA
    obtain ⟨Q, RC_, A, z1⟩ := two_new hA
    clear hA
    have HQ := Lib.hid Q
    have RC := Lib.hid RC_
    clear RC_
    refine (validM _ _ _ _ _ (H.out.below A).ls).mono ?_
    rintro e w2 ⟨rfl, B⟩
    have T := A.trans (B.mono A.size)
    have z2 := B.size
    have HQ := Lib.hid (HQ.out.below B)
    have RC := Lib.hid (RC.out.below B)
    clear A B Q
    rw [HV.out]
    obtain ⟨q0, q1⟩ := HQ.out
    go_wp2_with fail
    refine (parI _ _ _ _ _ HS.out (H.out.below T)).mono ?_
    rintro e w3 ⟨a3, cap3, rfl, O⟩
    have B := O.below
    have T := T.trans (B.mono T.size)
    have z3 := B.size
    have HQ := Lib.hid (HQ.out.below B)
    have RC := Lib.hid (RC.out.below B)
    clear O B q0 q1
    obtain ⟨s, hsd⟩ : ∃ s, s = szs L n := ⟨_, rfl⟩
    have hs := HS.out
    rw [← hsd] at hs ⊢
    have HSD := Lib.hid hsd
    clear hsd
    by_cases hm : m = s
    · subst hm
      have hm : m = szs L n := HSD.out
      have ho : okW L n m = true := by unfold okW; rw [HV.out, decide_eq_true hm]; rfl
      have HO := Lib.hid ho
      clear ho hm
      obtain ⟨q0, q1⟩ := HQ.out
      go_wp2_with fail
      clear q0 q1
      refine (withI _ _ _ _ _ _ _ _ _ _ ⟨hpos.1, hn⟩ HS.out (H.out.below T) HSD.out (HZ.out.below T)).mono ?_
      rintro e w4 ⟨g, cap2, cs, P, C, rfl, M_, B⟩
      have M := Lib.hid M_
      have BM := Lib.hid B
      have z4 := B.size
      have RC := Lib.hid (RC.out.below B)
      clear M_ B
      obtain ⟨c0, _, c2⟩ := RC.out
      go_wp2
      refine bodyPost_ret (v := .tuple #[.agg #[.slice (some ⟨g, 0, none⟩) n cap2], .bool true]) (by simp [results, Try.results29, go_sem, c0]) rfl ?_
      rw [show SW L n m zs = wl L zs n from if_pos HO.out, HO.out]
      exact RM_yes (rb := w.heap.size + 1) T M.out BM.out (by omega) (by omega) (wl_len _ _ _)
    · have ho : okW L n m = false := by unfold okW; rw [decide_eq_false (by rw [← HSD.out]; exact hm)]; simp
      have HO := Lib.hid ho
      clear ho
      have hm2 : ¬ (m : Int) = (s : Int) := by omega
      clear hm
      obtain ⟨c0, _, c2⟩ := RC.out
      go_wp2
      refine bodyPost_ret (v := .tuple #[.agg #[.slice none 0 0], .bool false]) (by simp [results, Try.results29, go_sem, c0]) rfl ?_
      rw [show SW L n m zs = [] from if_neg (by rw [HO.out]; simp), HO.out]
      exact RM_no (T.setCell (p := ⟨w.heap.size + 1, 0, none⟩) (by simp) _)
end Go.Proofs.Ytclhemjanhhioaa
