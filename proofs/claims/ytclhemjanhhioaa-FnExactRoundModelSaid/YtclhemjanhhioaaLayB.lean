/- RoundModel, by the reference and by the program: a number rounded, the parameters rounded, the model made of them. -/
import Derived.Test.YtclhemjanhhioaaLayC
import Derived.Test.YtclhemjanhhioaaOpenM
import Derived.Test.YtclhemjanhhioaaBits
namespace Go.Proofs.Ytclhemjanhhioaa
open Go.RowKit Go.ChangeShapes Go.WideShapes Go.Deep Go.Fl Go.Reg
/-- the rounded word -/
def bfv (x : Nat) : Nat := if x % 2147483648 < 2139095040 then bf x else x
def BFP (x : Nat) (w : World) (e : Ending) (w' : World) : Prop := ∃ y, e = .returned (.float .f32 y) ∧ cn .f32 y = cn .f32 (bfv x) ∧ Below w.heap.size w w'
theorem bflS (x : Nat) (hx' : x < 4294967296) (w : World) : Calls Try.prog 48 #[.float .f32 x] w (BFP x w) := by
  cases hn : isNaN .f32 x
  · have hr := nan_le hn
    by_cases hi : x % 2147483648 < 2139095040
    · have e1 := bf_u32 x hx' hi
      have e2 := bf_i64 x hx' hi
      have hf := fin_yes hi
      have hb : bfv x = bf x := if_pos hi
      unfold BFP
      rw [hb]
      clear hb
      go_enter Try.func48, Try.ntmps48
      go_wp2_with go_in
      go_ret
      exact ⟨_, rfl, rfl, by first | exact Below.refl _ _ | exact below_drewN (Below.refl _ _) _⟩
    · have : x = 2139095040 ∨ x = 4286578688 := by omega
      have hf := fin_no hi
      have hb : bfv x = x := if_neg hi
      unfold BFP
      rw [hb]
      clear hb
      clear hi hr
      have e1 := bf_inf1
      have e2 := bf_inf2
      rcases this with rfl | rfl
      all_goals
        go_enter Try.func48, Try.ntmps48
        go_wp2_with go_in
        go_ret
        exact ⟨_, rfl, rfl, by first | exact Below.refl _ _ | exact below_drewN (Below.refl _ _) _⟩
  · have hf := fin_no (nan_ge hn)
    have hb : bfv x = x := if_neg (nan_ge hn)
    unfold BFP
    rw [hb]
    clear hb
    go_enter Try.func48, Try.ntmps48
    go_wp2_with go_in
    go_ret
    exact ⟨_, rfl, by first | rfl | exact nan_cn_eq (fnar_nan (by decide +kernel) _) hn | exact (nan_cn_eq (fnar_nan (by decide +kernel) _) hn).symm, by first | exact Below.refl _ _ | exact below_drewN (Below.refl _ _) _⟩
theorem bflI (x : Nat) (hx' : x < 4294967296) (w : World) : Calls Try.prog 58 #[.float .f32 x] w (BFP x w) := by
  cases hn : isNaN .f32 x
  · have hr := nan_le hn
    by_cases hi : x % 2147483648 < 2139095040
    · have e1 := bf_u32 x hx' hi
      have e2 := bf_i64 x hx' hi
      have hf := fin_yes hi
      have hb : bfv x = bf x := if_pos hi
      unfold BFP
      rw [hb]
      clear hb
      go_enter Try.func58, Try.ntmps58
      go_wp2_with go_in
      go_ret
      exact ⟨_, rfl, rfl, by first | exact Below.refl _ _ | exact below_drewN (Below.refl _ _) _⟩
    · have : x = 2139095040 ∨ x = 4286578688 := by omega
      have hf := fin_no hi
      have hb : bfv x = x := if_neg hi
      unfold BFP
      rw [hb]
      clear hb
      clear hi hr
      have e1 := bf_inf1
      have e2 := bf_inf2
      rcases this with rfl | rfl
      all_goals
        go_enter Try.func58, Try.ntmps58
        go_wp2_with go_in
        go_ret
        exact ⟨_, rfl, rfl, by first | exact Below.refl _ _ | exact below_drewN (Below.refl _ _) _⟩
  · have hf := fin_no (nan_ge hn)
    have hb : bfv x = x := if_neg (nan_ge hn)
    unfold BFP
    rw [hb]
    clear hb
    go_enter Try.func58, Try.ntmps58
    go_wp2_with go_in
    go_ret
    exact ⟨_, rfl, by first | rfl | exact nan_cn_eq (fnar_nan (by decide +kernel) _) hn | exact (nan_cn_eq (fnar_nan (by decide +kernel) _) hn).symm, by first | exact Below.refl _ _ | exact below_drewN (Below.refl _ _) _⟩
theorem row_cell {w : World} {lo hi : Nat} {t : TypeId} {g n cap : Nat} {ys : List Nat} (R : Row w lo hi t (.slice (some ⟨g, 0, none⟩) n cap) n ys) {j : Nat} (hj : j < n) : w.cell? ⟨g, j, none⟩ = some (.float .f32 (ys[j]?.getD 0)) := by
  obtain ⟨b, o, e, hc⟩ := R.fs.cell j hj
  injection e with e; injection e with e1 e2 e3
  subst e1; subst e2
  rwa [Nat.zero_add] at hc
/-- a number of the row is written -/
theorem row_wr {w : World} {lo : Nat} {t : TypeId} {g n cap : Nat} {ys : List Nat} (R : Row w lo w.heap.size t (.slice (some ⟨g, 0, none⟩) n cap) n ys) (j u : Nat) : Row (w.setCell ⟨g, j, none⟩ (.float .f32 u)) lo (w.setCell ⟨g, j, none⟩ (.float .f32 u)).heap.size t (.slice (some ⟨g, 0, none⟩) n cap) n (ys.set j u) := by
  have h := (R.own.stored j (.float .f32 u)).1
  rw [fl_set] at h
  exact Row.of h (by simpa [World.setCell] using R.low)
theorem row_lo {w : World} {lo hi : Nat} {t : TypeId} {g n cap : Nat} {ys : List Nat} (R : Row w lo hi t (.slice (some ⟨g, 0, none⟩) n cap) n ys) : lo ≤ g := (R.own.lt g rfl).1
theorem row_fz {w : World} {lo hi : Nat} {t : TypeId} {g n cap : Nat} {ys : List Nat} (R : Row w lo hi t (.slice (some ⟨g, 0, none⟩) n cap) n ys) (j : Nat) : w.frozen? ⟨g, j, none⟩ = false := R.own.frozenAt j
/-- the first k numbers are rounded, the others as they were -/
def Half (xs ys : List Nat) (m k : Nat) : Prop := xs.length = m ∧ ys.length = m ∧ ∀ j, j < m → (j < k → cn .f32 (ys[j]?.getD 0) = cn .f32 (bfv (xs[j]?.getD 0))) ∧ (k ≤ j → ys[j]?.getD 0 = xs[j]?.getD 0)
theorem Half.start {xs : List Nat} {m : Nat} (h : xs.length = m) : Half xs xs m 0 := ⟨h, h, fun j _ => ⟨fun h => by omega, fun _ => rfl⟩⟩
theorem Half.step {xs ys : List Nat} {m k u : Nat} (h : Half xs ys m k) (hk : k < m) (hu : cn .f32 u = cn .f32 (bfv (ys[k]?.getD 0))) : Half xs (ys.set k u) m (k + 1) := by
  obtain ⟨h1, h2, h3⟩ := h
  refine ⟨h1, by rw [List.length_set]; exact h2, fun j hj => ?_⟩
  obtain ⟨c1, c2⟩ := h3 j hj
  by_cases e : k = j
  · subst e
    have e2 := c2 (Nat.le_refl _)
    refine ⟨fun _ => ?_, fun h => by omega⟩
    rw [List.getElem?_set_self (by omega), ← e2]
    exact hu
  · rw [List.getElem?_set_ne e]
    exact ⟨fun h => c1 (by omega), fun h => c2 (by omega)⟩
def Rd (xs ys : List Nat) : Prop := ys.map (cn .f32) = xs.map (fun x => cn .f32 (bfv x))
theorem Half.fin {xs ys : List Nat} {m : Nat} (h : Half xs ys m m) : Rd xs ys := by
  obtain ⟨h1, h2, h3⟩ := h
  apply List.ext_getElem (by simp; omega)
  intro j hj hj'
  simp at hj hj'
  have := (h3 j (by omega)).1 (by omega)
  rw [List.getElem?_eq_getElem (by omega), List.getElem?_eq_getElem (by omega)] at this
  simpa using this
theorem Half.lt {xs ys : List Nat} {m k : Nat} (h : Half xs ys m k) (hb : ∀ x ∈ xs, x < 4294967296) (hk : k < m) : ys[k]?.getD 0 < 4294967296 := by
  obtain ⟨h1, h2, h3⟩ := h
  rw [(h3 k hk).2 (Nat.le_refl _), List.getElem?_eq_getElem (by omega)]
  exact hb _ (List.getElem_mem _)
/-- a model of its own, with rounded parameters -/
def WR (w : World) (n : Nat) (L : List LD) (e : Ending) (w' : World) : Prop := ∃ zs, Rd (pm L n) zs ∧ WP w n (wl L zs n) e w'
set_option maxHeartbeats 2000000 in
theorem roundedI (a : Option Addr) (n cap : Nat) (L : List LD) (w : World) (hn : 0 < n ∧ n ≤ 1048576) (hs : szs L n ≤ 1048576) (hb : ∀ x ∈ pm L n, x < 4294967296) (h : Lz w a n cap L) :
    Calls Try.prog 49 #[.agg #[.slice a n cap]] w (WR w n L) := by
  have H := Lib.hid h
  clear h
  go_enter Try.func49, Try.ntmps49
  go_wp2_with fail
  refine calls_at ?_
  intro w1 hA
  obtain ⟨Q, RC_, A, z1⟩ := two_new hA
  clear hA
  have T := A
  have HQ := Lib.hid Q
  have RC := Lib.hid RC_
  clear RC_ Q A
  refine (parI _ _ _ _ _ hs (H.out.below T)).mono ?_
  rintro e w2 ⟨g, cap3, rfl, O⟩
  have HLEN := Lib.hid O.len
  have B := O.below
  have hc1 := O.row.fs.cap1
  have hc2 := O.row.fs.cap2
  unfold maxLen at hc2
  obtain ⟨m, hm⟩ : ∃ m, m = szs L n := ⟨_, rfl⟩
  have HR := Lib.hid O.row
  rw [← hm] at HR HLEN hs hc1 ⊢
  have HM := Lib.hid hm
  have HB := Lib.hid B
  have z2 := B.size
  clear O B hm
  go_wp2
  go_loopw [10] (fun i w' => ∃ (k : Nat) (ys : List Nat), k ≤ m ∧ i = .int .i64 k ∧ Hid (Row w' w1.heap.size w'.heap.size 67 (.slice (some ⟨g, 0, none⟩) m cap3) m ys) ∧ Hid (Half (pm L n) ys m k) ∧ Hid (Below w1.heap.size w1 w')) (fun i _ => m - (intOf i).toNat)
  case atStart => exact ⟨0, _, Nat.zero_le _, rfl, HR.out, Half.start HLEN.out, HB.out⟩
  case round =>
    obtain ⟨k, ys, hk, rfl, hR, hH, hB⟩ := hrel
    by_cases hlt : k < m
    · have co := row_cell hR.out hlt
      have hx := hH.out.lt hb hlt
      go_wp2_with fail
      refine (bflI _ hx _).mono ?_
      rintro e w3 ⟨y, rfl, hy, A⟩
      have zA := A.size
      have R2 := ((hR.out.below A).up zA (Nat.le_refl _))
      have HR2 := Lib.hid R2
      have co2 := row_cell R2 hlt
      have fo := row_fz R2 k
      have HB2 := Lib.hid (hB.out.trans (A.mono hB.out.size))
      have HY := Lib.hid hy
      clear A R2 hy co
      go_wp2
      go_roundw
      case rel => exact ⟨k + 1, _, by omega, by go_num, row_wr HR2.out k _, hH.out.step hlt HY.out, HB2.out.setCell (row_lo HR2.out) _⟩
      case measure => simp [intOf]; omega
    · have e : k = m := by omega
      subst e
      have T2 := T.trans (hB.out.mono T.size)
      have HF := Lib.hid hR.out.fs
      have HQ := Lib.hid (HQ.out.below hB.out)
      have RC := Lib.hid (RC.out.below hB.out)
      obtain ⟨m0, m1⟩ := HQ.out
      have zz := hB.out.size
      go_wp2_with fail
      clear m0 m1
      refine (withI _ _ _ _ _ _ _ _ _ _ hn (by rw [← HM.out]; exact hs) (H.out.below T2) HM.out HF.out).mono ?_
      rintro e w4 ⟨g2, cap2, cs, P, C, rfl, M_, B⟩
      have M := Lib.hid M_
      have BM := Lib.hid B
      have z4 := B.size
      have RC := Lib.hid (RC.out.below B)
      clear M_ B
      obtain ⟨c0, _, c2⟩ := RC.out
      go_wp2
      refine bodyPost_ret (v := .agg #[.slice (some ⟨g2, 0, none⟩) n cap2]) (by simp [results, Try.results49, go_sem, c0]) rfl ?_
      exact ⟨_, hH.out.fin, g2, cap2, cs, P, C, rfl, (M.out.set (b := w.heap.size + 1) (by omega) _ _).down (by omega), (T2.trans (BM.out.mono T2.size)).setCell (p := ⟨w.heap.size + 1, 0, none⟩) (by simp) _⟩
/-- what a rounded model is made of -/
def CS (L : List LD) (n : Nat) (S : List LD) : Prop := if mv L n = true then ∃ zs, Rd (pm L n) zs ∧ S = wl L zs n else S = []
def RR (w : World) (n : Nat) (L : List LD) (e : Ending) (w' : World) : Prop := ∃ S, CS L n S ∧ RM w S (mv L n) e w'
theorem RR_no {w wr : World} {n : Nat} {L : List LD} (hv : mv L n = false) (B : Below w.heap.size w wr) : RR w n L (.returned (.tuple #[.agg #[.slice none 0 0], .bool false])) wr :=
  ⟨[], by unfold CS; rw [hv]; rfl, by rw [hv]; exact RM_no B⟩
theorem RR_yes {w w3 w4 : World} {rb g n cap : Nat} {L : List LD} {zs : List Nat} {cs : List Value} {P C : Nat → Nat} (hv : mv L n = true) (hz : Rd (pm L n) zs) (T : Below w.heap.size w w3) (M : Mb w4 w3.heap.size (.slice (some ⟨g, 0, none⟩) n cap) n (wl L zs n) cs P C) (B : Below w3.heap.size w3 w4) (hr : w.heap.size ≤ rb) (hr2 : rb < w3.heap.size) :
    RR w n L (.returned (.tuple #[.agg #[.slice (some ⟨g, 0, none⟩) n cap], .bool true])) (w4.setCell ⟨rb, 0, none⟩ (.slice (some ⟨g, 0, none⟩) n cap)) :=
  ⟨wl L zs n, by unfold CS; rw [if_pos hv]; exact ⟨zs, hz, rfl⟩, by rw [hv]; exact RM_yes T M B hr hr2 (wl_len _ _ _)⟩
set_option maxHeartbeats 2000000 in
theorem specR (a : Option Addr) (n cap : Nat) (L : List LD) (w : World) (hn : n ≤ 1048576) (hs : szs L n ≤ 1048576) (hb : ∀ x ∈ pm L n, x < 4294967296) (h : Lz w a n cap L) :
    Calls Try.prog 31 #[.agg #[.slice a n cap]] w (RR w n L) := by
  have H := Lib.hid h
  clear h
  cases hv : mv L n
  · skip
    have HV := Lib.hid hv
    clear hv
    go_enter Try.func31, Try.ntmps31
    go_wp2_with fail
    refine calls_at ?_
    intro w1 hA
    obtain ⟨Q, RC_, A, z1⟩ := two_new hA
    clear hA
    have HQ := Lib.hid Q
    have RC := Lib.hid RC_
    clear RC_
    refine (isM _ _ _ _ _ _ (H.out.below A).ls Q).mono ?_
    rintro e w2 ⟨rfl, B⟩
    have T := A.trans (B.mono A.size)
    have z2 := B.size
    have HQ := Lib.hid (HQ.out.below B)
    have RC := Lib.hid (RC.out.below B)
    clear A B Q
    rw [HV.out]
    obtain ⟨c0, _, c2⟩ := RC.out
    go_wp2
    refine bodyPost_ret (v := .tuple #[.agg #[.slice none 0 0], .bool false]) (by simp [results, Try.results31, go_sem, c0]) rfl ?_
    exact RR_no HV.out (T.setCell (p := ⟨w.heap.size + 1, 0, none⟩) (by simp) _)
  · skip
    have hpos := mv_pos hv
    have HV := Lib.hid hv
    clear hv
    go_enter Try.func31, Try.ntmps31
    go_wp2_with fail
    refine calls_at ?_
    intro w1 hA
    obtain ⟨Q, RC_, A, z1⟩ := two_new hA
    clear hA
    have HQ := Lib.hid Q
    have RC := Lib.hid RC_
    clear RC_
    refine (isM _ _ _ _ _ _ (H.out.below A).ls Q).mono ?_
    rintro e w2 ⟨rfl, B⟩
    have T := A.trans (B.mono A.size)
    have z2 := B.size
    have HQ := Lib.hid (HQ.out.below B)
    have RC := Lib.hid (RC.out.below B)
    clear A B Q
    rw [HV.out]
    go_wp2_with fail
    refine (parS _ _ _ _ _ _ hs (H.out.below T) HQ.out).mono ?_
    rintro e w3 ⟨g, cap3, rfl, O⟩
    have HLEN := Lib.hid O.len
    have hc1 := O.row.fs.cap1
    have hc2 := O.row.fs.cap2
    unfold maxLen at hc2
    obtain ⟨m, hm⟩ : ∃ m, m = szs L n := ⟨_, rfl⟩
    have HR := Lib.hid O.row
    rw [← hm] at HR HLEN hs hc1 ⊢
    have HM := Lib.hid hm
    have HB := Lib.hid O.below
    have z3 := O.below.size
    clear O hm
    go_wp2
    go_loopw [12] (fun i w' => ∃ (k : Nat) (ys : List Nat), k ≤ m ∧ i = .int .i64 k ∧ Hid (Row w' w2.heap.size w'.heap.size 67 (.slice (some ⟨g, 0, none⟩) m cap3) m ys) ∧ Hid (Half (pm L n) ys m k) ∧ Hid (Below w2.heap.size w2 w')) (fun i _ => m - (intOf i).toNat)
    case atStart => exact ⟨0, _, Nat.zero_le _, rfl, HR.out, Half.start HLEN.out, HB.out⟩
    case round =>
      obtain ⟨k, ys, hk, rfl, hR, hH, hB⟩ := hrel
      by_cases hlt : k < m
      · have co := row_cell hR.out hlt
        have hx := hH.out.lt hb hlt
        go_wp2_with fail
        refine (bflS _ hx _).mono ?_
        rintro e w3 ⟨y, rfl, hy, A⟩
        have zA := A.size
        have R2 := ((hR.out.below A).up zA (Nat.le_refl _))
        have HR2 := Lib.hid R2
        have co2 := row_cell R2 hlt
        have fo := row_fz R2 k
        have HB2 := Lib.hid (hB.out.trans (A.mono hB.out.size))
        have HY := Lib.hid hy
        clear A R2 hy co
        go_wp2
        go_roundw
        case rel => exact ⟨k + 1, _, by omega, by go_num, row_wr HR2.out k _, hH.out.step hlt HY.out, HB2.out.setCell (row_lo HR2.out) _⟩
        case measure => simp [intOf]; omega
      · have e : k = m := by omega
        subst e
        have T2 := T.trans (hB.out.mono T.size)
        have HF := Lib.hid hR.out.fs
        have HQ := Lib.hid (HQ.out.below hB.out)
        have RC := Lib.hid (RC.out.below hB.out)
        have zz := hB.out.size
        have HZ := Lib.hid hH.out.fin
        go_wp2_with fail
        refine (withS _ _ _ _ _ _ _ _ _ _ _ ⟨hpos.1, hn⟩ (by rw [← HM.out]; exact hs) (H.out.below T2) HQ.out HM.out HF.out).mono ?_
        rintro e w4 ⟨g2, cap2, cs, P, C, rfl, M_, B⟩
        have M := Lib.hid M_
        have BM := Lib.hid B
        have z4 := B.size
        have RC := Lib.hid (RC.out.below B)
        clear M_ B
        obtain ⟨c0, _, c2⟩ := RC.out
        go_wp2
        refine bodyPost_ret (v := .tuple #[.agg #[.slice (some ⟨g2, 0, none⟩) n cap2], .bool true]) (by simp [results, Try.results31, go_sem, c0]) rfl ?_
        exact RR_yes (rb := w.heap.size + 1) HV.out HZ.out T2 M.out BM.out (by omega) (by omega)
set_option maxHeartbeats 2000000 in
theorem implR (a : Option Addr) (n cap : Nat) (L : List LD) (w : World) (hn : n ≤ 1048576) (hs : szs L n ≤ 1048576) (hb : ∀ x ∈ pm L n, x < 4294967296) (h : Lz w a n cap L) :
    Calls Try.prog 32 #[.agg #[.slice a n cap]] w (RR w n L) := by
  have H := Lib.hid h
  clear h
  cases hv : mv L n
  · skip
    have HV := Lib.hid hv
    clear hv
    go_enter Try.func32, Try.ntmps32
    go_wp2_with fail
    refine calls_at ?_
    intro w1 hA
    obtain ⟨Q, RC_, A, z1⟩ := two_new hA
    clear hA
    have HQ := Lib.hid Q
    have RC := Lib.hid RC_
    clear RC_
    obtain ⟨q0, q1⟩ := Q
    refine (validM _ _ _ _ _ (H.out.below A).ls).mono ?_
    clear q0 q1
    rintro e w2 ⟨rfl, B⟩
    have T := A.trans (B.mono A.size)
    have z2 := B.size
    have HQ := Lib.hid (HQ.out.below B)
    have RC := Lib.hid (RC.out.below B)
    clear A B
    rw [HV.out]
    obtain ⟨c0, _, c2⟩ := RC.out
    go_wp2
    refine bodyPost_ret (v := .tuple #[.agg #[.slice none 0 0], .bool false]) (by simp [results, Try.results32, go_sem, c0]) rfl ?_
    exact RR_no HV.out (T.setCell (p := ⟨w.heap.size + 1, 0, none⟩) (by simp) _)
  · skip
    have hpos := mv_pos hv
    have HV := Lib.hid hv
    clear hv
    go_enter Try.func32, Try.ntmps32
    go_wp2_with fail
    refine calls_at ?_
    intro w1 hA
    obtain ⟨Q, RC_, A, z1⟩ := two_new hA
    clear hA
    have HQ := Lib.hid Q
    have RC := Lib.hid RC_
    clear RC_
    obtain ⟨q0, q1⟩ := Q
    refine (validM _ _ _ _ _ (H.out.below A).ls).mono ?_
    clear q0 q1
    rintro e w2 ⟨rfl, B⟩
    have T := A.trans (B.mono A.size)
    have z2 := B.size
    have HQ := Lib.hid (HQ.out.below B)
    have RC := Lib.hid (RC.out.below B)
    clear A B
    rw [HV.out]
    obtain ⟨q0, q1⟩ := HQ.out
    go_wp2_with fail
    clear q0 q1
    refine (roundedI _ _ _ _ _ ⟨hpos.1, hn⟩ hs hb (H.out.below T)).mono ?_
    rintro e w4 ⟨zs, hz, g, cap2, cs, P, C, rfl, M_, B⟩
    have HZ := Lib.hid hz
    have T2 := T
    clear hz
    have M := Lib.hid M_
    have BM := Lib.hid B
    have z4 := B.size
    have RC := Lib.hid (RC.out.below B)
    clear M_ B
    obtain ⟨c0, _, c2⟩ := RC.out
    go_wp2
    refine bodyPost_ret (v := .tuple #[.agg #[.slice (some ⟨g, 0, none⟩) n cap2], .bool true]) (by simp [results, Try.results32, go_sem, c0]) rfl ?_
    exact RR_yes (rb := w.heap.size + 1) HV.out HZ.out T2 M.out BM.out (by omega) (by omega)
end Go.Proofs.Ytclhemjanhhioaa
