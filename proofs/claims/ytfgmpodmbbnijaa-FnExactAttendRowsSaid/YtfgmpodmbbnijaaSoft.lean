/- Shares of numbers: the greatest taken off, the exponential function, divided by the sum. -/
import Derived.Test.YtfgmpodmbbnijaaExpNeg
import Derived.Test.YtfgmpodmbbnijaaPool
namespace Go.Proofs.Ytfgmpodmbbnijaa.soft
open Go.RowKit Go.Fl Go.Reg Go.Ord
open Ieee (Datum Format)
/-! ### numbers as whole numbers, infinities too -/
theorem order_all {a b : Nat} (ha : isNaN .f32 a = false) (hb : isNaN .f32 b = false) : FloatKind.f32.format.order a b = some (compare (toZ Ieee.single a) (toZ Ieee.single b)) := by
  have la := (nan_iff .f32 a).1 ha
  have lb := (nan_iff .f32 b).1 hb
  have hz : ∀ x, x % sw .f32 = ir .f32 → toZ Ieee.single x = sg (Ord.neg Ieee.single x) (mg Ieee.single 2139095040) := fun x hx => by unfold toZ rung; rw [ssw]; rw [show x % 2147483648 = 2139095040 from hx]
  have hs : ∀ x, x % sw .f32 < ir .f32 → (mg Ieee.single (rung Ieee.single x) < mg Ieee.single 2139095040) := fun x hx => mg_lt _ (by unfold rung; rw [ssw]; exact hx)
  have q := hs
  by_cases fa : a % sw .f32 < ir .f32 <;> by_cases fb : b % sw .f32 < ir .f32
  · exact order_fin Ieee.single ((fin_iff .f32 a).2 fa) ((fin_iff .f32 b).2 fb)
  · obtain ⟨m, e, hr, _, _⟩ := read_fin Ieee.single ((fin_iff .f32 a).2 fa)
    have hi : b % sw .f32 = ir .f32 := by omega
    have hb2 := hz b hi
    have ha2 := hs a fa
    have r2 : Ieee.single.read b = .infinity (Ord.neg Ieee.single b) := read_inf .f32 hi
    rw [hb2]
    show Ieee.single.order a b = _
    unfold Format.order toZ
    rw [hr, r2]
    generalize mg Ieee.single 2139095040 = M at *
    generalize mg Ieee.single (rung Ieee.single a) = X at *
    cases Ord.neg Ieee.single b <;> cases Ord.neg Ieee.single a <;> simp only [Datum.order, sg, Bool.false_eq_true, if_true, if_false] <;> congr 1 <;> symm <;> first | (apply Int.compare_eq_lt.2; omega) | (apply Int.compare_eq_gt.2; omega)
  · obtain ⟨m, e, hr, _, _⟩ := read_fin Ieee.single ((fin_iff .f32 b).2 fb)
    have hi : a % sw .f32 = ir .f32 := by omega
    have ha2 := hz a hi
    have hb2 := hs b fb
    have r2 : Ieee.single.read a = .infinity (Ord.neg Ieee.single a) := read_inf .f32 hi
    rw [ha2]
    show Ieee.single.order a b = _
    unfold Format.order toZ
    rw [hr, r2]
    generalize mg Ieee.single 2139095040 = M at *
    generalize mg Ieee.single (rung Ieee.single b) = X at *
    cases Ord.neg Ieee.single b <;> cases Ord.neg Ieee.single a <;> simp only [Datum.order, sg, Bool.false_eq_true, if_true, if_false] <;> congr 1 <;> symm <;> first | (apply Int.compare_eq_lt.2; omega) | (apply Int.compare_eq_gt.2; omega)
  · have hia : a % sw .f32 = ir .f32 := by omega
    have hib : b % sw .f32 = ir .f32 := by omega
    have r1 : Ieee.single.read a = .infinity (Ord.neg Ieee.single a) := read_inf .f32 hia
    have r2 : Ieee.single.read b = .infinity (Ord.neg Ieee.single b) := read_inf .f32 hib
    rw [hz a hia, hz b hib]
    have hpos : 0 < mg Ieee.single 2139095040 := by decide +kernel
    show Ieee.single.order a b = _
    unfold Format.order
    rw [r1, r2]
    generalize mg Ieee.single 2139095040 = M at *
    cases Ord.neg Ieee.single b <;> cases Ord.neg Ieee.single a <;> simp only [Datum.order, sg, Bool.false_eq_true, if_true, if_false] <;> congr 1 <;> symm
    · simp
    · show compare (-(M : Int)) (M : Int) = .lt
      apply Int.compare_eq_lt.2; omega
    · show compare (M : Int) (-(M : Int)) = .gt
      apply Int.compare_eq_gt.2; omega
    · simp
theorem gt_iff {a b : Nat} : (FloatKind.f32.format.order a b == some .gt) = true ↔ isNaN .f32 a = false ∧ isNaN .f32 b = false ∧ toZ Ieee.single b < toZ Ieee.single a := by
  cases ha : isNaN .f32 a
  · cases hb : isNaN .f32 b
    · rw [order_all ha hb]
      constructor
      · intro h
        have h2 : compare (toZ Ieee.single a) (toZ Ieee.single b) = .gt := by simpa using h
        exact ⟨rfl, rfl, Int.compare_eq_gt.1 h2⟩
      · rintro ⟨_, _, h⟩
        rw [Int.compare_eq_gt.2 h]; rfl
    · rw [order_nan (.inr hb)]; simp
  · rw [order_nan (.inl ha)]; simp
/-- nothing is greater than the greatest -/
theorem gm_max (F : Nat → Nat) : ∀ k, isNaN .f32 (pool.gm F k) = true ∨ ∀ j, j ≤ k → isNaN .f32 (F j) = true ∨ toZ Ieee.single (F j) ≤ toZ Ieee.single (pool.gm F k)
  | 0 => .inr fun j hj => by have : j = 0 := by omega
                             subst this; exact .inr (Int.le_refl _)
  | k + 1 => by
    cases h : (FloatKind.f32.format.order (F (k + 1)) (pool.gm F k) == some .gt)
    · rw [pool.gm_le h]
      rcases gm_max F k with ih | ih
      · exact .inl ih
      · cases hn : isNaN .f32 (pool.gm F k)
        · refine .inr fun j hj => ?_
          by_cases hjk : j ≤ k
          · exact ih j hjk
          · have e : j = k + 1 := by omega
            subst e
            cases hf : isNaN .f32 (F (k + 1))
            · right
              by_cases hlt : toZ Ieee.single (pool.gm F k) < toZ Ieee.single (F (k + 1))
              · rw [gt_iff.2 ⟨hf, hn, hlt⟩] at h; cases h
              · omega
            · exact .inl rfl
        · exact .inl rfl
    · rw [pool.gm_gt h]
      obtain ⟨h1, h2, h3⟩ := gt_iff.1 h
      refine .inr fun j hj => ?_
      rcases gm_max F k with ih | ih
      · rw [h2] at ih; cases ih
      · by_cases hjk : j ≤ k
        · rcases ih j hjk with q | q
          · exact .inl q
          · exact .inr (by omega)
        · have e : j = k + 1 := by omega
          subst e; exact .inr (Int.le_refl _)
theorem negw {r : Nat} (h : r ≤ 2139095040) : Ord.neg Ieee.single (Ieee.single.word true r) = true := by
  unfold Ord.neg Format.word; rw [ssw, if_pos rfl]
  have : (2147483648 + r) / 2147483648 = 1 := by omega
  rw [this]; rfl
theorem np_word (r : Nat) (h : r ≤ 2139095040) : np (Ieee.single.word true r) := .inr (.inr (negw h))
theorem np_near {s : Bool} {m : Nat} (p : Int) (h : m = 0 ∨ s = true) : np (Ieee.single.nearest s m p) := by
  by_cases h0 : m = 0
  · subst h0; rw [nearest_zero]
    right; left
    unfold Format.word; rw [ssw]; split <;> simp
  · have hs := h.resolve_left h0
    subst hs
    rw [nearest_nr _ _ _ h0, sir]
    exact np_word _ (Nat.min_le_right _ _)
theorem write_inf : Ieee.single.write (.infinity true) = Ieee.single.word true 2139095040 := by rw [← sir]; rfl
theorem np_diff {d1 d2 d : Datum} (h : d1.order d2 ≠ some .gt) (hd : d1.sum d2.opposite = some d) : np (Ieee.single.write d) := by
  cases d1 with
  | nan s f => simp [Datum.sum] at hd
  | infinity s =>
    cases d2 with
    | nan t f => simp [Datum.sum, Datum.opposite] at hd
    | infinity t =>
      simp only [Datum.opposite, Datum.sum] at hd
      cases s <;> cases t <;> simp at hd
      · exact absurd rfl h
      · subst hd; rw [write_inf]; exact np_word _ (Nat.le_refl _)
    | number t n j =>
      simp only [Datum.opposite, Datum.sum] at hd
      cases s
      · exact absurd rfl h
      · injection hd with hd
        subst hd; rw [write_inf]; exact np_word _ (Nat.le_refl _)
  | number s a i =>
    cases d2 with
    | nan t f => simp [Datum.sum, Datum.opposite] at hd
    | infinity t =>
      simp only [Datum.opposite, Datum.sum] at hd
      cases t
      · injection hd with hd
        subst hd; rw [show (!false) = true from rfl, write_inf]; exact np_word _ (Nat.le_refl _)
      · exact absurd rfl h
    | number t n j =>
      simp only [Datum.order] at h
      have hle2 : Ieee.signed s a (i - min i j).toNat ≤ Ieee.signed t n (j - min i j).toNat := by
        rcases Int.lt_or_le (Ieee.signed t n (j - min i j).toNat) (Ieee.signed s a (i - min i j).toNat) with hc | hc
        · rw [Int.compare_eq_gt.2 hc] at h; exact absurd rfl h
        · exact hc
      have hop : Ieee.signed (!t) n (j - min i j).toNat = - Ieee.signed t n (j - min i j).toNat := by unfold Ieee.signed; cases t <;> simp
      simp only [Datum.opposite, Datum.sum, hop, Option.some.injEq] at hd
      generalize Ieee.signed s a (i - min i j).toNat = P at *
      generalize Ieee.signed t n (j - min i j).toNat = Q at *
      generalize min i j = place at *
      subst hd
      have e : ∀ s m p, Ieee.single.write (.number s m p) = Ieee.single.nearest s m p := fun _ _ _ => rfl
      rw [e]
      refine np_near _ ?_
      by_cases h0 : P + -Q = 0
      · left; rw [h0]; rfl
      · right; rw [if_neg h0]; exact decide_eq_true (by omega)
/-- a number less one that it is not greater than -/
theorem np_sub {x m : Nat} (h : isNaN .f32 m = true ∨ isNaN .f32 x = true ∨ toZ Ieee.single x ≤ toZ Ieee.single m) : np (fop .sub .f32 x m) := by
  have hq : np (qn .f32) := .inl (isNaN_qn .f32)
  cases hm : isNaN .f32 m
  case true => unfold fop; rw [floatBits_nan_right _ _ hm]; exact hq
  cases hx : isNaN .f32 x
  case true => unfold fop; rw [floatBits_nan_left _ _ hx]; exact hq
  have hle : toZ Ieee.single x ≤ toZ Ieee.single m := by
    rcases h with h | h | h
    · rw [hm] at h; cases h
    · rw [hx] at h; cases h
    · exact h
  have hng : (Ieee.single.read x).order (Ieee.single.read m) ≠ some .gt := by
    intro hc
    have h2 := order_all hx hm
    rw [show FloatKind.f32.format.order x m = (Ieee.single.read x).order (Ieee.single.read m) from rfl, hc] at h2
    injection h2 with h2
    have := Int.compare_eq_gt.1 h2.symm
    omega
  have hfb : floatBits .sub .f32 x m = ((Ieee.single.read x).sum (Ieee.single.read m).opposite).map Ieee.single.write := rfl
  unfold fop
  rw [hfb]
  cases hd : (Ieee.single.read x).sum (Ieee.single.read m).opposite with
  | none => exact hq
  | some d => exact np_diff hng hd
theorem np_cn {a b : Nat} (h : cn .f32 a = cn .f32 b) (hb : np b) : np a := by
  have hn := cn_eq_nan h
  cases ha : isNaN .f32 a
  · rw [ha] at hn
    rw [cn_of_not ha, cn_of_not hn.symm] at h
    rw [h]; exact hb
  · exact .inl ha
theorem en_cn {a b : Nat} (h : cn .f32 a = cn .f32 b) : en a = en b := by
  unfold en
  rw [order_l h, show wid a = wid b by rw [← wid_cn, h, wid_cn]]
/-! ### the shares -/
def ee (F : Nat → Nat) (n j : Nat) : Nat := en (fop .sub .f32 (F j) (pool.gm F (n - 1)))
def se (F : Nat → Nat) (n : Nat) : Nat := sumTo (upto (ee F n) n) n
def shv (F : Nat → Nat) (n j : Nat) : Nat := fop .quo .f32 (ee F n j) (se F n)
theorem ee_np (F : Nat → Nat) {n j : Nat} (hj : j < n) : np (fop .sub .f32 (F j) (pool.gm F (n - 1))) := by
  rcases gm_max F (n - 1) with h | h
  · exact np_sub (.inl h)
  · exact np_sub (.inr (h j (by omega)))
theorem gm_congr {F G : Nat → Nat} : ∀ {k : Nat}, (∀ j, j ≤ k → cn .f32 (F j) = cn .f32 (G j)) → cn .f32 (pool.gm F k) = cn .f32 (pool.gm G k)
  | 0, h => h 0 (Nat.le_refl _)
  | k + 1, h => by
    have ih := gm_congr (k := k) (fun j hj => h j (by omega))
    have e : FloatKind.f32.format.order (F (k + 1)) (pool.gm F k) = FloatKind.f32.format.order (G (k + 1)) (pool.gm G k) := by rw [order_l (h _ (Nat.le_refl _)), order_r ih]
    cases ho : (FloatKind.f32.format.order (G (k + 1)) (pool.gm G k) == some .gt)
    · rw [pool.gm_le ho, pool.gm_le (by rw [e]; exact ho)]; exact ih
    · rw [pool.gm_gt ho, pool.gm_gt (by rw [e]; exact ho)]; exact h _ (Nat.le_refl _)
theorem sum_congr {xs ys : List Nat} : ∀ {k : Nat}, (∀ j, j < k → cn .f32 (xs[j]?.getD 0) = cn .f32 (ys[j]?.getD 0)) → sumTo xs k = sumTo ys k
  | 0, _ => rfl
  | k + 1, h => by show fop _ _ _ _ = fop _ _ _ _; rw [sum_congr (k := k) (fun j hj => h j (by omega)), fop_r .add (h k (by omega))]
theorem ee_congr {F G : Nat → Nat} {n : Nat} (h : ∀ j, j < n → cn .f32 (F j) = cn .f32 (G j)) {j : Nat} (hj : j < n) : ee F n j = ee G n j := by
  unfold ee
  rw [fop_l .sub (h j hj), fop_r .sub (gm_congr (k := n - 1) (fun q hq => h q (by omega)))]
theorem sh_congr {F G : Nat → Nat} {n : Nat} (h : ∀ j, j < n → cn .f32 (F j) = cn .f32 (G j)) {j : Nat} (hj : j < n) : shv F n j = shv G n j := by
  unfold shv se
  rw [ee_congr h hj]
  congr 1
  refine sum_congr (fun q hq => ?_)
  rw [pool.upto_get hq, pool.upto_get hq, ee_congr h hq]
/-- the first k are shares, the others not yet -/
def mix (F : Nat → Nat) (n k : Nat) : Nat → Nat := fun j => if j < k then shv F n j else ee F n j
theorem get_of {ys : List Nat} {F : Nat → Nat} {n j : Nat} (h : ys.map (cn .f32) = (upto F n).map (cn .f32)) (hj : j < n) : cn .f32 (ys[j]?.getD 0) = cn .f32 (F j) := by
  have := congrArg (fun l => l[j]?) h
  simp only [List.getElem?_map] at this
  have e : (upto F n)[j]? = some (F j) := by unfold upto; simp [hj]
  rw [e] at this
  cases hy : ys[j]? with
  | none => rw [hy] at this; simp at this
  | some y => rw [hy] at this; simpa using this
theorem mix_step {F : Nat → Nat} {n k u : Nat} {ys : List Nat} (h : ys.map (cn .f32) = (upto (mix F n k) n).map (cn .f32)) (hk : k < n) (hu : cn .f32 u = cn .f32 (shv F n k)) : (ys.set k u).map (cn .f32) = (upto (mix F n (k + 1)) n).map (cn .f32) := by
  rw [List.map_set, h]
  apply List.ext_getElem?
  intro j
  have hl : ((upto (mix F n k) n).map (cn .f32)).length = n := by rw [List.length_map, upto_length]
  by_cases hj : j < n
  · rw [List.getElem?_set]
    have e1 : ((upto (mix F n (k + 1)) n).map (cn .f32))[j]? = some (cn .f32 (mix F n (k + 1) j)) := by unfold upto; simp [hj]
    have e2 : ((upto (mix F n k) n).map (cn .f32))[j]? = some (cn .f32 (mix F n k j)) := by unfold upto; simp [hj]
    rw [e1, e2, hl]
    by_cases hkj : k = j
    · subst hkj
      rw [if_pos rfl, if_pos hk, hu]; unfold mix; rw [if_pos (by omega)]
    · rw [if_neg hkj]; unfold mix
      by_cases hjk : j < k
      · rw [if_pos hjk, if_pos (by omega)]
      · rw [if_neg hjk, if_neg (by omega)]
  · rw [List.getElem?_eq_none (by simp [upto]; omega), List.getElem?_eq_none (by simp [upto]; omega)]
theorem mix_start {F : Nat → Nat} {n : Nat} {ys : List Nat} (h : ys.map (cn .f32) = (upto (ee F n) n).map (cn .f32)) : ys.map (cn .f32) = (upto (mix F n 0) n).map (cn .f32) := by
  rw [h]; unfold mix; simp
theorem mix_end {F : Nat → Nat} {n : Nat} {ys : List Nat} (h : ys.map (cn .f32) = (upto (mix F n n) n).map (cn .f32)) : ys.map (cn .f32) = (upto (shv F n) n).map (cn .f32) := by
  rw [h]; congr 1; unfold upto
  refine List.map_congr_left (fun j hj => ?_)
  unfold mix; rw [if_pos (List.mem_range.1 hj)]
theorem row_cell {w : World} {lo hi : Nat} {t : TypeId} {g n cap : Nat} {ys : List Nat} (R : Row w lo hi t (.slice (some ⟨g, 0, none⟩) n cap) n ys) {j : Nat} (hj : j < n) : w.cell? ⟨g, j, none⟩ = some (.float .f32 (ys[j]?.getD 0)) := by
  obtain ⟨b, o, e, hc⟩ := R.fs.cell j hj
  injection e with e; injection e with e1 e2 e3
  subst e1; subst e2
  rwa [Nat.zero_add] at hc
/-- a number of the row is written -/
theorem row_put {w : World} {lo : Nat} {t : TypeId} {g n cap : Nat} {ys : List Nat} (R : Row w lo w.heap.size t (.slice (some ⟨g, 0, none⟩) n cap) n ys) (j u : Nat) : Row (w.setCell ⟨g, j, none⟩ (.float .f32 u)) lo (w.setCell ⟨g, j, none⟩ (.float .f32 u)).heap.size t (.slice (some ⟨g, 0, none⟩) n cap) n (ys.set j u) := by
  have h := (R.own.stored j (.float .f32 u)).1
  rw [fl_set] at h
  exact Row.of h (by simpa [World.setCell] using R.low)
theorem row_lo {w : World} {lo hi : Nat} {t : TypeId} {g n cap : Nat} {ys : List Nat} (R : Row w lo hi t (.slice (some ⟨g, 0, none⟩) n cap) n ys) : lo ≤ g := (R.own.lt g rfl).1
theorem row_fz {w : World} {lo hi : Nat} {t : TypeId} {g n cap : Nat} {ys : List Nat} (R : Row w lo hi t (.slice (some ⟨g, 0, none⟩) n cap) n ys) (j : Nat) : w.frozen? ⟨g, j, none⟩ = false := R.own.frozenAt j
/-- a list of numbers of its own -/
def Post (t : TypeId) (w : World) (n : Nat) (S : List Nat) (e : Ending) (w' : World) : Prop :=
  ∃ g cap ys, e = .returned (.slice (some ⟨g, 0, none⟩) n cap) ∧ Row w' w.heap.size w'.heap.size t (.slice (some ⟨g, 0, none⟩) n cap) n ys ∧ ys.map (cn .f32) = S.map (cn .f32) ∧ Below w.heap.size w w'
set_option maxHeartbeats 1000000 in
theorem expsI (a : Option Addr) (n cap : Nat) (F : Nat → Nat) (w : World) (hn : 0 < n ∧ n ≤ 256) (h1 : Fs w a n cap (upto F n)) :
    Calls Try.prog 58 #[.slice a n cap] w fun e w' => ∃ u g cap2 ys, e = .returned (.tuple #[.float .f32 u, .slice (some ⟨g, 0, none⟩) n cap2]) ∧ Row w' w.heap.size w'.heap.size 45 (.slice (some ⟨g, 0, none⟩) n cap2) n ys ∧ ys.map (cn .f32) = (upto (ee F n) n).map (cn .f32) ∧ Below w.heap.size w w' := by
  have H1 := Lib.hid h1
  have hcap := h1.cap1
  have hcap2 := h1.cap2
  unfold maxLen at hcap2
  clear h1
  go_enter Try.func58, Try.ntmps58
  go_wp2_with fail
  refine (pool.greatI a n cap F w hn H1.out).mono ?_
  rintro e w' ⟨bm, rfl, hb, hg, rfl⟩
  obtain ⟨ba, oa, rfl, hcb⟩ := H1.out.cell bm hb
  rw [pool.upto_get hb] at hcb
  have HG := Lib.hid hg
  clear hg
  go_wp2
  clear hcb
  obtain ⟨i0, hi, hz0, hz1, hz2⟩ := info_parts infoF32
  have HI := Lib.hid hi
  have HZ0 := Lib.hid hz0
  have HZ1 := Lib.hid hz1
  have HZ2 := Lib.hid hz2
  clear hi hz0 hz1 hz2
  have ST := Lib.hid (own_start w 45)
  go_loopw [5, 16] (fun v i w' => ∃ (j : Nat) (a' : Option Addr) (cap' : Nat) (ys : List Nat), j ≤ n ∧ i = .int .i64 j ∧ v = .slice a' j cap' ∧ OwnS w.heap.size 45 w w' j a' cap' ys ∧ ys.map (cn .f32) = (upto (ee F n) j).map (cn .f32)) (fun _ i _ => n - (intOf i).toNat)
  case atStart => exact ⟨0, _, _, _, Nat.zero_le _, rfl, rfl, ST.out, rfl⟩
  case round =>
    obtain ⟨j, a', cap', ys, hj, rfl, rfl, own, hys⟩ := hrel
    have O := Lib.hid own
    have HY := Lib.hid hys
    clear own hys
    by_cases hlt : j < n
    · obtain ⟨b', o', e', hcj⟩ := (H1.out.below O.out.below).cell j hlt
      injection e' with e'; injection e' with e1 e2 e3
      subst e1; subst e2
      rw [pool.upto_get hlt] at hcj
      go_wp2_with fail
      clear hcj
      refine (expNI _ (np_cn (fres_fop ..) (by rw [HG.out]; exact ee_np F hlt)) _).mono ?_
      rintro e wk ⟨u, m, rfl, hw, hu⟩
      have HU := Lib.hid (show cn .f32 u = cn .f32 (ee F n j) by rw [hu, en_cn (fres_fop ..), HG.out]; rfl)
      clear hu
      have O1 := Lib.hid (show OwnS w.heap.size 45 w wk j a' cap' ys by rw [hw]; exact (O.out.drew _).drew m)
      clear hw O
      go_wp2_with (at_builtin; refine wpList_append_own _ rfl (.tmp 20) (.tmp 25) 22 rfl w.heap.size 45 i0 (.float .f32 0) 1 4 Try.underlying22 HI.out HZ0.out HZ1.out HZ2.out rfl (by decide) (.slice a' j cap') j (fl ys) rfl (O1.out.alloc _).own ⟨wk.heap.size, 0, none⟩ 1 1 [.float .f32 u] rfl rfl ?c1 ?c2 ?c3 ?c4 ?c5 ?_)
      case c1 =>
        intro j v hj
        match j, hj with
        | 0, hj => simp at hj; subst hj; exact cell_new _ _ _
      case c2 => intro v hv; simp at hv; subst hv; rfl
      case c3 => unfold maxLen; omega
      case c4 => omega
      case c5 => have := O1.out.le; simp; omega
      intro v' w2 hown hgr _
      obtain ⟨a2, cap2', rfl, O2_⟩ := OwnS.app (us := [u]) O1.out hown hgr
      have O2 := Lib.hid O2_
      clear O2_ hown hgr
      go_wp2
      go_roundw
      case rel => exact ⟨j + 1, a2, cap2', ys ++ [u], by omega, by go_num, rfl, O2.out, upto_step HY.out HU.out⟩
      case measure => simp [intOf]; omega
    · have e : j = n := by omega
      subst e
      obtain ⟨g, rfl⟩ := some_of O.out.own (by intro e; injection e with _ e2 _; omega)
      go_wp2
      go_ret2
      exact ⟨_, g, cap', ys, rfl, O.out.row, HY.out, O.out.below⟩
set_option maxHeartbeats 1000000 in
theorem softI (a : Option Addr) (n cap : Nat) (F : Nat → Nat) (w : World) (hn : 0 < n ∧ n ≤ 256) (h1 : Fs w a n cap (upto F n)) :
    Calls Try.prog 49 #[.slice a n cap] w (Post 45 w n (upto (shv F n) n)) := by
  have H1 := Lib.hid h1
  clear h1
  go_enter Try.func49, Try.ntmps49
  go_wp2_with fail
  refine (expsI a n cap F w hn H1.out).mono ?_
  rintro e w1 ⟨m, g, cap2, ys, rfl, R, hy, T⟩
  have hcap := R.fs.cap1
  have hcap2 := R.fs.cap2
  unfold maxLen at hcap2
  have HR := Lib.hid R
  have HY := Lib.hid hy
  clear R hy
  go_wp2_with fail
  refine (implSum _ n cap2 ys _ (by omega) HR.out.fs).mono ?_
  rintro e w2 ⟨s, mm, rfl, hw, hs⟩
  have HS := Lib.hid (show cn .f32 s = cn .f32 (se F n) by rw [hs]; unfold se; rw [sum_congr (ys := upto (ee F n) n) (fun j hj => by rw [pool.upto_get hj]; exact get_of HY.out hj)])
  have HR2 := Lib.hid (show Row w2 w.heap.size w2.heap.size 45 (.slice (some ⟨g, 0, none⟩) n cap2) n ys by rw [hw]; exact HR.out.drew mm)
  have T2 : Below w.heap.size w w2 := by rw [hw]; exact bdrew T mm
  clear hs hw HR T
  go_wp2
  go_loopw [16] (fun i w' => ∃ (k : Nat) (ys : List Nat), k ≤ n ∧ i = .int .i64 k ∧ Row w' w.heap.size w'.heap.size 45 (.slice (some ⟨g, 0, none⟩) n cap2) n ys ∧ ys.map (cn .f32) = (upto (mix F n k) n).map (cn .f32) ∧ Below w.heap.size w w') (fun i _ => n - (intOf i).toNat)
  case atStart => exact ⟨0, _, Nat.zero_le _, rfl, HR2.out, mix_start HY.out, T2⟩
  case round =>
    obtain ⟨k, zs, hk, rfl, R1, hys, BW⟩ := hrel
    by_cases hlt : k < n
    · have co := row_cell R1 hlt
      have fo := row_fz R1 k
      have HR1 := Lib.hid R1
      have HZ := Lib.hid hys
      have HB := Lib.hid BW
      clear R1 hys BW
      go_wp2
      go_roundw
      case rel =>
        have hu := get_of HZ.out hlt
        have hm : mix F n k k = ee F n k := if_neg (by omega)
        rw [hm] at hu
        exact ⟨k + 1, _, by omega, by go_num, (row_put HR1.out k _).drew _, mix_step HZ.out hlt (by rw [fres_fop, fop_l .quo hu, fop_r .quo HS.out]; rfl), bdrew (HB.out.setCell (row_lo HR1.out) _) _⟩
      case measure => simp [intOf]; omega
    · have e : k = n := by omega
      subst e
      have HR1 := Lib.hid R1
      have HZ := Lib.hid hys
      clear R1 hys
      go_wp2
      go_ret
      exact ⟨g, cap2, zs, rfl, HR1.out, mix_end HZ.out, BW⟩
set_option maxHeartbeats 1000000 in
theorem softS (a : Option Addr) (n cap : Nat) (F : Nat → Nat) (w : World) (hn : 0 < n ∧ n ≤ 256) (h1 : Fs w a n cap (upto F n)) :
    Calls Try.prog 45 #[.slice a n cap] w (Post 45 w n (upto (shv F n) n)) := by
  have H1 := Lib.hid h1
  have hcap := h1.cap1
  have hcap2 := h1.cap2
  unfold maxLen at hcap2
  obtain ⟨ba, oa, rfl, hc0⟩ := h1.cell 0 hn.1
  rw [pool.upto_get hn.1, Nat.add_zero] at hc0
  clear h1
  go_enter Try.func45, Try.ntmps45
  go_wp2
  clear hc0
  go_loop [3, 4] (fun mv i => ∃ (k u : Nat), 1 ≤ k ∧ k ≤ n ∧ i = .int .i64 k ∧ mv = .float .f32 u ∧ Hid (u = pool.gm F (k - 1))) (fun _ i => n - (intOf i).toNat)
  case atStart => exact ⟨1, _, Nat.le_refl _, hn.1, rfl, rfl, rfl⟩
  case round =>
    obtain ⟨k, u, hk1, hk, rfl, rfl, hg⟩ := hrel
    by_cases hlt : k < n
    · obtain ⟨b', o', e', hcj⟩ := H1.out.cell k hlt
      injection e' with e'; injection e' with e1 e2 e3
      subst e1; subst e2
      rw [pool.upto_get hlt] at hcj
      obtain ⟨q, rfl⟩ : ∃ q, k = q + 1 := ⟨k - 1, by omega⟩
      cases ho : (FloatKind.f32.format.order (F (q + 1)) u == some .gt)
      · have HO := Lib.hid ho
        go_wp2
        go_round
        case rel => exact ⟨q + 2, u, by omega, by omega, by go_num, rfl, by
          show u = pool.gm F (q + 1)
          have h2 : u = pool.gm F q := hg.out
          rw [pool.gm_le (by rw [← h2]; exact HO.out)]; exact h2⟩
        case measure => simp [intOf]; omega
      · have HO := Lib.hid ho
        go_wp2
        go_round
        case rel => exact ⟨q + 2, F (q + 1), by omega, by omega, by go_num, rfl, by
          show F (q + 1) = pool.gm F (q + 1)
          have h2 : u = pool.gm F q := hg.out
          rw [pool.gm_gt (by rw [← h2]; exact HO.out)]⟩
        case measure => simp [intOf]; omega
    · have e : k = n := by omega
      subst e
      obtain ⟨i0, hi, hz0, hz1, hz2⟩ := info_parts infoF32
      have HI := Lib.hid hi
      have HZ0 := Lib.hid hz0
      have HZ1 := Lib.hid hz1
      have HZ2 := Lib.hid hz2
      clear hi hz0 hz1 hz2
      have ST := Lib.hid (own_start w 45)
      go_wp2
      go_loopw [5, 6] (fun v i w' => ∃ (j : Nat) (a' : Option Addr) (cap' : Nat) (ys : List Nat), j ≤ k ∧ i = .int .i64 j ∧ v = .slice a' j cap' ∧ OwnS w.heap.size 45 w w' j a' cap' ys ∧ ys.map (cn .f32) = (upto (ee F k) j).map (cn .f32)) (fun _ i _ => k - (intOf i).toNat)
      case atStart => exact ⟨0, _, _, _, Nat.zero_le _, rfl, rfl, ST.out, rfl⟩
      case round =>
        obtain ⟨j, a', cap', ys, hj, rfl, rfl, own, hys⟩ := hrel
        have O := Lib.hid own
        have HY := Lib.hid hys
        clear own hys
        by_cases hlt : j < k
        · obtain ⟨b', o', e', hcj⟩ := (H1.out.below O.out.below).cell j hlt
          injection e' with e'; injection e' with e1 e2 e3
          subst e1; subst e2
          rw [pool.upto_get hlt] at hcj
          go_wp2_with fail
          clear hcj
          refine (expNS _ (np_cn (fres_fop ..) (by rw [hg.out]; exact ee_np F hlt)) _).mono ?_
          rintro e wk ⟨u2, m, rfl, hw, hu⟩
          have HU := Lib.hid (show cn .f32 u2 = cn .f32 (ee F k j) by rw [hu, en_cn (fres_fop ..), hg.out]; rfl)
          clear hu
          have O1 := Lib.hid (show OwnS w.heap.size 45 w wk j a' cap' ys by rw [hw]; exact (O.out.drew _).drew m)
          clear hw O
          go_wp2_with (at_builtin; refine wpList_append_own _ rfl (.tmp 35) (.tmp 43) 22 rfl w.heap.size 45 i0 (.float .f32 0) 1 4 Try.underlying22 HI.out HZ0.out HZ1.out HZ2.out rfl (by decide) (.slice a' j cap') j (fl ys) rfl (O1.out.alloc _).own ⟨wk.heap.size, 0, none⟩ 1 1 [.float .f32 u2] rfl rfl ?c1 ?c2 ?c3 ?c4 ?c5 ?_)
          case c1 =>
            intro j v hj
            match j, hj with
            | 0, hj => simp at hj; subst hj; exact cell_new _ _ _
          case c2 => intro v hv; simp at hv; subst hv; rfl
          case c3 => unfold maxLen; omega
          case c4 => omega
          case c5 => have := O1.out.le; simp; omega
          intro v' w2 hown hgr _
          obtain ⟨a2, cap2', rfl, O2_⟩ := OwnS.app (us := [u2]) O1.out hown hgr
          have O2 := Lib.hid O2_
          clear O2_ hown hgr
          go_wp2
          go_roundw
          case rel => exact ⟨j + 1, a2, cap2', ys ++ [u2], by omega, by go_num, rfl, O2.out, upto_step HY.out HU.out⟩
          case measure => simp [intOf]; omega
        · have e : j = k := by omega
          subst e
          obtain ⟨g, rfl⟩ := some_of O.out.own (by intro e; injection e with _ e2 _; omega)
          have R := O.out.row
          have T := O.out.below
          have hcap3 := R.fs.cap1
          have hcap4 := R.fs.cap2
          unfold maxLen at hcap4
          have HR := Lib.hid R
          clear R O
          go_wp2_with fail
          refine (specSum _ j cap' ys _ (by omega) HR.out.fs).mono ?_
          rintro e w2 ⟨s, mm, rfl, hw, hs⟩
          have HS := Lib.hid (show cn .f32 s = cn .f32 (se F j) by rw [hs]; unfold se; rw [sum_congr (ys := upto (ee F j) j) (fun q hq => by rw [pool.upto_get hq]; exact get_of HY.out hq)])
          have HR2 := Lib.hid (show Row w2 w.heap.size w2.heap.size 45 (.slice (some ⟨g, 0, none⟩) j cap') j ys by rw [hw]; exact HR.out.drew mm)
          have T2 : Below w.heap.size w w2 := by rw [hw]; exact bdrew T mm
          clear hs hw HR T
          go_wp2
          go_loopw [49] (fun i w' => ∃ (k : Nat) (ys : List Nat), k ≤ j ∧ i = .int .i64 k ∧ Row w' w.heap.size w'.heap.size 45 (.slice (some ⟨g, 0, none⟩) j cap') j ys ∧ ys.map (cn .f32) = (upto (mix F j k) j).map (cn .f32) ∧ Below w.heap.size w w') (fun i _ => j - (intOf i).toNat)
          case atStart => exact ⟨0, _, Nat.zero_le _, rfl, HR2.out, mix_start HY.out, T2⟩
          case round =>
            obtain ⟨k, zs, hk, rfl, R1, hys, BW⟩ := hrel
            by_cases hlt : k < j
            · have co := row_cell R1 hlt
              have fo := row_fz R1 k
              have HR1 := Lib.hid R1
              have HZ := Lib.hid hys
              have HB := Lib.hid BW
              clear R1 hys BW
              go_wp2
              go_roundw
              case rel =>
                have hu := get_of HZ.out hlt
                have hm : mix F j k k = ee F j k := if_neg (by omega)
                rw [hm] at hu
                exact ⟨k + 1, _, by omega, by go_num, (row_put HR1.out k _).drew _, mix_step HZ.out hlt (by rw [fres_fop, fop_l .quo hu, fop_r .quo HS.out]; rfl), bdrew (HB.out.setCell (row_lo HR1.out) _) _⟩
              case measure => simp [intOf]; omega
            · have e : k = j := by omega
              subst e
              have HR1 := Lib.hid R1
              have HZ := Lib.hid hys
              clear R1 hys
              go_wp2
              go_ret
              exact ⟨g, cap', zs, rfl, HR1.out, mix_end HZ.out, BW⟩
end Go.Proofs.Ytfgmpodmbbnijaa.soft
