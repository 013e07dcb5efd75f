/- Rows of values added up by shares: what both sides compute, and what the walks share. -/
import Derived.Test.YtfgmpodmbbnijaaSoft
import Derived.Test.YtfgmpodmbbnijaaRoot
import Derived.Test.YtfgmpodmbbnijaaRowT
import Derived.Test.YtfgmpodmbbnijaaClone
import Derived.Test.YtfgmpodmbbnijaaConv
import Derived.Test.YtfgmpodmbbnijaaAccX
import Derived.Test.YtfgmpodmbbnijaaValid
namespace Go.Proofs.Ytfgmpodmbbnijaa.att
open Go.RowKit Go.Fl Go.Reg
open Go.Proofs.Ytfgmpodmbbnijaa.soft (shv sh_congr get_of row_cell row_fz row_lo Post)
/-! ### what is computed -/
def rl (xs : List Nat) (D i : Nat) : List Nat := (xs.drop (i * D)).take D
def rt (D : Nat) : Nat := nar (root.sqv (floatOfInt .f32 (D : Int)))
def sc (xs ys : List Nat) (D i j : Nat) : Nat := fop .quo .f32 (dotTo (rl xs D i) (rl ys D j) D) (rt D)
def ct (b : Bool) (R i : Nat) : Nat := if b then i + 1 else R
def ac (xs ys zs : List Nat) (D C n i : Nat) : Nat → Nat → Nat
  | 0, _ => 0
  | k + 1, c => fop .add .f32 (ac xs ys zs D C n i k c) (fop .mul .f32 (shv (sc xs ys D i) n k) ((rl zs C k)[c]?.getD 0))
def AV (xs ys zs : List Nat) (D C R : Nat) (b : Bool) (i c : Nat) : Nat := ac xs ys zs D C (ct b R i) i (ct b R i) c
/-- the first k as A says, the others as B says -/
def mx (A B : Nat → Nat) (k : Nat) : Nat → Nat := fun j => if j < k then A j else B j
theorem mx_step {A B : Nat → Nat} {n k u : Nat} {ys : List Nat} (h : ys.map (cn .f32) = (upto (mx A B k) n).map (cn .f32)) (hk : k < n) (hu : cn .f32 u = cn .f32 (A k)) : (ys.set k u).map (cn .f32) = (upto (mx A B (k + 1)) n).map (cn .f32) := by
  rw [List.map_set, h]
  apply List.ext_getElem?
  intro j
  have hl : ((upto (mx A B k) n).map (cn .f32)).length = n := by rw [List.length_map, upto_length]
  by_cases hj : j < n
  · rw [List.getElem?_set]
    have e1 : ((upto (mx A B (k + 1)) n).map (cn .f32))[j]? = some (cn .f32 (mx A B (k + 1) j)) := by unfold upto; simp [hj]
    have e2 : ((upto (mx A B k) n).map (cn .f32))[j]? = some (cn .f32 (mx A B k j)) := by unfold upto; simp [hj]
    rw [e1, e2, hl]
    by_cases hkj : k = j
    · subst hkj
      rw [if_pos rfl, if_pos hk, hu]; unfold mx; rw [if_pos (by omega)]
    · rw [if_neg hkj]; unfold mx
      by_cases hjk : j < k
      · rw [if_pos hjk, if_pos (by omega)]
      · rw [if_neg hjk, if_neg (by omega)]
  · rw [List.getElem?_eq_none (by simp [upto]; omega), List.getElem?_eq_none (by simp [upto]; omega)]
theorem mx_start (A B : Nat → Nat) (n : Nat) : upto (mx A B 0) n = upto B n := by unfold mx; simp
theorem mx_end (A B : Nat → Nat) (n : Nat) : upto (mx A B n) n = upto A n := by
  unfold upto
  refine List.map_congr_left (fun j hj => ?_)
  unfold mx; rw [if_pos (List.mem_range.1 hj)]
theorem mx_at (A B : Nat → Nat) (k : Nat) : mx A B k k = B k := if_neg (by omega)
theorem zeros_upto (n : Nat) : List.replicate n 0 = upto (fun _ => 0) n := by
  unfold upto; apply List.ext_getElem <;> simp
theorem tab_row {G : Nat → Nat → Nat} {C i : Nat} {ys us : List Nat} (h : ys.map (cn .f32) = (upto (tab G C) (i * C)).map (cn .f32)) (hu : us.map (cn .f32) = (upto (G i) C).map (cn .f32)) : (ys ++ us).map (cn .f32) = (upto (tab G C) (i * C + C)).map (cn .f32) := by
  rw [List.map_append, h, hu, pool.upto_add, List.map_append]
  congr 2
  unfold upto
  refine List.map_congr_left (fun j hj => ?_)
  rw [tab_at _ (List.mem_range.1 hj)]
theorem rl_length {xs : List Nat} {D i R : Nat} (hl : xs.length = R * D) (hi : i < R) : (rl xs D i).length = D := by
  have := row_end (C := D) hi
  unfold rl; rw [List.length_take, List.length_drop]; omega
/-- a list as a function -/
theorem fs_fun {w : World} {a : Option Addr} {n cap : Nat} {ys : List Nat} (h : Fs w a n cap ys) : Fs w a n cap (upto (fun j => ys[j]?.getD 0) n) := by
  have e : upto (fun j => ys[j]?.getD 0) n = ys := by
    have hl := h.len
    unfold upto
    apply List.ext_getElem
    · simp; omega
    · intro i h1 h2; simp [h2]
  rw [e]; exact h
theorem sh_list {ys zs : List Nat} {F : Nat → Nat} {n : Nat} (h : ys.map (cn .f32) = (upto F n).map (cn .f32)) (hz : zs.map (cn .f32) = (upto (shv (fun j => ys[j]?.getD 0) n) n).map (cn .f32)) : zs.map (cn .f32) = (upto (shv F n) n).map (cn .f32) := by
  rw [hz]; congr 1; unfold upto
  refine List.map_congr_left (fun j hj => ?_)
  exact sh_congr (fun q hq => get_of h hq) (List.mem_range.1 hj)
/-! ### rows -/
theorem Keep.wide {lo hi lo' hi' : Nat} {w w' : World} (h : Keep lo hi w w') (h1 : lo' ≤ lo) (h2 : hi ≤ hi') : Keep lo' hi' w w' := ⟨h.os, h.tape, h.output, h.size, fun k hk hr => h.block k hk (by omega)⟩
theorem Keep.put {lo hi : Nat} {w w' : World} (h : Keep lo hi w w') {p : Addr} (h1 : lo ≤ p.block) (h2 : p.block < hi) (u : Value) : Keep lo hi w (w'.setCell p u) :=
  h.trans ⟨rfl, rfl, rfl, by simp [World.setCell], fun k _ hr => Below.heap_setCell _ _ _ _ (by intro e; omega)⟩
theorem Keep.drew {lo hi : Nat} {w w' : World} (h : Keep lo hi w w') (m : Nat) : Keep lo hi w (w'.drewN m) := ⟨h.os, h.tape, h.output, h.size, h.block⟩
theorem Keep.fs {lo hi : Nat} {w w' : World} {a : Option Addr} {n cap : Nat} {xs : List Nat} (k : Keep lo hi w w') (h : Fs w a n cap xs) (hd : ∀ b o, a = some ⟨b, o, none⟩ → b < lo) : Fs w' a n cap xs :=
  ⟨h.len, h.cap1, h.cap2, fun i hi => by
    obtain ⟨b, o, e, hc⟩ := h.cell i hi
    have hb := hd b o e
    refine ⟨b, o, e, (World.cell?_of_block (a := ⟨b, o + i, none⟩) (k.block b ?_ (.inl hb))).trans hc⟩
    exact World.block_lt_of_cell? w _ hc⟩
/-- a number of the row is written -/
theorem row_put {w : World} {lo hi : Nat} {t : TypeId} {g n cap : Nat} {ys : List Nat} (R : Row w lo hi t (.slice (some ⟨g, 0, none⟩) n cap) n ys) (j u : Nat) : Row (w.setCell ⟨g, j, none⟩ (.float .f32 u)) lo hi t (.slice (some ⟨g, 0, none⟩) n cap) n (ys.set j u) := by
  have h := (R.own.stored j (.float .f32 u)).1
  rw [fl_set] at h
  exact ⟨h, R.low, by simpa [World.setCell] using R.top, R.lt⟩
section
variable {B b : Nat} {t : TypeId} {r c : Int} {w0 w w' : World} {k : Nat} {a : Option Addr} {cap : Nat} {ys : List Nat}
/-- several numbers are appended, and the new slice is stored behind it -/
theorem Acc.apps {v' : Value} {m : Nat} {us : List Nat} (hBb : B ≤ b) (h : Acc B b t r c w0 w k a cap ys) (hk : 0 < k + m) (hlen : us.length = m) (hown : w'.ownsRow B t 1 v' (k + m) (fl ys ++ fl us)) (hg : w.grownBy w' (Value.slice a k cap).ownBlock) :
    ∃ a' cap', v' = .slice a' (k + m) cap' ∧ Box w' b r c a k cap ∧ w'.frozen? ⟨b, 2, none⟩ = false ∧ Acc B b t r c w0 (w'.setCell ⟨b, 2, none⟩ (.slice a' (k + m) cap')) (k + m) a' cap' (ys ++ us) := by
  obtain ⟨a', cap', rfl, hp⟩ := own_shape hown
  have hlt := h.box.lt
  have hl := h.len
  have hrow : ∀ q, (Value.slice a k cap).ownBlock = some q → B ≤ q ∧ q ≠ b := fun q hq => ⟨(h.own.lt q hq).1, by
    cases a with
    | none => cases hq
    | some p => have := h.ne p rfl; simp [Value.ownBlock] at hq; omega⟩
  have hbl : w'.heap[b]? = w.heap[b]? := hg.block b hlt (by intro e; exact (hrow b e.symm).2 rfl)
  have hbox : Box w' b r c a k cap := ⟨(World.cell?_of_block (a := ⟨b, 0, none⟩) hbl).trans h.box.c0, (World.cell?_of_block (a := ⟨b, 1, none⟩) hbl).trans h.box.c1, (World.cell?_of_block (a := ⟨b, 2, none⟩) hbl).trans h.box.c2, Nat.lt_of_lt_of_le hlt hg.size⟩
  have hfr : w'.frozen? ⟨b, 2, none⟩ = false := (World.frozen?_of_block (a := ⟨b, 2, none⟩) hbl).trans h.fr
  have hbel : Below B w w' := (Below.refl B w).grown hg (by omega) (fun q hq => (hrow q hq).1)
  have hne : ∀ q, a' = some q → q.block ≠ b := by
    intro q hq e
    obtain ⟨g, rfl⟩ := hp q hq
    subst hq
    have hll : 0 < (fl ys ++ fl us).length := by rw [List.length_append, fl_length, fl_length]; omega
    have h0 := hown.cellAt 0 (by omega)
    simp only at e
    subst e
    rw [hbox.c0, fl_append] at h0
    rw [fl_get _ 0 (by rw [fl_append, fl_length] at hll; exact hll)] at h0
    simp at h0
  refine ⟨a', cap', rfl, hbox, hfr, ⟨(h.below.trans hbel).setCell hBb _, ⟨?_, ?_, ?_, ?_⟩, ?_, ?_, hne⟩⟩
  · simp [go_sem, hbox.c0]
  · simp [go_sem, hbox.c1]
  · simp [go_sem, hbox.c2]
  · simpa [World.setCell] using hbox.lt
  · simp [go_sem, hfr]
  · rw [← fl_append]
    exact own_set2 hown hne _
end
theorem fs_news {w : World} {b o n c : Nat} {xs : List Nat} (h : Fs w (some ⟨b, o, none⟩) n c xs) (j : Nat) (u : Value) (hj : (fl xs)[j]? = some u) : w.cell? ((⟨b, o, none⟩ : Addr).add j) = some u := by
  have hl := h.len
  have hjl : j < n := by
    rcases Nat.lt_or_ge j n with h | h
    · exact h
    · rw [List.getElem?_eq_none (by rw [fl_length]; omega)] at hj; cases hj
  rw [fl_get _ j (by omega)] at hj
  injection hj with hj
  subst hj
  obtain ⟨b', o', e, hc⟩ := h.cell j hjl
  injection e with e; injection e with e1 e2 e3
  subst e1; subst e2
  rw [add_at]; exact hc
/-! ### contracts -/
theorem rootI (x : Nat) (w : World) : Calls Try.prog 48 #[.float .f32 x] w fun e w' => ∃ u, e = .returned (.float .f32 u) ∧ cn .f32 u = cn .f32 (nar (root.sqv x)) ∧ Below w.heap.size w w' := by
  refine (root.implT x w).mono ?_
  rintro e w' ⟨r, m, rfl, rfl, hr⟩
  exact ⟨r, rfl, hr, bdrew (Below.refl _ _) _⟩
theorem rootS (x : Nat) (w : World) : Calls Try.prog 43 #[.float .f32 x] w fun e w' => ∃ u, e = .returned (.float .f32 u) ∧ cn .f32 u = cn .f32 (nar (root.sqv x)) ∧ Below w.heap.size w w' := by
  refine (root.specT x w).mono ?_
  rintro e w' ⟨r, m, rfl, rfl, hr⟩
  exact ⟨r, rfl, hr, bdrew (Below.refl _ _) _⟩
theorem rt_of (D : Nat) {u : Nat} (h : cn .f32 u = cn .f32 (nar (root.sqv (floatOfInt .f32 (D : Int))))) : cn .f32 u = cn .f32 (rt D) := h
theorem dotB (a1 a2 : Option Addr) (n c1 c2 : Nat) (xs ys : List Nat) (w : World) (hn : n ≤ 1048576) (h1 : Fs w a1 n c1 xs) (h2 : Fs w a2 n c2 ys) :
    Calls Try.prog 31 #[.slice a1 n c1, .slice a2 n c2] w fun e w' => ∃ r, e = .returned (.float .f32 r) ∧ cn .f32 r = cn .f32 (dotTo xs ys n) ∧ Below w.heap.size w w' := by
  refine (implDot a1 a2 n c1 c2 xs ys w hn h1 h2).mono ?_
  rintro e w' ⟨r, m, rfl, rfl, hr⟩
  exact ⟨r, rfl, hr, bdrew (Below.refl _ _) _⟩
theorem dotS (a1 a2 : Option Addr) (n c1 c2 : Nat) (xs ys : List Nat) (w : World) (hn : n ≤ 1048576) (h1 : Fs w a1 n c1 xs) (h2 : Fs w a2 n c2 ys) :
    Calls Try.prog 29 #[.slice a1 n c1, .slice a2 n c2] w fun e w' => ∃ r, e = .returned (.float .f32 r) ∧ cn .f32 r = cn .f32 (dotTo xs ys n) ∧ Below w.heap.size w w' := by
  refine (specDot a1 a2 n c1 c2 xs ys w hn h1 h2).mono ?_
  rintro e w' ⟨r, m, rfl, rfl, hr⟩
  exact ⟨r, rfl, hr, bdrew (Below.refl _ _) _⟩
theorem isSize (x : Int) (w : World) : Calls Try.prog 46 #[.int .i64 x] w fun e w' => e = .returned (.bool (inr x 1 8)) ∧ w' = w := by
  go_enter Try.func46, Try.ntmps46
  go_wp2_with fail
  refine (inI _ _ _ _).mono ?_
  rintro e w1 ⟨rfl, rfl⟩
  go_wp2
  go_ret
  exact ⟨rfl, rfl⟩
theorem shapeI (r c : Int) (a : Option Addr) (n cap : Nat) (r2 c2 : Int) (a2 : Option Addr) (n2 cap2 : Nat) (w : World) :
    Calls Try.prog 47 #[.agg #[.int .i64 r, .int .i64 c, .slice a n cap], .agg #[.int .i64 r2, .int .i64 c2, .slice a2 n2 cap2]] w (BN w (decide (r = r2) && decide (c = c2))) := by
  by_cases h : r = r2
  · subst h
    rw [decide_eq_true rfl, Bool.true_and]
    go_enter Try.func47, Try.ntmps47
    go_wp2
    go_ret
    exact ⟨rfl, ((Below.refl _ _).alloc (Nat.le_refl _) _).alloc (by simp) _⟩
  · have g : (r == r2) = false := by simpa using h
    rw [decide_eq_false h, Bool.false_and]
    clear h
    go_enter Try.func47, Try.ntmps47
    go_wp2
    go_ret
    exact ⟨rfl, ((Below.refl _ _).alloc (Nat.le_refl _) _).alloc (by simp) _⟩
/-! ### when it can be had -/
def ok (r c : Int) (n : Nat) (r2 c2 : Int) (n2 : Nat) (r3 c3 : Int) (n3 : Nat) : Bool :=
  decide (vt r c n) && (decide (vt r2 c2 n2) && (decide (vt r3 c3 n3) && (decide (r ≤ 8) && (decide (r = r2) && (decide (c = c2) && decide (r = r3))))))
theorem ok_yes {r c : Int} {n : Nat} {r2 c2 : Int} {n2 : Nat} {r3 c3 : Int} {n3 : Nat} (h : ok r c n r2 c2 n2 r3 c3 n3 = true) :
    ∃ R D C : Nat, r = (R : Int) ∧ c = (D : Int) ∧ r2 = (R : Int) ∧ c2 = (D : Int) ∧ r3 = (R : Int) ∧ c3 = (C : Int) ∧ (0 < R ∧ R ≤ 8) ∧ (0 < D ∧ D ≤ 16) ∧ (0 < C ∧ C ≤ 16) ∧ n = R * D ∧ n2 = R * D ∧ n3 = R * C := by
  unfold ok at h
  simp only [Bool.and_eq_true, decide_eq_true_eq] at h
  obtain ⟨h1, h2, h3, h4, h5, h6, h7⟩ := h
  obtain ⟨R, D, rfl, rfl, hR, hD, hn⟩ := nat_of h1
  subst h5; subst h6; subst h7
  obtain ⟨R2, D2, e1, e2, _, _, hn2⟩ := nat_of h2
  obtain ⟨R3, C, e3, rfl, _, hC, hn3⟩ := nat_of h3
  have : R2 = R := by omega
  subst this
  have : D2 = D := by omega
  subst this
  have : R3 = R2 := by omega
  subst this
  exact ⟨R3, D2, C, rfl, rfl, rfl, rfl, rfl, rfl, ⟨hR.1, by omega⟩, hD, hC, hn, hn2, hn3⟩
end Go.Proofs.Ytfgmpodmbbnijaa.att
