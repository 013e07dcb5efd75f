/- The exponential function in 64 bits, as the program and the reference compute it. -/
import Derived.Test.YtfoanhffcghjaaaBd
import Derived.Test.YtfoanhffcghjaaaSame
import Derived.Test.YtfoanhffcghjaaaMem
namespace Go.Proofs.Ytfoanhffcghjaaa
open Go.RowKit Go.Fl Go.Reg Go.Ord
/-- a small whole number as a word of 64 bits -/
def kw (n : Nat) : Nat := floatOfInt .f64 (n : Int)
/-- the polynomial's partial values, and the squares -/
def pt (t : Nat) : Nat → Nat
  | 0 => 4607182418800017408
  | j + 1 => fop .add .f64 4607182418800017408 (fop .quo .f64 (fop .mul .f64 t (pt t j)) (kw (12 - j)))
def sq (p : Nat) : Nat → Nat
  | 0 => p
  | j + 1 => fop .mul .f64 (sq p j) (sq p j)
def tt (x : Nat) : Nat := fop .quo .f64 x 4643211215818981376
def ex (x : Nat) : Nat := sq (pt (tt x) 12) 8
theorem pt_step {t r p : Nat} {j : Nat} (ht : cn .f64 r = cn .f64 t) (hp : cn .f64 p = cn .f64 (pt t j)) (K : Nat) (hK : K = kw (12 - j)) (w1 w2 w3 : World) :
    cn .f64 (fres .add .f64 4607182418800017408 (fres .quo .f64 (fres .mul .f64 r p w1) K w2) w3) = cn .f64 (pt t (j + 1)) := by
  rw [fres_fop, fop_fres_r, hK]
  show _ = cn .f64 (fop .add .f64 4607182418800017408 (fop .quo .f64 (fop .mul .f64 t (pt t j)) (kw (12 - j))))
  rw [fop_fres_l, fop_l .mul ht, fop_r .mul hp]
theorem sq_step {s p : Nat} {j : Nat} (hp : cn .f64 p = cn .f64 (sq s j)) (w1 : World) : cn .f64 (fres .mul .f64 p p w1) = cn .f64 (sq s (j + 1)) := by
  rw [fres_fop, fop_l .mul hp, fop_r .mul hp]; rfl
theorem sq_cn {p q : Nat} (h : cn .f64 p = cn .f64 q) : ∀ j, cn .f64 (sq p j) = cn .f64 (sq q j)
  | 0 => h
  | j + 1 => by show cn .f64 (fop .mul .f64 (sq p j) (sq p j)) = cn .f64 (fop .mul .f64 (sq q j) (sq q j)); rw [fop_l .mul (sq_cn h j), fop_r .mul (sq_cn h j)]
theorem kw_step : ∀ j, j < 12 → floatBits .sub .f64 (kw (12 - j)) 4607182418800017408 = some (kw (12 - (j + 1))) := by decide +kernel
theorem kw_ge : ∀ j, j < 11 → FloatKind.f64.format.order (kw (12 - j)) 4607182418800017408 = some .gt := by decide +kernel
theorem kw_one : FloatKind.f64.format.order (kw 1) 4607182418800017408 = some .eq := by decide +kernel
theorem kw_zero : FloatKind.f64.format.order (kw 0) 4607182418800017408 = some .lt := by decide +kernel
def Ev (x : Nat) (w : World) (e : Ending) (w' : World) : Prop := ∃ u m, e = .returned (.float .f64 u) ∧ w' = w.drewN m ∧ cn .f64 u = cn .f64 (ex x)
theorem drewN_drewN (w : World) (a b : Nat) : (w.drewN a).drewN b = w.drewN (a + b) := by simp [World.drewN, Nat.add_assoc]
/-- which small whole number a word is -/
def msr : Value → Nat
  | .float _ K => (List.range 13).foldl (fun a j => if K = kw j then j else a) 0
  | _ => 0
theorem msr_kw : ∀ j, j ≤ 12 → msr (.float .f64 (kw j)) = j := by decide +kernel
theorem expI (x : Nat) (w : World) : Calls Try.prog 54 #[.float .f64 x] w (Ev x w) := by
  go_enter Try.func54, Try.ntmps54
  go_wp2
  obtain ⟨t, hT⟩ : ∃ t, t = fres .quo .f64 x 4643211215818981376 w := ⟨_, rfl⟩
  rw [← hT]
  have HT := Lib.hid (show cn .f64 t = cn .f64 (tt x) by rw [hT, fres_fop]; rfl)
  clear hT
  go_loopw [4, 5] (fun p k w' => ∃ (j m r K : Nat), j ≤ 12 ∧ p = .float .f64 r ∧ k = .float .f64 K ∧ Hid (K = kw (12 - j)) ∧ Hid (cn .f64 r = cn .f64 (pt (tt x) j)) ∧ Hid (w' = w.drewN m)) (fun _ k _ => msr k)
  case atStart => exact ⟨0, _, _, _, Nat.zero_le _, rfl, rfl, by show _ = _; decide +kernel, rfl, rfl⟩
  case round =>
    obtain ⟨j, m, r, K, hj, rfl, rfl, hK, hr, hw⟩ := hrel
    by_cases hlt : j < 12
    · obtain ⟨o, ho, hoo⟩ : ∃ o, FloatKind.f64.format.order K 4607182418800017408 = some o ∧ (o = .gt ∨ o = .eq) := by
        rw [hK.out]
        by_cases h11 : j < 11
        · exact ⟨_, kw_ge j h11, .inl rfl⟩
        · have : j = 11 := by omega
          subst this; exact ⟨_, kw_one, .inr rfl⟩
      have ho2 : (FloatKind.f64.format.order K 4607182418800017408 == some .gt || FloatKind.f64.format.order K 4607182418800017408 == some .eq) = true := by rw [ho]; rcases hoo with rfl | rfl <;> rfl
      clear ho hoo
      go_wp2
      go_roundw
      case rel => exact ⟨j + 1, _, _, _, by omega, rfl, rfl, by show _ = _; rw [hK.out]; exact fres_of (kw_step j hlt) _, pt_step HT.out hr.out K hK.out _ _ _, by show _ = _; rw [hw.out, drewN_drewN]⟩
      case measure => rw [hK.out, msr_kw _ (by omega), fres_of (kw_step j hlt), msr_kw _ (by omega)]; omega
    · have e : j = 12 := by omega
      subst e
      have ho := kw_zero
      rw [show kw 0 = K from hK.out.symm] at ho
      have ho2 : (FloatKind.f64.format.order K 4607182418800017408 == some .gt || FloatKind.f64.format.order K 4607182418800017408 == some .eq) = false := by rw [ho]; rfl
      clear ho
      go_wp2
      obtain ⟨p0, hP⟩ : ∃ p0, p0 = r := ⟨_, rfl⟩
      have HP := Lib.hid hP
      clear hP
      go_loopw [4, 18] (fun p i w' => ∃ (q m s : Nat), q ≤ 8 ∧ p = .float .f64 s ∧ i = .int .i64 q ∧ Hid (cn .f64 s = cn .f64 (sq p0 q)) ∧ Hid (w' = w.drewN m)) (fun _ i _ => 8 - (intOf i).toNat)
      case atStart => exact ⟨0, _, _, Nat.zero_le _, rfl, rfl, by show _ = _; rw [HP.out]; rfl, hw⟩
      case round =>
        obtain ⟨q, m2, s, hq, rfl, rfl, hs, hw2⟩ := hrel
        by_cases hq8 : q < 8
        · go_wp2
          go_roundw
          case rel => exact ⟨q + 1, _, _, by omega, rfl, by go_num, sq_step hs.out _, by show _ = _; rw [hw2.out, drewN_drewN]⟩
          case measure => simp [intOf]; omega
        · have e : q = 8 := by omega
          subst e
          go_wp2
          go_ret
          exact ⟨s, m2, rfl, hw2.out, by rw [hs.out]; exact sq_cn (by rw [HP.out]; exact hr.out) 8⟩
/-- between -200 and 200 -/
theorem expS (x : Nat) (w : World) (hn : isNaN .f64 x = false) (h1 : (FloatKind.f64.format.order x 4641240890982006784 == some .gt) = false) (h2 : (FloatKind.f64.format.order x 13864612927836782592 == some .lt) = false) : Calls Try.prog 76 #[.float .f64 x] w (Ev x w) := by
  go_enter Try.func76, Try.ntmps76
  go_wp2
  clear h1 h2 hn
  obtain ⟨t, hT⟩ : ∃ t, t = fres .quo .f64 x 4643211215818981376 w := ⟨_, rfl⟩
  rw [← hT]
  have HT := Lib.hid (show cn .f64 t = cn .f64 (tt x) by rw [hT, fres_fop]; rfl)
  clear hT
  go_loopw [4, 5] (fun p k w' => ∃ (j m r : Nat), j ≤ 12 ∧ p = .float .f64 r ∧ k = .int .i64 ((12 - j : Nat) : Int) ∧ Hid (cn .f64 r = cn .f64 (pt (tt x) j)) ∧ Hid (w' = w.drewN m)) (fun _ k _ => (intOf k).toNat)
  case atStart => exact ⟨0, _, _, Nat.zero_le _, rfl, rfl, rfl, rfl⟩
  case round =>
    obtain ⟨j, m, r, hj, rfl, rfl, hr, hw⟩ := hrel
    obtain ⟨n, hn⟩ : ∃ n : Nat, n = 12 - j := ⟨_, rfl⟩
    rw [← hn]
    by_cases hlt : j < 12
    · go_wp2
      go_roundw
      case rel => exact ⟨j + 1, _, _, by omega, rfl, by go_num, pt_step HT.out hr.out _ (by rw [← hn]; rfl) _ _ _, by show _ = _; rw [hw.out, drewN_drewN]⟩
      case measure => simp [intOf]; omega
    · have e : j = 12 := by omega
      subst e
      have hn0 : n = 0 := by omega
      subst hn0
      clear hn
      go_wp2
      obtain ⟨p0, hP⟩ : ∃ p0, p0 = r := ⟨_, rfl⟩
      have HP := Lib.hid hP
      clear hP
      go_loopw [4, 6] (fun p i w' => ∃ (q m s : Nat), q ≤ 8 ∧ p = .float .f64 s ∧ i = .int .i64 q ∧ Hid (cn .f64 s = cn .f64 (sq p0 q)) ∧ Hid (w' = w.drewN m)) (fun _ i _ => 8 - (intOf i).toNat)
      case atStart => exact ⟨0, _, _, Nat.zero_le _, rfl, rfl, by show _ = _; rw [HP.out]; rfl, hw⟩
      case round =>
        obtain ⟨q, m2, s, hq, rfl, rfl, hs, hw2⟩ := hrel
        by_cases hq8 : q < 8
        · go_wp2
          go_roundw
          case rel => exact ⟨q + 1, _, _, by omega, rfl, by go_num, sq_step hs.out _, by show _ = _; rw [hw2.out, drewN_drewN]⟩
          case measure => simp [intOf]; omega
        · have e : q = 8 := by omega
          subst e
          go_wp2
          go_ret
          exact ⟨s, m2, rfl, hw2.out, by rw [hs.out]; exact sq_cn (by rw [HP.out]; exact hr.out) 8⟩
theorem pt_nan {t : Nat} (h : isNaN .f64 t = true) : ∀ j, isNaN .f64 (pt t (j + 1)) = true := fun _j => fop_nan_r _ _ (fop_nan_l _ _ (fop_nan_l _ _ h))
theorem sq_nan {p : Nat} (h : isNaN .f64 p = true) : ∀ j, isNaN .f64 (sq p j) = true
  | 0 => h
  | j + 1 => fop_nan_l _ _ (sq_nan h j)
theorem ex_nan {x : Nat} (h : isNaN .f64 x = true) : isNaN .f64 (ex x) = true := sq_nan (pt_nan (fop_nan_l _ _ h) 11) 8
theorem expN (x : Nat) (w : World) (hn : isNaN .f64 x = true) : Calls Try.prog 76 #[.float .f64 x] w (Ev x w) := by
  go_enter Try.func76, Try.ntmps76
  go_wp2
  go_ret
  exact ⟨x, 0, rfl, rfl, nan_cn_eq hn (ex_nan hn)⟩
/-! ### bounds of the values -/
theorem nan_dec {b : Nat} : isNaN .f64 b = true ∨ isNaN .f64 b = false := by cases isNaN .f64 b <;> simp
theorem pt_bd {t : Nat} (ht : bd 4594797519824748546 t) : ∀ j, j ≤ 12 → bd 4608026843730149376 (pt t j)
  | 0, _ => .inr (show ab 4607182418800017408 ≤ _ by decide +kernel)
  | j + 1, hj => by
    have ih := pt_bd ht j (by omega)
    have k1 : bd 4595853050987413508 (fop .mul .f64 t (pt t j)) := bd_mul (by decide +kernel) (by decide +kernel) (by decide +kernel) (by decide +kernel) ht ih
    have hk : ∀ j, j < 12 → 4607182418800017408 ≤ ab (kw (12 - j)) ∧ ab (kw (12 - j)) < 9218868437227405312 := by decide +kernel
    have k2 : bd 4595853050987413510 (fop .quo .f64 (fop .mul .f64 t (pt t j)) (kw (12 - j))) := bd_quo (D := 4607182418800017408) (by decide +kernel) (by decide +kernel) (by decide +kernel) (by decide +kernel) k1 (.inr (hk j (by omega)))
    exact bd_add (A := 4607182418800017408) (by decide +kernel) (by decide +kernel) (by decide +kernel) (by decide +kernel) (.inr (by decide +kernel)) k2
theorem tt_bd {x : Nat} (hx : bd 4630826316843712512 x) : bd 4594797519824748546 (tt x) :=
  bd_quo (D := 4643211215818981376) (by decide +kernel) (by decide +kernel) (by decide +kernel) (by decide +kernel) hx (.inr (by decide +kernel))
theorem sq_bd0 {p : Nat} (h : bd 4608026843730149376 p) : bd 4609029598334681090 (fop .mul .f64 p p) := bd_mul (by decide +kernel) (by decide +kernel) (by decide +kernel) (by decide +kernel) h h
theorem sq_bd1 {p : Nat} (h : bd 4609029598334681090 p) : bd 4611634410100359176 (fop .mul .f64 p p) := bd_mul (by decide +kernel) (by decide +kernel) (by decide +kernel) (by decide +kernel) h h
theorem sq_bd2 {p : Nat} (h : bd 4611634410100359176 p) : bd 4616086697099657234 (fop .mul .f64 p p) := bd_mul (by decide +kernel) (by decide +kernel) (by decide +kernel) (by decide +kernel) h h
theorem sq_bd3 {p : Nat} (h : bd 4616086697099657234 p) : bd 4624992151427793752 (fop .mul .f64 p p) := bd_mul (by decide +kernel) (by decide +kernel) (by decide +kernel) (by decide +kernel) h h
theorem sq_bd4 {p : Nat} (h : bd 4624992151427793752 p) : bd 4642806534571446307 (fop .mul .f64 p p) := bd_mul (by decide +kernel) (by decide +kernel) (by decide +kernel) (by decide +kernel) h h
theorem sq_bd5 {p : Nat} (h : bd 4642806534571446307 p) : bd 4678448832122524452 (fop .mul .f64 p p) := bd_mul (by decide +kernel) (by decide +kernel) (by decide +kernel) (by decide +kernel) h h
theorem sq_bd6 {p : Nat} (h : bd 4678448832122524452 p) : bd 4749784741734249751 (fop .mul .f64 p p) := bd_mul (by decide +kernel) (by decide +kernel) (by decide +kernel) (by decide +kernel) h h
theorem sq_bd7 {p : Nat} (h : bd 4749784741734249751 p) : bd 4892641168177465188 (fop .mul .f64 p p) := bd_mul (by decide +kernel) (by decide +kernel) (by decide +kernel) (by decide +kernel) h h
theorem ex_bd {x : Nat} (hx : bd 4630826316843712512 x) : bd 4892641168177465188 (ex x) :=
  sq_bd7 (sq_bd6 (sq_bd5 (sq_bd4 (sq_bd3 (sq_bd2 (sq_bd1 (sq_bd0 (pt_bd (tt_bd hx) 12 (Nat.le_refl _)))))))))
end Go.Proofs.Ytfoanhffcghjaaa
