/- The law FnExactEightOf holds for every input. No conditions. -/
import Derived.Test.YtfoanhffcghjaaaEightT
import Derived.ProofKit
import Derived.OpenShut
import Derived.ChangeOld
import Derived.WalkSmall
namespace Go.Proofs.Ytfoanhffcghjaaa.eightOf
open Go.ChangeShapes Go.WideShapes Go.ChangeAt Go.RowKit Go.Fl Go.Reg Go.Ord
/-- a code, whether it is to be had; nothing was made -/
def CV (c : Nat) (ok : Bool) (w : World) (e : Ending) (w' : World) : Prop := ∃ m, e = .returned (.tuple #[.int .i64 (c : Int), .bool ok]) ∧ w' = w.drewN m
def CS (c : Nat) (w : World) (e : Ending) (w' : World) : Prop := ∃ m, e = .returned (.int .i64 (c : Int)) ∧ w' = w.drewN m
theorem bitsS (x : Nat) (w : World) (hx : x < 4294967296) (hn : isNaN .f32 x = false) : Calls Try.prog 72 #[.float .f32 x] w fun e w' => e = .returned (.int .i64 (x : Int)) ∧ w' = w := by
  go_enter Try.func72, Try.ntmps72
  go_wp2
  go_ret
  exact ⟨rfl, rfl⟩
theorem valI0 (x : Int) (r V : Nat) (hV : Hid (V = V0 r)) (hx : x = (r : Int)) (w : World) (hr : r ≤ 123) : Calls Try.prog 67 #[.int .i64 0, .int .i64 x] w (RVp V w) := by rw [hV.out]; subst hx; exact restI0 r _ _ w (by omega) (by omega) (by omega)
theorem valS0 (x : Int) (r V : Nat) (hV : Hid (V = V0 r)) (hx : x = (r : Int)) (w : World) (hr : r ≤ 123) : Calls Try.prog 82 #[.int .i64 0, .int .i64 x] w (RVp V w) := by rw [hV.out]; subst hx; exact restS0 r _ _ w (by omega) (by omega) (by omega)
set_option maxRecDepth 100000 in
set_option maxHeartbeats 1000000 in
theorem spec00 (x c : Nat) (w : World) (hx : x < 4294967296) (hn : isNaN .f32 x = false) (hs : ¬ 2147483648 ≤ x) (hc : Mids (wid (x % 2147483648)) mid0 123 c) :
    Calls Try.prog 68 #[.int .i64 0, .float .f32 x] w (CS (c) w) := by
  obtain ⟨y, hy⟩ : ∃ y, y = wid (x % 2147483648) := ⟨_, rfl⟩
  have hy1 : y ≤ 9218868437227405312 := by rw [hy]; exact wid_le (nan_le hn)
  rw [← hy] at hc
  have HY := Lib.hid hy
  have HY1 := Lib.hid hy1
  have HC := Lib.hid hc
  have hcT : c ≤ 123 := hc.1
  have HNx := Lib.hid hn
  have hs2 : ¬ (2147483648 : Int) ≤ (x : Int) := by omega
  clear hc hy1
  have hneg : ∀ (b : Nat) (w : World), (Op.unary .neg (.float .f32 b)).run Try.prog w = .ok (.float .f32 (Op.negFloat .f32 b)) w := fun _ _ => rfl
  have hw : ∀ w, fwid x w = y := fun w => by rw [fwid_of hn, hy, Nat.mod_eq_of_lt (by omega)]
  have hwd : wdr x = 0 := wdr_of hn
  clear hy
  go_enter Try.func68, Try.ntmps68
  go_wp2_with go_in
  go_loopw [7] (fun i w' => ∃ (j m : Nat), j ≤ c ∧ i = .int .i64 (j : Int) ∧ Hid (w' = w.drewN m)) (fun i _ => c - (intOf i).toNat)
  case atStart => exact ⟨0, 0, Nat.zero_le _, rfl, (by show _ = _; first | rfl | simp)⟩
  case round =>
    obtain ⟨j, m, hj, rfl, hW⟩ := hrel
    clear hw hwd hs2 hn hneg HNx 
    by_cases hjT : j < 123
    · obtain ⟨V, hV⟩ : ∃ V, V = V0 j := ⟨_, rfl⟩
      obtain ⟨V', hV'⟩ : ∃ V, V = V0 (j + 1) := ⟨_, rfl⟩
      obtain ⟨M, hM⟩ : ∃ M, M = mid0 j := ⟨_, rfl⟩
      obtain ⟨A, hA⟩ : ∃ A, A = am0 j := ⟨_, rfl⟩
      obtain ⟨t1, t2, t3, -⟩ := tab0m j hjT
      rw [← hV, ← hV', ← hA] at t1
      rw [← hA, ← hM] at t2
      rw [← hM] at t3
      have HV := Lib.hid hV
      have HV' := Lib.hid hV'
      have HM := Lib.hid hM
      have a1 : ∀ w, fres .add .f64 V V' w = A := fun w => fres_of t1 w
      have a2 : ∀ w, fres .quo .f64 A 4611686018427387904 w = M := fun w => fres_of t2 w
      have lt := ord_lt HY1.out (show M ≤ 9218868437227405312 by omega)
      have eq := ord_eq HY1.out (show M ≤ 9218868437227405312 by omega)
      have b1 : (j : Int) < 123 := by omega
      clear hV hV' hM hA t1 t2 t3
      have st : ∀ c', c' = j → c' ≤ c → (y < M ∨ (y = M ∧ j % 2 = 0)) → j = c := by
        intro c' e1 e2 h
        subst e1
        rcases Nat.lt_or_eq_of_le e2 with g | g
        · have := HC.out.2.1 c' g
          rw [← HM.out] at this
          omega
        · exact g
      have go : ¬ (y < M ∨ (y = M ∧ j % 2 = 0)) → j < c := by
        intro h
        rcases Nat.lt_or_eq_of_le hj with g | g
        · exact g
        · subst g
          rcases HC.out.2.2 with e | e
          · omega
          · rw [← HM.out] at e
            exact absurd e h
      have ST := Lib.hid st
      have GO := Lib.hid go
      clear st go
      by_cases h1 : y < M
      · rw [decide_eq_true h1] at lt
        have e := ST.out j rfl hj (by first | omega | (have := H2.out; omega))
        subst e
        go_wp2_with (first | (go_at_call 82; first | (refine (valS0 _ j V HV (by omega) _ (by omega)).mono ?_; rintro e w1 ⟨m1, rfl, rfl⟩) | (refine (valS0 _ (j + 1) V' HV' (by omega) _ (by omega)).mono ?_; rintro e w2 ⟨m2, rfl, rfl⟩)) | go_in)
        go_ret
        exact ⟨_, rfl, by rw [hW.out, drewN_drewN]⟩
      · rw [decide_eq_false h1] at lt
        by_cases h2 : y = M
        · rw [decide_eq_true h2] at eq
          have H2 := Lib.hid h2
          clear h2
          by_cases h3 : j % 2 = 0
          · have h4 : (j : Int) % 2 = 0 := by omega
            have e := ST.out j rfl hj (by first | omega | (have := H2.out; omega))
            subst e
            go_wp2_with (first | (go_at_call 82; first | (refine (valS0 _ j V HV (by omega) _ (by omega)).mono ?_; rintro e w1 ⟨m1, rfl, rfl⟩) | (refine (valS0 _ (j + 1) V' HV' (by omega) _ (by omega)).mono ?_; rintro e w2 ⟨m2, rfl, rfl⟩)) | go_in)
            go_ret
            exact ⟨_, rfl, by rw [hW.out, drewN_drewN]⟩
          · have h4 : ¬ (j : Int) % 2 = 0 := by omega
            have e := GO.out (by first | omega | (have := H2.out; omega))
            go_wp2_with (first | (go_at_call 82; first | (refine (valS0 _ j V HV (by omega) _ (by omega)).mono ?_; rintro e w1 ⟨m1, rfl, rfl⟩) | (refine (valS0 _ (j + 1) V' HV' (by omega) _ (by omega)).mono ?_; rintro e w2 ⟨m2, rfl, rfl⟩)) | go_in)
            go_roundw
            case rel => exact ⟨j + 1, _, by omega, by go_num, (by show _ = _; rw [hW.out, drewN_drewN])⟩
            case measure => simp [intOf]; omega
        · rw [decide_eq_false h2] at eq
          have e := GO.out (by first | omega | (have := H2.out; omega))
          go_wp2_with (first | (go_at_call 82; first | (refine (valS0 _ j V HV (by omega) _ (by omega)).mono ?_; rintro e w1 ⟨m1, rfl, rfl⟩) | (refine (valS0 _ (j + 1) V' HV' (by omega) _ (by omega)).mono ?_; rintro e w2 ⟨m2, rfl, rfl⟩)) | go_in)
          go_roundw
          case rel => exact ⟨j + 1, _, by omega, by go_num, (by show _ = _; rw [hW.out, drewN_drewN])⟩
          case measure => simp [intOf]; omega
    · have e : j = c := by omega
      have b1 : ¬ (j : Int) < 123 := by omega
      subst e
      go_wp2_with go_in
      go_ret
      exact ⟨_, rfl, hW.out⟩
set_option maxRecDepth 100000 in
set_option maxHeartbeats 1000000 in
theorem spec01 (x c : Nat) (w : World) (hx : x < 4294967296) (hn : isNaN .f32 x = false) (hs : 2147483648 ≤ x) (hc : Mids (wid (x % 2147483648)) mid0 123 c) :
    Calls Try.prog 68 #[.int .i64 0, .float .f32 x] w (CS (c + 128) w) := by
  obtain ⟨y, hy⟩ : ∃ y, y = wid (x % 2147483648) := ⟨_, rfl⟩
  have hy1 : y ≤ 9218868437227405312 := by rw [hy]; exact wid_le (nan_le hn)
  rw [← hy] at hc
  have HY := Lib.hid hy
  have HY1 := Lib.hid hy1
  have HC := Lib.hid hc
  have hcT : c ≤ 123 := hc.1
  have HNx := Lib.hid hn
  have hs2 : (2147483648 : Int) ≤ (x : Int) := by omega
  clear hc hy1
  have hneg : ∀ (b : Nat) (w : World), (Op.unary .neg (.float .f32 b)).run Try.prog w = .ok (.float .f32 (Op.negFloat .f32 b)) w := fun _ _ => rfl
  obtain ⟨z, hz⟩ : ∃ z, z = x % 2147483648 := ⟨_, rfl⟩
  have hng : Op.negFloat .f32 x = z := by rw [hz]; exact negf hs hx
  have hnn : isNaN .f32 z = false := not_nan (by have := nan_le hn; omega)
  have hw : ∀ w, fwid z w = y := fun w => by rw [fwid_of hnn, hy, hz]
  have hwd : wdr z = 0 := wdr_of hnn
  clear hz
  clear hy
  go_enter Try.func68, Try.ntmps68
  go_wp2_with (first | (go_at_call 72; refine (bitsS _ _ hx HNx.out).mono ?_; rintro e w0 ⟨rfl, hsame⟩; replace hsame := hsame.symm; subst hsame) | go_in)
  go_loopw [7] (fun i w' => ∃ (j m : Nat), j ≤ c ∧ i = .int .i64 (j : Int) ∧ Hid (w' = w.drewN m)) (fun i _ => c - (intOf i).toNat)
  case atStart => exact ⟨0, 0, Nat.zero_le _, rfl, (by show _ = _; first | rfl | simp)⟩
  case round =>
    obtain ⟨j, m, hj, rfl, hW⟩ := hrel
    clear hw hwd hs2 hn hneg HNx hng hnn
    by_cases hjT : j < 123
    · obtain ⟨V, hV⟩ : ∃ V, V = V0 j := ⟨_, rfl⟩
      obtain ⟨V', hV'⟩ : ∃ V, V = V0 (j + 1) := ⟨_, rfl⟩
      obtain ⟨M, hM⟩ : ∃ M, M = mid0 j := ⟨_, rfl⟩
      obtain ⟨A, hA⟩ : ∃ A, A = am0 j := ⟨_, rfl⟩
      obtain ⟨t1, t2, t3, -⟩ := tab0m j hjT
      rw [← hV, ← hV', ← hA] at t1
      rw [← hA, ← hM] at t2
      rw [← hM] at t3
      have HV := Lib.hid hV
      have HV' := Lib.hid hV'
      have HM := Lib.hid hM
      have a1 : ∀ w, fres .add .f64 V V' w = A := fun w => fres_of t1 w
      have a2 : ∀ w, fres .quo .f64 A 4611686018427387904 w = M := fun w => fres_of t2 w
      have lt := ord_lt HY1.out (show M ≤ 9218868437227405312 by omega)
      have eq := ord_eq HY1.out (show M ≤ 9218868437227405312 by omega)
      have b1 : (j : Int) < 123 := by omega
      clear hV hV' hM hA t1 t2 t3
      have st : ∀ c', c' = j → c' ≤ c → (y < M ∨ (y = M ∧ j % 2 = 0)) → j = c := by
        intro c' e1 e2 h
        subst e1
        rcases Nat.lt_or_eq_of_le e2 with g | g
        · have := HC.out.2.1 c' g
          rw [← HM.out] at this
          omega
        · exact g
      have go : ¬ (y < M ∨ (y = M ∧ j % 2 = 0)) → j < c := by
        intro h
        rcases Nat.lt_or_eq_of_le hj with g | g
        · exact g
        · subst g
          rcases HC.out.2.2 with e | e
          · omega
          · rw [← HM.out] at e
            exact absurd e h
      have ST := Lib.hid st
      have GO := Lib.hid go
      clear st go
      by_cases h1 : y < M
      · rw [decide_eq_true h1] at lt
        have e := ST.out j rfl hj (by first | omega | (have := H2.out; omega))
        subst e
        go_wp2_with (first | (go_at_call 82; first | (refine (valS0 _ j V HV (by omega) _ (by omega)).mono ?_; rintro e w1 ⟨m1, rfl, rfl⟩) | (refine (valS0 _ (j + 1) V' HV' (by omega) _ (by omega)).mono ?_; rintro e w2 ⟨m2, rfl, rfl⟩)) | go_in)
        go_ret
        exact ⟨_, (by rw [show ((j + 128 : Nat) : Int) = 128 + (j : Int) by omega]; rfl), by rw [hW.out, drewN_drewN]⟩
      · rw [decide_eq_false h1] at lt
        by_cases h2 : y = M
        · rw [decide_eq_true h2] at eq
          have H2 := Lib.hid h2
          clear h2
          by_cases h3 : j % 2 = 0
          · have h4 : (j : Int) % 2 = 0 := by omega
            have e := ST.out j rfl hj (by first | omega | (have := H2.out; omega))
            subst e
            go_wp2_with (first | (go_at_call 82; first | (refine (valS0 _ j V HV (by omega) _ (by omega)).mono ?_; rintro e w1 ⟨m1, rfl, rfl⟩) | (refine (valS0 _ (j + 1) V' HV' (by omega) _ (by omega)).mono ?_; rintro e w2 ⟨m2, rfl, rfl⟩)) | go_in)
            go_ret
            exact ⟨_, (by rw [show ((j + 128 : Nat) : Int) = 128 + (j : Int) by omega]; rfl), by rw [hW.out, drewN_drewN]⟩
          · have h4 : ¬ (j : Int) % 2 = 0 := by omega
            have e := GO.out (by first | omega | (have := H2.out; omega))
            go_wp2_with (first | (go_at_call 82; first | (refine (valS0 _ j V HV (by omega) _ (by omega)).mono ?_; rintro e w1 ⟨m1, rfl, rfl⟩) | (refine (valS0 _ (j + 1) V' HV' (by omega) _ (by omega)).mono ?_; rintro e w2 ⟨m2, rfl, rfl⟩)) | go_in)
            go_roundw
            case rel => exact ⟨j + 1, _, by omega, by go_num, (by show _ = _; rw [hW.out, drewN_drewN])⟩
            case measure => simp [intOf]; omega
        · rw [decide_eq_false h2] at eq
          have e := GO.out (by first | omega | (have := H2.out; omega))
          go_wp2_with (first | (go_at_call 82; first | (refine (valS0 _ j V HV (by omega) _ (by omega)).mono ?_; rintro e w1 ⟨m1, rfl, rfl⟩) | (refine (valS0 _ (j + 1) V' HV' (by omega) _ (by omega)).mono ?_; rintro e w2 ⟨m2, rfl, rfl⟩)) | go_in)
          go_roundw
          case rel => exact ⟨j + 1, _, by omega, by go_num, (by show _ = _; rw [hW.out, drewN_drewN])⟩
          case measure => simp [intOf]; omega
    · have e : j = c := by omega
      have b1 : ¬ (j : Int) < 123 := by omega
      subst e
      go_wp2_with go_in
      go_ret
      exact ⟨_, (by rw [show ((j + 128 : Nat) : Int) = 128 + (j : Int) by omega]; rfl), hW.out⟩
set_option maxRecDepth 100000 in
set_option maxHeartbeats 1000000 in
theorem impl0 (x : Nat) (w : World) (hx : x < 4294967296) (hn : isNaN .f32 x = false) :
    Calls Try.prog 41 #[.int .i64 0, .float .f32 x] w (CV (pl0 (wid (x % 2147483648)) + (if 2147483648 ≤ x then 128 else 0)) true w) := by
  obtain ⟨y, hy⟩ : ∃ y, y = wid (x % 2147483648) := ⟨_, rfl⟩
  have hy1 : y ≤ 9218868437227405312 := by rw [hy]; exact wid_le (nan_le hn)
  have HY1 := Lib.hid hy1
  have hw : ∀ w, fwid x w = wid x := fun w => fwid_of hn w
  have hwd : wdr x = 0 := wdr_of hn
  have hab : ab (wid x) = y := by rw [hy]; exact ab_wid hx hn
  have HSG := Lib.hid (sgn_wid hx hn)
  obtain ⟨T0, hT0⟩ : ∃ T, T = V0 123 := ⟨_, rfl⟩
  have HT0 := Lib.hid hT0
  have hT1 : T0 ≤ 9218868437227405312 := by rw [hT0]; decide +kernel
  have lt := ord_lt hy1 hT1
  have hpl : pl0 y = if y < T0 then bst (d0 y) 123 else 123 := by rw [hT0]; rfl
  rw [← hy, hpl]
  obtain ⟨sg, hg⟩ : ∃ s, s = if 2147483648 ≤ x then 128 else 0 := ⟨_, rfl⟩
  rw [← hg]
  have HG := Lib.hid hg
  clear hg
  have hltI : y < T0 → y < 9218868437227405312 := fun h => by omega
  clear hT0 hy hy1 hpl hT1
  by_cases h0 : y < T0
  · skip
    rw [if_pos h0]
    rw [decide_eq_true h0] at lt
    have hyI := hltI h0
    have HYI := Lib.hid hyI
    clear hltI
    go_wp2_with (first | (go_at_call 69; refine (absW _ _).mono ?_; rintro e w1 ⟨rfl, hsame⟩; replace hsame := hsame.symm; subst hsame; rw [hab]) | (go_at_call 67; refine (valI0 _ 123 T0 HT0 (by omega) _ (by omega)).mono ?_; rintro e w1 ⟨m0, rfl, rfl⟩) | go_in)
    clear lt h0 hyI
    go_loopw [7, 8] (fun b r w' => ∃ (j m : Nat), j ≤ 123 ∧ b = .int .i64 ((bst (d0 y) j : Nat) : Int) ∧ r = .int .i64 ((j : Int) + 1) ∧ Hid (w' = w.drewN m)) (fun _ r _ => 123 + 1 - (intOf r).toNat)
    case atStart => exact ⟨0, m0, by omega, rfl, rfl, (by show _ = _; first | rfl | simp)⟩
    case round =>
      obtain ⟨j, m, hj, rfl, rfl, hW⟩ := hrel
      by_cases hjT : j < 123
      · obtain ⟨B, hB⟩ : ∃ B, B = bst (d0 y) j := ⟨_, rfl⟩
        have hBj : B ≤ j := by rw [hB]; exact bst_le _ _
        have hstep : bst (d0 y) (j + 1) = if d0 y (j + 1) < d0 y B ∨ (d0 y (j + 1) = d0 y B ∧ (j + 1) % 2 = 0) then j + 1 else B := by rw [hB]; rfl
        rw [← hB]
        obtain ⟨V, hV⟩ : ∃ V, V = V0 B := ⟨_, rfl⟩
        obtain ⟨V', hV'⟩ : ∃ V, V = V0 (j + 1) := ⟨_, rfl⟩
        obtain ⟨t1, t2, -⟩ := d0_ok HYI.out (show B ≤ 123 by omega)
        obtain ⟨t3, t4, -⟩ := d0_ok HYI.out (show j + 1 ≤ 123 by omega)
        obtain ⟨S, hS⟩ : ∃ S, S = fop .sub .f64 y (V0 B) := ⟨_, rfl⟩
        obtain ⟨S', hS'⟩ : ∃ S, S = fop .sub .f64 y (V0 (j + 1)) := ⟨_, rfl⟩
        obtain ⟨D, hD⟩ : ∃ D, D = d0 y B := ⟨_, rfl⟩
        obtain ⟨D', hD'⟩ : ∃ D, D = d0 y (j + 1) := ⟨_, rfl⟩
        rw [← hD] at t2 hstep
        rw [← hD'] at t4 hstep
        have s1 : ab S = D := by rw [hS, hD]; rfl
        have s2 : ab S' = D' := by rw [hS', hD']; rfl
        rw [← hV, hV, ← hS, ← hV] at t1
        rw [← hV', hV', ← hS', ← hV'] at t3
        have a1 : ∀ w, fres .sub .f64 y V w = S := fun w => fres_of t1 w
        have a2 : ∀ w, fres .sub .f64 y V' w = S' := fun w => fres_of t3 w
        have HV := Lib.hid hV
        have HV' := Lib.hid hV'
        have lt := ord_lt t4 t2
        have eq := ord_eq t4 t2
        have HST := Lib.hid hstep
        have b1 : (j : Int) + 1 ≤ 123 := by omega
        clear hV hV' t1 t2 t3 t4 hS hS' hD hD' hstep hB
        by_cases h1 : D' < D
        · rw [decide_eq_true h1] at lt
          go_wp2_with (first | (go_at_call 67; first | (refine (valI0 _ (j + 1) V' HV' (by omega) _ (by omega)).mono ?_; rintro e w1 ⟨m1, rfl, rfl⟩) | (refine (valI0 _ B V HV (by omega) _ (by omega)).mono ?_; rintro e w2 ⟨m2, rfl, rfl⟩)) | (go_at_call 69; first | (refine (absW S' _).mono ?_; rintro e w3 ⟨rfl, rfl⟩; rw [s2]) | (refine (absW S _).mono ?_; rintro e w4 ⟨rfl, rfl⟩; rw [s1])) | go_in)
          go_roundw
          case rel => exact ⟨j + 1, _, by omega, (by rw [HST.out, if_pos (.inl h1)]; try rfl), (by go_num), (by show _ = _; rw [hW.out, drewN_drewN])⟩
          case measure => simp [intOf]; omega
        · rw [decide_eq_false h1] at lt
          by_cases h2 : D' = D
          · rw [decide_eq_true h2] at eq
            have H2 := Lib.hid h2
            clear h2
            by_cases h3 : (j + 1) % 2 = 0
            · have h4 : ((j : Int) + 1) % 2 = 0 := by omega
              go_wp2_with (first | (go_at_call 67; first | (refine (valI0 _ (j + 1) V' HV' (by omega) _ (by omega)).mono ?_; rintro e w1 ⟨m1, rfl, rfl⟩) | (refine (valI0 _ B V HV (by omega) _ (by omega)).mono ?_; rintro e w2 ⟨m2, rfl, rfl⟩)) | (go_at_call 69; first | (refine (absW S' _).mono ?_; rintro e w3 ⟨rfl, rfl⟩; rw [s2]) | (refine (absW S _).mono ?_; rintro e w4 ⟨rfl, rfl⟩; rw [s1])) | go_in)
              go_roundw
              case rel => exact ⟨j + 1, _, by omega, (by rw [HST.out, if_pos (.inr ⟨H2.out, h3⟩)]; try rfl), (by go_num), (by show _ = _; rw [hW.out, drewN_drewN])⟩
              case measure => simp [intOf]; omega
            · have h4 : ¬ ((j : Int) + 1) % 2 = 0 := by omega
              go_wp2_with (first | (go_at_call 67; first | (refine (valI0 _ (j + 1) V' HV' (by omega) _ (by omega)).mono ?_; rintro e w1 ⟨m1, rfl, rfl⟩) | (refine (valI0 _ B V HV (by omega) _ (by omega)).mono ?_; rintro e w2 ⟨m2, rfl, rfl⟩)) | (go_at_call 69; first | (refine (absW S' _).mono ?_; rintro e w3 ⟨rfl, rfl⟩; rw [s2]) | (refine (absW S _).mono ?_; rintro e w4 ⟨rfl, rfl⟩; rw [s1])) | go_in)
              go_roundw
              case rel => exact ⟨j + 1, _, by omega, (by rw [HST.out, if_neg (by have := H2.out; omega)]; try rfl), (by go_num), (by show _ = _; rw [hW.out, drewN_drewN])⟩
              case measure => simp [intOf]; omega
          · rw [decide_eq_false h2] at eq
            go_wp2_with (first | (go_at_call 67; first | (refine (valI0 _ (j + 1) V' HV' (by omega) _ (by omega)).mono ?_; rintro e w1 ⟨m1, rfl, rfl⟩) | (refine (valI0 _ B V HV (by omega) _ (by omega)).mono ?_; rintro e w2 ⟨m2, rfl, rfl⟩)) | (go_at_call 69; first | (refine (absW S' _).mono ?_; rintro e w3 ⟨rfl, rfl⟩; rw [s2]) | (refine (absW S _).mono ?_; rintro e w4 ⟨rfl, rfl⟩; rw [s1])) | go_in)
            go_roundw
            case rel => exact ⟨j + 1, _, by omega, (by rw [HST.out, if_neg (by omega)]; try rfl), (by go_num), (by show _ = _; rw [hW.out, drewN_drewN])⟩
            case measure => simp [intOf]; omega
      · have e : j = 123 := by omega
        subst e
        obtain ⟨B, hB⟩ : ∃ B, B = bst (d0 y) 123 := ⟨_, rfl⟩
        have hBj : B ≤ 123 := by rw [hB]; exact bst_le _ _
        rw [← hB]
        have HB := Lib.hid hB
        clear hB
        have hsg := HSG.out
        by_cases hs : 2147483648 ≤ x
        · skip
          have hg := HG.out
          rw [if_pos hs] at hg
          subst hg
          rw [decide_eq_true hs] at hsg
          have hsg2 : wrap64 ((wid x : Nat) : Int) < 0 := of_decide_eq_true hsg
          clear hsg
          go_wp2_with go_in
          go_ret2
          exact ⟨_, (by rw [← HB.out]; rfl), hW.out⟩
        · skip
          have hg := HG.out
          rw [if_neg hs] at hg
          subst hg
          rw [decide_eq_false hs] at hsg
          have hsg2 : ¬ wrap64 ((wid x : Nat) : Int) < 0 := of_decide_eq_false hsg
          clear hsg
          go_wp2_with go_in
          go_ret2
          exact ⟨_, (by rw [← HB.out]; rfl), hW.out⟩
  · skip
    rw [if_neg h0]
    rw [decide_eq_false h0] at lt
    clear hltI
    have hsg := HSG.out
    by_cases hs : 2147483648 ≤ x
    · skip
      have hg := HG.out
      rw [if_pos hs] at hg
      subst hg
      rw [decide_eq_true hs] at hsg
      have hsg2 : wrap64 ((wid x : Nat) : Int) < 0 := of_decide_eq_true hsg
      clear hsg
      go_wp2_with (first | (go_at_call 69; refine (absW _ _).mono ?_; rintro e w1 ⟨rfl, hsame⟩; replace hsame := hsame.symm; subst hsame; rw [hab]) | (go_at_call 67; refine (valI0 _ 123 T0 HT0 (by omega) _ (by omega)).mono ?_; rintro e w1 ⟨m0, rfl, rfl⟩) | go_in)
      go_ret2
      exact ⟨_, rfl, rfl⟩
    · skip
      have hg := HG.out
      rw [if_neg hs] at hg
      subst hg
      rw [decide_eq_false hs] at hsg
      have hsg2 : ¬ wrap64 ((wid x : Nat) : Int) < 0 := of_decide_eq_false hsg
      clear hsg
      go_wp2_with (first | (go_at_call 69; refine (absW _ _).mono ?_; rintro e w1 ⟨rfl, hsame⟩; replace hsame := hsame.symm; subst hsame; rw [hab]) | (go_at_call 67; refine (valI0 _ 123 T0 HT0 (by omega) _ (by omega)).mono ?_; rintro e w1 ⟨m0, rfl, rfl⟩) | go_in)
      go_ret2
      exact ⟨_, rfl, rfl⟩
theorem valI1 (x : Int) (r V : Nat) (hV : Hid (V = V1 r)) (hx : x = (r : Int)) (w : World) (hr : r ≤ 126) : Calls Try.prog 67 #[.int .i64 1, .int .i64 x] w (RVp V w) := by rw [hV.out]; subst hx; exact restI1 r _ _ w (by omega) (by omega) (by omega)
theorem valS1 (x : Int) (r V : Nat) (hV : Hid (V = V1 r)) (hx : x = (r : Int)) (w : World) (hr : r ≤ 126) : Calls Try.prog 82 #[.int .i64 1, .int .i64 x] w (RVp V w) := by rw [hV.out]; subst hx; exact restS1 r _ _ w (by omega) (by omega) (by omega)
set_option maxRecDepth 100000 in
set_option maxHeartbeats 1000000 in
theorem spec10 (x c : Nat) (w : World) (hx : x < 4294967296) (hn : isNaN .f32 x = false) (hs : ¬ 2147483648 ≤ x) (hc : Mids (wid (x % 2147483648)) mid1 126 c) :
    Calls Try.prog 68 #[.int .i64 1, .float .f32 x] w (CS (c) w) := by
  obtain ⟨y, hy⟩ : ∃ y, y = wid (x % 2147483648) := ⟨_, rfl⟩
  have hy1 : y ≤ 9218868437227405312 := by rw [hy]; exact wid_le (nan_le hn)
  rw [← hy] at hc
  have HY := Lib.hid hy
  have HY1 := Lib.hid hy1
  have HC := Lib.hid hc
  have hcT : c ≤ 126 := hc.1
  have HNx := Lib.hid hn
  have hs2 : ¬ (2147483648 : Int) ≤ (x : Int) := by omega
  clear hc hy1
  have hneg : ∀ (b : Nat) (w : World), (Op.unary .neg (.float .f32 b)).run Try.prog w = .ok (.float .f32 (Op.negFloat .f32 b)) w := fun _ _ => rfl
  have hw : ∀ w, fwid x w = y := fun w => by rw [fwid_of hn, hy, Nat.mod_eq_of_lt (by omega)]
  have hwd : wdr x = 0 := wdr_of hn
  clear hy
  go_enter Try.func68, Try.ntmps68
  go_wp2_with go_in
  go_loopw [7] (fun i w' => ∃ (j m : Nat), j ≤ c ∧ i = .int .i64 (j : Int) ∧ Hid (w' = w.drewN m)) (fun i _ => c - (intOf i).toNat)
  case atStart => exact ⟨0, 0, Nat.zero_le _, rfl, (by show _ = _; first | rfl | simp)⟩
  case round =>
    obtain ⟨j, m, hj, rfl, hW⟩ := hrel
    clear hw hwd hs2 hn hneg HNx 
    by_cases hjT : j < 126
    · obtain ⟨V, hV⟩ : ∃ V, V = V1 j := ⟨_, rfl⟩
      obtain ⟨V', hV'⟩ : ∃ V, V = V1 (j + 1) := ⟨_, rfl⟩
      obtain ⟨M, hM⟩ : ∃ M, M = mid1 j := ⟨_, rfl⟩
      obtain ⟨A, hA⟩ : ∃ A, A = am1 j := ⟨_, rfl⟩
      obtain ⟨t1, t2, t3, -⟩ := tab1m j hjT
      rw [← hV, ← hV', ← hA] at t1
      rw [← hA, ← hM] at t2
      rw [← hM] at t3
      have HV := Lib.hid hV
      have HV' := Lib.hid hV'
      have HM := Lib.hid hM
      have a1 : ∀ w, fres .add .f64 V V' w = A := fun w => fres_of t1 w
      have a2 : ∀ w, fres .quo .f64 A 4611686018427387904 w = M := fun w => fres_of t2 w
      have lt := ord_lt HY1.out (show M ≤ 9218868437227405312 by omega)
      have eq := ord_eq HY1.out (show M ≤ 9218868437227405312 by omega)
      have b1 : (j : Int) < 126 := by omega
      clear hV hV' hM hA t1 t2 t3
      have st : ∀ c', c' = j → c' ≤ c → (y < M ∨ (y = M ∧ j % 2 = 0)) → j = c := by
        intro c' e1 e2 h
        subst e1
        rcases Nat.lt_or_eq_of_le e2 with g | g
        · have := HC.out.2.1 c' g
          rw [← HM.out] at this
          omega
        · exact g
      have go : ¬ (y < M ∨ (y = M ∧ j % 2 = 0)) → j < c := by
        intro h
        rcases Nat.lt_or_eq_of_le hj with g | g
        · exact g
        · subst g
          rcases HC.out.2.2 with e | e
          · omega
          · rw [← HM.out] at e
            exact absurd e h
      have ST := Lib.hid st
      have GO := Lib.hid go
      clear st go
      by_cases h1 : y < M
      · rw [decide_eq_true h1] at lt
        have e := ST.out j rfl hj (by first | omega | (have := H2.out; omega))
        subst e
        go_wp2_with (first | (go_at_call 82; first | (refine (valS1 _ j V HV (by omega) _ (by omega)).mono ?_; rintro e w1 ⟨m1, rfl, rfl⟩) | (refine (valS1 _ (j + 1) V' HV' (by omega) _ (by omega)).mono ?_; rintro e w2 ⟨m2, rfl, rfl⟩)) | go_in)
        go_ret
        exact ⟨_, rfl, by rw [hW.out, drewN_drewN]⟩
      · rw [decide_eq_false h1] at lt
        by_cases h2 : y = M
        · rw [decide_eq_true h2] at eq
          have H2 := Lib.hid h2
          clear h2
          by_cases h3 : j % 2 = 0
          · have h4 : (j : Int) % 2 = 0 := by omega
            have e := ST.out j rfl hj (by first | omega | (have := H2.out; omega))
            subst e
            go_wp2_with (first | (go_at_call 82; first | (refine (valS1 _ j V HV (by omega) _ (by omega)).mono ?_; rintro e w1 ⟨m1, rfl, rfl⟩) | (refine (valS1 _ (j + 1) V' HV' (by omega) _ (by omega)).mono ?_; rintro e w2 ⟨m2, rfl, rfl⟩)) | go_in)
            go_ret
            exact ⟨_, rfl, by rw [hW.out, drewN_drewN]⟩
          · have h4 : ¬ (j : Int) % 2 = 0 := by omega
            have e := GO.out (by first | omega | (have := H2.out; omega))
            go_wp2_with (first | (go_at_call 82; first | (refine (valS1 _ j V HV (by omega) _ (by omega)).mono ?_; rintro e w1 ⟨m1, rfl, rfl⟩) | (refine (valS1 _ (j + 1) V' HV' (by omega) _ (by omega)).mono ?_; rintro e w2 ⟨m2, rfl, rfl⟩)) | go_in)
            go_roundw
            case rel => exact ⟨j + 1, _, by omega, by go_num, (by show _ = _; rw [hW.out, drewN_drewN])⟩
            case measure => simp [intOf]; omega
        · rw [decide_eq_false h2] at eq
          have e := GO.out (by first | omega | (have := H2.out; omega))
          go_wp2_with (first | (go_at_call 82; first | (refine (valS1 _ j V HV (by omega) _ (by omega)).mono ?_; rintro e w1 ⟨m1, rfl, rfl⟩) | (refine (valS1 _ (j + 1) V' HV' (by omega) _ (by omega)).mono ?_; rintro e w2 ⟨m2, rfl, rfl⟩)) | go_in)
          go_roundw
          case rel => exact ⟨j + 1, _, by omega, by go_num, (by show _ = _; rw [hW.out, drewN_drewN])⟩
          case measure => simp [intOf]; omega
    · have e : j = c := by omega
      have b1 : ¬ (j : Int) < 126 := by omega
      subst e
      go_wp2_with go_in
      go_ret
      exact ⟨_, rfl, hW.out⟩
set_option maxRecDepth 100000 in
set_option maxHeartbeats 1000000 in
theorem spec11 (x c : Nat) (w : World) (hx : x < 4294967296) (hn : isNaN .f32 x = false) (hs : 2147483648 ≤ x) (hc : Mids (wid (x % 2147483648)) mid1 126 c) :
    Calls Try.prog 68 #[.int .i64 1, .float .f32 x] w (CS (c + 128) w) := by
  obtain ⟨y, hy⟩ : ∃ y, y = wid (x % 2147483648) := ⟨_, rfl⟩
  have hy1 : y ≤ 9218868437227405312 := by rw [hy]; exact wid_le (nan_le hn)
  rw [← hy] at hc
  have HY := Lib.hid hy
  have HY1 := Lib.hid hy1
  have HC := Lib.hid hc
  have hcT : c ≤ 126 := hc.1
  have HNx := Lib.hid hn
  have hs2 : (2147483648 : Int) ≤ (x : Int) := by omega
  clear hc hy1
  have hneg : ∀ (b : Nat) (w : World), (Op.unary .neg (.float .f32 b)).run Try.prog w = .ok (.float .f32 (Op.negFloat .f32 b)) w := fun _ _ => rfl
  obtain ⟨z, hz⟩ : ∃ z, z = x % 2147483648 := ⟨_, rfl⟩
  have hng : Op.negFloat .f32 x = z := by rw [hz]; exact negf hs hx
  have hnn : isNaN .f32 z = false := not_nan (by have := nan_le hn; omega)
  have hw : ∀ w, fwid z w = y := fun w => by rw [fwid_of hnn, hy, hz]
  have hwd : wdr z = 0 := wdr_of hnn
  clear hz
  clear hy
  go_enter Try.func68, Try.ntmps68
  go_wp2_with (first | (go_at_call 72; refine (bitsS _ _ hx HNx.out).mono ?_; rintro e w0 ⟨rfl, hsame⟩; replace hsame := hsame.symm; subst hsame) | go_in)
  go_loopw [7] (fun i w' => ∃ (j m : Nat), j ≤ c ∧ i = .int .i64 (j : Int) ∧ Hid (w' = w.drewN m)) (fun i _ => c - (intOf i).toNat)
  case atStart => exact ⟨0, 0, Nat.zero_le _, rfl, (by show _ = _; first | rfl | simp)⟩
  case round =>
    obtain ⟨j, m, hj, rfl, hW⟩ := hrel
    clear hw hwd hs2 hn hneg HNx hng hnn
    by_cases hjT : j < 126
    · obtain ⟨V, hV⟩ : ∃ V, V = V1 j := ⟨_, rfl⟩
      obtain ⟨V', hV'⟩ : ∃ V, V = V1 (j + 1) := ⟨_, rfl⟩
      obtain ⟨M, hM⟩ : ∃ M, M = mid1 j := ⟨_, rfl⟩
      obtain ⟨A, hA⟩ : ∃ A, A = am1 j := ⟨_, rfl⟩
      obtain ⟨t1, t2, t3, -⟩ := tab1m j hjT
      rw [← hV, ← hV', ← hA] at t1
      rw [← hA, ← hM] at t2
      rw [← hM] at t3
      have HV := Lib.hid hV
      have HV' := Lib.hid hV'
      have HM := Lib.hid hM
      have a1 : ∀ w, fres .add .f64 V V' w = A := fun w => fres_of t1 w
      have a2 : ∀ w, fres .quo .f64 A 4611686018427387904 w = M := fun w => fres_of t2 w
      have lt := ord_lt HY1.out (show M ≤ 9218868437227405312 by omega)
      have eq := ord_eq HY1.out (show M ≤ 9218868437227405312 by omega)
      have b1 : (j : Int) < 126 := by omega
      clear hV hV' hM hA t1 t2 t3
      have st : ∀ c', c' = j → c' ≤ c → (y < M ∨ (y = M ∧ j % 2 = 0)) → j = c := by
        intro c' e1 e2 h
        subst e1
        rcases Nat.lt_or_eq_of_le e2 with g | g
        · have := HC.out.2.1 c' g
          rw [← HM.out] at this
          omega
        · exact g
      have go : ¬ (y < M ∨ (y = M ∧ j % 2 = 0)) → j < c := by
        intro h
        rcases Nat.lt_or_eq_of_le hj with g | g
        · exact g
        · subst g
          rcases HC.out.2.2 with e | e
          · omega
          · rw [← HM.out] at e
            exact absurd e h
      have ST := Lib.hid st
      have GO := Lib.hid go
      clear st go
      by_cases h1 : y < M
      · rw [decide_eq_true h1] at lt
        have e := ST.out j rfl hj (by first | omega | (have := H2.out; omega))
        subst e
        go_wp2_with (first | (go_at_call 82; first | (refine (valS1 _ j V HV (by omega) _ (by omega)).mono ?_; rintro e w1 ⟨m1, rfl, rfl⟩) | (refine (valS1 _ (j + 1) V' HV' (by omega) _ (by omega)).mono ?_; rintro e w2 ⟨m2, rfl, rfl⟩)) | go_in)
        go_ret
        exact ⟨_, (by rw [show ((j + 128 : Nat) : Int) = 128 + (j : Int) by omega]; rfl), by rw [hW.out, drewN_drewN]⟩
      · rw [decide_eq_false h1] at lt
        by_cases h2 : y = M
        · rw [decide_eq_true h2] at eq
          have H2 := Lib.hid h2
          clear h2
          by_cases h3 : j % 2 = 0
          · have h4 : (j : Int) % 2 = 0 := by omega
            have e := ST.out j rfl hj (by first | omega | (have := H2.out; omega))
            subst e
            go_wp2_with (first | (go_at_call 82; first | (refine (valS1 _ j V HV (by omega) _ (by omega)).mono ?_; rintro e w1 ⟨m1, rfl, rfl⟩) | (refine (valS1 _ (j + 1) V' HV' (by omega) _ (by omega)).mono ?_; rintro e w2 ⟨m2, rfl, rfl⟩)) | go_in)
            go_ret
            exact ⟨_, (by rw [show ((j + 128 : Nat) : Int) = 128 + (j : Int) by omega]; rfl), by rw [hW.out, drewN_drewN]⟩
          · have h4 : ¬ (j : Int) % 2 = 0 := by omega
            have e := GO.out (by first | omega | (have := H2.out; omega))
            go_wp2_with (first | (go_at_call 82; first | (refine (valS1 _ j V HV (by omega) _ (by omega)).mono ?_; rintro e w1 ⟨m1, rfl, rfl⟩) | (refine (valS1 _ (j + 1) V' HV' (by omega) _ (by omega)).mono ?_; rintro e w2 ⟨m2, rfl, rfl⟩)) | go_in)
            go_roundw
            case rel => exact ⟨j + 1, _, by omega, by go_num, (by show _ = _; rw [hW.out, drewN_drewN])⟩
            case measure => simp [intOf]; omega
        · rw [decide_eq_false h2] at eq
          have e := GO.out (by first | omega | (have := H2.out; omega))
          go_wp2_with (first | (go_at_call 82; first | (refine (valS1 _ j V HV (by omega) _ (by omega)).mono ?_; rintro e w1 ⟨m1, rfl, rfl⟩) | (refine (valS1 _ (j + 1) V' HV' (by omega) _ (by omega)).mono ?_; rintro e w2 ⟨m2, rfl, rfl⟩)) | go_in)
          go_roundw
          case rel => exact ⟨j + 1, _, by omega, by go_num, (by show _ = _; rw [hW.out, drewN_drewN])⟩
          case measure => simp [intOf]; omega
    · have e : j = c := by omega
      have b1 : ¬ (j : Int) < 126 := by omega
      subst e
      go_wp2_with go_in
      go_ret
      exact ⟨_, (by rw [show ((j + 128 : Nat) : Int) = 128 + (j : Int) by omega]; rfl), hW.out⟩
set_option maxRecDepth 100000 in
set_option maxHeartbeats 1000000 in
theorem impl1 (x : Nat) (w : World) (hx : x < 4294967296) (hn : isNaN .f32 x = false) :
    Calls Try.prog 41 #[.int .i64 1, .float .f32 x] w (CV (pl1 (wid (x % 2147483648)) + (if 2147483648 ≤ x then 128 else 0)) true w) := by
  obtain ⟨y, hy⟩ : ∃ y, y = wid (x % 2147483648) := ⟨_, rfl⟩
  have hy1 : y ≤ 9218868437227405312 := by rw [hy]; exact wid_le (nan_le hn)
  have HY1 := Lib.hid hy1
  have hw : ∀ w, fwid x w = wid x := fun w => fwid_of hn w
  have hwd : wdr x = 0 := wdr_of hn
  have hab : ab (wid x) = y := by rw [hy]; exact ab_wid hx hn
  have HSG := Lib.hid (sgn_wid hx hn)
  obtain ⟨T0, hT0⟩ : ∃ T, T = V1 126 := ⟨_, rfl⟩
  have HT0 := Lib.hid hT0
  have hT1 : T0 ≤ 9218868437227405312 := by rw [hT0]; decide +kernel
  have lt := ord_lt hy1 hT1
  have hpl : pl1 y = if y < T0 then bst (d1 y) 126 else 126 := by rw [hT0]; rfl
  rw [← hy, hpl]
  obtain ⟨sg, hg⟩ : ∃ s, s = if 2147483648 ≤ x then 128 else 0 := ⟨_, rfl⟩
  rw [← hg]
  have HG := Lib.hid hg
  clear hg
  have hltI : y < T0 → y < 9218868437227405312 := fun h => by omega
  clear hT0 hy hy1 hpl hT1
  by_cases h0 : y < T0
  · skip
    rw [if_pos h0]
    rw [decide_eq_true h0] at lt
    have hyI := hltI h0
    have HYI := Lib.hid hyI
    clear hltI
    go_wp2_with (first | (go_at_call 69; refine (absW _ _).mono ?_; rintro e w1 ⟨rfl, hsame⟩; replace hsame := hsame.symm; subst hsame; rw [hab]) | (go_at_call 67; refine (valI1 _ 126 T0 HT0 (by omega) _ (by omega)).mono ?_; rintro e w1 ⟨m0, rfl, rfl⟩) | go_in)
    clear lt h0 hyI
    go_loopw [7, 8] (fun b r w' => ∃ (j m : Nat), j ≤ 126 ∧ b = .int .i64 ((bst (d1 y) j : Nat) : Int) ∧ r = .int .i64 ((j : Int) + 1) ∧ Hid (w' = w.drewN m)) (fun _ r _ => 126 + 1 - (intOf r).toNat)
    case atStart => exact ⟨0, m0, by omega, rfl, rfl, (by show _ = _; first | rfl | simp)⟩
    case round =>
      obtain ⟨j, m, hj, rfl, rfl, hW⟩ := hrel
      by_cases hjT : j < 126
      · obtain ⟨B, hB⟩ : ∃ B, B = bst (d1 y) j := ⟨_, rfl⟩
        have hBj : B ≤ j := by rw [hB]; exact bst_le _ _
        have hstep : bst (d1 y) (j + 1) = if d1 y (j + 1) < d1 y B ∨ (d1 y (j + 1) = d1 y B ∧ (j + 1) % 2 = 0) then j + 1 else B := by rw [hB]; rfl
        rw [← hB]
        obtain ⟨V, hV⟩ : ∃ V, V = V1 B := ⟨_, rfl⟩
        obtain ⟨V', hV'⟩ : ∃ V, V = V1 (j + 1) := ⟨_, rfl⟩
        obtain ⟨t1, t2, -⟩ := d1_ok HYI.out (show B ≤ 126 by omega)
        obtain ⟨t3, t4, -⟩ := d1_ok HYI.out (show j + 1 ≤ 126 by omega)
        obtain ⟨S, hS⟩ : ∃ S, S = fop .sub .f64 y (V1 B) := ⟨_, rfl⟩
        obtain ⟨S', hS'⟩ : ∃ S, S = fop .sub .f64 y (V1 (j + 1)) := ⟨_, rfl⟩
        obtain ⟨D, hD⟩ : ∃ D, D = d1 y B := ⟨_, rfl⟩
        obtain ⟨D', hD'⟩ : ∃ D, D = d1 y (j + 1) := ⟨_, rfl⟩
        rw [← hD] at t2 hstep
        rw [← hD'] at t4 hstep
        have s1 : ab S = D := by rw [hS, hD]; rfl
        have s2 : ab S' = D' := by rw [hS', hD']; rfl
        rw [← hV, hV, ← hS, ← hV] at t1
        rw [← hV', hV', ← hS', ← hV'] at t3
        have a1 : ∀ w, fres .sub .f64 y V w = S := fun w => fres_of t1 w
        have a2 : ∀ w, fres .sub .f64 y V' w = S' := fun w => fres_of t3 w
        have HV := Lib.hid hV
        have HV' := Lib.hid hV'
        have lt := ord_lt t4 t2
        have eq := ord_eq t4 t2
        have HST := Lib.hid hstep
        have b1 : (j : Int) + 1 ≤ 126 := by omega
        clear hV hV' t1 t2 t3 t4 hS hS' hD hD' hstep hB
        by_cases h1 : D' < D
        · rw [decide_eq_true h1] at lt
          go_wp2_with (first | (go_at_call 67; first | (refine (valI1 _ (j + 1) V' HV' (by omega) _ (by omega)).mono ?_; rintro e w1 ⟨m1, rfl, rfl⟩) | (refine (valI1 _ B V HV (by omega) _ (by omega)).mono ?_; rintro e w2 ⟨m2, rfl, rfl⟩)) | (go_at_call 69; first | (refine (absW S' _).mono ?_; rintro e w3 ⟨rfl, rfl⟩; rw [s2]) | (refine (absW S _).mono ?_; rintro e w4 ⟨rfl, rfl⟩; rw [s1])) | go_in)
          go_roundw
          case rel => exact ⟨j + 1, _, by omega, (by rw [HST.out, if_pos (.inl h1)]; try rfl), (by go_num), (by show _ = _; rw [hW.out, drewN_drewN])⟩
          case measure => simp [intOf]; omega
        · rw [decide_eq_false h1] at lt
          by_cases h2 : D' = D
          · rw [decide_eq_true h2] at eq
            have H2 := Lib.hid h2
            clear h2
            by_cases h3 : (j + 1) % 2 = 0
            · have h4 : ((j : Int) + 1) % 2 = 0 := by omega
              go_wp2_with (first | (go_at_call 67; first | (refine (valI1 _ (j + 1) V' HV' (by omega) _ (by omega)).mono ?_; rintro e w1 ⟨m1, rfl, rfl⟩) | (refine (valI1 _ B V HV (by omega) _ (by omega)).mono ?_; rintro e w2 ⟨m2, rfl, rfl⟩)) | (go_at_call 69; first | (refine (absW S' _).mono ?_; rintro e w3 ⟨rfl, rfl⟩; rw [s2]) | (refine (absW S _).mono ?_; rintro e w4 ⟨rfl, rfl⟩; rw [s1])) | go_in)
              go_roundw
              case rel => exact ⟨j + 1, _, by omega, (by rw [HST.out, if_pos (.inr ⟨H2.out, h3⟩)]; try rfl), (by go_num), (by show _ = _; rw [hW.out, drewN_drewN])⟩
              case measure => simp [intOf]; omega
            · have h4 : ¬ ((j : Int) + 1) % 2 = 0 := by omega
              go_wp2_with (first | (go_at_call 67; first | (refine (valI1 _ (j + 1) V' HV' (by omega) _ (by omega)).mono ?_; rintro e w1 ⟨m1, rfl, rfl⟩) | (refine (valI1 _ B V HV (by omega) _ (by omega)).mono ?_; rintro e w2 ⟨m2, rfl, rfl⟩)) | (go_at_call 69; first | (refine (absW S' _).mono ?_; rintro e w3 ⟨rfl, rfl⟩; rw [s2]) | (refine (absW S _).mono ?_; rintro e w4 ⟨rfl, rfl⟩; rw [s1])) | go_in)
              go_roundw
              case rel => exact ⟨j + 1, _, by omega, (by rw [HST.out, if_neg (by have := H2.out; omega)]; try rfl), (by go_num), (by show _ = _; rw [hW.out, drewN_drewN])⟩
              case measure => simp [intOf]; omega
          · rw [decide_eq_false h2] at eq
            go_wp2_with (first | (go_at_call 67; first | (refine (valI1 _ (j + 1) V' HV' (by omega) _ (by omega)).mono ?_; rintro e w1 ⟨m1, rfl, rfl⟩) | (refine (valI1 _ B V HV (by omega) _ (by omega)).mono ?_; rintro e w2 ⟨m2, rfl, rfl⟩)) | (go_at_call 69; first | (refine (absW S' _).mono ?_; rintro e w3 ⟨rfl, rfl⟩; rw [s2]) | (refine (absW S _).mono ?_; rintro e w4 ⟨rfl, rfl⟩; rw [s1])) | go_in)
            go_roundw
            case rel => exact ⟨j + 1, _, by omega, (by rw [HST.out, if_neg (by omega)]; try rfl), (by go_num), (by show _ = _; rw [hW.out, drewN_drewN])⟩
            case measure => simp [intOf]; omega
      · have e : j = 126 := by omega
        subst e
        obtain ⟨B, hB⟩ : ∃ B, B = bst (d1 y) 126 := ⟨_, rfl⟩
        have hBj : B ≤ 126 := by rw [hB]; exact bst_le _ _
        rw [← hB]
        have HB := Lib.hid hB
        clear hB
        have hsg := HSG.out
        by_cases hs : 2147483648 ≤ x
        · skip
          have hg := HG.out
          rw [if_pos hs] at hg
          subst hg
          rw [decide_eq_true hs] at hsg
          have hsg2 : wrap64 ((wid x : Nat) : Int) < 0 := of_decide_eq_true hsg
          clear hsg
          go_wp2_with go_in
          go_ret2
          exact ⟨_, (by rw [← HB.out]; rfl), hW.out⟩
        · skip
          have hg := HG.out
          rw [if_neg hs] at hg
          subst hg
          rw [decide_eq_false hs] at hsg
          have hsg2 : ¬ wrap64 ((wid x : Nat) : Int) < 0 := of_decide_eq_false hsg
          clear hsg
          go_wp2_with go_in
          go_ret2
          exact ⟨_, (by rw [← HB.out]; rfl), hW.out⟩
  · skip
    rw [if_neg h0]
    rw [decide_eq_false h0] at lt
    clear hltI
    have hsg := HSG.out
    by_cases hs : 2147483648 ≤ x
    · skip
      have hg := HG.out
      rw [if_pos hs] at hg
      subst hg
      rw [decide_eq_true hs] at hsg
      have hsg2 : wrap64 ((wid x : Nat) : Int) < 0 := of_decide_eq_true hsg
      clear hsg
      go_wp2_with (first | (go_at_call 69; refine (absW _ _).mono ?_; rintro e w1 ⟨rfl, hsame⟩; replace hsame := hsame.symm; subst hsame; rw [hab]) | (go_at_call 67; refine (valI1 _ 126 T0 HT0 (by omega) _ (by omega)).mono ?_; rintro e w1 ⟨m0, rfl, rfl⟩) | go_in)
      go_ret2
      exact ⟨_, rfl, rfl⟩
    · skip
      have hg := HG.out
      rw [if_neg hs] at hg
      subst hg
      rw [decide_eq_false hs] at hsg
      have hsg2 : ¬ wrap64 ((wid x : Nat) : Int) < 0 := of_decide_eq_false hsg
      clear hsg
      go_wp2_with (first | (go_at_call 69; refine (absW _ _).mono ?_; rintro e w1 ⟨rfl, hsame⟩; replace hsame := hsame.symm; subst hsame; rw [hab]) | (go_at_call 67; refine (valI1 _ 126 T0 HT0 (by omega) _ (by omega)).mono ?_; rintro e w1 ⟨m0, rfl, rfl⟩) | go_in)
      go_ret2
      exact ⟨_, rfl, rfl⟩
theorem specN0 (x : Nat) (w : World) (hn : isNaN .f32 x = true) : Calls Try.prog 68 #[.int .i64 0, .float .f32 x] w (CS 127 w) := by
  go_enter Try.func68, Try.ntmps68
  go_wp2_with go_in
  go_ret
  exact ⟨0, rfl, rfl⟩
theorem implN0 (x : Nat) (w : World) (hn : isNaN .f32 x = true) : Calls Try.prog 41 #[.int .i64 0, .float .f32 x] w (CV 127 true w) := by
  go_enter Try.func41, Try.ntmps41
  go_wp2_with go_in
  go_ret2
  exact ⟨0, rfl, rfl⟩
theorem specN1 (x : Nat) (w : World) (hn : isNaN .f32 x = true) : Calls Try.prog 68 #[.int .i64 1, .float .f32 x] w (CS 127 w) := by
  go_enter Try.func68, Try.ntmps68
  go_wp2_with go_in
  go_ret
  exact ⟨0, rfl, rfl⟩
theorem implN1 (x : Nat) (w : World) (hn : isNaN .f32 x = true) : Calls Try.prog 41 #[.int .i64 1, .float .f32 x] w (CV 127 true w) := by
  go_enter Try.func41, Try.ntmps41
  go_wp2_with go_in
  go_ret2
  exact ⟨0, rfl, rfl⟩
theorem specK (k : Int) (x : Nat) (w : World) (h : ¬ (k = 0 ∨ k = 1)) : Calls Try.prog 40 #[.int .i64 k, .float .f32 x] w (CV 0 false w) := by
  have h0 : ¬ k = 0 := by omega
  have h1 : ¬ k = 1 := by omega
  clear h
  have h2 : ¬ (0 ≤ k ∧ k ≤ 1) := by omega
  have e0 : (k == 0) = false := by simpa using h0
  have e1 : (k == 1) = false := by simpa using h1
  rcases Int.lt_or_le k 0 with g | g
  · have g2 : ¬ 0 ≤ k := by omega
    go_enter Try.func40, Try.ntmps40
    go_wp2_with go_in
    go_ret2
    exact ⟨0, rfl, rfl⟩
  · have g2 : ¬ k ≤ 1 := by omega
    go_enter Try.func40, Try.ntmps40
    go_wp2_with go_in
    go_ret2
    exact ⟨0, rfl, rfl⟩
theorem implK (k : Int) (x : Nat) (w : World) (h : ¬ (k = 0 ∨ k = 1)) : Calls Try.prog 41 #[.int .i64 k, .float .f32 x] w (CV 0 false w) := by
  have h0 : ¬ k = 0 := by omega
  have h1 : ¬ k = 1 := by omega
  clear h
  have h2 : ¬ (0 ≤ k ∧ k ≤ 1) := by omega
  have e0 : (k == 0) = false := by simpa using h0
  have e1 : (k == 1) = false := by simpa using h1
  rcases Int.lt_or_le k 0 with g | g
  · have g2 : ¬ 0 ≤ k := by omega
    go_enter Try.func41, Try.ntmps41
    go_wp2_with go_in
    go_ret2
    exact ⟨0, rfl, rfl⟩
  · have g2 : ¬ k ≤ 1 := by omega
    go_enter Try.func41, Try.ntmps41
    go_wp2_with go_in
    go_ret2
    exact ⟨0, rfl, rfl⟩
theorem all0 (x : Nat) (hx : x < 4294967296) : (∀ w, Calls Try.prog 68 #[.int .i64 0, .float .f32 x] w (CS (code 0 x) w)) ∧ (∀ w, Calls Try.prog 41 #[.int .i64 0, .float .f32 x] w (CV (code 0 x) true w)) := by
  cases hn : isNaN .f32 x
  · have e : code 0 x = pl0 (wid (x % 2147483648)) + (if 2147483648 ≤ x then 128 else 0) := by unfold code; rw [if_neg (by rw [hn]; simp), if_pos rfl]
    rw [e]
    have hm := pl0_mids (nan_le hn)
    refine ⟨fun w => ?_, fun w => impl0 x w hx hn⟩
    by_cases hs : 2147483648 ≤ x
    · rw [if_pos hs]; exact spec01 x _ w hx hn hs hm
    · rw [if_neg hs]; exact spec00 x _ w hx hn hs hm
  · have e : code 0 x = 127 := by unfold code; rw [if_pos hn]
    rw [e]
    exact ⟨fun w => specN0 x w hn, fun w => implN0 x w hn⟩
theorem spec0E (x : Nat) (w : World) (hx : x < 4294967296) : Calls Try.prog 40 #[.int .i64 0, .float .f32 x] w (CV (code 0 x) true w) := by
  obtain ⟨C, hC⟩ : ∃ C, C = code 0 x := ⟨_, rfl⟩
  have h := (all0 x hx).1
  rw [← hC] at h ⊢
  clear hC
  go_enter Try.func40, Try.ntmps40
  go_wp2_with (first | (go_at_call 68; refine (h _).mono ?_; rintro e w1 ⟨m, rfl, rfl⟩) | go_in)
  go_ret2
  exact ⟨_, rfl, rfl⟩
theorem all1 (x : Nat) (hx : x < 4294967296) : (∀ w, Calls Try.prog 68 #[.int .i64 1, .float .f32 x] w (CS (code 1 x) w)) ∧ (∀ w, Calls Try.prog 41 #[.int .i64 1, .float .f32 x] w (CV (code 1 x) true w)) := by
  cases hn : isNaN .f32 x
  · have e : code 1 x = pl1 (wid (x % 2147483648)) + (if 2147483648 ≤ x then 128 else 0) := by unfold code; rw [if_neg (by rw [hn]; simp), if_neg (by omega)]
    rw [e]
    have hm := pl1_mids (nan_le hn)
    refine ⟨fun w => ?_, fun w => impl1 x w hx hn⟩
    by_cases hs : 2147483648 ≤ x
    · rw [if_pos hs]; exact spec11 x _ w hx hn hs hm
    · rw [if_neg hs]; exact spec10 x _ w hx hn hs hm
  · have e : code 1 x = 127 := by unfold code; rw [if_pos hn]
    rw [e]
    exact ⟨fun w => specN1 x w hn, fun w => implN1 x w hn⟩
theorem spec1E (x : Nat) (w : World) (hx : x < 4294967296) : Calls Try.prog 40 #[.int .i64 1, .float .f32 x] w (CV (code 1 x) true w) := by
  obtain ⟨C, hC⟩ : ∃ C, C = code 1 x := ⟨_, rfl⟩
  have h := (all1 x hx).1
  rw [← hC] at h ⊢
  clear hC
  go_enter Try.func40, Try.ntmps40
  go_wp2_with (first | (go_at_call 68; refine (h _).mono ?_; rintro e w1 ⟨m, rfl, rfl⟩) | go_in)
  go_ret2
  exact ⟨_, rfl, rfl⟩
theorem both (k : Int) (x : Nat) (hx : x < 4294967296) : ∃ c ok, (∀ w, Calls Try.prog 40 #[.int .i64 k, .float .f32 x] w (CV c ok w)) ∧ (∀ w, Calls Try.prog 41 #[.int .i64 k, .float .f32 x] w (CV c ok w)) := by
  by_cases hk : k = 0 ∨ k = 1
  · rcases hk with rfl | rfl
    · exact ⟨_, _, fun w => spec0E x w hx, (all0 x hx).2⟩
    · exact ⟨_, _, fun w => spec1E x w hx, (all1 x hx).2⟩
  · exact ⟨_, _, fun w => specK k x w hk, fun w => implK k x w hk⟩
theorem walk (k : Int) (_hk : (Lit.int .i64 k).wf = true) (x : Nat) (hx : (Lit.float .f32 x).wf = true) (w : World) : Calls Try.prog 14 #[.int .i64 k, .float .f32 x] w fun e w' => e = .returned (.bool true) ∧ Below w.heap.size w w' := by
  have hx' : x < 4294967296 := by simpa [Lit.wf] using hx
  obtain ⟨c, ok, hs, hi⟩ := both k x hx'
  clear hx
  go_enter Try.func14, Try.ntmps14
  go_wp2_with (first | (go_at_call 40; refine (hs _).mono ?_; rintro e w1 ⟨m, rfl, rfl⟩) | (go_at_call 41; refine (hi _).mono ?_; rintro e w2 ⟨m2, rfl, rfl⟩) | go_in)
  go_ret
  exact ⟨rfl, below_drewN (Below.refl _ _) _⟩
theorem own : ownKnob Try.prog.godebug = none := by kernel_rfl
theorem laidOut : laidOutB Try.prog = true := by kernel_rfl
set_option maxRecDepth 100000 in
set_option maxHeartbeats 2000000 in
theorem lifted (os : Os) (started : os.Started) (H : Type) (enc : TypeId × Value → H) :
    ReturnsInHanded {} Try.checked os 14 .any (Rows.fnExactEightOfSpec.pre6 enc Try.prog Try.f14 Rows.fnExactEightOfRow.domain false) (Rows.fnExactEightOfSpec.post enc Try.prog Try.f14 false true false false) := by
  refine returnsInHanded_of_change (C := Try.checked) own started (by kernel_rfl) Try.func14
    (ChangeSpec.witness6 (enc := enc) (C := Try.checked) false ⟨#[], #[.int .i64 0, .float .f32 0], []⟩ 8 (by kernel_rfl) (by kernel_rfl) (by kernel_rfl) (by kernel_rfl)) ?_
  intro W base args ds gs before hval0 hW hcnd _
  have hval : ∀ (j : Nat) t v, Try.f14.params[j]? = some t → args[j]? = some v → Value.okWide Try.prog W .any base t v := hval0
  have hW' := hW
  obtain ⟨p, q, hA0, hV, rfl, hfz, hnd⟩ := hW
  have hA : DataW.TrodAll enc Try.prog W 0 (fun _ => true) true Try.f14.params.toList args.toList ds p := hA0
  rw [Try.params14] at hA hval
  obtain ⟨v0, vs0, d0, ds0, p0, q0, hargs, rfl, rfl, h0, r0⟩ := trodAll_cons hA
  obtain ⟨v1, vs1, d1, ds1, p1, q1, rfl, rfl, rfl, h1, r1⟩ := trodAll_cons r0
  obtain ⟨rfl, rfl, rfl⟩ := trodAll_nil r1
  obtain rfl : args = #[v0, v1] := by cases args; simp_all
  obtain ⟨rfl, rfl⟩ := trodVars_none hV
  have k0 := h0
  have lt0 : ∀ x ∈ p0, x.block < W.heap.size := by obtain ⟨m, hm⟩ := k0; exact DataW.trod_lt m _ _ _ hm
  have k1 := h1
  have lt1 : ∀ x ∈ p1, x.block < W.heap.size := by obtain ⟨m, hm⟩ := k1; exact DataW.trod_lt m _ _ _ hm
  obtain ⟨a0, rfl, rfl, rfl, w0⟩ := open_int Try.underlying2 (hval 0 2 v0 rfl rfl) h0
  obtain ⟨a1, rfl, rfl, rfl, w1⟩ := open_float Try.underlying23 (hval 1 23 v1 rfl rfl) h1
  clear hA0 hval0
  refine (walk a0 w0 a1 w1 W).mono fun e W' ⟨he, bel⟩ => ?_
  subst he
  exact ⟨_, rfl, _, _, _, [], _, [], hW', trodAll_mk1 (shut_bool Try.underlying4 _), (trodAll_cons_mk (Below.trod laidOut (by kernel_rfl) (of_decide_eq_true (by kernel_rfl)) k0 bel lt0) (trodAll_cons_mk (Below.trod laidOut (by kernel_rfl) (of_decide_eq_true (by kernel_rfl)) k1 bel lt1) trodAll_mk0)), rfl, bel.frame _, fun h => by cases h⟩

theorem over : Rows.fnExactEightOfRow.holds Try.pinned (OpenSpec.ofChange Rows.fnExactEightOfSpec) :=
  OpenClaim.holds_of_wide 14 Try.f14 rfl rfl rfl rfl rfl rfl rfl ⟨rfl, rfl, rfl, rfl, rfl⟩ rfl rfl rfl rfl rfl (by kernel_rfl) Try.func14 (by kernel_rfl)
    (of_decide_eq_true (by kernel_rfl)) (by unfold Func.isWrapper; first | (rw [if_pos (by decide +kernel)]; kernel_rfl) | (rw [if_neg (by decide +kernel)]; exact ⟨rfl, rfl⟩))
    (fun os started H enc _ => lifted os started H enc)

theorem proved : Rows.FnExactEightOfSaid := over
end Go.Proofs.Ytfoanhffcghjaaa.eightOf
