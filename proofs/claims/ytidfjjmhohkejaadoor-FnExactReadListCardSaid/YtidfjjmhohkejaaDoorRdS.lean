/- The reading of a decimal number: the reference's walk. -/
import Derived.Test.YtidfjjmhohkejaaDoorRdP
import Derived.PlainAid
import Derived.Lib.Strings
namespace Go.Proofs.YtidfjjmhohkejaaDoor
open Go.RowKit Go.Fl Go.Reg Go.PlainAid
/-- a number and whether there is one -/
def NV (l : List UInt8) (w : World) (e : Ending) (w' : World) : Prop := e = .returned (.tuple #[.int .i64 ((rd l).getD 0), .bool (rd l).isSome]) ∧ Below w.heap.size w w'
theorem NV.yes {l : List UInt8} {w w' : World} {v : Int} (h : rd l = some v) (B : Below w.heap.size w w') : NV l w (.returned (.tuple #[.int .i64 v, .bool true])) w' := ⟨by rw [h]; rfl, B⟩
theorem NV.no {l : List UInt8} {w w' : World} (h : rd l = none) (B : Below w.heap.size w w') : NV l w (.returned (.tuple #[.int .i64 0, .bool false])) w' := ⟨by rw [h]; rfl, B⟩
theorem take_snoc (s : ByteArray) (k : Nat) (h : k < s.size) : s.data.toList.take (k + 1) = s.data.toList.take k ++ [s[k]] := by
  rw [List.take_succ_eq_append_getElem (by simpa using h)]; rfl
theorem bytes_ne {a b : ByteArray} (h : ¬ a = b) : (a.toList == b.toList) = false := by
  rw [beq_eq_false_iff_ne, Lib.toList_data, Lib.toList_data]
  intro e
  exact h (by rw [← Lib.mk_data a, e, Lib.mk_data])
theorem rd_long {l : List UInt8} (h : l.length < 1 ∨ 17 < l.length) : rd l = none := by unfold rd; rw [if_neg (by omega)]
theorem rd_big {l : List UInt8} (h : okv (sg l) = false) : rd l = none := by unfold rd; rw [if_neg (by rw [h]; simp)]
theorem rd_else {l : List UInt8} (h : Lib.itoa (sg l) ≠ l) : rd l = none := by unfold rd; rw [if_neg (fun x => h x.2.2)]
theorem rd_ok {l : List UInt8} (h1 : 1 ≤ l.length ∧ l.length ≤ 17) (h2 : okv (sg l) = true) (h3 : Lib.itoa (sg l) = l) : rd l = some (sg l) := by unfold rd; rw [if_pos ⟨h1, h2, h3⟩]
theorem head_bt {s : ByteArray} (h : 0 < s.size) : s.data.toList.head?.map (·.toNat) = some (bt s 0).toNat := by
  have e : s.data.toList.head? = some s[0] := by
    rw [List.head?_eq_getElem?, List.getElem?_eq_getElem (by simpa using h)]; rfl
  rw [e]
  unfold bt
  rw [dif_pos h]
  simp
theorem sg_neg {s : ByteArray} (h : 0 < s.size) (hb : bt s 0 = 45) : sg s.data.toList = -(dgv s.data.toList : Int) := by unfold sg; rw [if_pos (by rw [head_bt h, hb]; rfl)]
theorem sg_pos {s : ByteArray} (h : 0 < s.size) (hb : ¬ bt s 0 = 45) : sg s.data.toList = (dgv s.data.toList : Int) := by
  unfold sg
  rw [if_neg]
  rw [head_bt h]
  intro e
  injection e with e
  have := bt_nonneg s 0
  omega
theorem inS1 (x : Int) (w : World) : Calls Tryd.prog 29 #[.int .i64 x, .int .i64 (-1000000000000000), .int .i64 1000000000000000] w fun e w' => e = .returned (.bool (okv x)) ∧ w' = w := by
  cases ho : okv x
  · rcases okv_no ho with hh | hh
    · have h2 : ¬ (-1000000000000000 ≤ x) := by omega
      clear ho
      go_enter Tryd.func29, Tryd.ntmps29
      go_wp2
      go_ret
      exact ⟨rfl, rfl⟩
    · have h2 : ¬ (x ≤ 1000000000000000) := by omega
      have h3 : -1000000000000000 ≤ x := by omega
      clear ho
      go_enter Tryd.func29, Tryd.ntmps29
      go_wp2
      go_ret
      exact ⟨rfl, rfl⟩
  · obtain ⟨h2, h3⟩ := okv_yes ho
    clear ho
    go_enter Tryd.func29, Tryd.ntmps29
    go_wp2
    go_ret
    exact ⟨rfl, rfl⟩
theorem dg_step (s : ByteArray) (k : Nat) (h : k < s.size) : dgv (s.data.toList.take (k + 1)) = if 48 ≤ bt s k ∧ bt s k ≤ 57 then 10 * dgv (s.data.toList.take k) + ((bt s k).toNat - 48) else dgv (s.data.toList.take k) := by
  rw [take_snoc s k h, dgv_snoc]
  have e : bt s k = ((s[k]).toNat : Int) := (get_bt s k h).symm
  rw [e]
  unfold dgf
  by_cases hc : 48 ≤ (s[k]).toNat ∧ (s[k]).toNat ≤ 57
  · rw [if_pos hc, if_pos (by omega)]; simp
  · rw [if_neg hc, if_neg (by omega)]
set_option maxHeartbeats 4000000 in
set_option maxRecDepth 100000 in
theorem valueS (s : ByteArray) (w : World) (hs : s.size ≤ maxLen) : Calls Tryd.prog 19 #[.string s] w (NV s.data.toList w) := by
  unfold maxLen at hs
  have hlen : s.data.toList.length = s.size := Array.length_toList
  by_cases h1 : s.size < 1
  · have HR := Lib.hid (rd_long (l := s.data.toList) (.inl (by omega)))
    have h1i : (s.size : Int) < 1 := by omega
    clear hlen h1
    go_enter Tryd.func19, Tryd.ntmps19
    go_wp2
    go_ret2
    exact NV.no HR.out (Below.refl _ _)
  have h1i : ¬ (s.size : Int) < 1 := by omega
  by_cases h2 : 17 < s.size
  · have HR := Lib.hid (rd_long (l := s.data.toList) (.inr (by omega)))
    have h2i : (17 : Int) < (s.size : Int) := by omega
    clear hlen h1 h2
    go_enter Tryd.func19, Tryd.ntmps19
    go_wp2
    go_ret2
    exact NV.no HR.out (Below.refl _ _)
  have h2i : ¬ (17 : Int) < (s.size : Int) := by omega
  have hsz : 1 ≤ s.size ∧ s.size ≤ 17 := by omega
  have HL := Lib.hid (show 1 ≤ s.data.toList.length ∧ s.data.toList.length ≤ 17 by omega)
  have HB := Lib.hid (show ∀ k, dgv (s.data.toList.take k) < 10 ^ 17 from fun k => by
    refine Nat.lt_of_lt_of_le (dgv_lt _) (Nat.pow_le_pow_right (by omega) ?_)
    rw [List.length_take]; omega)
  have HB2 := Lib.hid (show ∀ k, k < 17 → dgv (s.data.toList.take k) < 10 ^ 16 from fun k hk => by
    refine Nat.lt_of_lt_of_le (dgv_lt _) (Nat.pow_le_pow_right (by omega) ?_)
    rw [List.length_take]; omega)
  have HS := Lib.hid (dg_step s)
  have hb := get_bt s
  clear hlen h1 h2
  go_enter Tryd.func19, Tryd.ntmps19
  go_wp2
  clear h1i h2i
  go_loopw [4, 5] (fun v i w' => ∃ (k q : Nat), k ≤ s.size ∧ v = .int .i64 (q : Int) ∧ i = .int .i64 k ∧ Hid (q = dgv (s.data.toList.take k)) ∧ w' = w) (fun _ i _ => s.size - (RowKit.intOf i).toNat)
  case atStart => exact ⟨0, 0, Nat.zero_le _, rfl, rfl, rfl, (by first | rfl | trivial)⟩
  case round =>
    obtain ⟨k, q, hk, rfl, rfl, hq, rfl⟩ := hrel
    by_cases hlt : k < s.size
    · have hq16 : q < 10 ^ 16 := by rw [hq.out]; exact HB2.out k (by omega)
      have hst := HS.out k hlt
      rw [← hq.out] at hst
      have n0 := bt_nonneg s k
      have n1 := bt_le s k
      obtain ⟨b, hbb⟩ : ∃ b, b = bt s k := ⟨_, rfl⟩
      have hb2 : ∀ (h : k < s.size), ((s[k]'h).toNat : Int) = b := fun h => by rw [hb k h, hbb]
      rw [← hbb] at n0 n1 hst
      have HBB := Lib.hid hb
      clear hb hbb
      by_cases c1 : 48 ≤ b
      · by_cases c2 : b ≤ 57
        · have HST := Lib.hid (show 10 * q + (b.toNat - 48) = dgv (s.data.toList.take (k + 1)) by rw [hst, if_pos ⟨c1, c2⟩])
          have m1 : (b - 48) % 256 = b - 48 := by omega
          have m2 : ((10 * q + (b.toNat - 48) : Nat) : Int) = 10 * (q : Int) + (b - 48) := by omega
          have M2 := Lib.hid m2
          clear hst m2
          go_wp2
          go_roundw
          case rel => exact ⟨k + 1, 10 * q + (b.toNat - 48), by omega, (by rw [M2.out]), by go_num, HST, (by first | rfl | trivial)⟩
          case measure => simp [RowKit.intOf]; omega
        · have HST := Lib.hid (show q = dgv (s.data.toList.take (k + 1)) by rw [hst, if_neg (by omega)])
          clear hst
          go_wp2
          go_roundw
          case rel => exact ⟨k + 1, q, by omega, (by first | rfl | go_num | (congr 1; omega)), by go_num, HST, (by first | rfl | trivial)⟩
          case measure => simp [RowKit.intOf]; omega
      · have HST := Lib.hid (show q = dgv (s.data.toList.take (k + 1)) by rw [hst, if_neg (by omega)])
        clear hst
        go_wp2
        go_roundw
        case rel => exact ⟨k + 1, q, by omega, (by first | rfl | go_num | (congr 1; omega)), by go_num, HST, (by first | rfl | trivial)⟩
        case measure => simp [RowKit.intOf]; omega
    · have e : k = s.size := by omega
      subst e
      have hq2 : q = dgv s.data.toList := by rw [hq.out, List.take_of_length_le (by simp)]
      have hq17 : q < 10 ^ 17 := by rw [hq.out]; exact HB.out _
      have n0 := bt_nonneg s 0
      have n1 := bt_le s 0
      have hz : 0 < s.size := by omega
      have HQ := Lib.hid hq2
      clear hq hq2
      by_cases hc : bt s 0 = 45
      · skip
        have HSG := Lib.hid (show sg s.data.toList = (-(q : Int)) by rw [sg_neg hz hc, HQ.out])
        go_wp2_with fail
        refine (inS1 _ _).mono ?_
        rintro e wx ⟨rfl, hsame⟩
        replace hsame := hsame.symm
        subst hsame
        cases ho : okv (-(q : Int))
        · have HR := Lib.hid (rd_big (l := s.data.toList) (by rw [HSG.out]; exact ho))
          clear ho
          go_wp2
          go_ret2
          exact NV.no HR.out (Below.refl _ _)
        · have HO := Lib.hid ho
          have hr := okv_yes ho
          clear ho
          go_wp2_with fail
          refine (decS _ (by omega) (by omega) _).mono ?_
          rintro e w3 ⟨rfl, A⟩
          have HA := Lib.hid A
          clear A hr
          by_cases he : Lib.itoa (-(q : Int)) = s.data.toList
          · have hbe : (⟨(Lib.itoa (-(q : Int))).toArray⟩ : ByteArray) = s := by rw [he]
            have HR := Lib.hid (rd_ok HL.out (by rw [HSG.out]; exact HO.out) (by rw [HSG.out]; exact he))
            rw [HSG.out] at HR
            clear he
            rw [hbe]
            clear hbe
            go_wp2
            go_ret2
            exact NV.yes HR.out HA.out
          · have hbe : ¬ (⟨(Lib.itoa (-(q : Int))).toArray⟩ : ByteArray) = s := fun e => he (by rw [← e])
            have HR := Lib.hid (rd_else (l := s.data.toList) (by rw [HSG.out]; exact he))
            clear he
            obtain ⟨B, hB⟩ : ∃ B, B = (⟨(Lib.itoa (-(q : Int))).toArray⟩ : ByteArray) := ⟨_, rfl⟩
            rw [← hB] at hbe ⊢
            have hbt : (B.toList == s.toList) = false := bytes_ne hbe
            clear hB hbe
            go_wp2
            go_ret2
            exact NV.no HR.out HA.out
      · skip
        have HSG := Lib.hid (show sg s.data.toList = (q : Int) by rw [sg_pos hz hc, HQ.out])
        go_wp2_with fail
        refine (inS1 _ _).mono ?_
        rintro e wx ⟨rfl, hsame⟩
        replace hsame := hsame.symm
        subst hsame
        cases ho : okv (q : Int)
        · have HR := Lib.hid (rd_big (l := s.data.toList) (by rw [HSG.out]; exact ho))
          clear ho
          go_wp2
          go_ret2
          exact NV.no HR.out (Below.refl _ _)
        · have HO := Lib.hid ho
          have hr := okv_yes ho
          clear ho
          go_wp2_with fail
          refine (decS _ (by omega) (by omega) _).mono ?_
          rintro e w3 ⟨rfl, A⟩
          have HA := Lib.hid A
          clear A hr
          by_cases he : Lib.itoa (q : Int) = s.data.toList
          · have hbe : (⟨(Lib.itoa (q : Int)).toArray⟩ : ByteArray) = s := by rw [he]
            have HR := Lib.hid (rd_ok HL.out (by rw [HSG.out]; exact HO.out) (by rw [HSG.out]; exact he))
            rw [HSG.out] at HR
            clear he
            rw [hbe]
            clear hbe
            go_wp2
            go_ret2
            exact NV.yes HR.out HA.out
          · have hbe : ¬ (⟨(Lib.itoa (q : Int)).toArray⟩ : ByteArray) = s := fun e => he (by rw [← e])
            have HR := Lib.hid (rd_else (l := s.data.toList) (by rw [HSG.out]; exact he))
            clear he
            obtain ⟨B, hB⟩ : ∃ B, B = (⟨(Lib.itoa (q : Int)).toArray⟩ : ByteArray) := ⟨_, rfl⟩
            rw [← hB] at hbe ⊢
            have hbt : (B.toList == s.toList) = false := bytes_ne hbe
            clear hB hbe
            go_wp2
            go_ret2
            exact NV.no HR.out HA.out
theorem readS (s : ByteArray) (w : World) (hs : s.size ≤ maxLen) : Calls Tryd.prog 7 #[.string s] w (NV s.data.toList w) := by
  go_enter Tryd.func7, Tryd.ntmps7
  go_wp2_with fail
  refine (valueS s w hs).mono ?_
  rintro e w1 ⟨rfl, A⟩
  go_wp2
  go_ret2
  exact ⟨rfl, A⟩
end Go.Proofs.YtidfjjmhohkejaaDoor
