/- The text of a list of whole numbers: the reference's walk and the program's. -/
import Derived.Test.YtidfjjmhohkejaaDoorDec
import Derived.Test.YtidfjjmhohkejaaDoorInts
import Derived.Lib.Join
namespace Go.Proofs.YtidfjjmhohkejaaDoor
open Go.RowKit Go.Fl Go.Reg
theorem zeros_il (n : Nat) : (madeCells #[Value.int .i64 0] n).toList = il (List.replicate n 0) := by
  simp only [madeCells, il]
  apply List.ext_getElem
  · simp
  · intro i h1 h2; simp [Nat.mod_one]
theorem copyj_step (xs : List Int) (n k : Nat) (hx : n = xs.length) (hk : k < n) : (il (xs.take k ++ List.replicate (n - k) 0)).set k (.int .i64 (xs[k]?.getD 0)) = il (xs.take (k + 1) ++ List.replicate (n - (k + 1)) 0) := by
  rw [il_set]
  congr 1
  have e1 : (xs.take k).length = k := by rw [List.length_take]; omega
  have hk' : k < xs.length := by omega
  rw [List.set_append_right _ _ (by omega), e1, Nat.sub_self, show n - k = (n - (k + 1)) + 1 by omega, List.replicate_succ, List.set_cons_zero, List.take_succ_eq_append_getElem hk', List.getElem?_eq_getElem hk', List.append_assoc]
  rfl
theorem toI64 (a : Option Addr) (n cap : Nat) (xs : List Int) (w : World) (hn : n ≤ 1048576) (h1 : Js w a n cap xs) :
    Calls Tryd.prog 17 #[.slice a n cap] w fun e w' => ∃ g, e = .returned (.slice (some ⟨g, 0, none⟩) n n) ∧ Js w' (some ⟨g, 0, none⟩) n n xs ∧ Below w.heap.size w w' := by
  obtain ⟨i0, hi, hz0, hz1, hz2⟩ := info_parts infoI64
  have HC := Lib.hid h1.cell
  have HL := Lib.hid h1.len
  clear h1
  go_enter Tryd.func17, Tryd.ntmps17
  go_wp2_with (at_make; refine wpList_make_full _ rfl _ _ 25 rfl w.heap.size 2 i0 (.int .i64 0) 1 Tryd.underlying25 hi hz0 hz1 _ _ _ _ n rfl rfl rfl rfl (by rw [hz2]; omega) (by unfold maxLen; omega) (Nat.le_refl _) ?_)
  intro w1 hown hgr
  rw [zeros_il] at hown
  have hb1 := bel_grown hgr
  have hrel0 : w1.ownsRow w.heap.size 2 1 (.slice (some ⟨w.heap.size, 0, none⟩) n n) n (il (xs.take 0 ++ List.replicate (n - 0) 0)) := by simpa using hown
  clear hown hgr
  go_wp2
  go_loopw [4] (fun i w' => ∃ k : Nat, k ≤ n ∧ i = .int .i64 k ∧ w'.ownsRow w.heap.size 2 1 (.slice (some ⟨w.heap.size, 0, none⟩) n n) n (il (xs.take k ++ List.replicate (n - k) 0)) ∧ Below w.heap.size w w') (fun i _ => n - (intOf i).toNat)
  case atStart => exact ⟨0, Nat.zero_le _, rfl, hrel0, hb1⟩
  case round =>
    obtain ⟨k, hk, rfl, hown, hb⟩ := hrel
    by_cases hlt : k < n
    · obtain ⟨b, o, rfl, hc⟩ := HC.out k hlt
      have hcw := (hb.cell (p := ⟨b, o + k, none⟩) (World.block_lt_of_cell? w _ hc)).trans hc
      have hlen : (il (xs.take k ++ List.replicate (n - k) 0)).length = n := by have := hown.1; rw [Nat.mul_one] at this; exact this
      have hco : ∃ u, wr.cell? ⟨w.heap.size, k, none⟩ = some u := by rw [hown.cellAt k (by omega)]; exact ⟨_, List.getElem?_eq_getElem (by omega)⟩
      obtain ⟨u, hco⟩ := hco
      have hfo := hown.frozenAt k
      have hst := hown.stored k (.int .i64 (xs[k]?.getD 0))
      rw [copyj_step xs n k HL.out hlt] at hst
      have HS := Lib.hid hst
      have HB := Lib.hid hb
      have HO := Lib.hid hown
      clear hst hb hown hlen hc
      go_wp2
      go_roundw
      case rel => exact ⟨k + 1, by omega, by go_num, HS.out.1, HB.out.trans (bel_grow HS.out.2 (Nat.le_refl _) (by have := (HO.out.lt w.heap.size rfl).2; omega))⟩
      case measure => simp [intOf]; omega
    · go_wp2
      go_ret
      have : k = n := by omega
      subst this
      have e : xs.take k ++ List.replicate (k - k) 0 = xs := by rw [Nat.sub_self, List.replicate_zero, List.append_nil, HL.out, List.take_length]
      rw [e] at hown
      exact ⟨_, rfl, Js.own hown, hb⟩
/-- is a number not too great -/
def okv (x : Int) : Bool := decide (-1000000000000000 ≤ x) && decide (x ≤ 1000000000000000)
def jat (L : List Int) (j : Nat) : Int := L[j]?.getD 0
/-- has a list few numbers that are not too great -/
def lst (L : List Int) (n : Nat) : Bool := (List.range n).all (fun j => okv (jat L j)) && decide (n ≤ 64)
theorem lst_bad {L : List Int} {n j : Nat} (hj : j < n) (h : okv (jat L j) = false) : lst L n = false := by
  unfold lst
  have : (List.range n).all (fun j => okv (jat L j)) = false := by
    rw [List.all_eq_false]
    exact ⟨j, List.mem_range.2 hj, by rw [h]; simp⟩
  rw [this]; rfl
theorem lst_all {L : List Int} {n : Nat} (h : ∀ j, j < n → okv (jat L j) = true) : lst L n = decide (n ≤ 64) := by
  unfold lst
  have : (List.range n).all (fun j => okv (jat L j)) = true := List.all_eq_true.2 fun j hj => h j (List.mem_range.1 hj)
  rw [this]; rfl
theorem lst_yes {L : List Int} {n : Nat} (h : lst L n = true) : n ≤ 64 ∧ ∀ j, j < n → okv (jat L j) = true := by
  unfold lst at h
  rw [Bool.and_eq_true] at h
  exact ⟨of_decide_eq_true h.2, fun j hj => List.all_eq_true.1 h.1 j (List.mem_range.2 hj)⟩
theorem okv_yes {x : Int} (h : okv x = true) : -1000000000000000 ≤ x ∧ x ≤ 1000000000000000 := by
  unfold okv at h; simp at h; exact h
theorem okv_no {x : Int} (h : okv x = false) : x < -1000000000000000 ∨ 1000000000000000 < x := by
  unfold okv at h; simp at h
  omega
/-- the texts of the first j numbers, commas between them -/
def tk (L : List Int) (j : Nat) : List UInt8 := Lib.join ((List.range j).map (fun i => Lib.itoa (jat L i))) [44]
theorem tk_one (L : List Int) : tk L 1 = Lib.itoa (jat L 0) := by unfold tk; simp [Lib.join_one]
theorem tk_step (L : List Int) (j : Nat) (hj : 1 ≤ j) : tk L (j + 1) = tk L j ++ 44 :: Lib.itoa (jat L j) := by
  unfold tk
  obtain ⟨k, rfl⟩ : ∃ k, j = k + 1 := ⟨j - 1, by omega⟩
  have e1 : (List.range (k + 1)).map (fun i => Lib.itoa (jat L i)) = Lib.itoa (jat L 0) :: (List.range k).map (fun i => Lib.itoa (jat L (i + 1))) := by
    rw [List.range_succ_eq_map, List.map_cons, List.map_map]; rfl
  have e2 : (List.range (k + 1 + 1)).map (fun i => Lib.itoa (jat L i)) = Lib.itoa (jat L 0) :: ((List.range k).map (fun i => Lib.itoa (jat L (i + 1))) ++ [Lib.itoa (jat L (k + 1))]) := by
    rw [List.range_succ_eq_map, List.map_cons, List.map_map, List.range_succ, List.map_append]; rfl
  rw [e1, e2, Lib.join_cons, Lib.join_cons]
  simp [Lib.joinTail, List.append_assoc]
theorem tk_len (L : List Int) (h : ∀ j, -9223372036854775808 ≤ jat L j ∧ jat L j ≤ 9223372036854775807) (j : Nat) : (tk L j).length ≤ 22 * j := by
  induction j with
  | zero => unfold tk; simp [Lib.join_nil]
  | succ j ih =>
    have hl := Lib.itoa_length_le (jat L j) (h j).1 (h j).2
    by_cases e : j = 0
    · subst e
      rw [tk_one]; omega
    · rw [tk_step L j (by omega), List.length_append, List.length_cons]
      omega
/-- the text of a list -/
def txt (L : List Int) (n : Nat) : List UInt8 := if n = 0 then [110, 111, 110, 101] else tk L n
theorem listS (a : Option Addr) (n cap : Nat) (L : List Int) (w : World) (h : Js w a n cap L) :
    Calls Tryd.prog 26 #[.slice a n cap] w fun e w' => e = .returned (.bool (lst L n)) ∧ w' = w := by
  have HX := Lib.hid h.cell
  have hm := Nat.le_trans h.cap1 h.cap2
  unfold maxLen at hm
  clear h
  go_enter Tryd.func26, Tryd.ntmps26
  go_wp2
  go_loopw [3] (fun i w' => ∃ k : Nat, k ≤ n ∧ i = .int .i64 k ∧ Hid (∀ j, j < k → okv (jat L j) = true) ∧ w' = w) (fun i _ => n - (intOf i).toNat)
  case atStart => exact ⟨0, Nat.zero_le _, rfl, fun j hj => by omega, rfl⟩
  case round =>
    obtain ⟨k, hk, rfl, hA, rfl⟩ := hrel
    by_cases hlt : k < n
    · obtain ⟨b1, o1, rfl, g1⟩ := HX.out k hlt
      obtain ⟨x, hx⟩ : ∃ x, x = L[k]?.getD 0 := ⟨_, rfl⟩
      rw [← hx] at g1
      have HJ := Lib.hid (show x = jat L k from hx)
      clear hx
      cases ho : okv x
      · have HV := Lib.hid (lst_bad hlt (by rw [← HJ.out]; exact ho))
        have hh := okv_no ho
        clear ho
        rcases hh with hh | hh
        · have h2 : ¬ (-1000000000000000 ≤ x) := by omega
          go_wp2
          go_ret
          exact ⟨by rw [HV.out]; rfl, rfl⟩
        · have h2 : ¬ (x ≤ 1000000000000000) := by omega
          have h3 : -1000000000000000 ≤ x := by omega
          go_wp2
          go_ret
          exact ⟨by rw [HV.out]; rfl, rfl⟩
      · have hh := okv_yes ho
        have HO := Lib.hid ho
        obtain ⟨h2, h3⟩ := hh
        clear ho
        go_wp2
        go_roundw
        case rel => exact ⟨k + 1, by omega, by go_num, fun j hj => by
          by_cases e : j = k
          · subst e; rw [← HJ.out]; exact HO.out
          · exact hA.out j (by omega), (by first | rfl | trivial)⟩
        case measure => simp [intOf]; omega
    · have e : k = n := by omega
      subst e
      have HV := Lib.hid (lst_all (L := L) hA.out)
      clear hA
      go_wp2
      go_ret
      exact ⟨by rw [HV.out]; simp; omega, rfl⟩
def okL (L : List Int) (n : Nat) : Prop := n ≤ 64 ∧ ∀ j, j < n → okv (jat L j) = true
theorem okL.rng {L : List Int} {n : Nat} (h : okL L n) {j : Nat} (hj : j < n) : -9223372036854775808 ≤ jat L j ∧ jat L j ≤ 9223372036854775807 := by
  have := okv_yes (h.2 j hj)
  omega
theorem tk_len2 {L : List Int} {n : Nat} (h : okL L n) : ∀ j, j ≤ n → (tk L j).length ≤ 22 * j
  | 0, _ => by unfold tk; simp [Lib.join_nil]
  | j + 1, hj => by
    have ih := tk_len2 h j (by omega)
    obtain ⟨r1, r2⟩ := h.rng (show j < n by omega)
    have hl := Lib.itoa_length_le (jat L j) r1 r2
    by_cases e : j = 0
    · subst e
      rw [tk_one]; omega
    · rw [tk_step L j (by omega), List.length_append, List.length_cons]
      omega
/-- adding texts -/
theorem add_txt (x y : List UInt8) (hx : x.length ≤ 8388608) (hy : y.length ≤ 8388608) (w : World) : (Op.stringOp .add ⟨x.toArray⟩ ⟨y.toArray⟩).run Tryd.prog w = .ok (.string ⟨(x ++ y).toArray⟩) w :=
  run_string_add_lists w x y (by omega) (by omega)
set_option maxHeartbeats 2000000 in
theorem textS (a : Option Addr) (n cap : Nat) (L : List Int) (w : World) (h : Js w a n cap L) (hL : okL L n) :
    Calls Tryd.prog 27 #[.slice a n cap] w (SB (txt L n) w) := by
  have HX := Lib.hid h
  have hm := Nat.le_trans h.cap1 h.cap2
  unfold maxLen at hm
  have HOK := Lib.hid hL
  have hn64 := hL.1
  clear h hL
  by_cases h0 : n = 0
  · subst h0
    go_enter Tryd.func27, Tryd.ntmps27
    go_wp2
    go_ret
    exact ⟨rfl, Below.refl _ _⟩
  · have hn0 : ¬ (n : Int) = 0 := by omega
    have HTX := Lib.hid (show txt L n = tk L n by unfold txt; rw [if_neg h0])
    obtain ⟨b0, o0, rfl, g0⟩ := HX.out.cell 0 (by omega)
    obtain ⟨x, hx⟩ : ∃ x, x = L[0]?.getD 0 := ⟨_, rfl⟩
    rw [← hx, Nat.add_zero] at g0
    have HJ := Lib.hid (show x = jat L 0 from hx)
    have hr := HOK.out.rng (show 0 < n by omega)
    rw [← HJ.out] at hr
    have hn1 : (0 : Int) < (n : Int) := by omega
    have hn2 : ¬ (n : Int) ≤ 0 := by omega
    clear hx h0
    go_enter Tryd.func27, Tryd.ntmps27
    go_wp2_with fail
    refine (decS x hr.1 hr.2 w).mono ?_
    rintro e w1 ⟨rfl, A⟩
    have HA := Lib.hid A
    clear A g0 hr
    have HT1 := Lib.hid (show Lib.itoa x = tk L 1 by rw [tk_one, HJ.out])
    obtain ⟨l, hl⟩ : ∃ l, l = Lib.itoa x := ⟨_, rfl⟩
    rw [← hl]
    have HLL := Lib.hid (show l = tk L 1 by rw [hl, HT1.out])
    clear hl HT1
    go_wp2
    go_loopw [3, 4] (fun v i w' => ∃ (k : Nat) (l : List UInt8), 1 ≤ k ∧ k ≤ n ∧ v = .string ⟨l.toArray⟩ ∧ i = .int .i64 k ∧ Hid (l = tk L k) ∧ Hid (Below w.heap.size w w')) (fun _ i _ => n - (intOf i).toNat)
    case atStart => exact ⟨1, l, by omega, by omega, rfl, rfl, HLL, HA⟩
    case round =>
      obtain ⟨k, l2, hk1, hk, rfl, rfl, hl2, hB⟩ := hrel
      by_cases hlt : k < n
      · obtain ⟨b1, o1, e1, g1⟩ := HX.out.cell k hlt
        injection e1 with e1
        injection e1 with e1 e2 e3
        subst e1; subst e2
        have g1 := (hB.out.cell (p := ⟨b0, o0 + k, none⟩) (World.block_lt_of_cell? w _ g1)).trans g1
        obtain ⟨y, hy⟩ : ∃ y, y = L[k]?.getD 0 := ⟨_, rfl⟩
        rw [← hy] at g1
        have HJ2 := Lib.hid (show y = jat L k from hy)
        have hr := HOK.out.rng hlt
        rw [← HJ2.out] at hr
        clear hy e3
        go_wp2_with fail
        clear g1
        refine (decS y hr.1 hr.2 _).mono ?_
        rintro e w2 ⟨rfl, A⟩
        have HB2 := Lib.hid (hB.out.trans (A.mono hB.out.size))
        clear A
        have hyl := Lib.itoa_length_le y hr.1 hr.2
        obtain ⟨m, hm2⟩ : ∃ m, m = Lib.itoa y := ⟨_, rfl⟩
        rw [← hm2] at hyl ⊢
        have HM := Lib.hid (show m = Lib.itoa (jat L k) by rw [hm2, HJ2.out])
        have hll : l2.length ≤ 22 * k := by rw [hl2.out]; exact tk_len2 HOK.out k hk
        have ha1 : ∀ w : World, (Op.stringOp .add ⟨#[44]⟩ ⟨m.toArray⟩).run Tryd.prog w = .ok (.string ⟨(44 :: m).toArray⟩) w := fun w => add_txt [44] m (by simp) (by omega) w
        have ha2 : ∀ w : World, (Op.stringOp .add ⟨l2.toArray⟩ ⟨(44 :: m).toArray⟩).run Tryd.prog w = .ok (.string ⟨(l2 ++ 44 :: m).toArray⟩) w := fun w => add_txt l2 (44 :: m) (by omega) (by simp; omega) w
        have HN := Lib.hid (show l2 ++ 44 :: m = tk L (k + 1) by rw [tk_step L k hk1, hl2.out, HM.out])
        obtain ⟨m2, hm3⟩ : ∃ m2, m2 = 44 :: m := ⟨_, rfl⟩
        obtain ⟨l3, hl3⟩ : ∃ l3, l3 = l2 ++ 44 :: m := ⟨_, rfl⟩
        rw [← hl3] at ha2 HN
        rw [← hm3] at ha1 ha2
        clear hm2 hr hm3 hl3 hyl hll
        go_wp2
        go_roundw
        case rel => exact ⟨k + 1, l3, by omega, by omega, rfl, by go_num, HN, HB2⟩
        case measure => simp [intOf]; omega
      · have e : k = n := by omega
        subst e
        have HE := Lib.hid (show txt L k = l2 by rw [HTX.out, hl2.out])
        go_wp2
        go_ret
        exact ⟨by rw [HE.out]; rfl, hB.out⟩
end Go.Proofs.YtidfjjmhohkejaaDoor
