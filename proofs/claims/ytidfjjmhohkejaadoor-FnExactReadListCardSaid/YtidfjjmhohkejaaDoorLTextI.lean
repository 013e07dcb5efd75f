/- The text of a list of whole numbers: the program's walk. -/
import Derived.Test.YtidfjjmhohkejaaDoorLText
namespace Go.Proofs.YtidfjjmhohkejaaDoor
open Go.RowKit Go.Fl Go.Reg
theorem infoStr : (Tryd.prog.info? 9).map (fun i => (i.zero, i.size, i.bytes)) = some (some (.string ⟨#[]⟩), 1, 16) := by kernel_rfl
def sv (l : List UInt8) : Value := .string ⟨l.toArray⟩
/-- texts in a row of one's own -/
structure Ss (w : World) (B : Nat) (v : Value) (n : Nat) (ys : List (List UInt8)) : Prop where
  own : w.ownsRow B 9 1 v n (ys.map sv)
  le : B ≤ w.heap.size
theorem Ss.len {w : World} {B : Nat} {v : Value} {n : Nat} {ys : List (List UInt8)} (h : Ss w B v n ys) : ys.length = n := by
  have := h.own.1
  rw [List.length_map, Nat.mul_one] at this; exact this
theorem Ss.below {w w' : World} {B : Nat} {v : Value} {n : Nat} {ys : List (List UInt8)} (h : Ss w B v n ys) (hb : Below w.heap.size w w') : Ss w' B v n ys := ⟨own_below h.own hb, Nat.le_trans h.le hb.size⟩
theorem Ss.start (w : World) : Ss (w.alloc (.cells #[] 9)) w.heap.size (.slice (some ⟨w.heap.size, 0, none⟩) 0 0) 0 [] :=
  ⟨World.ownsRow_made w #[] 0 (Nat.le_refl _) (by simp [maxLen]) rfl, by simp⟩
theorem Ss.app {w w' : World} {B g c n : Nat} {ys : List (List UInt8)} {l : List UInt8} {v : Value} (_h : Ss w B (.slice (some ⟨g, 0, none⟩) n c) n ys) (hown : w'.ownsRow B 9 1 v (n + 1) (ys.map sv ++ [sv l])) (hnil : ¬ v = .slice none 0 0) (hB : B ≤ w'.heap.size) :
    ∃ g' c', v = .slice (some ⟨g', 0, none⟩) (n + 1) c' ∧ Ss w' B (.slice (some ⟨g', 0, none⟩) (n + 1) c') (n + 1) (ys ++ [l]) := by
  rcases hown.2 with ⟨e1, _⟩ | ⟨g', c', cur, rfl, _⟩
  · exact absurd e1 hnil
  · exact ⟨g', c', rfl, by rw [List.map_append]; exact hown, hB⟩
theorem one_at (w : World) (v : Value) (t : TypeId) : ∀ (j : Nat) u, [v][j]? = some u → (w.alloc (.cells #[v] t)).cell? ((Addr.mk w.heap.size 0 none).add j) = some u := by
  intro j u hj
  match j, hj with
  | 0, hj =>
    simp at hj
    subst hj
    rw [Addr.add_lit]
    simp [go_sem]
theorem one_cell (l : List UInt8) : ∀ u ∈ [sv l], u.oneCell' = true := by
  intro u hu
  simp at hu
  subst hu
  rfl
def tks (L : List Int) (j : Nat) : List (List UInt8) := (List.range j).map (fun i => Lib.itoa (jat L i))
theorem tks_step (L : List Int) (j : Nat) : tks L (j + 1) = tks L j ++ [Lib.itoa (jat L j)] := by unfold tks; rw [List.range_succ, List.map_append]; rfl
theorem joinI (B g c n : Nat) (ys : List (List UInt8)) (w : World) (h : Ss w B (.slice (some ⟨g, 0, none⟩) n c) n ys) (hn : n ≤ 64) (hl : (Lib.join ys [44]).length ≤ 1048576) :
    Calls Tryd.prog 28 #[.slice (some ⟨g, 0, none⟩) n c] w (SB (if n = 0 then [110, 111, 110, 101] else Lib.join ys [44]) w) := by
  by_cases h0 : n = 0
  · subst h0
    go_enter Tryd.func28, Tryd.ntmps28
    go_wp2
    go_ret
    exact ⟨rfl, Below.refl _ _⟩
  · rw [if_neg h0]
    have hn0 : ¬ (n : Int) = 0 := by omega
    have hcap : n ≤ c := by
      rcases h.own.2 with ⟨e, _⟩ | ⟨g', c', cur, e, _, _, h1, _⟩
      · cases e
      · injection e with e1 e2 e3; subst e3; exact h1
    have hlen := h.len
    have hy : (ys.map fun l => (⟨l.toArray⟩ : ByteArray)).map (·.data.toList) = ys := by rw [List.map_map]; exact List.map_id' ys
    have key := Tryd.strings_Join g 0 c (ys.map fun l => ⟨l.toArray⟩) ⟨#[44]⟩ w (fun j x hj => by
      rw [Nat.zero_add, h.own.cellAt j (by have := (List.getElem?_eq_some_iff.1 hj).1; rw [List.length_map] at this; omega)]
      rw [List.getElem?_map] at hj ⊢
      cases he : ys[j]? with
      | none => rw [he] at hj; cases hj
      | some l => rw [he] at hj; simp at hj; subst hj; rfl) (h.own.lt g rfl).2 (by rw [List.length_map]; omega) (by rw [List.length_map]; omega) (by rw [hy]; exact Nat.le_trans hl (by omega))
    rw [hy, List.length_map, hlen] at key
    have KEY := Lib.hid key
    clear key h hy hl hcap hlen h0
    go_enter Tryd.func28, Tryd.ntmps28
    go_wp2_with fail
    refine KEY.out.mono ?_
    rintro e w1 ⟨rfl, A⟩
    go_wp2
    go_ret
    exact ⟨rfl, A⟩
theorem valueI (x : Int) (w : World) : Calls Tryd.prog 21 #[.int .i64 x] w fun e w' => e = .returned (.bool (okv x)) ∧ w' = w := by
  cases ho : okv x
  · rcases okv_no ho with hh | hh
    · have h2 : ¬ (-1000000000000000 ≤ x) := by omega
      clear ho
      go_enter Tryd.func21, Tryd.ntmps21
      go_wp2_with go_in
      go_ret
      exact ⟨rfl, rfl⟩
    · have h2 : ¬ (x ≤ 1000000000000000) := by omega
      have h3 : -1000000000000000 ≤ x := by omega
      clear ho
      go_enter Tryd.func21, Tryd.ntmps21
      go_wp2_with go_in
      go_ret
      exact ⟨rfl, rfl⟩
  · obtain ⟨h2, h3⟩ := okv_yes ho
    clear ho
    go_enter Tryd.func21, Tryd.ntmps21
    go_wp2_with go_in
    go_ret
    exact ⟨rfl, rfl⟩
/-- a text and whether there is one -/
def TB (l : List UInt8) (ok : Bool) (w : World) (e : Ending) (w' : World) : Prop := e = .returned (.tuple #[.string ⟨l.toArray⟩, .bool ok]) ∧ Below w.heap.size w w'
def ltx (L : List Int) (n : Nat) : List UInt8 := if lst L n = true then txt L n else []
theorem ltx_no {L : List Int} {n : Nat} (h : lst L n = false) : ltx L n = [] := by unfold ltx; rw [h]; rfl
theorem ltx_yes {L : List Int} {n : Nat} (h : lst L n = true) : ltx L n = txt L n := by unfold ltx; rw [if_pos h]
set_option maxHeartbeats 4000000 in
theorem listI (a : Option Addr) (n cap : Nat) (L : List Int) (w : World) (h : Js w a n cap L) (htab : Lib.TabIs Tryd.prog w "internal/strconv.uint64pow10" .u64 Lib.pow10Tab) :
    Calls Tryd.prog 18 #[.slice a n cap] w (TB (ltx L n) (lst L n) w) := by
  obtain ⟨i0, hi, hz0, hz1, hz2⟩ := info_parts infoStr
  have HI := Lib.hid hi
  have HZ0 := Lib.hid hz0
  have HZ1 := Lib.hid hz1
  have HZ2 := Lib.hid hz2
  clear hi hz0 hz1 hz2
  have HX := Lib.hid h
  have hm := Nat.le_trans h.cap1 h.cap2
  unfold maxLen at hm
  have HT := Lib.hid htab
  have HG := Lib.hid (tab_lt htab)
  clear h htab
  by_cases h64 : 64 < n
  · have hv : lst L n = false := by unfold lst; rw [decide_eq_false (show ¬ n ≤ 64 by omega), Bool.and_false]
    have HV := Lib.hid hv
    have HW := Lib.hid (ltx_no hv)
    have h64i : (64 : Int) < (n : Int) := by omega
    clear hv
    go_enter Tryd.func18, Tryd.ntmps18
    go_wp2
    go_ret2
    exact ⟨by rw [HV.out, HW.out]; rfl, Below.refl _ _⟩
  · have h64i : ¬ (64 : Int) < (n : Int) := by omega
    go_enter Tryd.func18, Tryd.ntmps18
    go_wp2
    clear h64i
    go_loopw [4, 13] (fun v i w' => ∃ (k g c : Nat), k ≤ n ∧ i = .int .i64 k ∧ v = .slice (some ⟨g, 0, none⟩) k c ∧ Hid (∀ j, j < k → okv (jat L j) = true) ∧ Hid (Ss w' w.heap.size (.slice (some ⟨g, 0, none⟩) k c) k (tks L k)) ∧ Hid (Below w.heap.size w w')) (fun _ i _ => n - (intOf i).toNat)
    case atStart => exact ⟨0, _, 0, Nat.zero_le _, rfl, rfl, fun j hj => by omega, Ss.start w, (Below.refl _ _).alloc (Nat.le_refl _) _⟩
    case round =>
      obtain ⟨k, g, c, hk, rfl, rfl, hA, hS, hB⟩ := hrel
      by_cases hlt : k < n
      · obtain ⟨b1, o1, rfl, g1⟩ := HX.out.cell k hlt
        have g1 := (hB.out.cell (p := ⟨b1, o1 + k, none⟩) (World.block_lt_of_cell? w _ g1)).trans g1
        obtain ⟨x, hx⟩ : ∃ x, x = L[k]?.getD 0 := ⟨_, rfl⟩
        rw [← hx] at g1
        have HJ := Lib.hid (show x = jat L k from hx)
        clear hx
        go_wp2_with fail
        clear g1
        refine (valueI x _).mono ?_
        rintro e wx ⟨rfl, hsame⟩
        replace hsame := hsame.symm
        subst hsame
        cases ho : okv x
        · have hv := lst_bad hlt (by rw [← HJ.out]; exact ho)
          have HV := Lib.hid hv
          have HW := Lib.hid (ltx_no hv)
          clear ho hv
          go_wp2
          go_ret2
          exact ⟨by rw [HV.out, HW.out]; rfl, hB.out⟩
        · have HO := Lib.hid ho
          have hr := okv_yes ho
          clear ho
          go_wp2_with fail
          refine (decI x (by omega) (by omega) _ (tab_below HT.out hB.out HG.out)).mono ?_
          rintro e w2 ⟨rfl, A⟩
          have hS := Lib.hid (hS.out.below A)
          have hB := Lib.hid (hB.out.trans (A.mono hB.out.size))
          have HA2 := Lib.hid A
          clear A hr
          have zB : w.heap.size ≤ w2.heap.size := hB.out.size
          obtain ⟨l, hl⟩ : ∃ l, l = Lib.itoa x := ⟨_, rfl⟩
          rw [← hl]
          have HLL := Lib.hid (show l = Lib.itoa (jat L k) by rw [hl, HJ.out])
          clear hl
          go_wp2_with (at_builtin; refine wpList_append_own _ rfl (.tmp 20) (.tmp 23) 40 rfl w.heap.size 9 i0 (.string ⟨#[]⟩) 1 16 Tryd.underlying40 HI.out HZ0.out HZ1.out HZ2.out rfl (by decide) (.slice (some ⟨g, 0, none⟩) k c) k ((tks L k).map sv) rfl (own_below hS.out.own ((Below.refl _ _).alloc (Nat.le_refl _) _)) ⟨w2.heap.size, 0, none⟩ 1 1 [sv l] rfl rfl (one_at _ _ _) (one_cell _) (by unfold maxLen; omega) (by omega) (by simp; omega) ?_)
          intro v' w9 hown hgr hnil
          have T9 := Lib.hid ((hB.out.alloc (by omega) _).grown hgr (by simp <;> omega) (fun q hq => (hS.out.own.lt q hq).1))
          obtain ⟨g9, c9, rfl, S9⟩ := hS.out.app hown hnil T9.out.size
          rw [HLL.out, ← tks_step] at S9
          have HS9 := Lib.hid S9
          clear hown hgr hnil S9
          go_wp2
          go_roundw
          case rel => exact ⟨k + 1, g9, c9, by omega, by go_num, (by go_num), fun j hj => by
            by_cases e : j = k
            · subst e; rw [← HJ.out]; exact HO.out
            · exact hA.out j (by omega), HS9, T9⟩
          case measure => simp [intOf]; omega
      · have e : k = n := by omega
        subst e
        have hv : lst L k = true := by rw [lst_all hA.out]; exact decide_eq_true (by omega)
        have HV := Lib.hid hv
        have HW := Lib.hid (show ltx L k = if k = 0 then [110, 111, 110, 101] else Lib.join (tks L k) [44] by rw [ltx_yes hv]; rfl)
        have hll : (Lib.join (tks L k) [44]).length ≤ 1048576 := by
          have := tk_len2 (lst_yes hv) k (Nat.le_refl _)
          have e : tk L k = Lib.join (tks L k) [44] := rfl
          rw [← e]; omega
        have HLL := Lib.hid hll
        clear hv hll
        go_wp2_with fail
        refine (joinI _ _ _ _ _ _ hS.out (by omega) HLL.out).mono ?_
        rintro e w3 ⟨rfl, A⟩
        have T := Lib.hid (hB.out.trans (A.mono hB.out.size))
        clear A
        rw [← HW.out]
        go_wp2
        go_ret2
        exact ⟨by rw [HV.out]; rfl, T.out⟩
end Go.Proofs.YtidfjjmhohkejaaDoor
