/- The pieces of a text between commas: the reference's walk, and the program's (strings.Split). -/
import Derived.Test.YtidfjjmhohkejaaDoorRlP
import Derived.Test.YtidfjjmhohkejaaDoorRdI
import Derived.Laws.Strings2
namespace Go.Proofs.YtidfjjmhohkejaaDoor
open Go.RowKit Go.Fl Go.Reg Go.PlainAid
/-- the pieces, in a row of the call's own -/
def PS (s : ByteArray) (w : World) (e : Ending) (w' : World) : Prop := ∃ g c, e = .returned (.slice (some ⟨g, 0, none⟩) (cutF [] s.data.toList).length c) ∧ Ss w' w.heap.size (.slice (some ⟨g, 0, none⟩) (cutF [] s.data.toList).length c) (cutF [] s.data.toList).length (cutF [] s.data.toList) ∧ Below w.heap.size w w'
theorem bt_at {s : ByteArray} {k : Nat} (h : k < s.size) : s.data.toList[k]? = some 44 ↔ bt s k = 44 := by
  have e : s.data.toList[k]? = some s[k] := by rw [List.getElem?_eq_getElem (by simpa using h)]; rfl
  rw [e]
  unfold bt
  rw [dif_pos h]
  constructor
  · intro x; injection x with x; rw [x]; rfl
  · intro x
    have : (s[k]).toNat = 44 := by omega
    congr 1
    exact UInt8.toNat_inj.1 (by rw [this]; rfl)
set_option maxHeartbeats 4000000 in
set_option maxRecDepth 100000 in
theorem cutS (s : ByteArray) (w : World) (hs : s.size ≤ 1048576) : Calls Tryd.prog 33 #[.string s, .int .u8 44] w (PS s w) := by
  obtain ⟨i0, hi, hz0, hz1, hz2⟩ := info_parts infoStr
  have HI := Lib.hid hi
  have HZ0 := Lib.hid hz0
  have HZ1 := Lib.hid hz1
  have HZ2 := Lib.hid hz2
  clear hi hz0 hz1 hz2
  have hlen : s.data.toList.length = s.size := Array.length_toList
  have HLEN := Lib.hid hlen
  clear hlen
  have HBT := Lib.hid (get_bt s)
  go_enter Tryd.func33, Tryd.ntmps33
  go_wp2
  go_loopw [5, 6, 7] (fun v f i w' => ∃ (k fr j g c : Nat) (done : List (List UInt8)), k ≤ s.size + 1 ∧ j ≤ k ∧ fr ≤ k ∧ v = .slice (some ⟨g, 0, none⟩) j c ∧ f = .int .i64 fr ∧ i = .int .i64 k ∧ Hid (CI s.data.toList done fr k) ∧ Hid (Ss w' w.heap.size (.slice (some ⟨g, 0, none⟩) j c) j done) ∧ Hid (Below w.heap.size w w')) (fun _ _ i _ => s.size + 1 - (RowKit.intOf i).toNat)
  case atStart => exact ⟨0, 0, 0, _, 0, [], by omega, by omega, by omega, rfl, rfl, rfl, CI.start _, Ss.start w, (Below.refl _ _).alloc (Nat.le_refl _) _⟩
  case round =>
    obtain ⟨k, fr, j, g, c, done, hk, hjk, hfk, rfl, rfl, rfl, hC, hS, hB⟩ := hrel
    have zB : w.heap.size ≤ wr.heap.size := hB.out.size
    by_cases hle : k ≤ s.size
    · have hfr : fr ≤ k := hC.out.rng (by rw [HLEN.out]; exact hle)
      obtain ⟨l, hl⟩ : ∃ l, l = (s.data.toList.drop fr).take (k - fr) := ⟨_, rfl⟩
      have hx : s.extract fr k = (⟨l.toArray⟩ : ByteArray) := by rw [hl]; exact Lib.extract_eq s fr k
      have HL := Lib.hid hl
      have hsl : ∀ w' : World, (Instr.slice 9 (.string s) (some (.int .i64 (fr : Int))) (some (.int .i64 (k : Int))) none).run Tryd.prog w' = .ok (.string ⟨l.toArray⟩) w' := fun w' => by
        rw [run_slice_string w' 9 s .i64 .i64 fr k Tryd.underlying9 (by omega) (by omega) (by omega)]
        rw [← hx]; rfl
      clear hl hx
      by_cases he : k = s.size
      · skip
        have HC2 := Lib.hid (hC.out.last (by rw [HLEN.out]; exact he))
        rw [← HL.out] at HC2
        clear hC
        subst he
        go_wp2_with (at_builtin; refine wpList_append_own _ rfl (.tmp 26) (.tmp 31) 40 rfl w.heap.size 9 i0 (.string ⟨#[]⟩) 1 16 Tryd.underlying40 HI.out HZ0.out HZ1.out HZ2.out rfl (by decide) (.slice (some ⟨g, 0, none⟩) j c) j (done.map sv) rfl (own_below hS.out.own ((Below.refl _ _).alloc (Nat.le_refl _) _)) ⟨wr.heap.size, 0, none⟩ 1 1 [sv l] rfl rfl (one_at _ _ _) (one_cell _) (by unfold maxLen; omega) (by omega) (by simp; omega) ?_)
        intro v' w9 hown hgr hnil
        have T9 := Lib.hid ((hB.out.alloc zB _).grown hgr (by simp <;> omega) (fun q hq => (hS.out.own.lt q hq).1))
        obtain ⟨g9, c9, rfl, S9⟩ := hS.out.app hown hnil T9.out.size
        have HS9 := Lib.hid S9
        clear hown hgr hnil S9
        go_wp2
        go_roundw
        case rel => exact ⟨s.size + 1, s.size + 1, j + 1, g9, c9, _, by omega, by omega, by omega, (by go_num), (by go_num), (by go_num), HC2, HS9, T9⟩
        case measure => (simp [RowKit.intOf] <;> omega)
      · skip
        have hlt : k < s.size := by omega
        have hei : ¬ (k : Int) = (s.size : Int) := by omega
        obtain ⟨b, hbb⟩ : ∃ b, b = bt s k := ⟨_, rfl⟩
        have hb2 : ∀ (h : k < s.size), ((s[k]'h).toNat : Int) = b := fun h => by rw [HBT.out k h, hbb]
        by_cases hc : b = 44
        · skip
          have HC2 := Lib.hid (hC.out.comma (by rw [HLEN.out]; exact hlt) ((bt_at hlt).2 (by rw [← hbb]; exact hc)))
          rw [← HL.out] at HC2
          clear hbb he hC
          go_wp2_with (at_builtin; refine wpList_append_own _ rfl (.tmp 26) (.tmp 31) 40 rfl w.heap.size 9 i0 (.string ⟨#[]⟩) 1 16 Tryd.underlying40 HI.out HZ0.out HZ1.out HZ2.out rfl (by decide) (.slice (some ⟨g, 0, none⟩) j c) j (done.map sv) rfl (own_below hS.out.own ((Below.refl _ _).alloc (Nat.le_refl _) _)) ⟨wr.heap.size, 0, none⟩ 1 1 [sv l] rfl rfl (one_at _ _ _) (one_cell _) (by unfold maxLen; omega) (by omega) (by simp; omega) ?_)
          intro v' w9 hown hgr hnil
          have T9 := Lib.hid ((hB.out.alloc zB _).grown hgr (by simp <;> omega) (fun q hq => (hS.out.own.lt q hq).1))
          obtain ⟨g9, c9, rfl, S9⟩ := hS.out.app hown hnil T9.out.size
          have HS9 := Lib.hid S9
          clear hown hgr hnil S9
          go_wp2
          go_roundw
          case rel => exact ⟨k + 1, k + 1, j + 1, g9, c9, _, by omega, by omega, by omega, (by go_num), (by go_num), (by go_num), HC2, HS9, T9⟩
          case measure => (simp [RowKit.intOf] <;> omega)
        · skip
          have HC2 := Lib.hid (hC.out.other (by rw [HLEN.out]; exact hlt) (fun e => hc (by rw [hbb]; exact (bt_at hlt).1 e)))
          have hbe : (b == 44) = false := by simpa using hc
          have hke : ((k : Int) == (s.size : Int)) = false := by simpa using hei
          clear hbb he hC hsl HL
          go_wp2
          go_roundw
          case rel => exact ⟨k + 1, fr, j, g, c, _, by omega, by omega, by omega, rfl, rfl, (by go_num), HC2, hS, hB⟩
          case measure => (simp [RowKit.intOf] <;> omega)
    · have hd := hC.out.fin (by rw [HLEN.out]; exact hle)
      have hj := hS.out.len
      rw [hd] at hj
      have HD := Lib.hid hd
      have HJ := Lib.hid hj
      have hgt : ¬ (k : Int) ≤ (s.size : Int) := by omega
      clear hd hj hC
      go_wp2
      go_ret
      have hd := HD.out
      have hj := HJ.out
      subst hd
      exact ⟨g, c, by rw [hj]; rfl, by rw [hj]; exact hS.out, hB.out⟩
theorem row_many (w : World) (B : Nat) (e : TypeId) (cs : List Value) (hB : B ≤ w.heap.size) (hm : cs.length ≤ maxLen) : (w.alloc (.cells cs.toArray e)).ownsRow B e 1 (.slice (some ⟨w.heap.size, 0, none⟩) cs.length cs.length) cs.length cs :=
  ⟨by simp, .inr ⟨w.heap.size, cs.length, cs.toArray, rfl, hB, heap_alloc_new w _, Nat.le_refl _, hm, by simp, by simp⟩⟩
theorem splitI (s : ByteArray) (w : World) (hs : s.size ≤ 1048576) (h : ∃ m, w.cell? ⟨3, 0, none⟩ = some (.int .i64 m)) : Calls Tryd.prog 34 #[.string s, .string ⟨#[44]⟩] w (PS s w) := by
  obtain ⟨m, hm⟩ := h
  have key := Tryd.strings_Split s ⟨#[44]⟩ m w (by omega) hm (by decide)
  refine key.mono ?_
  rintro e w' ⟨rfl, rfl⟩
  have e1 : (Lib.splitB ⟨#[44]⟩ 0 (Lib.countB s ⟨#[44]⟩) s).map (·.data.toList) = cutF [] s.data.toList := by
    rw [Lib.splitB_data]
    exact split_cut _ _ (Nat.le_refl _)
  have e2 : (Lib.splitB ⟨#[44]⟩ 0 (Lib.countB s ⟨#[44]⟩) s).map Value.string = (cutF [] s.data.toList).map sv := by
    rw [← e1, List.map_map]
    rfl
  have e3 : Lib.countB s ⟨#[44]⟩ + 1 = (cutF [] s.data.toList).length := by
    rw [← Lib.splitB_all ⟨#[44]⟩ (by decide) 0 _ s rfl, ← e1, List.length_map]
  have hl := cutF_len s.data.toList []
  have hlen : s.data.toList.length = s.size := Array.length_toList
  rw [e2, e3]
  refine ⟨w.heap.size, (cutF [] s.data.toList).length, rfl, ⟨?_, by simp⟩, (Below.refl _ _).alloc (Nat.le_refl _) _⟩
  have := row_many w w.heap.size 9 ((cutF [] s.data.toList).map sv) (Nat.le_refl _) (by rw [List.length_map]; unfold maxLen; omega)
  rw [List.length_map] at this
  exact this
end Go.Proofs.YtidfjjmhohkejaaDoor
