/- A number's decimal text: the reference's walk and the program's. -/
import Derived.Test.YtidfjjmhohkejaaDoorRows
import Derived.Test.YtidfjjmhohkejaaDoorShelf
import Derived.Maps.AppendAt
import Derived.Lib.ItoaLen
import Derived.Lib.AppendIntMem
import Derived.Lib.Hide
import Derived.Lib.LaidTab
import Derived.Laws.IdiomStrings
import Derived.OwnWalk
import Derived.WalkKit
import Derived.BigCall
import Derived.IntWalk
import Derived.WalkSmall
namespace Go.Proofs.YtidfjjmhohkejaaDoor
open Go.RowKit Go.Lib
theorem infoB : (Tryd.prog.info? 5).map (fun i => (i.zero, i.size, i.bytes)) = some (some (.int .u8 0), 1, 1) := by kernel_rfl
theorem row_one (w : World) (B : Nat) (e : TypeId) (v : Value) (hB : B ≤ w.heap.size) : (w.alloc (.cells #[v] e)).ownsRow B e 1 (.slice (some ⟨w.heap.size, 0, none⟩) 1 1) 1 [v] :=
  ⟨rfl, .inr ⟨w.heap.size, 1, #[v], rfl, hB, heap_alloc_new w _, Nat.le_refl _, by simp [maxLen], rfl, rfl⟩⟩
/-- the digits behind, and what is left before them -/
def DI (m R j : Nat) (o : List UInt8) : Prop := o.length = j ∧ R = m / 10 ^ j ∧ ((o = [] ∧ R = m) ∨ (o ≠ [] ∧ decDigits m = (if R = 0 then [] else decDigits R) ++ o))
theorem DI.start (m : Nat) : DI m m 0 [] := ⟨rfl, by simp, .inl ⟨rfl, rfl⟩⟩
theorem DI.step {m R j : Nat} {o : List UInt8} (h : DI m R j o) (hc : j = 0 ∨ ¬ R = 0) : DI m (R / 10) (j + 1) (UInt8.ofNat (48 + R % 10) :: o) := by
  obtain ⟨h1, h2, h3⟩ := h
  refine ⟨by simp [h1], by rw [h2, Nat.div_div_eq_div_mul, Nat.pow_succ], .inr ⟨by simp, ?_⟩⟩
  have key : decDigits R = (if R / 10 = 0 then [] else decDigits (R / 10)) ++ [UInt8.ofNat (48 + R % 10)] := by
    rw [decDigits]
    split
    · rename_i h
      rw [if_pos (by omega), Nat.mod_eq_of_lt h]; rfl
    · rw [if_neg (by omega)]
  rcases h3 with ⟨rfl, rfl⟩ | ⟨h4, h5⟩
  · rw [key]
  · have hR : ¬ R = 0 := by
      rcases hc with rfl | hc
      · exact absurd (List.length_eq_zero_iff.1 h1) h4
      · exact hc
    rw [h5, if_neg hR, key, List.append_assoc]; rfl
theorem DI.fin {m j : Nat} {o : List UInt8} (h : DI m 0 j o) (hj : ¬ j = 0) : decDigits m = o := by
  obtain ⟨h1, h2, ⟨rfl, _⟩ | ⟨h4, h5⟩⟩ := h
  · exact absurd h1.symm hj
  · rw [h5, if_pos rfl]; rfl
theorem DI.le {m R j : Nat} {o : List UInt8} (h : DI m R j o) (hm : m < 10 ^ 20) (hc : j = 0 ∨ ¬ R = 0) : j < 20 := by
  rcases hc with rfl | hc
  · omega
  · refine Nat.lt_of_not_le fun hj => hc ?_
    rw [h.2.1]
    exact Nat.div_eq_of_lt (Nat.lt_of_lt_of_le hm (Nat.pow_le_pow_right (by omega) hj))
/-- bytes in a row of one's own -/
structure Bs (w : World) (B : Nat) (e : TypeId) (v : Value) (n : Nat) (o : List UInt8) : Prop where
  own : w.ownsRow B e 1 v n (Lib.byteCells o)
  le : B ≤ w.heap.size
theorem Bs.len {w : World} {B : Nat} {e : TypeId} {v : Value} {n : Nat} {o : List UInt8} (h : Bs w B e v n o) : o.length = n := by
  have := h.own.1
  rw [Lib.byteCells_length, Nat.mul_one] at this; exact this
theorem Bs.at {w : World} {B g c : Nat} {e : TypeId} {n : Nat} {o : List UInt8} (h : Bs w B e (.slice (some ⟨g, 0, none⟩) n c) n o) (j : Nat) (u : Value) (hj : (Lib.byteCells o)[j]? = some u) : w.cell? ⟨g, j, none⟩ = some u :=
  (h.own.cellAt j (by have := List.getElem?_eq_some_iff.1 hj; obtain ⟨h1, _⟩ := this; rw [Lib.byteCells_length, h.len] at h1; omega)).trans hj
theorem byte_at (d : Nat) (hd : d < 10) : ((UInt8.ofNat (48 + d)).toNat : Int) = 48 + (d : Int) := by
  have : (UInt8.ofNat (48 + d)).toNat = 48 + d := by
    show (48 + d) % 256 = 48 + d
    omega
  rw [this]; omega
/-- what an append of all bytes behind one makes -/
theorem bs_front {w w' : World} {B g c g0 : Nat} {e : TypeId} {n : Nat} {o : List UInt8} {b : UInt8} {v : Value} (_h : Bs w B e (.slice (some ⟨g, 0, none⟩) n c) n o) (hown : w'.ownsRow B e 1 v (1 + n) ([.int .u8 (b.toNat : Int)] ++ Lib.byteCells o)) (hnil : ¬ v = .slice none 0 0) (hB : B ≤ w'.heap.size) (_hg : g0 = g) :
    ∃ g' c', v = .slice (some ⟨g', 0, none⟩) (n + 1) c' ∧ Bs w' B e (.slice (some ⟨g', 0, none⟩) (n + 1) c') (n + 1) (b :: o) := by
  rw [Nat.add_comm] at hown
  rcases hown.2 with ⟨e1, _⟩ | ⟨g', c', cur, rfl, _⟩
  · exact absurd e1 hnil
  · exact ⟨g', c', rfl, hown, hB⟩
theorem front_at {w : World} {B g c : Nat} {e : TypeId} {n : Nat} {o : List UInt8} (h : Bs w B e (.slice (some ⟨g, 0, none⟩) n c) n o) (ob : Obj) (q : Nat) (u : Value) (hq : (Lib.byteCells o)[q]? = some u) : (w.alloc ob).cell? ((Addr.mk g 0 none).add q) = some u := by
  rw [Addr.add_lit, Nat.zero_add]
  exact (((Below.refl w.heap.size w).alloc (Nat.le_refl _) ob).cell (p := ⟨g, q, none⟩) (h.own.lt g rfl).2).trans (h.at q u hq)
theorem bytes_one (o : List UInt8) : ∀ u ∈ Lib.byteCells o, u.oneCell' = true := by
  intro u hu
  obtain ⟨b, _, rfl⟩ := List.mem_map.1 hu
  rfl
theorem Bs.conv {w : World} {B g c n : Nat} {o : List UInt8} (h : Bs w B 5 (.slice (some ⟨g, 0, none⟩) n c) n o) : (convert 49 9 (.slice (some ⟨g, 0, none⟩) n c)).run Tryd.prog w = .ok (.string ⟨o.toArray⟩) w := by
  have hl := h.len
  subst hl
  refine run_convert_bytes_back (P := Tryd.prog) w 49 9 5 ⟨g, 0, none⟩ c o Tryd.underlying49 Tryd.underlying5 Tryd.underlying9 (fun q hq => ?_)
  rw [Addr.add_lit, Nat.zero_add]
  exact h.at q _ (by simp [Lib.byteCells, hq])
theorem Bs.one {w : World} {B : Nat} {d : Nat} (hd : d < 10) (hB : B ≤ w.heap.size) : Bs (w.alloc (.cells #[.int .u8 (48 + (d : Int))] 5)) B 5 (.slice (some ⟨w.heap.size, 0, none⟩) 1 1) 1 [UInt8.ofNat (48 + d)] := by
  refine ⟨?_, by simp; omega⟩
  have := row_one w B 5 (.int .u8 (48 + (d : Int))) hB
  rw [← byte_at d hd] at this ⊢
  exact this
def SB (l : List UInt8) (w : World) (e : Ending) (w' : World) : Prop := e = .returned (.string ⟨l.toArray⟩) ∧ Below w.heap.size w w'
set_option maxHeartbeats 4000000 in
set_option maxRecDepth 100000 in
theorem decS0 (m : Nat) (w : World) (hm : m ≤ 9223372036854775808) (hm1 : m ≤ 9223372036854775807) :
    Calls Tryd.prog 24 #[.int .i64 (m : Int)] w (SB (decDigits m) w) := by
  obtain ⟨i0, hi, hz0, hz1, hz2⟩ := info_parts infoB
  have HI := Lib.hid hi
  have HZ0 := Lib.hid hz0
  have HZ1 := Lib.hid hz1
  have HZ2 := Lib.hid hz2
  clear hi hz0 hz1 hz2
  go_enter Tryd.func24, Tryd.ntmps24
  go_wp2
  go_loopw [3, 4] (fun v r w' => ∃ (j R g c : Nat) (o : List UInt8), j ≤ 20 ∧ R ≤ m ∧ v = .slice (some ⟨g, 0, none⟩) j c ∧ r = .int .i64 (R : Int) ∧ Hid (DI m R j o) ∧ Hid (Bs w' w.heap.size 5 (.slice (some ⟨g, 0, none⟩) j c) j o) ∧ Hid (Below w.heap.size w w')) (fun v r _ => (match v with | .slice _ 0 _ => 1 | _ => 0) + (RowKit.intOf r).natAbs)
  case atStart =>
    refine ⟨0, m, _, 0, [], by omega, Nat.le_refl _, rfl, rfl, DI.start m, ⟨World.ownsRow_made w #[] 0 (Nat.le_refl _) (by simp [maxLen]) rfl, by simp⟩, (Below.refl _ _).alloc (Nat.le_refl _) _⟩
  case round =>
    obtain ⟨j, R, g, c, o, hj, hR, rfl, rfl, hD, hS, hB⟩ := hrel
    by_cases hc : j = 0 ∨ ¬ R = 0
    · have hj2 := hD.out.le (by omega) hc
      have HD := Lib.hid (hD.out.step hc)
      obtain ⟨d, hd⟩ : ∃ d, d = R % 10 := ⟨_, rfl⟩
      obtain ⟨R', hR'⟩ : ∃ q, q = R / 10 := ⟨_, rfl⟩
      have hd10 : d < 10 := by omega
      have m1 : Int.tmod (R : Int) 10 = (d : Int) := by rw [Int.tmod_eq_emod_of_nonneg (by omega)]; omega
      have m2 : Int.tdiv (R : Int) 10 = (R' : Int) := by rw [Int.tdiv_eq_ediv_of_nonneg (by omega)]; omega
      have hRR : R' ≤ m := by omega
      have m3 : (48 + (d : Int)) % 256 = 48 + (d : Int) := by omega
      have hlt : (j = 0 ∧ R' ≤ R) ∨ R' < R := by omega
      rw [← hd, ← hR'] at HD
      have HD10 := Lib.hid hd10
      clear hd hR'
      have zB : w.heap.size ≤ wr.heap.size := hB.out.size
      have HLT := Lib.hid hlt
      clear hlt
      rcases Nat.eq_zero_or_pos j with j0 | j0
      · skip
        subst j0
        have ho : o = [] := List.length_eq_zero_iff.1 hD.out.1
        subst ho
        have hd1 : ¬ (d : Int) < 0 := by omega
        go_wp2
        go_roundw
        case rel => exact ⟨1, R', _, 1, _, by omega, hRR, rfl, rfl, HD, Bs.one HD10.out zB, hB.out.alloc zB _⟩
        case measure =>
          have hl := HLT.out
          show 0 + ((R' : Int)).natAbs < 1 + ((R : Int)).natAbs
          omega
      · skip
        have hcc : ¬ (j : Int) = 0 := by omega
        have hcr : ((R : Int) != 0) = true := by simp; omega
        have hd1 : ¬ (d : Int) < 0 := by omega
        go_wp2_with (at_builtin; refine wpList_append_own _ rfl (.tmp 24) (.tmp 25) 49 rfl w.heap.size 5 i0 (.int .u8 0) 1 1 Tryd.underlying49 HI.out HZ0.out HZ1.out HZ2.out rfl (by decide) (.slice (some ⟨wr.heap.size, 0, none⟩) 1 1) 1 [.int .u8 (48 + (d : Int))] rfl (row_one wr _ _ _ zB) ⟨g, 0, none⟩ j c (Lib.byteCells o) rfl (by rw [Lib.byteCells_length, hS.out.len, Nat.mul_one]) (front_at hS.out _) (bytes_one o) (by unfold maxLen; omega) (by omega) (by simp; omega) ?_)
        intro v' w9 hown hgr hnil
        have T9 := Lib.hid (((hB.out.alloc (by omega) _).grown hgr (by simp <;> omega) (fun q hq => by first | (simp [Value.ownBlock] at hq; omega) | (injection hq with hq; omega))))
        rw [← byte_at d HD10.out] at hown
        obtain ⟨g9, c9, rfl, S9⟩ := bs_front hS.out hown hnil T9.out.size rfl
        have HS9 := Lib.hid S9
        clear hown hgr hnil S9
        go_wp2
        go_roundw
        case rel => exact ⟨j + 1, R', g9, c9, _, by omega, hRR, (by go_num), rfl, HD, HS9, T9⟩
        case measure =>
          have hl := HLT.out
          refine Nat.lt_of_lt_of_le ?_ (Nat.le_add_left _ _)
          show 0 + ((R' : Int)).natAbs < ((R : Int)).natAbs
          omega
    · have hj0 : ¬ j = 0 := fun e => hc (.inl e)
      have hR0 : R = 0 := by
        by_cases e : R = 0
        · exact e
        · exact absurd (.inr e) hc
      subst hR0
      have HF := Lib.hid (hD.out.fin hj0)
      have hjc : ¬ (j : Int) = 0 := by omega
      have zB : w.heap.size ≤ wr.heap.size := hB.out.size
      clear hc hR
      have hneg : ¬ (m : Int) < 0 := by omega
      have hcv := hS.out.conv
      go_wp2
      go_ret
      exact ⟨by rw [HF.out]; rfl, hB.out⟩
set_option maxHeartbeats 4000000 in
set_option maxRecDepth 100000 in
theorem decS1 (m : Nat) (w : World) (hm : m ≤ 9223372036854775808) (hm0 : 0 < m) :
    Calls Tryd.prog 24 #[.int .i64 (-(m : Int))] w (SB (45 :: decDigits m) w) := by
  obtain ⟨i0, hi, hz0, hz1, hz2⟩ := info_parts infoB
  have HI := Lib.hid hi
  have HZ0 := Lib.hid hz0
  have HZ1 := Lib.hid hz1
  have HZ2 := Lib.hid hz2
  clear hi hz0 hz1 hz2
  go_enter Tryd.func24, Tryd.ntmps24
  go_wp2
  go_loopw [3, 4] (fun v r w' => ∃ (j R g c : Nat) (o : List UInt8), j ≤ 20 ∧ R ≤ m ∧ v = .slice (some ⟨g, 0, none⟩) j c ∧ r = .int .i64 (-(R : Int)) ∧ Hid (DI m R j o) ∧ Hid (Bs w' w.heap.size 5 (.slice (some ⟨g, 0, none⟩) j c) j o) ∧ Hid (Below w.heap.size w w')) (fun v r _ => (match v with | .slice _ 0 _ => 1 | _ => 0) + (RowKit.intOf r).natAbs)
  case atStart =>
    refine ⟨0, m, _, 0, [], by omega, Nat.le_refl _, rfl, rfl, DI.start m, ⟨World.ownsRow_made w #[] 0 (Nat.le_refl _) (by simp [maxLen]) rfl, by simp⟩, (Below.refl _ _).alloc (Nat.le_refl _) _⟩
  case round =>
    obtain ⟨j, R, g, c, o, hj, hR, rfl, rfl, hD, hS, hB⟩ := hrel
    by_cases hc : j = 0 ∨ ¬ R = 0
    · have hj2 := hD.out.le (by omega) hc
      have HD := Lib.hid (hD.out.step hc)
      obtain ⟨d, hd⟩ : ∃ d, d = R % 10 := ⟨_, rfl⟩
      obtain ⟨R', hR'⟩ : ∃ q, q = R / 10 := ⟨_, rfl⟩
      have hd10 : d < 10 := by omega
      have m1 : Int.tmod (-(R : Int)) 10 = -(d : Int) := by rw [Int.neg_tmod, Int.tmod_eq_emod_of_nonneg (by omega)]; omega
      have m2 : Int.tdiv (-(R : Int)) 10 = -(R' : Int) := by rw [Int.neg_tdiv, Int.tdiv_eq_ediv_of_nonneg (by omega)]; omega
      have hRR : R' ≤ m := by omega
      have m3 : (48 + (d : Int)) % 256 = 48 + (d : Int) := by omega
      have hlt : (j = 0 ∧ R' ≤ R) ∨ R' < R := by omega
      rw [← hd, ← hR'] at HD
      have HD10 := Lib.hid hd10
      clear hd hR'
      have zB : w.heap.size ≤ wr.heap.size := hB.out.size
      have HLT := Lib.hid hlt
      clear hlt
      rcases Nat.eq_zero_or_pos j with j0 | j0
      · skip
        subst j0
        have ho : o = [] := List.length_eq_zero_iff.1 hD.out.1
        subst ho
        rcases Nat.eq_zero_or_pos d with d0 | d0
        · have hd1 : ¬ (-(d : Int)) < 0 := by omega
          have e0 : -(d : Int) = (d : Int) := by omega
          rw [e0] at m1 hd1
          clear e0 d0
          go_wp2
          go_roundw
          case rel => exact ⟨1, R', _, 1, _, by omega, hRR, rfl, rfl, HD, Bs.one HD10.out zB, hB.out.alloc zB _⟩
          case measure =>
            have hl := HLT.out
            show 0 + (-(R' : Int)).natAbs < 1 + ((-(R : Int))).natAbs
            omega
        · have hd1 : (-(d : Int)) < 0 := by omega
          clear d0
          go_wp2
          go_roundw
          case rel => exact ⟨1, R', _, 1, _, by omega, hRR, rfl, rfl, HD, Bs.one HD10.out zB, hB.out.alloc zB _⟩
          case measure =>
            have hl := HLT.out
            show 0 + (-(R' : Int)).natAbs < 1 + ((-(R : Int))).natAbs
            omega
      · skip
        have hcc : ¬ (j : Int) = 0 := by omega
        have hcr : ((-(R : Int)) != 0) = true := by simp; omega
        rcases Nat.eq_zero_or_pos d with d0 | d0
        · have hd1 : ¬ (-(d : Int)) < 0 := by omega
          have e0 : -(d : Int) = (d : Int) := by omega
          rw [e0] at m1 hd1
          clear e0 d0
          go_wp2_with (at_builtin; refine wpList_append_own _ rfl (.tmp 24) (.tmp 25) 49 rfl w.heap.size 5 i0 (.int .u8 0) 1 1 Tryd.underlying49 HI.out HZ0.out HZ1.out HZ2.out rfl (by decide) (.slice (some ⟨wr.heap.size, 0, none⟩) 1 1) 1 [.int .u8 (48 + (d : Int))] rfl (row_one wr _ _ _ zB) ⟨g, 0, none⟩ j c (Lib.byteCells o) rfl (by rw [Lib.byteCells_length, hS.out.len, Nat.mul_one]) (front_at hS.out _) (bytes_one o) (by unfold maxLen; omega) (by omega) (by simp; omega) ?_)
          intro v' w9 hown hgr hnil
          have T9 := Lib.hid (((hB.out.alloc (by omega) _).grown hgr (by simp <;> omega) (fun q hq => by first | (simp [Value.ownBlock] at hq; omega) | (injection hq with hq; omega))))
          rw [← byte_at d HD10.out] at hown
          obtain ⟨g9, c9, rfl, S9⟩ := bs_front hS.out hown hnil T9.out.size rfl
          have HS9 := Lib.hid S9
          clear hown hgr hnil S9
          go_wp2
          go_roundw
          case rel => exact ⟨j + 1, R', g9, c9, _, by omega, hRR, (by go_num), rfl, HD, HS9, T9⟩
          case measure =>
            have hl := HLT.out
            refine Nat.lt_of_lt_of_le ?_ (Nat.le_add_left _ _)
            show 0 + (-(R' : Int)).natAbs < ((-(R : Int))).natAbs
            omega
        · have hd1 : (-(d : Int)) < 0 := by omega
          clear d0
          go_wp2_with (at_builtin; refine wpList_append_own _ rfl (.tmp 24) (.tmp 25) 49 rfl w.heap.size 5 i0 (.int .u8 0) 1 1 Tryd.underlying49 HI.out HZ0.out HZ1.out HZ2.out rfl (by decide) (.slice (some ⟨wr.heap.size, 0, none⟩) 1 1) 1 [.int .u8 (48 + (d : Int))] rfl (row_one wr _ _ _ zB) ⟨g, 0, none⟩ j c (Lib.byteCells o) rfl (by rw [Lib.byteCells_length, hS.out.len, Nat.mul_one]) (front_at hS.out _) (bytes_one o) (by unfold maxLen; omega) (by omega) (by simp; omega) ?_)
          intro v' w9 hown hgr hnil
          have T9 := Lib.hid (((hB.out.alloc (by omega) _).grown hgr (by simp <;> omega) (fun q hq => by first | (simp [Value.ownBlock] at hq; omega) | (injection hq with hq; omega))))
          rw [← byte_at d HD10.out] at hown
          obtain ⟨g9, c9, rfl, S9⟩ := bs_front hS.out hown hnil T9.out.size rfl
          have HS9 := Lib.hid S9
          clear hown hgr hnil S9
          go_wp2
          go_roundw
          case rel => exact ⟨j + 1, R', g9, c9, _, by omega, hRR, (by go_num), rfl, HD, HS9, T9⟩
          case measure =>
            have hl := HLT.out
            refine Nat.lt_of_lt_of_le ?_ (Nat.le_add_left _ _)
            show 0 + (-(R' : Int)).natAbs < ((-(R : Int))).natAbs
            omega
    · have hj0 : ¬ j = 0 := fun e => hc (.inl e)
      have hR0 : R = 0 := by
        by_cases e : R = 0
        · exact e
        · exact absurd (.inr e) hc
      subst hR0
      have HF := Lib.hid (hD.out.fin hj0)
      have hjc : ¬ (j : Int) = 0 := by omega
      have zB : w.heap.size ≤ wr.heap.size := hB.out.size
      clear hc hR
      have hneg : (-(m : Int)) < 0 := by omega
      go_wp2_with (at_builtin; refine wpList_append_own _ rfl (.tmp 31) (.tmp 32) 49 rfl w.heap.size 5 i0 (.int .u8 0) 1 1 Tryd.underlying49 HI.out HZ0.out HZ1.out HZ2.out rfl (by decide) (.slice (some ⟨wr.heap.size, 0, none⟩) 1 1) 1 [.int .u8 (45)] rfl (row_one wr _ _ _ zB) ⟨g, 0, none⟩ j c (Lib.byteCells o) rfl (by rw [Lib.byteCells_length, hS.out.len, Nat.mul_one]) (front_at hS.out _) (bytes_one o) (by unfold maxLen; omega) (by omega) (by simp; omega) ?_)
      intro v' w9 hown hgr hnil
      have T9 := Lib.hid (((hB.out.alloc (by omega) _).grown hgr (by simp <;> omega) (fun q hq => by first | (simp [Value.ownBlock] at hq; omega) | (injection hq with hq; omega))))
      have hown : w9.ownsRow w.heap.size 5 1 v' (1 + j) ([.int .u8 (((45 : UInt8).toNat : Nat) : Int)] ++ Lib.byteCells o) := hown
      obtain ⟨g9, c9, rfl, S9⟩ := bs_front hS.out hown hnil T9.out.size rfl
      have HS9 := Lib.hid S9
      clear hown hgr hnil S9 hneg
      have hcv := HS9.out.conv
      go_wp2
      go_ret
      exact ⟨by rw [HF.out]; rfl, T9.out⟩
theorem decS (n : Int) (h0 : -9223372036854775808 ≤ n) (h1 : n ≤ 9223372036854775807) (w : World) : Calls Tryd.prog 24 #[.int .i64 n] w (SB (Lib.itoa n) w) := by
  unfold Lib.itoa
  by_cases h : n < 0
  · rw [if_pos h]
    have e : n = -((n.natAbs : Nat) : Int) := by omega
    have := decS1 n.natAbs w (by omega) (by omega)
    rw [← e] at this
    exact this
  · rw [if_neg h]
    have e : n = ((n.toNat : Nat) : Int) := by omega
    have := decS0 n.toNat w (by omega) (by omega)
    rw [← e] at this
    exact this
theorem decI (n : Int) (h0 : -9223372036854775808 ≤ n) (h1 : n ≤ 9223372036854775807) (w : World) (htab : Lib.TabIs Tryd.prog w "internal/strconv.uint64pow10" .u64 Lib.pow10Tab) : Calls Tryd.prog 15 #[.int .i64 n] w (SB (Lib.itoa n) w) := by
  go_enter Tryd.func15, Tryd.ntmps15
  go_wp2_with fail
  refine (Tryd.strconv_FormatInt_10 n h0 h1 w htab).mono ?_
  rintro e w1 ⟨rfl, k, os, rfl⟩
  go_wp2
  go_ret
  exact ⟨rfl, Lib.below_grow _ _ (Nat.le_refl _) k os⟩
/-- the table in a later world -/
theorem tab_below {w w' : World} (h : Lib.TabIs Tryd.prog w "internal/strconv.uint64pow10" .u64 Lib.pow10Tab) {B : Nat} (hB : Below B w w') (hg : (Tryd.prog.globalNamed "internal/strconv.uint64pow10").all (fun g => decide (g < B)) = true) : Lib.TabIs Tryd.prog w' "internal/strconv.uint64pow10" .u64 Lib.pow10Tab := by
  unfold Lib.TabIs at h ⊢
  unfold World.var? at h ⊢
  cases hn : Tryd.prog.globalNamed "internal/strconv.uint64pow10" with
  | none => rw [hn] at h; simp at h
  | some g =>
    rw [hn] at h hg
    simp only [Option.all_some, decide_eq_true_eq, Option.bind_some] at h hg ⊢
    rw [hB.block g hg]
    exact h
theorem tab_lt {w : World} (h : Lib.TabIs Tryd.prog w "internal/strconv.uint64pow10" .u64 Lib.pow10Tab) : (Tryd.prog.globalNamed "internal/strconv.uint64pow10").all (fun g => decide (g < w.heap.size)) = true := by
  unfold Lib.TabIs World.var? at h
  cases hn : Tryd.prog.globalNamed "internal/strconv.uint64pow10" with
  | none => rfl
  | some g =>
    rw [hn] at h
    simp only [Option.all_some, decide_eq_true_eq, Option.bind_some] at h ⊢
    rcases Nat.lt_or_ge g w.heap.size with x | x
    · exact x
    · rw [Array.getElem?_eq_none x] at h
      simp at h
end Go.Proofs.YtidfjjmhohkejaaDoor
