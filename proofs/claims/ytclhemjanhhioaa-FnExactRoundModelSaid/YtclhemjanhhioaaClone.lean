/- A list of numbers copied: the spec's l02Own and the library's slices.Clone. -/
import Derived.Test.YtclhemjanhhioaaLst
import Derived.Test.YtclhemjanhhioaaOwn
import Derived.Test.YtclhemjanhhioaaAcc
import Derived.WalkSpells
namespace Go.Proofs.Ytclhemjanhhioaa
open Go.RowKit Go.Fl Go.Reg
/-- a row of its own is handed back, word for word -/
def RW (t : TypeId) (w : World) (n : Nat) (xs : List Nat) (e : Ending) (w' : World) : Prop :=
  ∃ a cap, e = .returned (.slice (some a) n cap) ∧ Row w' w.heap.size w'.heap.size t (.slice (some a) n cap) n xs ∧ Below w.heap.size w w'
theorem made0 (w : World) (t : TypeId) : (w.alloc (.cells #[] t)).ownsRow w.heap.size t 1 (.slice (some ⟨w.heap.size, 0, none⟩) 0 0) 0 (fl []) := World.ownsRow_made w #[] 0 (Nat.le_refl _) (by simp [maxLen]) rfl
theorem some_of {w : World} {base n cap : Nat} {t : TypeId} {a : Option Addr} {xs : List Value} (h : w.ownsRow base t 1 (.slice a n cap) n xs) (hn : ¬ (Value.slice a n cap = .slice none 0 0)) : ∃ g, a = some ⟨g, 0, none⟩ := by
  rcases h.2 with ⟨e, _⟩ | ⟨g, c, cur, e, _⟩
  · exact absurd e hn
  · injection e with e1; exact ⟨g, e1⟩
theorem add_at (b o j : Nat) : (⟨b, o, none⟩ : Addr).add j = ⟨b, o + j, none⟩ := by
  unfold Addr.add
  split
  · rename_i h; subst h; rfl
  · rfl
theorem rw_end {t : TypeId} {w w0 w' : World} {n m : Nat} {xs : List Nat} {v : Value} (hw : w0 = w.alloc (.cells #[] t)) (hown : w'.ownsRow w.heap.size t 1 v m (fl [] ++ fl xs)) (hm : m = n) (hg : w0.grownBy w' (Value.slice (some ⟨w.heap.size, 0, none⟩) 0 0).ownBlock) (hz : v = .slice none 0 0 ↔ (Value.slice (some ⟨w.heap.size, 0, none⟩) 0 0) = .slice none 0 0 ∧ m = 0) : RW t w n xs (.returned v) w' := by
  subst hm
  rw [show fl [] ++ fl xs = fl xs from rfl] at hown
  obtain ⟨a, cap, rfl, hp⟩ := own_shape hown
  have hne : ¬ (Value.slice a m cap = .slice none 0 0) := fun e => by have := (hz.1 e).1; cases this
  obtain ⟨g, rfl⟩ := some_of hown hne
  subst hw
  have hA : Below w.heap.size w (w.alloc (.cells #[] t)) := (Below.refl _ _).alloc (Nat.le_refl _) _
  have hB : Below w.heap.size w w' := hA.trans (bel_grow hg (Nat.le_refl _) (by simp))
  exact ⟨_, cap, rfl, Row.of hown hB.size, hB⟩
theorem ownS (b o n cap : Nat) (xs : List Nat) (w : World) (hn : n ≤ 1048576) (h1 : Fs w (some ⟨b, o, none⟩) n cap xs) :
    Calls Try.prog 52 #[.slice (some ⟨b, o, none⟩) n cap] w (RW 67 w n xs) := by
  obtain ⟨i0, hi, hz0, hz1, hz2⟩ := info_parts infoF32
  have HI := Lib.hid hi
  have HZ0 := Lib.hid hz0
  have HZ1 := Lib.hid hz1
  have HZ2 := Lib.hid hz2
  have H1 := Lib.hid h1
  have HL := Lib.hid h1.len
  clear hi hz0 hz1 hz2 h1
  go_enter Try.func52, Try.ntmps52
  go_wp2_with (at_builtin; refine wpList_append_own _ rfl (.tmp 3) (.tmp 4) 22 rfl w.heap.size 67 i0 (.float .f32 0) 1 4 Try.underlying22 HI.out HZ0.out HZ1.out HZ2.out rfl (by decide) (.slice (some ⟨w.heap.size, 0, none⟩) 0 0) 0 (fl []) rfl (made0 w _) ⟨b, o, none⟩ n cap (fl xs) rfl (by rw [fl_length, Nat.mul_one]; exact HL.out.symm) ?c1 (fl_one xs) (by unfold maxLen; omega) (by omega) (by simp) ?_)
  case c1 =>
    intro j u hj
    have hjl : j < xs.length := by
      rcases Nat.lt_or_ge j (fl xs).length with h | h
      · rwa [fl_length] at h
      · rw [List.getElem?_eq_none h] at hj; cases hj
    rw [fl_get xs j hjl] at hj
    injection hj with hj
    subst hj
    obtain ⟨b', o', e, hc⟩ := (H1.out.alloc (.cells #[] 67)).cell j (by have := HL.out; omega)
    injection e with e; injection e with e1 e2 e3
    subst e1; subst e2
    rw [add_at]; exact hc
  intro v' w2 hown hgr hz
  have HO := Lib.hid hown
  have HG := Lib.hid hgr
  have HZ := Lib.hid hz
  clear hown hgr hz
  go_wp2
  go_ret
  exact rw_end (v := v') rfl HO.out (by omega) HG.out (by simpa using HZ.out)
theorem cloneI (b o n cap : Nat) (xs : List Nat) (w : World) (hn : n ≤ 1048576) (h1 : Fs w (some ⟨b, o, none⟩) n cap xs) :
    Calls Try.prog 54 #[.slice (some ⟨b, o, none⟩) n cap] w (RW 67 w n xs) := by
  obtain ⟨i0, hi, hz0, hz1, hz2⟩ := info_parts infoF32
  have HI := Lib.hid hi
  have HZ0 := Lib.hid hz0
  have HZ1 := Lib.hid hz1
  have HZ2 := Lib.hid hz2
  have H1 := Lib.hid h1
  have HL := Lib.hid h1.len
  clear hi hz0 hz1 hz2 h1
  have q22 : ∀ (w : World) (a : Option Addr) (n c n' c' : Nat), (binOp .eql 22 (.slice a n c) (.slice none n' c')).run Try.prog w = .ok (.bool a.isNone) w := fun w a n c n' c' => Lib.run_eql_slice_nil w _ _ a n c n' c' Try.underlying22
  go_enter Try.func54, Try.ntmps54
  go_wp2_with (at_builtin; refine wpList_append_own _ rfl (.tmp 5) (.tmp 6) 22 rfl w.heap.size 67 i0 (.float .f32 0) 1 4 Try.underlying22 HI.out HZ0.out HZ1.out HZ2.out rfl (by decide) (.slice (some ⟨w.heap.size, 0, none⟩) 0 0) 0 (fl []) rfl (made0 w _) ⟨b, o, none⟩ n cap (fl xs) rfl (by rw [fl_length, Nat.mul_one]; exact HL.out.symm) ?c1 (fl_one xs) (by unfold maxLen; omega) (by omega) (by simp) ?_)
  case c1 =>
    intro j u hj
    have hjl : j < xs.length := by
      rcases Nat.lt_or_ge j (fl xs).length with h | h
      · rwa [fl_length] at h
      · rw [List.getElem?_eq_none h] at hj; cases hj
    rw [fl_get xs j hjl] at hj
    injection hj with hj
    subst hj
    obtain ⟨b', o', e, hc⟩ := (H1.out.alloc (.cells #[] 67)).cell j (by have := HL.out; omega)
    injection e with e; injection e with e1 e2 e3
    subst e1; subst e2
    rw [add_at]; exact hc
  intro v' w2 hown hgr hz
  have HO := Lib.hid hown
  have HG := Lib.hid hgr
  have HZ := Lib.hid hz
  clear hown hgr hz
  go_wp2
  go_ret
  exact rw_end (v := v') rfl HO.out (by omega) HG.out (by simpa using HZ.out)
end Go.Proofs.Ytclhemjanhhioaa
