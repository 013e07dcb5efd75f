/- An argument that is a slice of whole numbers, opened. -/
import Derived.Test.YtidfjjmhohkejaaDoorInts
import Derived.Deep.Slices
import Derived.ProofKit
import Derived.Lib.SmallJoins
namespace Go.Fl
open Go.RowKit Go.ChangeShapes Go.WideShapes
def intsOf : Value → Int
  | .int _ b => b
  | _ => 0
theorem Js.below {w w' : World} {a : Option Addr} {n cap : Nat} {xs : List Int} (h : Js w a n cap xs) (hb : Below w.heap.size w w') : Js w' a n cap xs :=
  ⟨h.len, h.cap1, h.cap2, fun i hi => by
    obtain ⟨b, o, e, hc⟩ := h.cell i hi
    exact ⟨b, o, e, (hb.cell (p := ⟨b, o + i, none⟩) (World.block_lt_of_cell? w _ hc)).trans hc⟩⟩
section
variable {H : Type} {enc : TypeId × Value → H} {P : Program} {w : World} {base : Nat} {spare : Nat → Bool} {held : Bool}
theorem trod_i64 {t : TypeId} {n : Nat} {v : Value} {x : DataW H × List MemPlace} (ht : P.underlying t = some (.int .i64)) (h : DataW.trod enc P w base spare held n t [v] = some x) :
    ∃ q, v = .int .i64 q ∧ (Lit.int .i64 q).wf = true := by
  cases n with
  | zero => simp [DataW.trod] at h
  | succ n =>
    simp only [DataW.trod, ht] at h
    cases v with
    | int k' b =>
      by_cases hk : k' = .i64 ∧ (Lit.int .i64 b).wf = true
      · exact ⟨b, by rw [hk.1], hk.2⟩
      · simp [hk] at h
    | _ => simp at h
theorem open_i64s {r : Reach} {b0 : Nat} {t e : TypeId} {v : Value} {d : DataW H} {ps : List MemPlace} (ht : P.underlying t = some (.slice e)) (he : P.underlying e = some (.int .i64)) (hc : P.cellsOf e = 1)
    (hval : Value.okWide P w r b0 t v) (hd : DataW.Trod enc P w base spare held t v d ps) :
    ∃ a n cap xs, v = .slice a n cap ∧ Js w a n cap xs := by
  obtain ⟨a, n, cap, rfl⟩ := okWide_slice ht hval
  obtain ⟨fuel, hf⟩ := hd
  rcases Deep.open_slice1 ht hc hf with ⟨hcs, _⟩ | ⟨x, l, c, m, k, V, D, Pl, hcs, _, hl, hm, hmm, _, hx⟩
  · simp [Value.cells] at hcs
    obtain ⟨rfl, rfl, rfl⟩ := hcs
    exact ⟨none, 0, 0, [], rfl, Js.nil w⟩
  · simp [Value.cells] at hcs
    obtain ⟨rfl, rfl, rfl⟩ := hcs
    have hlm : n ≤ m := by rw [hmm]; split <;> omega
    have hb : ∀ i, i < n → ∃ b, V i = .int .i64 b := fun i hi => by
      obtain ⟨b, h1, _⟩ := trod_i64 he (hx i (by omega)).2
      exact ⟨b, h1⟩
    refine ⟨some x, n, cap, (List.range n).map (fun i => intsOf (V i)), rfl, ⟨by simp, hl, hm, fun i hi => ?_⟩⟩
    obtain ⟨b, o, s⟩ := x
    have hci := (hx i (by omega)).1
    have hs : s = none := by simpa [Addr.add] using World.cell?_spot (hx 0 (by omega)).1
    subst hs
    obtain ⟨q, hq⟩ := hb i hi
    refine ⟨b, o, rfl, ?_⟩
    rw [Addr.add_lit] at hci
    rw [hci, hq]; simp [hi, hq, intsOf]
end
end Go.Fl
