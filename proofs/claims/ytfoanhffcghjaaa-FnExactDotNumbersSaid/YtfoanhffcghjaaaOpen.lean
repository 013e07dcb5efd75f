/- An argument that is a slice of numbers, opened. -/
import Derived.Test.YtfoanhffcghjaaaMem
import Derived.Deep.Slices
import Derived.ProofKit
namespace Go.Fl
open Go.RowKit Go.ChangeShapes Go.WideShapes

def bitsOf : Value → Nat
  | .float _ b => b
  | _ => 0

section
variable {H : Type} {enc : TypeId × Value → H} {P : Program} {w : World} {base : Nat} {spare : Nat → Bool} {held : Bool}
theorem trod_float {t : TypeId} {k : FloatKind} {n : Nat} {v : Value} {x : DataW H × List MemPlace} (ht : P.underlying t = some (.float k)) (h : DataW.trod enc P w base spare held n t [v] = some x) :
    ∃ b, v = .float k b ∧ (Lit.float k b).wf = true := by
  cases n with
  | zero => simp [DataW.trod] at h
  | succ n =>
    simp only [DataW.trod, ht] at h
    cases v with
    | float k' b =>
      by_cases hk : k' = k ∧ (Lit.float k b).wf = true
      · exact ⟨b, by rw [hk.1], hk.2⟩
      · simp [hk] at h
    | _ => simp at h
theorem open_floats {r : Reach} {b0 : Nat} {t e : TypeId} {v : Value} {d : DataW H} {ps : List MemPlace} (ht : P.underlying t = some (.slice e)) (he : P.underlying e = some (.float .f32)) (hc : P.cellsOf e = 1)
    (hval : Value.okWide P w r b0 t v) (hd : DataW.Trod enc P w base spare held t v d ps) :
    ∃ a n cap xs, v = .slice a n cap ∧ Fs w a n cap xs ∧ ∀ x ∈ xs, x < 4294967296 := by
  obtain ⟨a, n, cap, rfl⟩ := okWide_slice ht hval
  obtain ⟨fuel, hf⟩ := hd
  rcases Deep.open_slice1 ht hc hf with ⟨hcs, _⟩ | ⟨x, l, c, m, k, V, D, Pl, hcs, _, hl, hm, hmm, _, hx⟩
  · simp [Value.cells] at hcs
    obtain ⟨rfl, rfl, rfl⟩ := hcs
    exact ⟨none, 0, 0, [], rfl, Fs.nil w, fun _ h => absurd h List.not_mem_nil⟩
  · simp [Value.cells] at hcs
    obtain ⟨rfl, rfl, rfl⟩ := hcs
    have hlm : n ≤ m := by rw [hmm]; split <;> omega
    have hb : ∀ i, i < n → ∃ b, V i = .float .f32 b ∧ b < 4294967296 := fun i hi => by
      obtain ⟨b, h1, h2⟩ := trod_float he (hx i (by omega)).2
      exact ⟨b, h1, by simpa [Lit.wf] using h2⟩
    refine ⟨some x, n, cap, (List.range n).map (fun i => bitsOf (V i)), rfl, ⟨by simp, hl, hm, fun i hi => ?_⟩, ?_⟩
    · obtain ⟨b, o, s⟩ := x
      have hci := (hx i (by omega)).1
      have hs : s = none := by simpa [Addr.add] using World.cell?_spot (hx 0 (by omega)).1
      subst hs
      obtain ⟨q, hq, _⟩ := hb i hi
      refine ⟨b, o, rfl, ?_⟩
      rw [Addr.add_lit] at hci
      rw [hci, hq]; simp [hi, hq, bitsOf]
    · intro y hy
      obtain ⟨i, hi, rfl⟩ := List.mem_map.1 hy
      obtain ⟨q, hq, h2⟩ := hb i (List.mem_range.1 hi)
      rw [hq]; exact h2
end
end Go.Fl
