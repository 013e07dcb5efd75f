/- An argument that is a slice of numbers, opened. -/
import Derived.Test.YtcfnhkadljlgcaaMem
import Derived.Deep.Slices
import Derived.ProofKit
import Derived.Lib.SmallJoins
namespace Go.Fl
open Go.RowKit Go.ChangeShapes Go.WideShapes

def bitsOf : Value → Nat
  | .float _ b => b
  | _ => 0

section
variable {H : Type} {enc : TypeId × Value → H} {P : Program} {w : World} {base : Nat} {spare : Nat → Bool} {held : Bool}
theorem trod_float {t : TypeId} {k : FloatKind} {n : Nat} {v : Value} {x : DataW H × List MemPlace} (ht : P.underlying t = some (.float k)) (h : DataW.trod enc P w base spare held n t [v] = some x) :
    ∃ b, v = .float k b ∧ (Lit.float k b).wf = true := by
  cases n with
  | zero => simp [DataW.trod] at h
  | succ n =>
    simp only [DataW.trod, ht] at h
    cases v with
    | float k' b =>
      by_cases hk : k' = k ∧ (Lit.float k b).wf = true
      · exact ⟨b, by rw [hk.1], hk.2⟩
      · simp [hk] at h
    | _ => simp at h
theorem open_floats {r : Reach} {b0 : Nat} {t e : TypeId} {v : Value} {d : DataW H} {ps : List MemPlace} (ht : P.underlying t = some (.slice e)) (he : P.underlying e = some (.float .f32)) (hc : P.cellsOf e = 1)
    (hval : Value.okWide P w r b0 t v) (hd : DataW.Trod enc P w base spare held t v d ps) :
    ∃ a n cap xs, v = .slice a n cap ∧ Fs w a n cap xs ∧ ∀ x ∈ xs, x < 4294967296 := by
  obtain ⟨a, n, cap, rfl⟩ := okWide_slice ht hval
  obtain ⟨fuel, hf⟩ := hd
  rcases Deep.open_slice1 ht hc hf with ⟨hcs, _⟩ | ⟨x, l, c, m, k, V, D, Pl, hcs, _, hl, hm, hmm, _, hx⟩
  · simp [Value.cells] at hcs
    obtain ⟨rfl, rfl, rfl⟩ := hcs
    exact ⟨none, 0, 0, [], rfl, Fs.nil w, fun _ h => absurd h List.not_mem_nil⟩
  · simp [Value.cells] at hcs
    obtain ⟨rfl, rfl, rfl⟩ := hcs
    have hlm : n ≤ m := by rw [hmm]; split <;> omega
    have hb : ∀ i, i < n → ∃ b, V i = .float .f32 b ∧ b < 4294967296 := fun i hi => by
      obtain ⟨b, h1, h2⟩ := trod_float he (hx i (by omega)).2
      exact ⟨b, h1, by simpa [Lit.wf] using h2⟩
    refine ⟨some x, n, cap, (List.range n).map (fun i => bitsOf (V i)), rfl, ⟨by simp, hl, hm, fun i hi => ?_⟩, ?_⟩
    · obtain ⟨b, o, s⟩ := x
      have hci := (hx i (by omega)).1
      have hs : s = none := by simpa [Addr.add] using World.cell?_spot (hx 0 (by omega)).1
      subst hs
      obtain ⟨q, hq, _⟩ := hb i hi
      refine ⟨b, o, rfl, ?_⟩
      rw [Addr.add_lit] at hci
      rw [hci, hq]; simp [hi, hq, bitsOf]
    · intro y hy
      obtain ⟨i, hi, rfl⟩ := List.mem_map.1 hy
      obtain ⟨q, hq, h2⟩ := hb i (List.mem_range.1 hi)
      rw [hq]; exact h2
theorem trod_slice {t e : TypeId} {n : Nat} {v : Value} {x : DataW H × List MemPlace} (ht : P.underlying t = some (.slice e)) (h : DataW.trod enc P w base spare held n t [v] = some x) : ∃ a l c, v = .slice a l c := by
  cases n with
  | zero => simp [DataW.trod] at h
  | succ n =>
    simp only [DataW.trod, ht] at h
    cases v <;> first | exact ⟨_, _, _, rfl⟩ | (simp at h)
theorem trod_int {t : TypeId} {k : IntKind} {n : Nat} {v : Value} {x : DataW H × List MemPlace} (ht : P.underlying t = some (.int k)) (h : DataW.trod enc P w base spare held n t [v] = some x) :
    ∃ q, v = .int k q ∧ (Lit.int k q).wf = true := by
  cases n with
  | zero => simp [DataW.trod] at h
  | succ n =>
    simp only [DataW.trod, ht] at h
    cases v with
    | int k' b =>
      by_cases hk : k' = k ∧ (Lit.int k b).wf = true
      · exact ⟨b, by rw [hk.1], hk.2⟩
      · simp [hk] at h
    | _ => simp at h
theorem trod_floats {t e : TypeId} {fuel : Nat} {v : Value} {y : DataW H × List MemPlace} (ht : P.underlying t = some (.slice e)) (he : P.underlying e = some (.float .f32)) (hc : P.cellsOf e = 1)
    (hf : DataW.trod enc P w base spare held fuel t [v] = some y) :
    ∃ a n cap xs, v = .slice a n cap ∧ Fs w a n cap xs ∧ ∀ x ∈ xs, x < 4294967296 := by
  obtain ⟨a, n, cap, rfl⟩ := trod_slice ht hf
  have hf' : DataW.trod enc P w base spare held fuel t [Value.slice a n cap] = some (y.1, y.2) := hf
  rcases Deep.open_slice1 ht hc hf' with ⟨hcs, _⟩ | ⟨x, l, c, m, k, V, D, Pl, hcs, _, hl, hm, hmm, _, hx⟩
  · simp at hcs
    obtain ⟨rfl, rfl, rfl⟩ := hcs
    exact ⟨none, 0, 0, [], rfl, Fs.nil w, fun _ h => absurd h List.not_mem_nil⟩
  · simp at hcs
    obtain ⟨rfl, rfl, rfl⟩ := hcs
    have hlm : n ≤ m := by rw [hmm]; split <;> omega
    have hb : ∀ i, i < n → ∃ b, V i = .float .f32 b ∧ b < 4294967296 := fun i hi => by
      obtain ⟨b, h1, h2⟩ := trod_float he (hx i (by omega)).2
      exact ⟨b, h1, by simpa [Lit.wf] using h2⟩
    refine ⟨some x, n, cap, (List.range n).map (fun i => bitsOf (V i)), rfl, ⟨by simp, hl, hm, fun i hi => ?_⟩, ?_⟩
    · obtain ⟨b, o, s⟩ := x
      have hci := (hx i (by omega)).1
      have hs : s = none := by simpa [Addr.add] using World.cell?_spot (hx 0 (by omega)).1
      subst hs
      obtain ⟨q, hq, _⟩ := hb i hi
      refine ⟨b, o, rfl, ?_⟩
      rw [Addr.add_lit] at hci
      rw [hci, hq]; simp [hi, hq, bitsOf]
    · intro y hy
      obtain ⟨i, hi, rfl⟩ := List.mem_map.1 hy
      obtain ⟨q, hq, h2⟩ := hb i (List.mem_range.1 hi)
      rw [hq]; exact h2
theorem open_tensor {r : Reach} {b0 : Nat} {t e : TypeId} {f0 f1 f2 : Field} {v : Value} {d : DataW H} {p : List MemPlace} (hs : P.underlying t = some (.struct #[f0, f1, f2])) (hone : Deep.oneCellFields P #[f0, f1, f2] = true) (hC : P.cellsOf t = 3)
    (h0 : P.underlying f0.type = some (.int .i64)) (h1 : P.underlying f1.type = some (.int .i64)) (h2 : P.underlying f2.type = some (.slice e)) (he : P.underlying e = some (.float .f32)) (hc : P.cellsOf e = 1)
    (hv : Value.okWide P w r b0 t v) (h : DataW.Trod enc P w base spare held t v d p) :
    ∃ (R C : Int) (a : Option Addr) (n cap : Nat) (xs : List Nat), v = .agg #[.int .i64 R, .int .i64 C, .slice a n cap] ∧ Fs w a n cap xs ∧ (Lit.int .i64 R).wf = true ∧ (Lit.int .i64 C).wf = true ∧ ∀ x ∈ xs, x < 4294967296 := by
  obtain ⟨v0, v1, v2, y0, y1, y2, n, rfl, _, _, g0, g1, g2⟩ := Joins.open_agg3 hs hone hC hv h
  obtain ⟨R, rfl, wr⟩ := trod_int h0 g0
  obtain ⟨C, rfl, wc⟩ := trod_int h1 g1
  obtain ⟨a, n, cap, xs, rfl, f, hx⟩ := trod_floats h2 he hc g2
  exact ⟨R, C, a, n, cap, xs, rfl, f, wr, wc, hx⟩
end
end Go.Fl
