/- An argument that is a layer, opened. -/
import Derived.Test.YtcfnhkadljlgcaaOpen
namespace Go.Fl
open Go.RowKit Go.ChangeShapes Go.WideShapes Go.Deep
section
variable {H : Type} {enc : TypeId × Value → H} {P : Program} {w : World} {base : Nat} {spare : Nat → Bool} {held : Bool}
theorem array5 {cs : Array Value} (h : cs.size = 5) : ∃ a b c d e, cs = #[a, b, c, d, e] := by
  obtain ⟨l⟩ := cs
  match l, h with
  | [a, b, c, d, e], _ => exact ⟨a, b, c, d, e, rfl⟩
/-- five cells that read as a layer -/
theorem trod_layer {t e : TypeId} {f0 f1 f2 f3 f4 : Field} {fuel : Nat} {v0 v1 v2 v3 v4 : Value} {y : DataW H × List MemPlace} (hs : P.underlying t = some (.struct #[f0, f1, f2, f3, f4])) (hone : Deep.oneCellFields P #[f0, f1, f2, f3, f4] = true)
    (h0 : P.underlying f0.type = some (.int .i64)) (h1 : P.underlying f1.type = some (.int .i64)) (h2 : P.underlying f2.type = some (.int .i64)) (h3 : P.underlying f3.type = some (.slice e)) (h4 : P.underlying f4.type = some (.slice e)) (he : P.underlying e = some (.float .f32)) (hc : P.cellsOf e = 1)
    (h : DataW.trod enc P w base spare held fuel t [v0, v1, v2, v3, v4] = some y) :
    ∃ (k i u : Int) (a : Option Addr) (n c : Nat) (xs : List Nat) (a2 : Option Addr) (m d : Nat) (ys : List Nat), v0 = .int .i64 k ∧ v1 = .int .i64 i ∧ v2 = .int .i64 u ∧ v3 = .slice a n c ∧ v4 = .slice a2 m d ∧ Fs w a n c xs ∧ Fs w a2 m d ys ∧ (Lit.int .i64 k).wf = true ∧ (Lit.int .i64 i).wf = true ∧ (Lit.int .i64 u).wf = true ∧ (∀ x ∈ xs, x < 4294967296) ∧ ∀ x ∈ ys, x < 4294967296 := by
  obtain ⟨xs, n, _, hx, _, hxl, hf⟩ := DataW.trod_struct hs h
  obtain ⟨o0, k0⟩ := hone_of hone 0 f0 rfl
  obtain ⟨o1, k1⟩ := hone_of hone 1 f1 rfl
  obtain ⟨o2, k2⟩ := hone_of hone 2 f2 rfl
  obtain ⟨o3, k3⟩ := hone_of hone 3 f3 rfl
  obtain ⟨o4, k4⟩ := hone_of hone 4 f4 rfl
  match xs, hxl with
  | [y0, y1, y2, y3, y4], _ =>
    have g0 := hf 0 f0 rfl
    have g1 := hf 1 f1 rfl
    have g2 := hf 2 f2 rfl
    have g3 := hf 3 f3 rfl
    have g4 := hf 4 f4 rfl
    rw [o0, k0] at g0
    rw [o1, k1] at g1
    rw [o2, k2] at g2
    rw [o3, k3] at g3
    rw [o4, k4] at g4
    obtain ⟨k, rfl, wk⟩ := trod_int h0 (show DataW.trod enc P w base spare held n f0.type [v0] = some y0 from g0)
    obtain ⟨i, rfl, wi⟩ := trod_int h1 (show DataW.trod enc P w base spare held n f1.type [v1] = some y1 from g1)
    obtain ⟨u, rfl, wu⟩ := trod_int h2 (show DataW.trod enc P w base spare held n f2.type [v2] = some y2 from g2)
    obtain ⟨a, n1, c, xs, rfl, fa, ha⟩ := trod_floats h3 he hc (show DataW.trod enc P w base spare held n f3.type [v3] = some y3 from g3)
    obtain ⟨b, m, d, ys, rfl, fb, hb⟩ := trod_floats h4 he hc (show DataW.trod enc P w base spare held n f4.type [v4] = some y4 from g4)
    exact ⟨k, i, u, a, n1, c, xs, b, m, d, ys, rfl, rfl, rfl, rfl, rfl, fa, fb, wk, wi, wu, ha, hb⟩
theorem open_layer {r : Reach} {b0 : Nat} {t e : TypeId} {f0 f1 f2 f3 f4 : Field} {v : Value} {d : DataW H} {p : List MemPlace} (hs : P.underlying t = some (.struct #[f0, f1, f2, f3, f4])) (hone : Deep.oneCellFields P #[f0, f1, f2, f3, f4] = true) (hC : P.cellsOf t = 5)
    (h0 : P.underlying f0.type = some (.int .i64)) (h1 : P.underlying f1.type = some (.int .i64)) (h2 : P.underlying f2.type = some (.int .i64)) (h3 : P.underlying f3.type = some (.slice e)) (h4 : P.underlying f4.type = some (.slice e)) (he : P.underlying e = some (.float .f32)) (hc : P.cellsOf e = 1)
    (hv : Value.okWide P w r b0 t v) (h : DataW.Trod enc P w base spare held t v d p) :
    ∃ (k i u : Int) (a : Option Addr) (n c : Nat) (xs : List Nat) (a2 : Option Addr) (m q : Nat) (ys : List Nat), v = .agg #[.int .i64 k, .int .i64 i, .int .i64 u, .slice a n c, .slice a2 m q] ∧ Fs w a n c xs ∧ Fs w a2 m q ys ∧ (Lit.int .i64 k).wf = true ∧ (Lit.int .i64 i).wf = true ∧ (Lit.int .i64 u).wf = true ∧ (∀ x ∈ xs, x < 4294967296) ∧ ∀ x ∈ ys, x < 4294967296 := by
  obtain ⟨cs, rfl, hsz⟩ := okWide_struct hs hv
  obtain ⟨c0, c1, c2, c3, c4, rfl⟩ := array5 (hsz.trans hC)
  obtain ⟨fuel, hf⟩ := h
  obtain ⟨k, i, u, a, n, c, xs, a2, m, q, ys, rfl, rfl, rfl, rfl, rfl, fa, fb, wk, wi, wu, ha, hb⟩ := trod_layer hs hone h0 h1 h2 h3 h4 he hc (show DataW.trod enc P w base spare held fuel t [c0, c1, c2, c3, c4] = some (d, p) from by simpa [Value.cells] using hf)
  exact ⟨k, i, u, a, n, c, xs, a2, m, q, ys, rfl, fa, fb, wk, wi, wu, ha, hb⟩
end
end Go.Fl
