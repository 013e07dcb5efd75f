/- An argument that is a model, opened. -/
import Derived.Test.YtclhemjanhhioaaOpenL
import Derived.Test.YtclhemjanhhioaaLayS
namespace Go.Proofs.Ytclhemjanhhioaa
open Go.RowKit Go.ChangeShapes Go.WideShapes Go.Deep Go.Fl
section
variable {H : Type} {enc : TypeId × Value → H} {P : Program} {w : World} {base : Nat} {spare : Nat → Bool} {held : Bool}
theorem list5 {cs : List Value} (h : cs.length = 5) : ∃ a b c d e, cs = [a, b, c, d, e] := by
  match cs, h with
  | [a, b, c, d, e], _ => exact ⟨a, b, c, d, e, rfl⟩
theorem open_model {r : Reach} {b0 : Nat} {t tl e : TypeId} {g0 f0 f1 f2 f3 f4 : Field} {v : Value} {d : DataW H} {p : List MemPlace} (hs : P.underlying t = some (.struct #[g0])) (hone : Deep.oneCellFields P #[g0] = true) (hC : P.cellsOf t = 1)
    (hts : P.underlying g0.type = some (.slice tl)) (hl : P.underlying tl = some (.struct #[f0, f1, f2, f3, f4])) (honel : Deep.oneCellFields P #[f0, f1, f2, f3, f4] = true) (hCl : P.cellsOf tl = 5)
    (h0 : P.underlying f0.type = some (.int .i64)) (h1 : P.underlying f1.type = some (.int .i64)) (h2 : P.underlying f2.type = some (.int .i64)) (h3 : P.underlying f3.type = some (.slice e)) (h4 : P.underlying f4.type = some (.slice e)) (he : P.underlying e = some (.float .f32)) (hc : P.cellsOf e = 1)
    (hv : Value.okWide P w r b0 t v) (h : DataW.Trod enc P w base spare held t v d p) :
    ∃ (a : Option Addr) (n cap : Nat) (L : List LD), v = .agg #[.slice a n cap] ∧ Ls w a n cap L := by
  obtain ⟨cs, rfl, hsz⟩ := okWide_struct hs hv
  obtain ⟨c0, rfl⟩ : ∃ c0, cs = #[c0] := by
    obtain ⟨l⟩ := cs
    match l, hsz.trans hC with
    | [a], _ => exact ⟨a, rfl⟩
  obtain ⟨fuel, hf⟩ := h
  obtain ⟨xs, n, _, hx, _, hxl, hff⟩ := DataW.trod_struct hs (show DataW.trod enc P w base spare held fuel t [c0] = some (d, p) from by simpa [Value.cells] using hf)
  obtain ⟨o0, k0⟩ := hone_of hone 0 g0 rfl
  match xs, hxl with
  | [y0], _ =>
    have q0 := hff 0 g0 rfl
    rw [o0, k0] at q0
    have q0' : DataW.trod enc P w base spare held n g0.type [c0] = some y0 := q0
    obtain ⟨a, l, c, rfl⟩ := trod_slice hts q0'
    rcases Deep.open_slice hts q0' with ⟨hcs, _⟩ | ⟨x, len, cap, m, k, D, Pl, hcs, _, hle, hm, hmm, _, hxx⟩
    · simp at hcs
      obtain ⟨rfl, rfl, rfl⟩ := hcs
      exact ⟨none, 0, 0, [], rfl, rfl, Nat.le_refl _, Nat.zero_le _, fun j hj => by omega⟩
    · simp at hcs
      obtain ⟨rfl, rfl, rfl⟩ := hcs
      have hlm : l ≤ m := by rw [hmm]; split <;> omega
      have key : ∀ j, j < l → ∃ z : LD, ∃ b o, x = ⟨b, o, none⟩ ∧ Lx w b (o + j * 5) z := by
        intro j hj
        obtain ⟨cs', h1', h2'⟩ := hxx j (by omega)
        rw [hCl] at h1'
        obtain ⟨hA, hlen, hB⟩ := World.cells?_some h1'
        obtain ⟨v0, v1, v2, v3, v4, rfl⟩ := list5 hlen
        obtain ⟨bb, oo, ss⟩ := x
        have e0 : w.cell? ((Addr.mk bb oo ss).add (j * 5 + 0)) = some v0 := by rw [← Deep.add_add]; exact hB 0 (by omega)
        have e1 : w.cell? ((Addr.mk bb oo ss).add (j * 5 + 1)) = some v1 := by rw [← Deep.add_add]; exact hB 1 (by omega)
        have e2 : w.cell? ((Addr.mk bb oo ss).add (j * 5 + 2)) = some v2 := by rw [← Deep.add_add]; exact hB 2 (by omega)
        have e3 : w.cell? ((Addr.mk bb oo ss).add (j * 5 + 3)) = some v3 := by rw [← Deep.add_add]; exact hB 3 (by omega)
        have e4 : w.cell? ((Addr.mk bb oo ss).add (j * 5 + 4)) = some v4 := by rw [← Deep.add_add]; exact hB 4 (by omega)
        have hs0 : ss = none := by
          obtain ⟨cs0, h10, -⟩ := hxx 0 (by omega)
          rw [hCl] at h10
          obtain ⟨-, hl0, hB0⟩ := World.cells?_some h10
          obtain ⟨t0, t1, t2, t3, t4, rfl⟩ := list5 hl0
          have ez : w.cell? (((Addr.mk bb oo ss).add (0 * 5)).add 0) = some t0 := hB0 0 (by omega)
          simpa [Addr.add] using World.cell?_spot ez
        subst hs0
        rw [Addr.add_lit] at e0 e1 e2 e3 e4
        obtain ⟨k, i, u, a1, n1, c1, zs, a2, m2, d2, ys, rfl, rfl, rfl, rfl, rfl, fa, fb, -, -, -, -, -⟩ := trod_layer hl honel h0 h1 h2 h3 h4 he hc h2'
        have hb1 := World.block_lt_of_cell? w _ e0
        have z1 := fa.len
        have z2 := fb.len
        subst z1
        subst z2
        exact ⟨⟨k, i, u, zs, ys⟩, bb, oo, rfl, a1, c1, a2, d2, ⟨e0, by rw [Nat.add_assoc]; exact e1, by rw [Nat.add_assoc]; exact e2, by rw [Nat.add_assoc]; exact e3, by rw [Nat.add_assoc]; exact e4, hb1⟩, fa, fb⟩
      obtain ⟨Z, hZ⟩ := Deep.choose_lt (α := LD) (p := fun j z => ∃ b o, x = ⟨b, o, none⟩ ∧ Lx w b (o + j * 5) z) key
      refine ⟨some x, l, c, (List.range l).map Z, rfl, by simp, hle, hm, fun j hj => ?_⟩
      obtain ⟨b, o, e, hx2⟩ := hZ j hj
      exact ⟨b, o, by rw [e], by rw [show lat ((List.range l).map Z) j = Z j by unfold lat; simp [hj]]; exact hx2⟩
end
end Go.Proofs.Ytclhemjanhhioaa
