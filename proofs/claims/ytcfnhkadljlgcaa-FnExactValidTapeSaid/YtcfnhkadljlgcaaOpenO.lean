/- An argument that is a list of operations, opened. -/
import Derived.Test.YtcfnhkadljlgcaaOpS
import Derived.Test.YtcfnhkadljlgcaaOpenL
namespace Go.Proofs.Ytcfnhkadljlgcaa
open Go.RowKit Go.Fl Go.Reg
section
open Go.ChangeShapes Go.WideShapes Go.Deep
variable {H : Type} {enc : TypeId × Value → H} {P : Program} {w : World} {base : Nat} {spare : Nat → Bool} {held : Bool}
theorem list7 {cs : List Value} (h : cs.length = 7) : ∃ a b c d e f g, cs = [a, b, c, d, e, f, g] := by
  match cs, h with
  | [a, b, c, d, e, f, g], _ => exact ⟨a, b, c, d, e, f, g, rfl⟩
/-- three cells that read as a tensor -/
theorem trod_tensor {t e : TypeId} {f0 f1 f2 : Field} {fuel : Nat} {v0 v1 v2 : Value} {y : DataW H × List MemPlace} (hs : P.underlying t = some (.struct #[f0, f1, f2])) (hone : Deep.oneCellFields P #[f0, f1, f2] = true)
    (h0 : P.underlying f0.type = some (.int .i64)) (h1 : P.underlying f1.type = some (.int .i64)) (h2 : P.underlying f2.type = some (.slice e)) (he : P.underlying e = some (.float .f32)) (hc : P.cellsOf e = 1)
    (h : DataW.trod enc P w base spare held fuel t [v0, v1, v2] = some y) :
    ∃ (r c : Int) (a : Option Addr) (n cap : Nat) (xs : List Nat), v0 = .int .i64 r ∧ v1 = .int .i64 c ∧ v2 = .slice a n cap ∧ Fs w a n cap xs := by
  obtain ⟨xs, n, _, hx, _, hxl, hf⟩ := DataW.trod_struct hs h
  obtain ⟨o0, k0⟩ := hone_of hone 0 f0 rfl
  obtain ⟨o1, k1⟩ := hone_of hone 1 f1 rfl
  obtain ⟨o2, k2⟩ := hone_of hone 2 f2 rfl
  match xs, hxl with
  | [y0, y1, y2], _ =>
    have g0 := hf 0 f0 rfl
    have g1 := hf 1 f1 rfl
    have g2 := hf 2 f2 rfl
    rw [o0, k0] at g0
    rw [o1, k1] at g1
    rw [o2, k2] at g2
    obtain ⟨r, rfl, -⟩ := trod_int h0 (show DataW.trod enc P w base spare held n f0.type [v0] = some y0 from g0)
    obtain ⟨c, rfl, -⟩ := trod_int h1 (show DataW.trod enc P w base spare held n f1.type [v1] = some y1 from g1)
    obtain ⟨a, n1, cap, zs, rfl, fa, -⟩ := trod_floats h2 he hc (show DataW.trod enc P w base spare held n f2.type [v2] = some y2 from g2)
    exact ⟨r, c, a, n1, cap, zs, rfl, rfl, rfl, fa⟩
theorem open_ops {r : Reach} {b0 : Nat} {t tl e : TypeId} {f0 f1 f2 f3 f4 g0 g1 g2 : Field} {v : Value} {d : DataW H} {p : List MemPlace} (hs : P.underlying t = some (.slice tl)) (hl : P.underlying tl = some (.struct #[f0, f1, f2, f3, f4])) (hCl : P.cellsOf tl = 7)
    (ho : (f0.offset, f1.offset, f2.offset, f3.offset, f4.offset) = (0, 1, 2, 3, 4)) (hk : (P.cellsOf f0.type, P.cellsOf f1.type, P.cellsOf f2.type, P.cellsOf f3.type, P.cellsOf f4.type) = (1, 1, 1, 1, 3))
    (h0 : P.underlying f0.type = some (.int .i64)) (h1 : P.underlying f1.type = some (.int .i64)) (h2 : P.underlying f2.type = some (.int .i64)) (h3 : P.underlying f3.type = some (.float .f32))
    (h4 : P.underlying f4.type = some (.struct #[g0, g1, g2])) (hone : Deep.oneCellFields P #[g0, g1, g2] = true) (h5 : P.underlying g0.type = some (.int .i64)) (h6 : P.underlying g1.type = some (.int .i64)) (h7 : P.underlying g2.type = some (.slice e)) (he : P.underlying e = some (.float .f32)) (hc : P.cellsOf e = 1)
    (hv : Value.okWide P w r b0 t v) (h : DataW.Trod enc P w base spare held t v d p) :
    ∃ (a : Option Addr) (n cap : Nat) (L : List OD), v = .slice a n cap ∧ Os w a n cap L ∧ ∀ j, j < n → (oat L j).z < 4294967296 := by
  obtain ⟨a, l, c, rfl⟩ := okWide_slice hs hv
  obtain ⟨fuel, hf⟩ := h
  have q0' : DataW.trod enc P w base spare held fuel t [Value.slice a l c] = some (d, p) := by simpa [Value.cells] using hf
  rcases Deep.open_slice hs q0' with ⟨hcs, _⟩ | ⟨x, len, cap, m, k, D, Pl, hcs, _, hle, hm, hmm, _, hxx⟩
  · simp at hcs
    obtain ⟨rfl, rfl, rfl⟩ := hcs
    exact ⟨none, 0, 0, [], rfl, ⟨rfl, Nat.le_refl _, Nat.zero_le _, fun j hj => by omega⟩, fun j hj => by omega⟩
  · simp at hcs
    obtain ⟨rfl, rfl, rfl⟩ := hcs
    have hlm : l ≤ m := by rw [hmm]; split <;> omega
    simp only [Prod.mk.injEq] at ho hk
    obtain ⟨o0, o1, o2, o3, o4⟩ := ho
    obtain ⟨k0, k1, k2, k3, k4⟩ := hk
    have key : ∀ j, j < l → ∃ z : OD, z.z < 4294967296 ∧ ∃ b o, x = ⟨b, o, none⟩ ∧ Ox w b (o + j * 7) z := by
      intro j hj
      obtain ⟨cs', h1', h2'⟩ := hxx j (by omega)
      rw [hCl] at h1'
      obtain ⟨hA, hlen, hB⟩ := World.cells?_some h1'
      obtain ⟨v0, v1, v2, v3, v4, v5, v6, rfl⟩ := list7 hlen
      obtain ⟨bb, oo, ss⟩ := x
      have e0 : w.cell? ((Addr.mk bb oo ss).add (j * 7 + 0)) = some v0 := by rw [← Deep.add_add]; exact hB 0 (by omega)
      have e1 : w.cell? ((Addr.mk bb oo ss).add (j * 7 + 1)) = some v1 := by rw [← Deep.add_add]; exact hB 1 (by omega)
      have e2 : w.cell? ((Addr.mk bb oo ss).add (j * 7 + 2)) = some v2 := by rw [← Deep.add_add]; exact hB 2 (by omega)
      have e3 : w.cell? ((Addr.mk bb oo ss).add (j * 7 + 3)) = some v3 := by rw [← Deep.add_add]; exact hB 3 (by omega)
      have e4 : w.cell? ((Addr.mk bb oo ss).add (j * 7 + 4)) = some v4 := by rw [← Deep.add_add]; exact hB 4 (by omega)
      have e5 : w.cell? ((Addr.mk bb oo ss).add (j * 7 + 5)) = some v5 := by rw [← Deep.add_add]; exact hB 5 (by omega)
      have e6 : w.cell? ((Addr.mk bb oo ss).add (j * 7 + 6)) = some v6 := by rw [← Deep.add_add]; exact hB 6 (by omega)
      have hs0 : ss = none := by
        obtain ⟨cs0, h10, -⟩ := hxx 0 (by omega)
        rw [hCl] at h10
        obtain ⟨-, hl0, hB0⟩ := World.cells?_some h10
        obtain ⟨t0, t1, t2, t3, t4, t5, t6, rfl⟩ := list7 hl0
        have ez : w.cell? (((Addr.mk bb oo ss).add (0 * 7)).add 0) = some t0 := hB0 0 (by omega)
        simpa [Addr.add] using World.cell?_spot ez
      subst hs0
      rw [Addr.add_lit] at e0 e1 e2 e3 e4 e5 e6
      obtain ⟨xs, n', _, hx, _, hxl, hff⟩ := DataW.trod_struct hl h2'
      match xs, hxl with
      | [y0, y1, y2, y3, y4], _ =>
        have q0 := hff 0 f0 rfl
        have q1 := hff 1 f1 rfl
        have q2 := hff 2 f2 rfl
        have q3 := hff 3 f3 rfl
        have q4 := hff 4 f4 rfl
        rw [o0, k0] at q0
        rw [o1, k1] at q1
        rw [o2, k2] at q2
        rw [o3, k3] at q3
        rw [o4, k4] at q4
        obtain ⟨K, rfl, -⟩ := trod_int h0 (show DataW.trod enc P w base spare held n' f0.type [v0] = some y0 from q0)
        obtain ⟨A, rfl, -⟩ := trod_int h1 (show DataW.trod enc P w base spare held n' f1.type [v1] = some y1 from q1)
        obtain ⟨B, rfl, -⟩ := trod_int h2 (show DataW.trod enc P w base spare held n' f2.type [v2] = some y2 from q2)
        obtain ⟨Z, rfl, hZ⟩ := trod_float h3 (show DataW.trod enc P w base spare held n' f3.type [v3] = some y3 from q3)
        obtain ⟨R, C, a1, n1, c1, zs, rfl, rfl, rfl, fa⟩ := trod_tensor h4 hone h5 h6 h7 he hc (show DataW.trod enc P w base spare held n' f4.type [v4, v5, v6] = some y4 from q4)
        have z1 := fa.len
        subst z1
        exact ⟨⟨K, A, B, Z, R, C, zs⟩, by simpa [Lit.wf] using hZ, bb, oo, rfl, a1, c1, ⟨e0, by rw [Nat.add_assoc]; exact e1, by rw [Nat.add_assoc]; exact e2, by rw [Nat.add_assoc]; exact e3, by rw [Nat.add_assoc]; exact e4, by rw [Nat.add_assoc]; exact e5, by rw [Nat.add_assoc]; exact e6, World.block_lt_of_cell? w _ e0⟩, fa⟩
    obtain ⟨Z, hZ⟩ := Deep.choose_lt (α := OD) (p := fun j z => z.z < 4294967296 ∧ ∃ b o, x = ⟨b, o, none⟩ ∧ Ox w b (o + j * 7) z) key
    have eZ : ∀ j, j < l → oat ((List.range l).map Z) j = Z j := fun j hj => by unfold oat; simp [hj]
    refine ⟨some x, l, c, (List.range l).map Z, rfl, ⟨by simp, hle, hm, fun j hj => ?_⟩, fun j hj => ?_⟩
    · obtain ⟨-, b, o, e, hx2⟩ := hZ j hj
      exact ⟨b, o, by rw [e], by rw [eZ j hj]; exact hx2⟩
    · rw [eZ j hj]; exact (hZ j hj).1
end
end Go.Proofs.Ytcfnhkadljlgcaa
