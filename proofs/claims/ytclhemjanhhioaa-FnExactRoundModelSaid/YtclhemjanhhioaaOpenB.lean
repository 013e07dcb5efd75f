/- An argument that is a model, opened, with the bounds of its words; models that are made of rounded parameters. -/
import Derived.Test.YtclhemjanhhioaaOpenM
import Derived.Test.YtclhemjanhhioaaLayB
namespace Go.Proofs.Ytclhemjanhhioaa
open Go.RowKit Go.ChangeShapes Go.WideShapes Go.Deep Go.Fl Go.Reg
theorem pm_bd {L : List LD} : ∀ n, (∀ j, j < n → (∀ x ∈ (lat L j).xs, x < 4294967296) ∧ ∀ x ∈ (lat L j).ys, x < 4294967296) → ∀ x ∈ pm L n, x < 4294967296
  | 0, _ => fun x hx => by cases hx
  | n + 1, h => fun x hx => by
    obtain ⟨h1, h2⟩ := h n (by omega)
    rcases List.mem_append.1 hx with hx | hx
    · rcases List.mem_append.1 hx with hx | hx
      · exact pm_bd n (fun j hj => h j (by omega)) x hx
      · exact h1 x hx
    · exact h2 x hx
theorem szs_wl (L : List LD) (zs : List Nat) (n : Nat) : ∀ j, j ≤ n → szs (wl L zs n) j ≤ szs L j
  | 0, _ => Nat.le_refl _
  | j + 1, h => by
    have ih := szs_wl L zs n j (by omega)
    have e := wl_at L zs (show j < n by omega)
    show szs (wl L zs n) j + ((lat (wl L zs n) j).xs.length + (lat (wl L zs n) j).ys.length) ≤ szs L j + ((lat L j).xs.length + (lat L j).ys.length)
    rw [e]
    simp only [List.length_take]
    omega
def nR (L : List LD) (n : Nat) : Nat := if mv L n = true then n else 0
theorem CS.len {L S : List LD} {n : Nat} (h : CS L n S) : S.length = nR L n := by
  unfold CS at h
  unfold nR
  split at h
  · obtain ⟨zs, _, rfl⟩ := h
    rw [if_pos (by assumption), wl_len]
  · subst h
    rw [if_neg (by assumption)]; rfl
theorem CS.szs {L S : List LD} {n : Nat} (h : CS L n S) : szs S (nR L n) ≤ szs L n := by
  unfold CS at h
  unfold nR
  split at h
  · obtain ⟨zs, _, rfl⟩ := h
    rw [if_pos (by assumption)]
    exact szs_wl L zs n n (Nat.le_refl _)
  · rw [if_neg (by assumption)]; exact Nat.zero_le _
theorem nR_le (L : List LD) (n : Nat) : nR L n ≤ n := by
  unfold nR; split <;> omega
theorem CS.leq {L S S' : List LD} {n : Nat} (h : CS L n S) (h' : CS L n S') (j : Nat) (hj : j < nR L n) : LEq (lat S j) (lat S' j) := by
  unfold CS at h h'
  unfold nR at hj
  split at h
  · rw [if_pos (by assumption)] at h' hj
    obtain ⟨zs, e, rfl⟩ := h
    obtain ⟨zs', e', rfl⟩ := h'
    have ee : zs.map (cn .f32) = zs'.map (cn .f32) := by
      have e1 : zs.map (cn .f32) = _ := e
      have e2 : zs'.map (cn .f32) = _ := e'
      rw [e1, e2]
    rw [wl_at L zs hj, wl_at L zs' hj]
    refine ⟨rfl, rfl, rfl, ?_, ?_⟩
    · show (List.map _ (List.take _ (List.drop _ _))) = List.map _ (List.take _ (List.drop _ _))
      rw [List.map_take, List.map_drop, ee, ← List.map_drop, ← List.map_take]
    · show (List.map _ (List.take _ (List.drop _ (List.drop _ _)))) = List.map _ (List.take _ (List.drop _ (List.drop _ _)))
      rw [List.map_take, List.map_drop, List.map_drop, ee, ← List.map_drop, ← List.map_drop, ← List.map_take]
  · rw [if_neg (by assumption)] at hj; omega
section
variable {H : Type} {enc : TypeId × Value → H} {P : Program} {w : World} {base : Nat} {spare : Nat → Bool} {held : Bool}
theorem open_model2 {r : Reach} {b0 : Nat} {t tl e : TypeId} {g0 f0 f1 f2 f3 f4 : Field} {v : Value} {d : DataW H} {p : List MemPlace} (hs : P.underlying t = some (.struct #[g0])) (hone : Deep.oneCellFields P #[g0] = true) (hC : P.cellsOf t = 1)
    (hts : P.underlying g0.type = some (.slice tl)) (hl : P.underlying tl = some (.struct #[f0, f1, f2, f3, f4])) (honel : Deep.oneCellFields P #[f0, f1, f2, f3, f4] = true) (hCl : P.cellsOf tl = 5)
    (h0 : P.underlying f0.type = some (.int .i64)) (h1 : P.underlying f1.type = some (.int .i64)) (h2 : P.underlying f2.type = some (.int .i64)) (h3 : P.underlying f3.type = some (.slice e)) (h4 : P.underlying f4.type = some (.slice e)) (he : P.underlying e = some (.float .f32)) (hc : P.cellsOf e = 1)
    (hv : Value.okWide P w r b0 t v) (h : DataW.Trod enc P w base spare held t v d p) :
    ∃ (a : Option Addr) (n cap : Nat) (L : List LD), v = .agg #[.slice a n cap] ∧ Ls w a n cap L ∧ ∀ x ∈ pm L n, x < 4294967296 := by
  obtain ⟨cs, rfl, hsz⟩ := okWide_struct hs hv
  obtain ⟨c0, rfl⟩ : ∃ c0, cs = #[c0] := by
    obtain ⟨l⟩ := cs
    match l, hsz.trans hC with
    | [a], _ => exact ⟨a, rfl⟩
  obtain ⟨fuel, hf⟩ := h
  obtain ⟨xs, n, _, hx, _, hxl, hff⟩ := DataW.trod_struct hs (show DataW.trod enc P w base spare held fuel t [c0] = some (d, p) from by simpa [Value.cells] using hf)
  obtain ⟨o0, k0⟩ := hone_of hone 0 g0 rfl
  match xs, hxl with
  | [y0], _ =>
    have q0 := hff 0 g0 rfl
    rw [o0, k0] at q0
    have q0' : DataW.trod enc P w base spare held n g0.type [c0] = some y0 := q0
    obtain ⟨a, l, c, rfl⟩ := trod_slice hts q0'
    rcases Deep.open_slice hts q0' with ⟨hcs, _⟩ | ⟨x, len, cap, m, k, D, Pl, hcs, _, hle, hm, hmm, _, hxx⟩
    · simp at hcs
      obtain ⟨rfl, rfl, rfl⟩ := hcs
      exact ⟨none, 0, 0, [], rfl, ⟨rfl, Nat.le_refl _, Nat.zero_le _, fun j hj => by omega⟩, fun x hx => by cases hx⟩
    · simp at hcs
      obtain ⟨rfl, rfl, rfl⟩ := hcs
      have hlm : l ≤ m := by rw [hmm]; split <;> omega
      have key : ∀ j, j < l → ∃ z : LD, ∃ b o, x = ⟨b, o, none⟩ ∧ Lx w b (o + j * 5) z ∧ (∀ x ∈ z.xs, x < 4294967296) ∧ ∀ x ∈ z.ys, x < 4294967296 := by
        intro j hj
        obtain ⟨cs', h1', h2'⟩ := hxx j (by omega)
        rw [hCl] at h1'
        obtain ⟨hA, hlen, hB⟩ := World.cells?_some h1'
        obtain ⟨v0, v1, v2, v3, v4, rfl⟩ := list5 hlen
        obtain ⟨bb, oo, ss⟩ := x
        have e0 : w.cell? ((Addr.mk bb oo ss).add (j * 5 + 0)) = some v0 := by rw [← Deep.add_add]; exact hB 0 (by omega)
        have e1 : w.cell? ((Addr.mk bb oo ss).add (j * 5 + 1)) = some v1 := by rw [← Deep.add_add]; exact hB 1 (by omega)
        have e2 : w.cell? ((Addr.mk bb oo ss).add (j * 5 + 2)) = some v2 := by rw [← Deep.add_add]; exact hB 2 (by omega)
        have e3 : w.cell? ((Addr.mk bb oo ss).add (j * 5 + 3)) = some v3 := by rw [← Deep.add_add]; exact hB 3 (by omega)
        have e4 : w.cell? ((Addr.mk bb oo ss).add (j * 5 + 4)) = some v4 := by rw [← Deep.add_add]; exact hB 4 (by omega)
        have hs0 : ss = none := by
          obtain ⟨cs0, h10, -⟩ := hxx 0 (by omega)
          rw [hCl] at h10
          obtain ⟨-, hl0, hB0⟩ := World.cells?_some h10
          obtain ⟨t0, t1, t2, t3, t4, rfl⟩ := list5 hl0
          have ez : w.cell? (((Addr.mk bb oo ss).add (0 * 5)).add 0) = some t0 := hB0 0 (by omega)
          simpa [Addr.add] using World.cell?_spot ez
        subst hs0
        rw [Addr.add_lit] at e0 e1 e2 e3 e4
        obtain ⟨k, i, u, a1, n1, c1, zs, a2, m2, d2, ys, rfl, rfl, rfl, rfl, rfl, fa, fb, -, -, -, ba, bb'⟩ := trod_layer hl honel h0 h1 h2 h3 h4 he hc h2'
        have hb1 := World.block_lt_of_cell? w _ e0
        have z1 := fa.len
        have z2 := fb.len
        subst z1
        subst z2
        exact ⟨⟨k, i, u, zs, ys⟩, bb, oo, rfl, ⟨a1, c1, a2, d2, ⟨e0, by rw [Nat.add_assoc]; exact e1, by rw [Nat.add_assoc]; exact e2, by rw [Nat.add_assoc]; exact e3, by rw [Nat.add_assoc]; exact e4, hb1⟩, fa, fb⟩, ba, bb'⟩
      obtain ⟨Z, hZ⟩ := Deep.choose_lt (α := LD) (p := fun j z => ∃ b o, x = ⟨b, o, none⟩ ∧ Lx w b (o + j * 5) z ∧ (∀ x ∈ z.xs, x < 4294967296) ∧ ∀ x ∈ z.ys, x < 4294967296) key
      have ez : ∀ j, j < l → lat ((List.range l).map Z) j = Z j := fun j hj => by unfold lat; simp [hj]
      refine ⟨some x, l, c, (List.range l).map Z, rfl, ⟨by simp, hle, hm, fun j hj => ?_⟩, pm_bd l fun j hj => ?_⟩
      · obtain ⟨b, o, e, hx2, _, _⟩ := hZ j hj
        exact ⟨b, o, by rw [e], by rw [ez j hj]; exact hx2⟩
      · obtain ⟨b, o, e, _, h1, h2⟩ := hZ j hj
        rw [ez j hj]
        exact ⟨h1, h2⟩
end
end Go.Proofs.Ytclhemjanhhioaa
