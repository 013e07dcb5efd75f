/- Models with other parameters, by the reference and by the program. -/
import Derived.Test.YtclhemjanhhioaaLayT
namespace Go.Fl
open Go.RowKit Go.Reg
theorem Bx.setHi {B b : Nat} {w w' : World} (h : Bx B b w w') {p : Addr} (hp : B ≤ p.block) (v : Value) : Bx B b w (w'.setCell p v) :=
  ⟨h.os, h.tape, h.output, by simpa [World.setCell] using h.size, fun k hk hr => (Below.heap_setCell _ _ _ _ (by omega)).trans (h.block k hk hr)⟩
theorem Bx.alloc {B b : Nat} {w w' : World} (h : Bx B b w w') (hB : B ≤ w'.heap.size) (o : Obj) : Bx B b w (w'.alloc o) :=
  h.trans (Bx.of (((Below.refl _ _).alloc (Nat.le_refl _) o).mono hB))
theorem Bx.mono {B B' b : Nat} {w w' : World} (h : Bx B b w w') (hB : B' ≤ B) : Bx B' b w w' := ⟨h.os, h.tape, h.output, h.size, fun k hk => h.block k (by omega)⟩
theorem grown_bel {B : Nat} {w w' : World} {row : Option Nat} (h : w.grownBy w' row) (hr : ∀ q, row = some q → B ≤ q) (hB : B ≤ w.heap.size) : Below B w w' :=
  ⟨h.os, h.tape, h.output, h.size, fun k hk => h.block k (by omega) (fun e => by have := hr k e.symm; omega)⟩
end Go.Fl
namespace Go.Proofs.Ytclhemjanhhioaa
open Go.RowKit Go.Fl Go.Reg
/-- the layers of L with the numbers of zs -/
def wl (L : List LD) (zs : List Nat) (n : Nat) : List LD := (List.range n).map (fun i => ⟨(lat L i).k, (lat L i).i, (lat L i).u, (zs.drop (szs L i)).take (lat L i).xs.length, ((zs.drop (szs L i)).drop (lat L i).xs.length).take (lat L i).ys.length⟩)
theorem wl_len (L : List LD) (zs : List Nat) (n : Nat) : (wl L zs n).length = n := by simp [wl]
theorem wl_at (L : List LD) (zs : List Nat) {n i : Nat} (hi : i < n) : lat (wl L zs n) i = ⟨(lat L i).k, (lat L i).i, (lat L i).u, (zs.drop (szs L i)).take (lat L i).xs.length, ((zs.drop (szs L i)).drop (lat L i).xs.length).take (lat L i).ys.length⟩ := by
  show ((List.range n).map _)[i]?.getD default = _
  rw [List.getElem?_map, List.getElem?_range hi]; rfl
/-- a layer's five cells in a block of its own -/
structure Lf (w : World) (b : Nat) (k i u : Int) (s1 s2 : Value) : Prop where
  c0 : w.cell? ⟨b, 0, none⟩ = some (.int .i64 k)
  c1 : w.cell? ⟨b, 1, none⟩ = some (.int .i64 i)
  c2 : w.cell? ⟨b, 2, none⟩ = some (.int .i64 u)
  c3 : w.cell? ⟨b, 3, none⟩ = some s1
  c4 : w.cell? ⟨b, 4, none⟩ = some s2
  f3 : w.frozen? ⟨b, 3, none⟩ = false
  f4 : w.frozen? ⟨b, 4, none⟩ = false
  lt : b < w.heap.size
theorem lf_new {w w' : World} {k i u : Int} {s1 s2 : Value} {t : TypeId} (h : w' = w.alloc (.cells #[.int .i64 k, .int .i64 i, .int .i64 u, s1, s2] t)) : Lf w' w.heap.size k i u s1 s2 ∧ Below w.heap.size w w' ∧ w.heap.size < w'.heap.size := by
  subst h
  have hl : w.heap.size < (w.alloc (.cells #[.int .i64 k, .int .i64 i, .int .i64 u, s1, s2] t)).heap.size := by simp
  exact ⟨⟨by simp [go_sem], by simp [go_sem], by simp [go_sem], by simp [go_sem], by simp [go_sem], by simp [go_sem], by simp [go_sem], hl⟩, (Below.refl _ _).alloc (Nat.le_refl _) _, hl⟩
section
variable {w w' : World} {b : Nat} {k i u : Int} {s1 s2 : Value}
theorem Lf.bx (h : Lf w b k i u s1 s2) {b' : Nat} (hb : Bx w.heap.size b' w w') (hne : b ≠ b') : Lf w' b k i u s1 s2 := by
  have e := hb.block b h.lt hne
  exact ⟨(World.cell?_of_block (a := ⟨b, 0, none⟩) e).trans h.c0, (World.cell?_of_block (a := ⟨b, 1, none⟩) e).trans h.c1, (World.cell?_of_block (a := ⟨b, 2, none⟩) e).trans h.c2, (World.cell?_of_block (a := ⟨b, 3, none⟩) e).trans h.c3, (World.cell?_of_block (a := ⟨b, 4, none⟩) e).trans h.c4, (World.frozen?_of_block (a := ⟨b, 3, none⟩) e).trans h.f3, (World.frozen?_of_block (a := ⟨b, 4, none⟩) e).trans h.f4, Nat.lt_of_lt_of_le h.lt hb.size⟩
theorem Lf.below (h : Lf w b k i u s1 s2) (hb : Below w.heap.size w w') : Lf w' b k i u s1 s2 := h.bx (b' := b + 1) (Bx.of hb) (by omega)
theorem Lf.put3 (h : Lf w b k i u s1 s2) (v : Value) : Lf (w.setCell ⟨b, 3, none⟩ v) b k i u v s2 :=
  ⟨by simp [go_sem, h.c0], by simp [go_sem, h.c1], by simp [go_sem, h.c2], by simp [go_sem, h.c3], by simp [go_sem, h.c4], by simp [go_sem, h.f3], by simp [go_sem, h.f4], by simpa [World.setCell] using h.lt⟩
end
/-- a value in a cell of one's own -/
structure Cq (w : World) (b : Nat) (v : Value) : Prop where
  c : w.cell? ⟨b, 0, none⟩ = some v
  f : w.frozen? ⟨b, 0, none⟩ = false
  lt : b < w.heap.size
section
variable {w w' : World} {b : Nat} {v : Value}
theorem Cq.bx (h : Cq w b v) {b' B : Nat} (hb : Bx B b' w w') (hne : b ≠ b') (hB : b < B) : Cq w' b v :=
  ⟨(World.cell?_of_block (a := ⟨b, 0, none⟩) (hb.block b hB hne)).trans h.c, (World.frozen?_of_block (a := ⟨b, 0, none⟩) (hb.block b hB hne)).trans h.f, Nat.lt_of_lt_of_le h.lt hb.size⟩
theorem Cq.below (h : Cq w b v) (hb : Below w.heap.size w w') : Cq w' b v := ⟨(hb.cell (p := ⟨b, 0, none⟩) h.lt).trans h.c, (hb.frozen (p := ⟨b, 0, none⟩) h.lt).trans h.f, Nat.lt_of_lt_of_le h.lt hb.size⟩
theorem Cq.set (h : Cq w b v) {b' : Nat} (hne : b ≠ b') (o : Nat) (u : Value) : Cq (w.setCell ⟨b', o, none⟩ u) b v :=
  ⟨by have := h.c; simpa [go_sem, hne] using this, by have := h.f; simpa [go_sem, hne] using this, by simpa [World.setCell] using h.lt⟩
theorem Cq.put (h : Cq w b v) (u : Value) : Cq (w.setCell ⟨b, 0, none⟩ u) b u :=
  ⟨by simp [go_sem, h.c], by simp [go_sem, h.f], by simpa [World.setCell] using h.lt⟩
theorem Cq.grown (h : Cq w b v) {row : Option Nat} (hg : w.grownBy w' row) (hr : row ≠ some b) : Cq w' b v :=
  ⟨(World.cell?_of_block (a := ⟨b, 0, none⟩) (hg.block b h.lt (fun e => hr e.symm))).trans h.c, (World.frozen?_of_block (a := ⟨b, 0, none⟩) (hg.block b h.lt (fun e => hr e.symm))).trans h.f, Nat.lt_of_lt_of_le h.lt hg.size⟩
end
theorem cells5_new (w : World) (v0 v1 v2 v3 v4 : Value) (t : TypeId) : ∀ j u, [v0, v1, v2, v3, v4][j]? = some u → (w.alloc (.cells #[v0, v1, v2, v3, v4] t)).cell? ((⟨w.heap.size, 0, none⟩ : Addr).add j) = some u := by
  intro j u hj
  rw [add_at]
  match j, hj with
  | 0, hj => simp at hj; subst hj; simp [go_sem]
  | 1, hj => simp at hj; subst hj; simp [go_sem]
  | 2, hj => simp at hj; subst hj; simp [go_sem]
  | 3, hj => simp at hj; subst hj; simp [go_sem]
  | 4, hj => simp at hj; subst hj; simp [go_sem]
  | j + 5, hj => simp at hj
theorem cells5_put (w : World) (p : Addr) (x : Value) (v0 v1 v2 v3 v4 : Value) (t : TypeId) : ∀ j u, [v0, v1, v2, v3, v4][j]? = some u → ((w.setCell p x).alloc (.cells #[v0, v1, v2, v3, v4] t)).cell? ((⟨w.heap.size, 0, none⟩ : Addr).add j) = some u := by
  have h := cells5_new (w.setCell p x) v0 v1 v2 v3 v4 t
  rwa [show (w.setCell p x).heap.size = w.heap.size by simp [World.setCell]] at h
section
variable {w w' : World} {B n : Nat} {v : Value} {L : List LD} {cs : List Value} {P C : Nat → Nat}
theorem Mb.app2 {w1 : World} {v' : Value} {p1 p2 c1 c2 nx ny : Nat} {k i u : Int} {xs ys : List Nat} (h : Mb w B v n L cs P C) (hl : lat L n = ⟨k, i, u, xs, ys⟩) (hx : xs.length = nx) (hy : ys.length = ny) (hw : ∀ i, i < n → R1 w1 (P (2 * i)) (lat L i).xs.length (C (2 * i)) (lat L i).xs ∧ R1 w1 (P (2 * i + 1)) (lat L i).ys.length (C (2 * i + 1)) (lat L i).ys)
    (k1 : R1 w1 p1 nx c1 xs) (k2 : R1 w1 p2 ny c2 ys) (hp1 : w.heap.size ≤ p1) (hp2 : p1 < p2) (hB : B ≤ w.heap.size)
    (hown : w'.ownsRow B 27 5 v' (n + 1) (cs ++ [.int .i64 k, .int .i64 i, .int .i64 u, .slice (some ⟨p1, 0, none⟩) nx c1, .slice (some ⟨p2, 0, none⟩) ny c2]))
    (hg : w1.grownBy w' v.ownBlock) (hat : v'.ownBlock = v.ownBlock ∨ v'.ownBlock = some w1.heap.size) :
    ∃ cs' P' C', Mb w' B v' (n + 1) L cs' P' C' := by
  subst hx; subst hy
  have e1 : (lat L n).k = k := by rw [hl]
  have e2 : (lat L n).i = i := by rw [hl]
  have e3 : (lat L n).u = u := by rw [hl]
  have e4 : (lat L n).xs = xs := by rw [hl]
  have e5 : (lat L n).ys = ys := by rw [hl]
  subst e1 e2 e3 e4 e5
  obtain ⟨P', C', h'⟩ := h.app hw k1 k2 hp1 hp2 hB hown hg hat
  exact ⟨_, P', C', h'⟩
end
theorem slice_law (w : World) {bl ol m capl i x : Nat} {l h : Int} (hl : l = (i : Int)) (hh : h = (i : Int) + (x : Int)) (him : i + x ≤ m) (hm : m ≤ capl) :
    (Instr.slice 22 (.slice (some ⟨bl, ol, none⟩) m capl) (some (.int .i64 l)) (some (.int .i64 h)) none).run Try.prog w = .ok (.slice (some ⟨bl, if capl = i then ol else ol + i, none⟩) x (capl - i)) w := by
  subst hl; subst hh
  have h1 : (i : Int) + (x : Int) ≤ (capl : Int) := by omega
  have h2 : (0 : Int) ≤ (i : Int) := by omega
  have h3 : (i : Int) ≤ (i : Int) + (x : Int) := by omega
  have h4 : ((i : Int) + (x : Int)).toNat - i = x := by omega
  by_cases e : capl = i
  · subst e
    go_simp
  · go_simp
    try simp [h4, e]
theorem results_cell1 {fn : Func} {p : Tmp} {ty : TypeId} (h : fn.results = #[.cell p ty]) (tmps : Array Value) (P : Program) (w : World) {a : Addr} {v : Value} (hp : tmps.getD p undef = .pointer (some a)) (hv : (loadVar ty a).run P w = .ok v w) :
    (results fn tmps).run P w = .ok v w := by
  have hp' : tmps[p]?.getD undef = .pointer (some a) := by simpa using hp
  simp [results, h, hp', asAddr, hv]
/-- a model of its own is handed back -/
def WP (w : World) (n : Nat) (L : List LD) (e : Ending) (w' : World) : Prop :=
  ∃ g cap cs P C, e = .returned (.agg #[.slice (some ⟨g, 0, none⟩) n cap]) ∧ Mb w' w.heap.size (.slice (some ⟨g, 0, none⟩) n cap) n L cs P C ∧ Below w.heap.size w w'
theorem infoL : (Try.prog.info? 27).map (fun i => (i.zero, i.size, i.bytes)) = some (some (.agg #[.int .i64 0, .int .i64 0, .int .i64 0, .slice none 0 0, .slice none 0 0]), 5, 72) := by kernel_rfl
set_option maxHeartbeats 4000000 in
theorem withS (a : Option Addr) (n cap b0 : Nat) (L : List LD) (bl ol m capl : Nat) (zs : List Nat) (w : World) (hn : 0 < n ∧ n ≤ 1048576) (hs : szs L n ≤ 1048576) (h : Lz w a n cap L) (hm : MB w b0 a n cap) (hml : m = szs L n) (hz : Fs w (some ⟨bl, ol, none⟩) m capl zs) :
    Calls Try.prog 45 #[.pointer (some ⟨b0, 0, none⟩), .slice (some ⟨bl, ol, none⟩) m capl] w (WP w n (wl L zs n)) := by
  obtain ⟨i0, hi, hz0, hz1, hz2⟩ := info_parts infoL
  have HI := Lib.hid hi
  have HZ0 := Lib.hid hz0
  have HZ1 := Lib.hid hz1
  have HZ2 := Lib.hid hz2
  clear hi hz0 hz1 hz2
  have hc1 := h.ls.cap1
  have hc2 := h.ls.cap2
  have hd1 := hz.cap1
  have hd2 := hz.cap2
  unfold maxLen at hc2 hd2
  have H := Lib.hid h
  have HZ := Lib.hid hz
  have HML := Lib.hid hml
  have hm1 := Nat.le_of_eq hml
  have hm2 := Nat.le_of_eq hml.symm
  have HM := Lib.hid hm
  have HD1 := Lib.hid hd1
  clear h hz hml hd1
  obtain ⟨m0, m1⟩ := hm
  go_enter Try.func45, Try.ntmps45
  go_wp2_with fail
  refine reg_at ?_
  intro wb hA
  have zb : wb.heap.size = w.heap.size + 2 := by rw [hA]; simp
  have T : Below w.heap.size w wb := by rw [hA]; exact (((Below.refl _ _).alloc (Nat.le_refl _) _).alloc (by simp) _)
  have QR : Cq wb w.heap.size (.slice none 0 0) := ⟨by rw [hA]; simp [go_sem], by rw [hA]; simp [go_sem], by omega⟩
  have QO : Cq wb (w.heap.size + 1) (.slice none 0 0) := ⟨by rw [hA]; simp [go_sem], by rw [hA]; simp [go_sem], by omega⟩
  clear hA
  have zb1 := Nat.le_of_eq zb
  have zb2 := Nat.le_of_eq zb.symm
  have HT := Lib.hid T
  have HQR := Lib.hid QR
  have HQO := Lib.hid QO
  have HB0 := Lib.hid (Mb.start wb (w.heap.size + 2) (wl L zs n))
  clear T QR QO zb m0
  go_loopw [6, 7] (fun s i w' => ∃ (j k : Nat) (v : Value) (cs : List Value) (P C : Nat → Nat), j ≤ n ∧ i = .int .i64 j ∧ s = .int .i64 k ∧ Hid (k = szs L j) ∧ Hid (Mb w' (w.heap.size + 2) v j (wl L zs n) cs P C) ∧ Hid (Below w.heap.size w w') ∧ Hid (Cq w' w.heap.size (.slice none 0 0)) ∧ Hid (Cq w' (w.heap.size + 1) v) ∧ w.heap.size + 2 ≤ w'.heap.size) (fun _ i _ => n - (intOf i).toNat)
  case atStart => exact ⟨0, 0, _, _, _, _, Nat.zero_le _, rfl, rfl, rfl, HB0.out, HT.out, HQR.out, HQO.out, zb2⟩
  case round =>
    obtain ⟨j, k, v, cs, P, C, hj, rfl, rfl, hk, hM, hB, hR, hO, zr⟩ := hrel
    by_cases hlt : j < n
    · have hat := szs_mono L (show j + 1 ≤ n by omega)
      have es : szs L (j + 1) = szs L j + ((lat L j).xs.length + (lat L j).ys.length) := rfl
      have hk2 := hk.out
      have b1 : k + (lat L j).xs.length + (lat L j).ys.length ≤ m := by omega
      have hm3 : m ≤ 1048576 := by omega
      have ES := Lib.hid es
      clear es hat hk2
      obtain ⟨b, o, rfl, p1, o1, c1, p2, o2, c2, QL, F1, F2⟩ := (H.out.below hB.out).cell j hlt
      obtain ⟨nx, hx⟩ : ∃ x, x = (lat L j).xs.length := ⟨_, rfl⟩
      obtain ⟨ny, hy⟩ : ∃ x, x = (lat L j).ys.length := ⟨_, rfl⟩
      rw [← hx] at b1 QL
      rw [← hy] at b1 QL
      have HX := Lib.hid hx
      have HY := Lib.hid hy
      clear hx hy
      obtain ⟨oo1, ho1⟩ : ∃ z, z = (if capl = k then ol else ol + k) := ⟨_, rfl⟩
      obtain ⟨oo2, ho2⟩ : ∃ z, z = (if capl = k + nx then ol else ol + (k + nx)) := ⟨_, rfl⟩
      have hsl1 : ∀ w, (Instr.slice 22 (.slice (some ⟨bl, ol, none⟩) m capl) (some (.int .i64 (k : Int))) (some (.int .i64 ((k : Int) + (nx : Int)))) none).run Try.prog w = .ok (.slice (some ⟨bl, oo1, none⟩) nx (capl - k)) w := fun w => by rw [ho1]; exact slice_law w rfl rfl (by omega) HD1.out
      have hsl2 : ∀ w, (Instr.slice 22 (.slice (some ⟨bl, ol, none⟩) m capl) (some (.int .i64 ((k : Int) + (nx : Int)))) (some (.int .i64 ((k : Int) + (nx : Int) + (ny : Int)))) none).run Try.prog w = .ok (.slice (some ⟨bl, oo2, none⟩) ny (capl - (k + nx))) w := fun w => by rw [ho2]; exact slice_law w (by omega) (by omega) (by omega) HD1.out
      have FS1 : Hid (∀ w', Below w.heap.size w w' → Fs w' (some ⟨bl, oo1, none⟩) nx (capl - k) ((zs.drop k).take nx)) := fun w' hb => by rw [ho1]; exact fs_seg (HZ.out.below hb) (by omega)
      have FS2 : Hid (∀ w', Below w.heap.size w w' → Fs w' (some ⟨bl, oo2, none⟩) ny (capl - (k + nx)) (((zs.drop k).drop nx).take ny)) := fun w' hb => by rw [ho2, List.drop_drop]; exact fs_seg (HZ.out.below hb) (by omega)
      clear ho1 ho2
      obtain ⟨q0, q1, q2, q3, q4, q5⟩ := QL
      obtain ⟨m0, m1'⟩ := HM.out.below hB.out
      clear F1 F2
      go_wp2_with fail
      clear q0 q1 q2 q3 q4 q5 m0 m1'
      refine calls_at ?_
      intro w1 hA
      obtain ⟨LF_, A1, zl⟩ := lf_new hA
      clear hA
      have zw := hB.out.size
      have BB1 := hB.out.trans (A1.mono zw)
      refine (ownS bl oo1 nx (capl - k) ((zs.drop k).take nx) w1 (by omega) (FS1.out _ BB1)).mono ?_
      rintro e w2 ⟨pp, d1, rfl, R, A2⟩
      obtain ⟨g1, rfl, hg1, hg1', K1_⟩ := R1.of R
      have z2 := A2.size
      have LF2 := Lib.hid (LF_.below A2)
      have K1 := Lib.hid K1_
      have BB2 := Lib.hid (BB1.trans (A2.mono BB1.size))
      have hg0 : wr.heap.size < g1 := by omega
      have HX2 := Lib.hid (show Below wr.heap.size wr w2 from A1.trans (A2.mono (by omega)))
      clear A1 A2 R K1_ LF_ BB1
      obtain ⟨f0, f1, f2, f3, f4, f5, f6, f7⟩ := LF2.out
      go_wp2_with fail
      clear f0 f1 f2 f3 f4 f5 f6 f7
      refine calls_at ?_
      intro w3 hA
      have LF3 : Lf w3 wr.heap.size (lat L j).k (lat L j).i (lat L j).u (.slice (some ⟨g1, 0, none⟩) nx d1) (.slice (some ⟨p2, o2, none⟩) ny c2) := by rw [hA]; exact LF2.out.put3 _
      have K13 : R1 w3 g1 nx d1 ((zs.drop k).take nx) := by rw [hA]; exact K1.out.set (by omega) _ _
      have X3 : Below wr.heap.size wr w3 := by rw [hA]; exact HX2.out.setCell (Nat.le_refl _) _
      have BB3 : Below w.heap.size w w3 := by rw [hA]; exact BB2.out.setCell zw _
      have z3 : w2.heap.size ≤ w3.heap.size := by rw [hA]; simp [World.setCell]
      clear hA LF2 K1 HX2 BB2
      refine (ownS bl oo2 ny (capl - (k + nx)) (((zs.drop k).drop nx).take ny) w3 (by omega) (FS2.out _ BB3)).mono ?_
      rintro e w4 ⟨pp2, d2, rfl, R, A4⟩
      obtain ⟨g2, rfl, hg2, hg2', K2_⟩ := R1.of R
      have z4 := A4.size
      have hg12 : g1 < g2 := by have := K13.lt; omega
      have K1 := Lib.hid (K13.below A4)
      have K2 := Lib.hid K2_
      have LF4 := Lib.hid (LF3.below A4)
      have X4 := Lib.hid (X3.trans (A4.mono (by omega)))
      have BB4 := Lib.hid (BB3.trans (A4.mono BB3.size))
      have hO4 := Lib.hid (hO.out.below X4.out)
      have hR4 := Lib.hid (hR.out.below X4.out)
      clear A4 R K2_ LF3 X3 BB3 K13
      obtain ⟨f0, f1, f2, f3, f4, f5, f6, f7⟩ := LF4.out
      obtain ⟨t0, t1, t2⟩ := hO4.out
      go_wp2_with (at_builtin; refine wpList_append_own_at _ rfl (.tmp 60) (.tmp 62) 36 rfl (w.heap.size + 2) 27 i0 (.agg #[.int .i64 0, .int .i64 0, .int .i64 0, .slice none 0 0, .slice none 0 0]) 5 72 Try.underlying36 HI.out HZ0.out HZ1.out HZ2.out rfl (by decide) v j cs rfl (hM.out.below ((X4.out.setCell (p := ⟨wr.heap.size, 4, none⟩) (Nat.le_refl _) _).alloc (by simp [World.setCell]; omega) _)).own ⟨w4.heap.size, 0, none⟩ 1 1 [.int .i64 (lat L j).k, .int .i64 (lat L j).i, .int .i64 (lat L j).u, .slice (some ⟨g1, 0, none⟩) nx d1, .slice (some ⟨g2, 0, none⟩) ny d2] rfl rfl (cells5_put _ _ _ _ _ _ _ _ _) ?one (by unfold maxLen; omega) (by omega) (by simp [World.setCell]; omega) ?_)
      case one => intro u hu; simp at hu; rcases hu with rfl | rfl | rfl | rfl | rfl <;> rfl
      intro v' w6 hown hgr hnil hat
      clear t0 t1 t2
      generalize hw5 : (w4.setCell ⟨wr.heap.size, 4, none⟩ (.slice (some ⟨g2, 0, none⟩) ny d2)).alloc _ = w5 at hgr
      have hv := fun q hq => (hM.out.own.lt q hq)
      have s5 : w5.heap.size = w4.heap.size + 1 := by rw [← hw5]; simp [World.setCell]
      have X5 : Below wr.heap.size wr w5 := by rw [← hw5]; exact (X4.out.setCell (p := ⟨wr.heap.size, 4, none⟩) (Nat.le_refl _) _).alloc (by simp [World.setCell]; omega) _
      have r1 : R1 w5 g1 nx d1 ((zs.drop k).take nx) := by rw [← hw5]; exact (K1.out.set (by omega) _ _).below ((Below.refl _ _).alloc (Nat.le_refl _) _)
      have r2 : R1 w5 g2 ny d2 (((zs.drop k).drop nx).take ny) := by rw [← hw5]; exact (K2.out.set (by omega) _ _).below ((Below.refl _ _).alloc (Nat.le_refl _) _)
      have zl := HZ.out.len
      have hkk := hk.out
      have hxx := HX.out
      have hyy := HY.out
      obtain ⟨cs', P', C', M6_⟩ := hM.out.app2 (w' := w6) (v' := v') (by rw [wl_at L zs hlt, ← hkk, ← hxx, ← hyy]) (by rw [List.length_take, List.length_drop]; omega) (by rw [List.length_take, List.length_drop, List.length_drop]; omega) (fun i hi => ⟨(hM.out.r i hi).1.below X5, (hM.out.r i hi).2.below X5⟩) r1 r2 (by omega) hg12 (by omega) hown hgr (by rw [s5]; exact hat)
      obtain ⟨g6, cap6, rfl⟩ := M6_.sm (by omega)
      have BB6 := Lib.hid ((hB.out.trans (X5.mono hB.out.size)).trans (grown_bel (B := w.heap.size) hgr (fun q hq => by have := hv q hq; omega) (by omega)))
      have O6 := Lib.hid ((hO.out.below X5).grown hgr (fun e => by have := hv _ e; omega))
      have R6 := Lib.hid ((hR.out.below X5).grown hgr (fun e => by have := hv _ e; omega))
      have M6 := Lib.hid M6_
      have s6 := hgr.size
      clear M6_ hown hgr hnil hat hw5 hv X5 r1 r2 zl hkk hxx hyy
      obtain ⟨t0, t1, t2⟩ := O6.out
      go_wp2
      go_roundw
      case rel => exact ⟨j + 1, k + nx + ny, _, cs', P', C', by omega, by go_num, by go_num, (by have := ES.out; have := hk.out; have := HX.out; have := HY.out; show _ = _; omega), M6.out.set (by omega) _ _, BB6.out.setCell (by simp <;> omega) _, R6.out.set (by omega) _ _, O6.out.put _, by simp [World.setCell]; omega⟩
      case measure => simp [intOf]; omega
    · have e : j = n := by omega
      subst e
      obtain ⟨g, cap', rfl⟩ := hM.out.sm hn.1
      obtain ⟨t0, t1, t2⟩ := hO.out
      obtain ⟨t3, t4, t5⟩ := hR.out
      obtain ⟨m0, m1'⟩ := HM.out.below hB.out
      go_wp2
      (try simp only [Exit.inBlock, Exit.then])
      refine bodyPost_ret (results_cell1 rfl _ _ _ rfl (v := .agg #[.slice (some ⟨g, 0, none⟩) j cap']) (by go_simp)) rfl ?_
      exact ⟨g, cap', cs, P, C, rfl, (hM.out.set (by omega) _ _).down (by omega), hB.out.setCell (by simp <;> omega) _⟩
/-- what is left of the list, in a cell of one's own -/
def Left (w0 w : World) (b bl n : Nat) (zs : List Nat) (j : Nat) : Prop := ∃ o cp, Cq w b (.slice (some ⟨bl, o, none⟩) n cp) ∧ Fs w0 (some ⟨bl, o, none⟩) n cp (zs.drop j)
theorem Left.below {w0 w w' : World} {b bl n j : Nat} {zs : List Nat} (h : Left w0 w b bl n zs j) (hb : Below w.heap.size w w') : Left w0 w' b bl n zs j := by
  obtain ⟨o, cp, h1, h2⟩ := h
  exact ⟨o, cp, h1.below hb, h2⟩
theorem Left.set {w0 w : World} {b bl n j : Nat} {zs : List Nat} (h : Left w0 w b bl n zs j) {b' : Nat} (hne : b ≠ b') (o : Nat) (u : Value) : Left w0 (w.setCell ⟨b', o, none⟩ u) b bl n zs j := by
  obtain ⟨o', cp, h1, h2⟩ := h
  exact ⟨o', cp, h1.set hne _ _, h2⟩
theorem Left.grown {w0 w w' : World} {b bl n j : Nat} {zs : List Nat} (h : Left w0 w b bl n zs j) {row : Option Nat} (hg : w.grownBy w' row) (hr : row ≠ some b) : Left w0 w' b bl n zs j := by
  obtain ⟨o', cp, h1, h2⟩ := h
  exact ⟨o', cp, h1.grown hg hr, h2⟩
theorem takeL (w0 w : World) (b1 bl n j m : Nat) (zs : List Nat) (hm : m ≤ n) (hn : n ≤ 1048576) (hB : Below w0.heap.size w0 w) (h : Left w0 w b1 bl n zs j) :
    Calls Try.prog 53 #[.int .i64 (m : Int), .pointer (some ⟨b1, 0, none⟩)] w fun e w' => ∃ g c, e = .returned (.slice (some ⟨g, 0, none⟩) m c) ∧ w.heap.size ≤ g ∧ R1 w' g m c ((zs.drop j).take m) ∧ Bx w.heap.size b1 w w' ∧ Left w0 w' b1 bl (n - m) zs (j + m) := by
  obtain ⟨o, cp, h1, h2⟩ := h
  refine (takeI bl o n cp m b1 (zs.drop j) w hm hn h1.c h1.f (h2.below hB)).mono ?_
  rintro e w' ⟨g, c, rfl, hg, R, X, c2, f2⟩
  refine ⟨g, c, rfl, hg, R, X, _, _, ⟨c2, f2, Nat.lt_of_lt_of_le h1.lt X.size⟩, ?_⟩
  have hf := fs_seg h2 (i := m) (m := n - m) (by omega)
  rw [List.drop_drop] at hf
  rwa [List.take_of_length_le (by rw [List.length_drop]; have := h2.len; rw [List.length_drop] at this; omega)] at hf
set_option maxHeartbeats 4000000 in
theorem withI (a : Option Addr) (n cap : Nat) (L : List LD) (bl ol m capl : Nat) (zs : List Nat) (w : World) (hn : 0 < n ∧ n ≤ 1048576) (hs : szs L n ≤ 1048576) (h : Lz w a n cap L) (hml : m = szs L n) (hz : Fs w (some ⟨bl, ol, none⟩) m capl zs) :
    Calls Try.prog 46 #[.agg #[.slice a n cap], .slice (some ⟨bl, ol, none⟩) m capl] w (WP w n (wl L zs n)) := by
  obtain ⟨i0, hi, hz0, hz1, hz2⟩ := info_parts infoL
  have HI := Lib.hid hi
  have HZ0 := Lib.hid hz0
  have HZ1 := Lib.hid hz1
  have HZ2 := Lib.hid hz2
  clear hi hz0 hz1 hz2
  have hc1 := h.ls.cap1
  have hc2 := h.ls.cap2
  have hd2 := hz.cap2
  unfold maxLen at hc2 hd2
  have H := Lib.hid h
  have HZ := Lib.hid hz
  have hm1 := Nat.le_of_eq hml
  have hm2 := Nat.le_of_eq hml.symm
  clear h hz hml
  go_enter Try.func46, Try.ntmps46
  go_wp2_with fail
  refine reg_at ?_
  intro wb hA
  have zb : wb.heap.size = w.heap.size + 4 := by rw [hA]; simp
  have T : Below w.heap.size w wb := by rw [hA]; exact ((((Below.refl _ _).alloc (Nat.le_refl _) _).alloc (by simp) _).alloc (by simp; omega) _).alloc (by simp; omega) _
  have QL : Left w wb (w.heap.size + 1) bl m zs 0 := ⟨ol, capl, ⟨by rw [hA]; simp [go_sem], by rw [hA]; simp [go_sem], by omega⟩, HZ.out⟩
  have QR : Cq wb (w.heap.size + 2) (.slice none 0 0) := ⟨by rw [hA]; simp [go_sem], by rw [hA]; simp [go_sem], by omega⟩
  have QO : Cq wb (w.heap.size + 3) (.slice none 0 0) := ⟨by rw [hA]; simp [go_sem], by rw [hA]; simp [go_sem], by omega⟩
  have m0 : wb.cell? ⟨w.heap.size, 0, none⟩ = some (.slice a n cap) := by rw [hA]; simp [go_sem]
  clear hA
  have zb1 := Nat.le_of_eq zb
  have zb2 := Nat.le_of_eq zb.symm
  have HT := Lib.hid T
  have HQL := Lib.hid QL
  have HQR := Lib.hid QR
  have HQO := Lib.hid QO
  have HB0 := Lib.hid (Mb.start wb (w.heap.size + 4) (wl L zs n))
  clear T QR QO QL zb
  go_wp2
  clear m0
  go_loopw [14] (fun i w' => ∃ (j k r : Nat) (v : Value) (cs : List Value) (P C : Nat → Nat), j ≤ n ∧ i = .int .i64 j ∧ Hid (k = szs L j) ∧ Hid (k + r = m) ∧ Hid (Left w w' (w.heap.size + 1) bl r zs k) ∧ Hid (Mb w' (w.heap.size + 4) v j (wl L zs n) cs P C) ∧ Hid (Below w.heap.size w w') ∧ Hid (Cq w' (w.heap.size + 2) (.slice none 0 0)) ∧ Hid (Cq w' (w.heap.size + 3) v) ∧ w.heap.size + 4 ≤ w'.heap.size) (fun i _ => n - (intOf i).toNat)
  case atStart => exact ⟨0, 0, m, _, _, _, _, Nat.zero_le _, rfl, rfl, Nat.zero_add _, HQL.out, HB0.out, HT.out, HQR.out, HQO.out, zb2⟩
  case round =>
    obtain ⟨j, k, r, v, cs, P, C, hj, rfl, hk, hr, hL, hM, hB, hR, hO, zr⟩ := hrel
    by_cases hlt : j < n
    · have hat := szs_mono L (show j + 1 ≤ n by omega)
      have es : szs L (j + 1) = szs L j + ((lat L j).xs.length + (lat L j).ys.length) := rfl
      have hk2 := hk.out
      have hr2 := hr.out
      have b1 : (lat L j).xs.length + (lat L j).ys.length ≤ r := by omega
      have hm3 : m ≤ 1048576 := by omega
      have hr3 : r ≤ 1048576 := by omega
      have ES := Lib.hid es
      clear es hat hk2 hr2
      obtain ⟨b, o, rfl, p1, o1, c1, p2, o2, c2, QL, F1, F2⟩ := (H.out.below hB.out).cell j hlt
      obtain ⟨nx, hx⟩ : ∃ x, x = (lat L j).xs.length := ⟨_, rfl⟩
      obtain ⟨ny, hy⟩ : ∃ x, x = (lat L j).ys.length := ⟨_, rfl⟩
      rw [← hx] at b1 QL
      rw [← hy] at b1 QL
      have HX := Lib.hid hx
      have HY := Lib.hid hy
      clear hx hy
      obtain ⟨q0, q1, q2, q3, q4, q5⟩ := QL
      clear F1 F2
      go_wp2_with fail
      clear q0 q1 q2 q3 q4 q5
      refine calls_at ?_
      intro w1 hA
      obtain ⟨LF_, A1, zl⟩ := lf_new hA
      clear hA
      have zw := hB.out.size
      refine (takeL w w1 _ bl r k nx zs (by omega) hr3 (hB.out.trans (A1.mono zw)) (hL.out.below A1)).mono ?_
      rintro e w2 ⟨g1, d1, rfl, hg1, K1_, X2, L2⟩
      have LF2 := Lib.hid (LF_.bx X2 (by omega))
      have XX2 := (Bx.of (b := w.heap.size + 1) A1).trans (X2.mono (by omega))
      have z2 := X2.size
      have K1 := Lib.hid K1_
      have HL2 := Lib.hid L2
      have HX2 := Lib.hid XX2
      have hg0 : wr.heap.size < g1 := by omega
      clear A1 X2 L2 K1_ LF_ XX2 
      obtain ⟨f0, f1, f2, f3, f4, f5, f6, f7⟩ := LF2.out
      go_wp2_with fail
      clear f0 f1 f2 f3 f4 f5 f6 f7
      refine calls_at ?_
      intro w3 hA
      have LF3 : Lf w3 wr.heap.size (lat L j).k (lat L j).i (lat L j).u (.slice (some ⟨g1, 0, none⟩) nx d1) (.slice (some ⟨p2, o2, none⟩) ny c2) := by rw [hA]; exact LF2.out.put3 _
      have K13 : R1 w3 g1 nx d1 ((zs.drop k).take nx) := by rw [hA]; exact K1.out.set (by omega) _ _
      have X3 : Bx wr.heap.size (w.heap.size + 1) wr w3 := by rw [hA]; exact HX2.out.setHi (Nat.le_refl _) _
      have L3 : Left w w3 (w.heap.size + 1) bl (r - nx) zs (k + nx) := by rw [hA]; exact HL2.out.set (by omega) _ _
      have z3 : w2.heap.size ≤ w3.heap.size := by rw [hA]; simp [World.setCell]
      clear hA LF2 K1 HX2 HL2
      refine (takeL w w3 _ bl (r - nx) (k + nx) ny zs (by omega) (by omega) (hB.out.trans (X3.below zw (by omega))) L3).mono ?_
      rintro e w4 ⟨g2, d2, rfl, hg2, K2_, X4_, L4⟩
      have z4 := X4_.size
      have hg12 : g1 < g2 := by have := K13.lt; omega
      have K1 := Lib.hid (K13.bx X4_ (by omega))
      have K2 := Lib.hid K2_
      have LF4 := Lib.hid (LF3.bx X4_ (by omega))
      have X4 := Lib.hid (X3.trans (X4_.mono (by omega)))
      have HL4 := Lib.hid L4
      have hO4 := Lib.hid (hO.out.bx X4.out (by omega) (by omega))
      clear X4_ K2_ LF3 X3 K13 L3 L4
      obtain ⟨f0, f1, f2, f3, f4, f5, f6, f7⟩ := LF4.out
      obtain ⟨t0, t1, t2⟩ := hO4.out
      go_wp2_with (at_builtin; refine wpList_append_own_at _ rfl (.tmp 31) (.tmp 33) 36 rfl (w.heap.size + 4) 27 i0 (.agg #[.int .i64 0, .int .i64 0, .int .i64 0, .slice none 0 0, .slice none 0 0]) 5 72 Try.underlying36 HI.out HZ0.out HZ1.out HZ2.out rfl (by decide) v j cs rfl (hM.out.bx ((X4.out.setHi (p := ⟨wr.heap.size, 4, none⟩) (Nat.le_refl _) _).alloc (by simp [World.setCell]; omega) _) (by omega)).own ⟨w4.heap.size, 0, none⟩ 1 1 [.int .i64 (lat L j).k, .int .i64 (lat L j).i, .int .i64 (lat L j).u, .slice (some ⟨g1, 0, none⟩) nx d1, .slice (some ⟨g2, 0, none⟩) ny d2] rfl rfl (cells5_put _ _ _ _ _ _ _ _ _) ?one (by unfold maxLen; omega) (by omega) (by simp [World.setCell]; omega) ?_)
      case one => intro u hu; simp at hu; rcases hu with rfl | rfl | rfl | rfl | rfl <;> rfl
      intro v' w6 hown hgr hnil hat
      clear t0 t1 t2 f0 f1 f2 f3 f4 f5 f6 f7
      generalize hw5 : (w4.setCell ⟨wr.heap.size, 4, none⟩ (.slice (some ⟨g2, 0, none⟩) ny d2)).alloc _ = w5 at hgr
      have hv := fun q hq => (hM.out.own.lt q hq)
      have s5 : w5.heap.size = w4.heap.size + 1 := by rw [← hw5]; simp [World.setCell]
      have X5 : Bx wr.heap.size (w.heap.size + 1) wr w5 := by rw [← hw5]; exact (X4.out.setHi (p := ⟨wr.heap.size, 4, none⟩) (Nat.le_refl _) _).alloc (by simp [World.setCell]; omega) _
      have r1 : R1 w5 g1 nx d1 ((zs.drop k).take nx) := by rw [← hw5]; exact (K1.out.set (by omega) _ _).below ((Below.refl _ _).alloc (Nat.le_refl _) _)
      have r2 : R1 w5 g2 ny d2 (((zs.drop k).drop nx).take ny) := by rw [← hw5, List.drop_drop]; exact (K2.out.set (by omega) _ _).below ((Below.refl _ _).alloc (Nat.le_refl _) _)
      have L5 : Left w w5 (w.heap.size + 1) bl (r - nx - ny) zs (k + nx + ny) := by rw [← hw5]; exact (HL4.out.set (by omega) _ _).below ((Below.refl _ _).alloc (Nat.le_refl _) _)
      have zl := HZ.out.len
      have hkk := hk.out
      have hxx := HX.out
      have hyy := HY.out
      have hrr := hr.out
      have M5 := hM.out.bx X5 (by omega)
      obtain ⟨cs', P', C', M6_⟩ := hM.out.app2 (w' := w6) (v' := v') (by rw [wl_at L zs hlt, ← hkk, ← hxx, ← hyy]) (by rw [List.length_take, List.length_drop]; omega) (by rw [List.length_take, List.length_drop, List.length_drop]; omega) (fun i hi => M5.r i hi) r1 r2 (by omega) hg12 (by omega) hown hgr (by rw [s5]; exact hat)
      obtain ⟨g6, cap6, rfl⟩ := M6_.sm (by omega)
      have BB6 := Lib.hid ((hB.out.trans (X5.below hB.out.size (by omega))).trans (grown_bel (B := w.heap.size) hgr (fun q hq => by have := hv q hq; omega) (by omega)))
      have O6 := Lib.hid ((hO.out.bx X5 (by omega) (by omega)).grown hgr (fun e => by have := hv _ e; omega))
      have R6 := Lib.hid ((hR.out.bx X5 (by omega) (by omega)).grown hgr (fun e => by have := hv _ e; omega))
      have L6 := Lib.hid (L5.grown hgr (fun e => by have := hv _ e; omega))
      have M6 := Lib.hid M6_
      have s6 := hgr.size
      clear M6_ hown hgr hnil hat hw5 hv X5 r1 r2 zl hkk hxx hyy L5 M5 hrr
      obtain ⟨t0, t1, t2⟩ := O6.out
      go_wp2
      go_roundw
      case rel => exact ⟨j + 1, k + nx + ny, r - nx - ny, _, cs', P', C', by omega, by go_num, (by have := ES.out; have := hk.out; have := HX.out; have := HY.out; show _ = _; omega), (by have := hr.out; show _ = _; omega), L6.out.set (by omega) _ _, M6.out.set (by omega) _ _, BB6.out.setCell (by simp <;> omega) _, R6.out.set (by omega) _ _, O6.out.put _, by simp [World.setCell]; omega⟩
      case measure => simp [intOf]; omega
    · have e : j = n := by omega
      subst e
      obtain ⟨g, cap', rfl⟩ := hM.out.sm hn.1
      obtain ⟨t0, t1, t2⟩ := hO.out
      obtain ⟨t3, t4, t5⟩ := hR.out
      go_wp2
      (try simp only [Exit.inBlock, Exit.then])
      refine bodyPost_ret (results_cell1 rfl _ _ _ rfl (v := .agg #[.slice (some ⟨g, 0, none⟩) j cap']) (by go_simp)) rfl ?_
      exact ⟨g, cap', cs, P, C, rfl, (hM.out.set (by omega) _ _).down (by omega), hB.out.setCell (by simp <;> omega) _⟩
end Go.Proofs.Ytclhemjanhhioaa
