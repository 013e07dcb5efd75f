/- Lists of layers that are built by appending: each of their rows has a block of its own. -/
import Derived.Test.YtclhemjanhhioaaLayK
import Derived.Test.YtclhemjanhhioaaLayP
import Derived.Test.YtclhemjanhhioaaAccX
import Derived.Maps.AppendAt
namespace Go.Proofs.Ytclhemjanhhioaa
open Go.RowKit Go.Fl Go.Reg
/-- a row of its own, in block g -/
def R1 (w : World) (g n cap : Nat) (xs : List Nat) : Prop := Row w g (g + 1) 67 (.slice (some ⟨g, 0, none⟩) n cap) n xs
/-- the first n layers of L, in a slice v of the call's own; row number i lies in block P i -/
structure Mb (w : World) (B : Nat) (v : Value) (n : Nat) (L : List LD) (cs : List Value) (P C : Nat → Nat) : Prop where
  own : w.ownsRow B 27 5 v n cs
  c : ∀ i, i < n → cs[i * 5]? = some (.int .i64 (lat L i).k) ∧ cs[i * 5 + 1]? = some (.int .i64 (lat L i).i) ∧ cs[i * 5 + 2]? = some (.int .i64 (lat L i).u) ∧ cs[i * 5 + 3]? = some (.slice (some ⟨P (2 * i), 0, none⟩) (lat L i).xs.length (C (2 * i))) ∧ cs[i * 5 + 4]? = some (.slice (some ⟨P (2 * i + 1), 0, none⟩) (lat L i).ys.length (C (2 * i + 1)))
  r : ∀ i, i < n → R1 w (P (2 * i)) (lat L i).xs.length (C (2 * i)) (lat L i).xs ∧ R1 w (P (2 * i + 1)) (lat L i).ys.length (C (2 * i + 1)) (lat L i).ys
  low : ∀ i, i < 2 * n → B ≤ P i
  inj : ∀ i k, i < k → k < 2 * n → P i < P k
  gne : ∀ q, v.ownBlock = some q → ∀ i, i < 2 * n → P i ≠ q
theorem R1.lt {w : World} {g n cap : Nat} {xs : List Nat} (h : R1 w g n cap xs) : g < w.heap.size := (h.own.lt g rfl).2
theorem R1.of {w : World} {lo hi n cap : Nat} {p : Addr} {xs : List Nat} (h : Row w lo hi 67 (.slice (some p) n cap) n xs) : ∃ g, p = ⟨g, 0, none⟩ ∧ lo ≤ g ∧ g < hi ∧ R1 w g n cap xs := by
  obtain ⟨g, hg⟩ := some_of h.own (by simp)
  injection hg with hg
  subst hg
  refine ⟨g, rfl, (h.own.lt g rfl).1, h.lt g rfl, ⟨?_, Nat.le_succ _, (h.own.lt g rfl).2, fun k hk => by simp [Value.ownBlock] at hk; omega⟩⟩
  refine ⟨h.own.1, ?_⟩
  rcases h.own.2 with ⟨e, _⟩ | ⟨g', c', cur, e, hb, rest⟩
  · cases e
  · have : g' = g := by injection e with e1; injection e1 with e1; injection e1 with e1; exact e1.symm
    exact .inr ⟨g', c', cur, e, by omega, rest⟩
theorem R1.below {w w' : World} {g n cap : Nat} {xs : List Nat} (h : R1 w g n cap xs) (hb : Below w.heap.size w w') : R1 w' g n cap xs := Row.below h hb
theorem R1.bx {w w' : World} {b g n cap : Nat} {xs : List Nat} (h : R1 w g n cap xs) (hb : Bx w.heap.size b w w') (hg : g ≠ b) : R1 w' g n cap xs := Row.uptoX h hb h.lt (by omega)
theorem R1.set {w : World} {g n cap : Nat} {xs : List Nat} (h : R1 w g n cap xs) {b : Nat} (hg : g ≠ b) (o : Nat) (u : Value) : R1 (w.setCell ⟨b, o, none⟩ u) g n cap xs := row_put h (by omega) o u
theorem R1.grown {w w' : World} {row : Option Nat} {g n cap : Nat} {xs : List Nat} (h : R1 w g n cap xs) (hg : w.grownBy w' row) (hr : row ≠ some g) : R1 w' g n cap xs := by
  have hlt := h.lt
  refine ⟨⟨h.own.1, ?_⟩, Row.low h, Nat.lt_of_lt_of_le hlt hg.size, Row.lt h⟩
  rcases h.own.2 with hn | ⟨g', cap', cur, e, hbg, hgg, rest⟩
  · exact .inl hn
  · have : g' = g := by injection e with e1; injection e1 with e1; injection e1 with e1; exact e1.symm
    subst this
    exact .inr ⟨g', cap', cur, e, hbg, by rw [hg.block g' hlt (fun e => hr e.symm)]; exact hgg, rest⟩
theorem own_bx5 {w w' : World} {base b : Nat} {e : TypeId} {v : Value} {n : Nat} {xs : List Value} (h : w.ownsRow base e 5 v n xs) (hb : Bx w.heap.size b w w') (hlt : b < base) : w'.ownsRow base e 5 v n xs := by
  refine ⟨h.1, ?_⟩
  have hl := h.lt
  rcases h.2 with hn | ⟨g, cap, cur, rfl, hbg, hgg, rest⟩
  · exact .inl hn
  · exact .inr ⟨g, cap, cur, rfl, hbg, by rw [hb.block g (hl g rfl).2 (by omega)]; exact hgg, rest⟩
section
variable {w w' : World} {B n : Nat} {v : Value} {L : List LD} {cs : List Value} {P C : Nat → Nat}
theorem Mb.bx (h : Mb w B v n L cs P C) {b : Nat} (hb : Bx w.heap.size b w w') (hlt : b < B) : Mb w' B v n L cs P C :=
  ⟨own_bx5 h.own hb hlt, h.c, fun i hi => ⟨(h.r i hi).1.bx hb (by have := h.low (2 * i) (by omega); omega), (h.r i hi).2.bx hb (by have := h.low (2 * i + 1) (by omega); omega)⟩, h.low, h.inj, h.gne⟩
theorem Mb.below (h : Mb w B v n L cs P C) (hb : Below w.heap.size w w') : Mb w' B v n L cs P C :=
  ⟨own_below5 h.own hb, h.c, fun i hi => ⟨(h.r i hi).1.below hb, (h.r i hi).2.below hb⟩, h.low, h.inj, h.gne⟩
theorem Mb.set (h : Mb w B v n L cs P C) {b : Nat} (hb : b < B) (o : Nat) (u : Value) : Mb (w.setCell ⟨b, o, none⟩ u) B v n L cs P C :=
  ⟨own_set5 h.own (p := ⟨b, o, none⟩) hb u, h.c, fun i hi => ⟨(h.r i hi).1.set (by have := h.low (2 * i) (by omega); omega) o u, (h.r i hi).2.set (by have := h.low (2 * i + 1) (by omega); omega) o u⟩, h.low, h.inj, h.gne⟩
theorem Mb.down (h : Mb w B v n L cs P C) {B' : Nat} (hb : B' ≤ B) : Mb w B' v n L cs P C :=
  ⟨own_base5 h.own hb, h.c, h.r, fun i hi => Nat.le_trans hb (h.low i hi), h.inj, h.gne⟩
theorem Mb.keep (h : Mb w B v n L cs P C) {lo hi : Nat} (K : Keep lo hi w w') (hb : hi ≤ B) : Mb w' B v n L cs P C := by
  refine ⟨⟨h.own.1, ?_⟩, h.c, fun i hi' => ⟨(h.r i hi').1.keep K (.inr (Nat.le_trans hb (h.low (2 * i) (by omega)))), (h.r i hi').2.keep K (.inr (Nat.le_trans hb (h.low (2 * i + 1) (by omega))))⟩, h.low, h.inj, h.gne⟩
  have hl := h.own.lt
  rcases h.own.2 with hn | ⟨g, cap, cur, rfl, hbg, hgg, rest⟩
  · exact .inl hn
  · exact .inr ⟨g, cap, cur, rfl, hbg, by rw [K.block g (hl g rfl).2 (by omega)]; exact hgg, rest⟩
theorem Mb.start (w : World) (B : Nat) (L : List LD) : Mb w B (.slice none 0 0) 0 L [] (fun _ => 0) (fun _ => 0) :=
  ⟨World.ownsRow_nil _ _ _ _, fun i hi => by omega, fun i hi => by omega, fun i hi => by omega, fun i k h1 h2 => by omega, fun q hq => by cases hq⟩
theorem Mb.sm (h : Mb w B v n L cs P C) (hn : 0 < n) : ∃ g cap, v = .slice (some ⟨g, 0, none⟩) n cap := by
  rcases h.own.2 with ⟨_, e⟩ | ⟨g, cap, cur, e, _⟩
  · omega
  · exact ⟨g, cap, e⟩
/-- one layer more -/
theorem Mb.app {w1 : World} {v' : Value} {p1 p2 c1 c2 : Nat} (h : Mb w B v n L cs P C) (hw : ∀ i, i < n → R1 w1 (P (2 * i)) (lat L i).xs.length (C (2 * i)) (lat L i).xs ∧ R1 w1 (P (2 * i + 1)) (lat L i).ys.length (C (2 * i + 1)) (lat L i).ys)
    (k1 : R1 w1 p1 (lat L n).xs.length c1 (lat L n).xs) (k2 : R1 w1 p2 (lat L n).ys.length c2 (lat L n).ys) (hp1 : w.heap.size ≤ p1) (hp2 : p1 < p2) (hB : B ≤ w.heap.size)
    (hown : w'.ownsRow B 27 5 v' (n + 1) (cs ++ [.int .i64 (lat L n).k, .int .i64 (lat L n).i, .int .i64 (lat L n).u, .slice (some ⟨p1, 0, none⟩) (lat L n).xs.length c1, .slice (some ⟨p2, 0, none⟩) (lat L n).ys.length c2]))
    (hg : w1.grownBy w' v.ownBlock) (hat : v'.ownBlock = v.ownBlock ∨ v'.ownBlock = some w1.heap.size) :
    ∃ P' C', Mb w' B v' (n + 1) L (cs ++ [.int .i64 (lat L n).k, .int .i64 (lat L n).i, .int .i64 (lat L n).u, .slice (some ⟨p1, 0, none⟩) (lat L n).xs.length c1, .slice (some ⟨p2, 0, none⟩) (lat L n).ys.length c2]) P' C' := by
  have hlen : cs.length = n * 5 := h.own.1
  have hv : ∀ q, v.ownBlock = some q → q < w.heap.size := fun q hq => (h.own.lt q hq).2
  have hlt : ∀ i, i < 2 * n → P i < w.heap.size := fun i hi => by
    obtain ⟨j, hj⟩ : ∃ j, i = 2 * j ∨ i = 2 * j + 1 := ⟨i / 2, by omega⟩
    rcases hj with e | e
    · subst e; exact (h.r j (by omega)).1.lt
    · subst e; exact (h.r j (by omega)).2.lt
  obtain ⟨P', e0, e1, e2⟩ : ∃ P' : Nat → Nat, (∀ i, i < 2 * n → P' i = P i) ∧ P' (2 * n) = p1 ∧ P' (2 * n + 1) = p2 :=
    ⟨fun i => if i < 2 * n then P i else if i = 2 * n then p1 else p2, fun i hi => if_pos hi, by dsimp only; rw [if_neg (by omega), if_pos rfl], by dsimp only; rw [if_neg (by omega), if_neg (by omega)]⟩
  obtain ⟨C', f0, f1, f2⟩ : ∃ C' : Nat → Nat, (∀ i, i < 2 * n → C' i = C i) ∧ C' (2 * n) = c1 ∧ C' (2 * n + 1) = c2 :=
    ⟨fun i => if i < 2 * n then C i else if i = 2 * n then c1 else c2, fun i hi => if_pos hi, by dsimp only; rw [if_neg (by omega), if_pos rfl], by dsimp only; rw [if_neg (by omega), if_neg (by omega)]⟩
  have e3 : ∀ i, i < 2 * (n + 1) → (i < 2 * n ∧ P' i = P i) ∨ (i = 2 * n ∧ P' i = p1) ∨ (i = 2 * n + 1 ∧ P' i = p2) := fun i hi => by
    by_cases h1 : i < 2 * n
    · exact .inl ⟨h1, e0 i h1⟩
    · by_cases h2 : i = 2 * n
      · exact .inr (.inl ⟨h2, by rw [h2]; exact e1⟩)
      · have h3 : i = 2 * n + 1 := by omega
        exact .inr (.inr ⟨h3, by rw [h3]; exact e2⟩)
  refine ⟨P', C', hown, fun i hi => ?_, fun i hi => ?_, fun i hi => ?_, fun i k hik hk => ?_, fun q hq i hi => ?_⟩
  · by_cases e : i = n
    · subst e
      rw [e1, e2, f1, f2]
      refine ⟨?_, ?_, ?_, ?_, ?_⟩
      · rw [List.getElem?_append_right (by omega), show i * 5 - cs.length = 0 by omega]; rfl
      · rw [List.getElem?_append_right (by omega), show i * 5 + 1 - cs.length = 1 by omega]; rfl
      · rw [List.getElem?_append_right (by omega), show i * 5 + 2 - cs.length = 2 by omega]; rfl
      · rw [List.getElem?_append_right (by omega), show i * 5 + 3 - cs.length = 3 by omega]; rfl
      · rw [List.getElem?_append_right (by omega), show i * 5 + 4 - cs.length = 4 by omega]; rfl
    · simp only [e0 (2 * i) (by omega), e0 (2 * i + 1) (by omega), f0 (2 * i) (by omega), f0 (2 * i + 1) (by omega)]
      rw [List.getElem?_append_left (by omega), List.getElem?_append_left (by omega), List.getElem?_append_left (by omega), List.getElem?_append_left (by omega), List.getElem?_append_left (by omega)]
      exact h.c i (by omega)
  · by_cases e : i = n
    · subst e
      rw [e1, e2, f1, f2]
      exact ⟨k1.grown hg (fun e => by have := hv p1 e; omega), k2.grown hg (fun e => by have := hv p2 e; omega)⟩
    · simp only [e0 (2 * i) (by omega), e0 (2 * i + 1) (by omega), f0 (2 * i) (by omega), f0 (2 * i + 1) (by omega)]
      exact ⟨(hw i (by omega)).1.grown hg (fun e => h.gne _ e (2 * i) (by omega) rfl), (hw i (by omega)).2.grown hg (fun e => h.gne _ e (2 * i + 1) (by omega) rfl)⟩
  · rcases e3 i hi with ⟨h1, e⟩ | ⟨h1, e⟩ | ⟨h1, e⟩
    · rw [e]; exact h.low i h1
    · omega
    · omega
  · rcases e3 k hk with ⟨h1, e⟩ | ⟨h1, e⟩ | ⟨h1, e⟩
    · rw [e, e0 i (by omega)]; exact h.inj i k hik h1
    · have := hlt i (by omega)
      rw [e, e0 i (by omega)]; omega
    · rcases e3 i (by omega) with ⟨h2, e'⟩ | ⟨h2, e'⟩ | ⟨h2, e'⟩
      · have := hlt i h2
        rw [e, e']; omega
      · rw [e, e']; exact hp2
      · omega
  · have hs := k2.lt
    rcases hat with ea | ea
    · rw [ea] at hq
      have := hv q hq
      rcases e3 i hi with ⟨h1, e⟩ | ⟨h1, e⟩ | ⟨h1, e⟩
      · rw [e]; exact h.gne q hq i h1
      · omega
      · omega
    · rw [ea] at hq
      injection hq with hq
      subst hq
      rcases e3 i hi with ⟨h1, e⟩ | ⟨h1, e⟩ | ⟨h1, e⟩
      · have := hlt i h1
        omega
      · omega
      · omega
end
section
variable {w w' : World} {B g n cap : Nat} {L : List LD} {cs : List Value} {P C : Nat → Nat}
theorem Mb.lt (h : Mb w B (.slice (some ⟨g, 0, none⟩) n cap) n L cs P C) {i : Nat} (hi : i < 2 * n) : P i < w.heap.size := by
  obtain ⟨j, hj⟩ : ∃ j, i = 2 * j ∨ i = 2 * j + 1 := ⟨i / 2, by omega⟩
  rcases hj with e | e
  · subst e; exact (h.r j (by omega)).1.lt
  · subst e; exact (h.r j (by omega)).2.lt
theorem Mb.glt (h : Mb w B (.slice (some ⟨g, 0, none⟩) n cap) n L cs P C) : g < w.heap.size := (h.own.lt g rfl).2
theorem Mb.glo (h : Mb w B (.slice (some ⟨g, 0, none⟩) n cap) n L cs P C) : B ≤ g := (h.own.lt g rfl).1
/-- what the list reads as -/
theorem Mb.ls (h : Mb w B (.slice (some ⟨g, 0, none⟩) n cap) n L cs P C) (hl : n = L.length) : Ls w (some ⟨g, 0, none⟩) n cap L := by
  have hcap : n ≤ cap ∧ cap ≤ maxLen := by
    rcases h.own.2 with ⟨e, _⟩ | ⟨g', cap', cur, e, _, _, h1, h2, _⟩
    · cases e
    · injection e with e1 e2 e3; subst e3; exact ⟨h1, h2⟩
  refine ⟨hl, hcap.1, hcap.2, fun i hi => ⟨g, 0, rfl, some ⟨P (2 * i), 0, none⟩, C (2 * i), some ⟨P (2 * i + 1), 0, none⟩, C (2 * i + 1), ?_, (h.r i hi).1.fs, (h.r i hi).2.fs⟩⟩
  obtain ⟨k0, k1, k2, k3, k4⟩ := h.c i hi
  rw [Nat.zero_add]
  exact ⟨(h.own.cellAt _ (by omega)).trans k0, (h.own.cellAt _ (by omega)).trans k1, (h.own.cellAt _ (by omega)).trans k2, (h.own.cellAt _ (by omega)).trans k3, (h.own.cellAt _ (by omega)).trans k4, h.glt⟩
/-- one row of a layer is written anew: the weights -/
theorem Mb.row1 (h : Mb w B (.slice (some ⟨g, 0, none⟩) n cap) n L cs P C) (hL : n = L.length) {j : Nat} (hj : j < n) (K : Keep (P (2 * j)) (P (2 * j) + 1) w w') {zs : List Nat} (hz : zs.length = (lat L j).xs.length) (R : R1 w' (P (2 * j)) (lat L j).xs.length (C (2 * j)) zs) :
    Mb w' B (.slice (some ⟨g, 0, none⟩) n cap) n (L.set j ⟨(lat L j).k, (lat L j).i, (lat L j).u, zs, (lat L j).ys⟩) cs P C := by
  refine ⟨own_keep5 h.own K (by have := h.gne g rfl (2 * j) (by omega); omega), fun i hi => ?_, fun i hi => ?_, h.low, h.inj, h.gne⟩
  · rw [lat_set (by omega)]
    by_cases e : i = j
    · subst e; rw [if_pos rfl]; obtain ⟨k0, k1, k2, k3, k4⟩ := h.c i hi; exact ⟨k0, k1, k2, by rw [hz]; exact k3, k4⟩
    · rw [if_neg e]; exact h.c i hi
  · rw [lat_set (by omega)]
    by_cases e : i = j
    · subst e
      rw [if_pos rfl]
      exact ⟨by rw [hz]; exact R, (h.r i hi).2.keep K (.inr (h.inj _ _ (Nat.lt_succ_self _) (by omega)))⟩
    · rw [if_neg e]
      obtain ⟨r1, r2⟩ := h.r i hi
      rcases Nat.lt_or_gt_of_ne e with e | e
      · exact ⟨r1.keep K (.inl (h.inj _ _ (by omega) (by omega))), r2.keep K (.inl (h.inj _ _ (by omega) (by omega)))⟩
      · exact ⟨r1.keep K (.inr (h.inj _ _ (by omega) (by omega))), r2.keep K (.inr (h.inj _ _ (by omega) (by omega)))⟩
/-- .. the biases -/
theorem Mb.row2 (h : Mb w B (.slice (some ⟨g, 0, none⟩) n cap) n L cs P C) (hL : n = L.length) {j : Nat} (hj : j < n) (K : Keep (P (2 * j + 1)) (P (2 * j + 1) + 1) w w') {zs : List Nat} (hz : zs.length = (lat L j).ys.length) (R : R1 w' (P (2 * j + 1)) (lat L j).ys.length (C (2 * j + 1)) zs) :
    Mb w' B (.slice (some ⟨g, 0, none⟩) n cap) n (L.set j ⟨(lat L j).k, (lat L j).i, (lat L j).u, (lat L j).xs, zs⟩) cs P C := by
  refine ⟨own_keep5 h.own K (by have := h.gne g rfl (2 * j + 1) (by omega); omega), fun i hi => ?_, fun i hi => ?_, h.low, h.inj, h.gne⟩
  · rw [lat_set (by omega)]
    by_cases e : i = j
    · subst e; rw [if_pos rfl]; obtain ⟨k0, k1, k2, k3, k4⟩ := h.c i hi; exact ⟨k0, k1, k2, k3, by rw [hz]; exact k4⟩
    · rw [if_neg e]; exact h.c i hi
  · rw [lat_set (by omega)]
    by_cases e : i = j
    · subst e
      rw [if_pos rfl]
      exact ⟨(h.r i hi).1.keep K (.inl (h.inj _ _ (Nat.lt_succ_self _) (by omega))), by rw [hz]; exact R⟩
    · rw [if_neg e]
      obtain ⟨r1, r2⟩ := h.r i hi
      rcases Nat.lt_or_gt_of_ne e with e | e
      · exact ⟨r1.keep K (.inl (h.inj _ _ (by omega) (by omega))), r2.keep K (.inl (h.inj _ _ (by omega) (by omega)))⟩
      · exact ⟨r1.keep K (.inr (h.inj _ _ (by omega) (by omega))), r2.keep K (.inr (h.inj _ _ (by omega) (by omega)))⟩
/-- a layer's three whole numbers are written anew -/
theorem Mb.ints (h : Mb w B (.slice (some ⟨g, 0, none⟩) n cap) n L cs P C) (hL : n = L.length) {j : Nat} (hj : j < n) (k i u : Int) :
    ∃ cs', Mb (((w.setCell ⟨g, j * 5, none⟩ (.int .i64 k)).setCell ⟨g, j * 5 + 1, none⟩ (.int .i64 i)).setCell ⟨g, j * 5 + 2, none⟩ (.int .i64 u)) B (.slice (some ⟨g, 0, none⟩) n cap) n (L.set j ⟨k, i, u, (lat L j).xs, (lat L j).ys⟩) cs' P C := by
  have hlen : cs.length = n * 5 := h.own.1
  refine ⟨((cs.set (j * 5) (.int .i64 k)).set (j * 5 + 1) (.int .i64 i)).set (j * 5 + 2) (.int .i64 u), ((h.own.stored _ _).1.stored _ _).1.stored _ _ |>.1, fun q hq => ?_, fun q hq => ?_, h.low, h.inj, h.gne⟩
  · rw [lat_set (by omega)]
    obtain ⟨k0, k1, k2, k3, k4⟩ := h.c q hq
    by_cases e : q = j
    · subst e; rw [if_pos rfl]
      refine ⟨?_, ?_, ?_, ?_, ?_⟩
      · rw [List.getElem?_set_ne (by omega), List.getElem?_set_ne (by omega), List.getElem?_set_self (by omega)]
      · rw [List.getElem?_set_ne (by omega), List.getElem?_set_self (by simp; omega)]
      · rw [List.getElem?_set_self (by simp; omega)]
      · rw [List.getElem?_set_ne (by omega), List.getElem?_set_ne (by omega), List.getElem?_set_ne (by omega)]; exact k3
      · rw [List.getElem?_set_ne (by omega), List.getElem?_set_ne (by omega), List.getElem?_set_ne (by omega)]; exact k4
    · rw [if_neg e]
      refine ⟨?_, ?_, ?_, ?_, ?_⟩ <;> rw [List.getElem?_set_ne (by omega), List.getElem?_set_ne (by omega), List.getElem?_set_ne (by omega)] <;> assumption
  · rw [lat_set (by omega)]
    obtain ⟨r1, r2⟩ := h.r q hq
    have p1 := h.gne g rfl (2 * q) (by omega)
    have p2 := h.gne g rfl (2 * q + 1) (by omega)
    have t1 := ((r1.set p1 (j * 5) (.int .i64 k)).set p1 (j * 5 + 1) (.int .i64 i)).set p1 (j * 5 + 2) (.int .i64 u)
    have t2 := ((r2.set p2 (j * 5) (.int .i64 k)).set p2 (j * 5 + 1) (.int .i64 i)).set p2 (j * 5 + 2) (.int .i64 u)
    by_cases e : q = j
    · subst e; rw [if_pos rfl]; exact ⟨t1, t2⟩
    · rw [if_neg e]; exact ⟨t1, t2⟩
end
set_option maxHeartbeats 2000000 in
theorem markLSb (g n cap B hi : Nat) (L : List LD) (cs : List Value) (P C : Nat → Nat) (k : Int) (w : World) (hn : n ≤ 1048576) (hs : szs L n ≤ 1048576) (hk : 0 ≤ k ∧ k ≤ 2147483648) (hL : n = L.length) (M : Mb w B (.slice (some ⟨g, 0, none⟩) n cap) n L cs P C) (hQ : ∀ i, i < 2 * n → P i < hi) (hg : g < hi) (hB : B ≤ g) :
    Calls Try.prog 44 #[.slice (some ⟨g, 0, none⟩) n cap, .int .i64 k] w fun e w' => ∃ cs', e = .returned (.int .i64 (sj k L n)) ∧ Mb w' B (.slice (some ⟨g, 0, none⟩) n cap) n (mkL k L n) cs' P C ∧ Keep B hi w w' := by
  have HL := Lib.hid hL
  have HM := Lib.hid M
  have hcap := (M.ls hL).cap1
  have hcap2 := (M.ls hL).cap2
  unfold maxLen at hcap2
  clear hL M
  go_enter Try.func44, Try.ntmps44
  go_wp2
  go_loopw [1, 5] (fun kk i w' => ∃ (j : Nat) (cs' : List Value) (q : Int), j ≤ n ∧ i = .int .i64 j ∧ kk = .int .i64 q ∧ Hid (q = sj k L j) ∧ Hid (Mb w' B (.slice (some ⟨g, 0, none⟩) n cap) n (mkL k L j) cs' P C) ∧ Hid (Keep B hi w w')) (fun _ i _ => n - (intOf i).toNat)
  case atStart => exact ⟨0, cs, k, Nat.zero_le _, rfl, rfl, by show _ = _; unfold sj szs; simp, HM.out, Keep.refl _ _ _⟩
  case round =>
    obtain ⟨j, cs', q, hj, rfl, rfl, hq, hM, hK⟩ := hrel
    by_cases hlt : j < n
    · have hat := szs_at L hlt
      have hmo := szs_mono L (show j ≤ n by omega)
      have hq2 := hq.out
      unfold sj at hq2
      have hq0 : 0 ≤ q := by omega
      have hq1 : q ≤ 3000000000 := by omega
      have HX := Lib.hid (show lat (mkL k L j) j = lat L j by rw [mkL_at k L j j (by have := HL.out; omega), if_neg (by omega)])
      have HLL := Lib.hid (show n = (mkL k L j).length by rw [mkL_len]; exact HL.out)
      have HEND := Lib.hid (show mkL k L (j + 1) = (mkL k L j).set j (mkd q (lat (mkL k L j) j)) by rw [HX.out]; show (mkL k L j).set j _ = _; rw [hq.out])
      have hnx : (lat (mkL k L j) j).xs.length ≤ 1048576 := by rw [HX.out]; omega
      have hny : (lat (mkL k L j) j).ys.length ≤ 1048576 := by rw [HX.out]; omega
      have HSQ := Lib.hid (show sj k L (j + 1) = q + 3 + ((lat (mkL k L j) j).xs.length : Int) + ((lat (mkL k L j) j).ys.length : Int) by rw [HX.out, hq.out]; unfold sj; show k + 3 * ((j + 1 : Nat) : Int) + ((szs L j + ((lat L j).xs.length + (lat L j).ys.length) : Nat) : Int) = _; omega)
      clear hq2 hat hmo
      generalize hLj : mkL k L j = Lj at *
      have HLJ := Lib.hid hLj
      clear hLj
      obtain ⟨l, hl⟩ : ∃ l, l = lat Lj j := ⟨_, rfl⟩
      have fz0 := hM.out.own.frozenAt (j * 5)
      have fz1 := hM.out.own.frozenAt (j * 5 + 1)
      have fz2 := hM.out.own.frozenAt (j * 5 + 2)
      obtain ⟨v0, x0⟩ := own_cell5 hM.out.own (q := j * 5) (by omega)
      obtain ⟨v1, x1⟩ := own_cell5 hM.out.own (q := j * 5 + 1) (by omega)
      obtain ⟨v2, x2⟩ := own_cell5 hM.out.own (q := j * 5 + 2) (by omega)
      have x3 := (hM.out.own.cellAt (j * 5 + 3) (by omega)).trans (hM.out.c j hlt).2.2.2.1
      obtain ⟨cs3, M3_⟩ := hM.out.ints HLL.out hlt q (q + 1) (q + 1 + 1)
      rw [← hl] at hnx hny x3 M3_
      have HX2 := Lib.hid hl
      have hjl : j < Lj.length := by have := HLL.out; omega
      have M3 := Lib.hid M3_
      clear M3_ hl
      go_wp2_with fail
      clear fz0 fz1 fz2 x0 x1 x2 x3
      have R1 := (M3.out.r j hlt).1
      rw [lat_self hjl] at R1
      refine (markF32 _ _ _ _ _ _ (q + 1 + 1 + 1) _ hnx (by omega) R1).mono ?_
      rintro e w2 ⟨rfl, R2, K2⟩
      have M4 := Lib.hid (M3.out.row1 (by rw [List.length_set]; exact HLL.out) hlt K2 (zs := mks (q + 1 + 1 + 1) l.xs.length) (by rw [mks_length, lat_self hjl]) (by rw [lat_self hjl]; exact R2))
      have HK2 := Lib.hid K2
      clear R1 R2 K2
      have x4 := (M4.out.own.cellAt (j * 5 + 4) (by omega)).trans (M4.out.c j hlt).2.2.2.2
      rw [lat_self (by rw [List.length_set]; exact hjl), lat_self hjl] at x4
      go_wp2_with fail
      clear x4
      have R3 := (M4.out.r j hlt).2
      rw [lat_self (by rw [List.length_set]; exact hjl), lat_self hjl] at R3
      refine (markF32 _ _ _ _ _ _ (q + 1 + 1 + 1 + (l.xs.length : Int)) _ hny (by omega) R3).mono ?_
      rintro e w3 ⟨rfl, R4, K4⟩
      have hj2 : j < (Lj.set j ⟨q, q + 1, q + 1 + 1, l.xs, l.ys⟩).length := by rw [List.length_set]; exact hjl
      have M5_ := M4.out.row2 (by rw [List.length_set, List.length_set]; exact HLL.out) hlt K4 (zs := mks (q + 1 + 1 + 1 + (l.xs.length : Int)) l.ys.length) (by rw [lat_self hj2, lat_self hjl, mks_length]) (by rw [lat_self hj2, lat_self hjl]; exact R4)
      have hs3 := set3 hjl q
      rw [← HX2.out] at hs3
      dsimp only at hs3
      rw [lat_self hjl] at M5_ hs3
      rw [lat_self hj2] at M5_
      rw [show (⟨q, q + 1, q + 1 + 1, l.xs, l.ys⟩ : LD) = ⟨q, q + 1, q + 1 + 1, l.xs, l.ys⟩ from rfl, lat_self hj2] at hs3
      have hM5 : Mb w3 B (.slice (some ⟨g, 0, none⟩) n cap) n (Lj.set j (mkd q l)) cs3 P C := by rw [← hs3]; exact M5_
      have M5 := Lib.hid hM5
      have q1 := hQ (2 * j) (by omega)
      have q2 := hQ (2 * j + 1) (by omega)
      have q3 := hM.out.low (2 * j) (by omega)
      have q4 := hM.out.low (2 * j + 1) (by omega)
      have KK := Lib.hid (((Keep.put (Keep.put (Keep.put hK.out (p := ⟨g, j * 5, none⟩) hB hg (.int .i64 q)) (p := ⟨g, j * 5 + 1, none⟩) hB hg (.int .i64 (q + 1))) (p := ⟨g, j * 5 + 2, none⟩) hB hg (.int .i64 (q + 1 + 1))).trans (Keep.wide HK2.out (by omega) (by omega))).trans (Keep.wide K4 (by omega) (by omega)))
      clear R3 R4 K4 M5_ hM5 hs3 q1 q2 q3 q4
      have HMD := Lib.hid (show mkL k L (j + 1) = Lj.set j (mkd q l) by rw [HEND.out, HX2.out])
      have HSQ2 := Lib.hid (show sj k L (j + 1) = q + 1 + 1 + 1 + (l.xs.length : Int) + (l.ys.length : Int) by rw [HSQ.out, HX2.out]; omega)
      go_wp2
      go_roundw
      case rel => exact ⟨j + 1, cs3, _, by omega, by go_num, rfl, (by show _ = _; rw [HSQ2.out]), (by rw [HMD.out]; exact M5), KK⟩
      case measure => simp [intOf]; omega
    · have e : j = n := by omega
      subst e
      go_wp2
      go_ret
      exact ⟨cs', by rw [hq.out]; rfl, hM.out, hK.out⟩
theorem markModb (g n cap B hi : Nat) (L : List LD) (cs : List Value) (P C : Nat → Nat) (k : Int) (w : World) (hn : n ≤ 1048576) (hs : szs L n ≤ 1048576) (hk : 0 ≤ k ∧ k ≤ 2147483648) (hL : n = L.length) (M : Mb w B (.slice (some ⟨g, 0, none⟩) n cap) n L cs P C) (hQ : ∀ i, i < 2 * n → P i < hi) (hg : g < hi) (hB : B ≤ g) :
    Calls Try.prog 24 #[.agg #[.slice (some ⟨g, 0, none⟩) n cap], .int .i64 k] w fun e w' => ∃ cs', e = .returned (.int .i64 (sj k L n)) ∧ Mb w' B (.slice (some ⟨g, 0, none⟩) n cap) n (mkL k L n) cs' P C ∧ Keep B hi w w' := by
  have HL := Lib.hid hL
  have HM := Lib.hid M
  clear hL M
  go_enter Try.func24, Try.ntmps24
  go_wp2_with fail
  refine calls_at ?_
  intro w1 hA
  have A : Below w.heap.size w w1 := by rw [hA]; exact (Below.refl _ _).alloc (Nat.le_refl _) _
  clear hA
  refine (markLSb _ _ _ _ _ _ _ _ _ k _ hn hs hk HL.out (HM.out.below A) hQ hg hB).mono ?_
  rintro e w2 ⟨cs', rfl, M2, K⟩
  have M3 := Lib.hid M2
  have K3 := Lib.hid ((Keep.of A).trans K)
  clear M2 K A
  obtain ⟨r, hr⟩ : ∃ r, r = sj k L n := ⟨_, rfl⟩
  rw [← hr]
  have HR := Lib.hid hr
  clear hr
  go_wp2
  go_ret
  exact ⟨cs', by rw [← HR.out]; rfl, M3.out, K3.out⟩
end Go.Proofs.Ytclhemjanhhioaa
