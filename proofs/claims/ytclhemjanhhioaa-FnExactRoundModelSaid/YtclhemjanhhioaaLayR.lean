/- Models of one's own as results: what they read as, the marks on them, and which memory they leave alone. -/
import Derived.Test.YtclhemjanhhioaaLayW
namespace Go.Proofs.Ytclhemjanhhioaa
open Go.RowKit Go.Fl Go.Reg
/-- a list of layers whose blocks lie in lo .. hi -/
structure Ml (w : World) (lo hi : Nat) (a : Option Addr) (n cap : Nat) (L : List LD) (cs : List Value) (P C : Nat → Nat) : Prop where
  m : Mb w lo (.slice a n cap) n L cs P C
  pt : ∀ i, i < 2 * n → P i < hi
  gt : ∀ q, (Value.slice a n cap).ownBlock = some q → q < hi
  lh : lo ≤ hi
  tp : hi ≤ w.heap.size
section
variable {w w' : World} {lo hi n cap : Nat} {a : Option Addr} {L : List LD} {cs : List Value} {P C : Nat → Nat}
theorem Ml.of (h : Mb w lo (.slice a n cap) n L cs P C) (hl : lo ≤ w.heap.size) : Ml w lo w.heap.size a n cap L cs P C := by
  refine ⟨h, fun i hi => ?_, fun q hq => (h.own.lt q hq).2, hl, Nat.le_refl _⟩
  obtain ⟨j, hj⟩ : ∃ j, i = 2 * j ∨ i = 2 * j + 1 := ⟨i / 2, by omega⟩
  rcases hj with e | e
  · subst e; exact (h.r j (by omega)).1.lt
  · subst e; exact (h.r j (by omega)).2.lt
theorem Ml.below (h : Ml w lo hi a n cap L cs P C) (hb : Below w.heap.size w w') : Ml w' lo hi a n cap L cs P C :=
  ⟨h.m.below hb, h.pt, h.gt, h.lh, Nat.le_trans h.tp hb.size⟩
theorem Ml.keep {lo' hi' : Nat} (h : Ml w lo hi a n cap L cs P C) (K : Keep lo' hi' w w') (hd : hi ≤ lo' ∨ hi' ≤ lo) : Ml w' lo hi a n cap L cs P C := by
  have hl := h.m.own.lt
  have ht := h.gt
  refine ⟨⟨⟨h.m.own.1, ?_⟩, h.m.c, fun i hi' => ?_, h.m.low, h.m.inj, h.m.gne⟩, h.pt, h.gt, h.lh, Nat.le_trans h.tp K.size⟩
  · rcases h.m.own.2 with hn | ⟨g, cap', cur, e, hbg, hgg, rest⟩
    · exact .inl hn
    · have h2 := hl g (by rw [e]; rfl)
      have h3 := ht g (by rw [e]; rfl)
      exact .inr ⟨g, cap', cur, e, hbg, by rw [K.block g h2.2 (by omega)]; exact hgg, rest⟩
  · have p1 := h.pt (2 * i) (by omega)
    have p2 := h.pt (2 * i + 1) (by omega)
    have q1 := h.m.low (2 * i) (by omega)
    have q2 := h.m.low (2 * i + 1) (by omega)
    exact ⟨(h.m.r i hi').1.keep K (by omega), (h.m.r i hi').2.keep K (by omega)⟩
theorem Ml.ls (h : Ml w lo hi a n cap L cs P C) (hl : n = L.length) : Ls w a n cap L := by
  rcases h.m.own.2 with ⟨e, hn⟩ | ⟨g, cap', cur, e, _⟩
  · injection e with e1 e2 e3
    subst e1 e3 hn
    exact ⟨hl, Nat.le_refl _, Nat.zero_le _, fun i hi => by omega⟩
  · injection e with e1 e2 e3
    subst e1
    exact h.m.ls hl
end
/-- a model and a word are handed back: L's layers, in memory of one's own -/
def RM (w : World) (L : List LD) (ok : Bool) (e : Ending) (w' : World) : Prop :=
  ∃ a cap cs P C, e = .returned (.tuple #[.agg #[.slice a L.length cap], .bool ok]) ∧ Ml w' w.heap.size w'.heap.size a L.length cap L cs P C ∧ Below w.heap.size w w'
theorem RM_no {w wr : World} (B : Below w.heap.size w wr) : RM w [] false (.returned (.tuple #[.agg #[.slice none 0 0], .bool false])) wr :=
  ⟨none, 0, [], fun _ => 0, fun _ => 0, rfl, Ml.of (Mb.start _ _ _) B.size, B⟩
theorem markMl (a : Option Addr) (n cap lo hi : Nat) (L : List LD) (cs : List Value) (P C : Nat → Nat) (k : Int) (w : World) (hn : n ≤ 1048576) (hs : szs L n ≤ 1048576) (hk : 0 ≤ k ∧ k ≤ 2147483648) (hL : n = L.length) (M : Ml w lo hi a n cap L cs P C) :
    Calls Try.prog 24 #[.agg #[.slice a n cap], .int .i64 k] w fun e w' => ∃ cs', e = .returned (.int .i64 (sj k L n)) ∧ Ml w' lo hi a n cap (mkL k L n) cs' P C ∧ Keep lo hi w w' := by
  rcases M.m.own.2 with ⟨e, hn0⟩ | ⟨g, cap', cur, e, hbg, hgg, rest⟩
  · injection e with e1 e2 e3
    subst e1 e3 hn0
    have hL0 : L = [] := List.eq_nil_of_length_eq_zero hL.symm
    subst hL0
    have HM := Lib.hid M
    have hj : sj k ([] : List LD) 0 = k := by unfold sj szs; simp
    rw [hj]
    clear M hL hj hs
    go_enter Try.func24, Try.ntmps24
    go_wp2_with fail
    refine calls_at ?_
    intro w1 hA
    have A : Below w.heap.size w w1 := by rw [hA]; exact (Below.refl _ _).alloc (Nat.le_refl _) _
    clear hA
    have HA := Lib.hid A
    clear A
    refine (show Calls Try.prog 44 #[.slice none 0 0, .int .i64 k] w1 fun e w' => e = .returned (.int .i64 k) ∧ w' = w1 from ?_).mono ?_
    · go_enter Try.func44, Try.ntmps44
      go_wp2
      go_loopw [1, 5] (fun kk i w' => kk = .int .i64 k ∧ i = .int .i64 0 ∧ w' = w1) (fun _ i _ => 0)
      case atStart => exact ⟨rfl, rfl, rfl⟩
      case round =>
        obtain ⟨rfl, rfl, rfl⟩ := hrel
        go_wp2
        go_ret
        exact ⟨rfl, rfl⟩
    · rintro e w2 ⟨rfl, rfl⟩
      go_wp2
      go_ret
      exact ⟨cs, rfl, HM.out.below HA.out, Keep.of HA.out⟩
  · injection e with e1 e2 e3
    subst e1
    have hg := M.gt g rfl
    refine (markModb g n cap lo hi L cs P C k w hn hs hk hL M.m M.pt hg hbg).mono ?_
    rintro e w' ⟨cs', rfl, M', K⟩
    exact ⟨cs', rfl, ⟨M', M.pt, M.gt, M.lh, Nat.le_trans M.tp K.size⟩, K⟩
end Go.Proofs.Ytclhemjanhhioaa
