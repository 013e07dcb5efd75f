/- Drawn regions that end in 'x.F = append(x.F, ..)': the class 'old memory and the block of x are as they were'. -/
import Derived.Test.YtidfjjmhohkejaaDoorReg
import Derived.Test.YtidfjjmhohkejaaDoorOwn
namespace Go.Reg
open Go.RowKit Go.Fl
/-- below B, and in block b, nothing has turned -/
structure Cl (B b : Nat) (w w' : World) : Prop where
  below : Below B w w'
  box : w'.heap[b]? = w.heap[b]?
theorem Cl.refl (B b : Nat) (w : World) : Cl B b w w := ⟨Below.refl _ _, rfl⟩
theorem Cl.drew {B b : Nat} {w : World} (w' : World) (n : Nat) (h : Cl B b w w') : Cl B b w (w'.drewN n) := ⟨bdrew h.below n, h.box⟩
theorem Cl.trans {B b : Nat} {w w1 w2 : World} (h : Cl B b w w1) (k : Cl B b w1 w2) : Cl B b w w2 := ⟨h.below.trans k.below, k.box.trans h.box⟩
theorem Cl.cell {B b : Nat} {w w' : World} (h : Cl B b w w') {p : Addr} {v : Value} (hp : p.block < B ∨ p.block = b) (hc : w.cell? p = some v) : w'.cell? p = some v := by
  rcases hp with hp | hp
  · exact (h.below.cell hp).trans hc
  · exact (World.cell?_of_block (by rw [hp]; exact h.box)).trans hc
theorem Cl.frozen {B b : Nat} {w w' : World} (h : Cl B b w w') {p : Addr} (hp : p.block = b) : w'.frozen? p = w.frozen? p := World.frozen?_of_block (by rw [hp]; exact h.box)
theorem Cl.alloc {B b : Nat} {w w' : World} (h : Cl B b w w') (hB : B ≤ w'.heap.size) (hb : b < w'.heap.size) (o : Obj) : Cl B b w (w'.alloc o) := ⟨h.below.alloc hB o, (Below.heap_alloc _ _ _ hb).trans h.box⟩
theorem Cl.grown {B b : Nat} {w w1 w2 : World} {row : Option Nat} (h : Cl B b w w1) (hg : w1.grownBy w2 row) (hB : B ≤ w1.heap.size) (hb : b < w1.heap.size) (hr : ∀ k, row = some k → B ≤ k ∧ k ≠ b) : Cl B b w w2 :=
  ⟨h.below.grown hg hB (fun k hk => (hr k hk).1), (hg.block b hb (fun e => (hr b e.symm).2 rfl)).trans h.box⟩

section
variable {P : Program} {ops : Array Oper} {Q : Act → World → Prop} {ls : List Nat} {a : Act} {w w0 : World} {o : Oper} {rest : List Oper} {C : World → Prop} {B b : Nat}
theorem cl_step {l : Nat}
    (h : ∀ K : Act → World → Prop, (∀ a w, wpR P ops (Cl B b w0) Q ls rest a w → K a w) →
      if Region.wanted o (yielded ops a.tmps) then
        (match l with
          | 0 => ∃ v, (∀ w', Cl B b w0 w' → one v w' ((execOp a.eval o).run P w')) ∧ K (a.put o.dst v) w
          | 1 => ∀ w', Cl B b w0 w' → any1 (fun v => K (a.put o.dst v) w) w' ((execOp a.eval o).run P w')
          | _ => ∀ n, uponV P (Cl B b w0) (fun v => K (a.put o.dst v)) ((execOp a.eval o).run P (w.drewN n)))
      else K (a.put o.dst undef) w) : wpR P ops (Cl B b w0) Q (l :: ls) (o :: rest) a w := by
  refine wpR_step fun K hK => ?_
  have := h K hK
  split
  · rename_i hw
    rw [if_pos hw] at this
    match l, this with
    | 0, h => obtain ⟨v, h1, h2⟩ := h; exact ⟨v, fun w' hw' => gives_of_one (h1 w' hw'), h2⟩
    | 1, h => exact fun w' hw' => gives_of_any (h w' hw')
    | l + 2, h => exact h
  · rename_i hw
    rwa [if_neg hw] at this
theorem step_go {l : Nat} (hg : o.guard = none) (h : ∀ K : Act → World → Prop, (∀ a w, wpR P ops C Q ls rest a w → K a w) → stepV P C o a l (fun v => K (a.put o.dst v)) w) : wpR P ops C Q (l :: ls) (o :: rest) a w := by
  refine wpR_step fun K hK => ?_
  have hw : Region.wanted o (yielded ops a.tmps) = true := by unfold Region.wanted; rw [hg]
  rw [if_pos hw]
  exact h K hK
/-- an operation that reads: one value in every world of the class -/
theorem step0 (hg : o.guard = none) {v : Value} (h1 : ∀ w', C w' → one v w' ((execOp a.eval o).run P w'))
    (h2 : ∀ K : Act → World → Prop, (∀ a w, wpR P ops C Q ls rest a w → K a w) → K (a.put o.dst v) w) : wpR P ops C Q (0 :: ls) (o :: rest) a w :=
  step_go hg fun K hK => ⟨v, fun w' hw' => gives_of_one (h1 w' hw'), h2 K hK⟩
/-- an operation on floats -/
theorem step1 (hg : o.guard = none) (h : ∀ K : Act → World → Prop, (∀ a w, wpR P ops C Q ls rest a w → K a w) → ∀ w', C w' → any1 (fun v => K (a.put o.dst v) w) w' ((execOp a.eval o).run P w')) : wpR P ops C Q (1 :: ls) (o :: rest) a w :=
  step_go hg fun K hK => fun w' hw' => gives_of_any (h K hK w' hw')
/-- a call; an operation that makes or writes memory -/
theorem step2 (hg : o.guard = none) (h : ∀ K : Act → World → Prop, (∀ a w, wpR P ops C Q ls rest a w → K a w) → ∀ n, uponV P C (fun v => K (a.put o.dst v)) ((execOp a.eval o).run P (w.drewN n))) : wpR P ops C Q (2 :: ls) (o :: rest) a w :=
  step_go hg fun K hK => h K hK
theorem wp_cl {id : Nat} {Q : Exit → Act → World → Prop} {l : List Oper} (B b : Nat) (n : Nat) (ls : List Nat) (hm : P.follows .mixedOrders = true) (hB : lexB .any l.toArray ls n = true)
    (h : wpR P l.toArray (Cl B b w) (wpList P l.toArray Q (l.drop n)) ls (l.take n) a (w.drewN 1)) : (Code.region id l.toArray true).wp P Q a w :=
  wp_region n ls (Cl B b w) hm hB (Cl.refl B b w) Cl.drew h

theorem uponV_append {R : Value → World → Prop} (s x : Operand) (t : TypeId)
    (ho : o.op = .call { callee := .builtin .append, args := #[s, x], argTypes := #[t, t] })
    (base : Nat) (e : TypeId) (i : TypeInfo) (z : Value) (size bytes : Nat) (ht : P.underlying t = some (.slice e)) (hi : P.info? e = some i) (hz : i.zero = some z)
    (hsize : i.size = size) (hby : i.bytes = bytes) (hzs : z.cells.size = size) (hsz : 0 < size)
    (v : Value) (n : Nat) (xs : List Value) (hs : a.eval s = v) (hown : w.ownsRow base e size v n xs)
    (ad : Addr) (m c : Nat) (news : List Value) (hx : a.eval x = .slice (some ad) m c) (hl : news.length = m * size) (hnews : ∀ j u, news[j]? = some u → w.cell? (ad.add j) = some u) (h1 : ∀ u ∈ news, u.oneCell' = true)
    (h63 : n + m ≤ maxLen) (hbytes : (n + m) * bytes ≤ 140737488355328) (hbase : base ≤ w.heap.size)
    (h : ∀ v' w', w'.ownsRow base e size v' (n + m) (xs ++ news) → w.grownBy w' v.ownBlock → C w' ∧ R v' w') : uponV P C R ((execOp a.eval o).run P w) := by
  obtain ⟨v', w', hr, h2, h3, h4⟩ := run_append_own (P := P) w base t o.type e i z size bytes ht hi hz hsize hby hzs hsz v n xs hown ad m c news hl hnews h1 h63 hbytes hbase
  unfold execOp
  simp only [ho, resolve, invoke, builtin, Sem.run_bind, Sem.run_pure, Result.andThen_ok, List.map_toArray, List.map_cons, List.map_nil, hs, hx, hr]
  exact h v' w' h2 h3
end
end Go.Reg
