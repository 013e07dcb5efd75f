/- Drawn regions in which two operations that make memory may come in either order: a plan that parts there. -/
import Derived.Test.YtcfnhkadljlgcaaCls
namespace Go.Reg
open Go.RowKit Go.Fl

inductive Plan where
  | fin
  | go (i : Nat) (p : Plan)
  | only (i : Nat) (p : Plan)
  | either (i j : Nat) (p q : Plan)

section
variable {P : Program} {md : Region.Mode} {ops : Array Oper} {C : World → Prop} {lab : Nat → Nat}
/-- the walk along a plan -/
def wpP (P : Program) (ops : Array Oper) (C : World → Prop) (lab : Nat → Nat) (Q : Act → World → Prop) : Plan → Act → World → Prop
  | .fin, a, w => ∀ n, Q a (w.drewN n)
  | .go i p, a, w => rOp P ops C lab i (fun a w => wpP P ops C lab Q p a w) a w
  | .only i p, a, w => rOp P ops C lab i (fun a w => wpP P ops C lab Q p a w) a w
  | .either i j p q, a, w => rOp P ops C lab i (fun a w => wpP P ops C lab Q p a w) a w ∧ rOp P ops C lab j (fun a w => wpP P ops C lab Q q a w) a w
/-- does the plan fit -/
def planB (md : Region.Mode) (ops : Array Oper) (lab : Nat → Nat) (g n : Nat) : Plan → Nat → Array Bool → Bool
  | .fin, 0, listed => Region.seqB md ops g n listed
  | .go i p, f + 1, listed => (Region.ready md ops listed).contains i && decide (i < n) && freeR md ops lab listed i && planB md ops lab g n p f (listed.setIfInBounds i true)
  | .only i p, f + 1, listed => !(Region.ready md ops listed).isEmpty && (Region.ready md ops listed).all (fun k => k == i) && decide (i < n) && planB md ops lab g n p f (listed.setIfInBounds i true)
  | .either i j p q, f + 1, listed => !(Region.ready md ops listed).isEmpty && (Region.ready md ops listed).all (fun k => k == i || k == j) && decide (i < n) && decide (j < n) &&
      planB md ops lab g n p f (listed.setIfInBounds i true) && planB md ops lab g n q f (listed.setIfInBounds j true)
  | _, _, _ => false

theorem wpAnyR_plan {n g : Nat} {Lq : Act → World → Prop} (hsel : Region.noSelect ops = true) (hs : Region.sinkB md ops n = true) (hc : Region.chainB md ops n = true) :
    ∀ (p : Plan) (f : Nat) (listed : Array Bool) (a : Act) (w : World), C w → HeadInv md ops n listed → planB md ops lab g n p f listed = true → wpP P ops C lab Lq p a w →
    wpAnyR P md ops C lab n (fun listed' a' w' => Region.seqB md ops g n listed' = true ∧ ∀ m, Lq a' (w'.drewN m)) f listed a w
  | .fin, 0, listed, a, w, _, _, hB, h => ⟨by simpa [planB] using hB, h⟩
  | .fin, f + 1, listed, a, w, _, _, hB, _ => by simp [planB] at hB
  | .go i p, 0, listed, a, w, _, _, hB, _ => by simp [planB] at hB
  | .either i j p q, 0, listed, a, w, _, _, hB, _ => by simp [planB] at hB
  | .only i p, 0, listed, a, w, _, _, hB, _ => by simp [planB] at hB
  | .go i p, f + 1, listed, a, w, hw, inv, hB, h => by
    simp only [planB, Bool.and_eq_true, decide_eq_true_eq] at hB
    obtain ⟨⟨⟨hr, hin⟩, hf⟩, hB'⟩ := hB
    have hr' : i ∈ Region.ready md ops listed := by simpa using hr
    obtain ⟨_, o, ho, _⟩ := mem_ready.1 hr'
    refine wpAnyR_first ho (Region.noSelect_spec hsel) hs hc hin (fun listed' a' w' hL => seqB_ready hL.1) f listed a w hw inv (freeR_spec ho hf) hr' ?_
    exact rOp_mono hw (fun a' w' hc' h' => wpAnyR_plan hsel hs hc p f _ a' w' hc' (inv.set hr' hin) hB' h') h
  | .only i p, f + 1, listed, a, w, hw, inv, hB, h => by
    simp only [planB, Bool.and_eq_true, decide_eq_true_eq] at hB
    obtain ⟨⟨⟨hne, hall⟩, hi⟩, hp⟩ := hB
    refine ⟨fun e => by simp [e] at hne, fun k hk => ?_⟩
    have hk' : k = i := by simpa using List.all_eq_true.1 hall k hk
    subst hk'
    exact ⟨hi, rOp_mono hw (fun a' w' hc' h' => wpAnyR_plan hsel hs hc p f _ a' w' hc' (inv.set hk hi) hp h') h⟩
  | .either i j p q, f + 1, listed, a, w, hw, inv, hB, h => by
    simp only [planB, Bool.and_eq_true, decide_eq_true_eq] at hB
    obtain ⟨⟨⟨⟨⟨hne, hall⟩, hi⟩, hj⟩, hp⟩, hq⟩ := hB
    refine ⟨fun e => by simp [e] at hne, fun k hk => ?_⟩
    have hk' : k = i ∨ k = j := by simpa using List.all_eq_true.1 hall k hk
    rcases hk' with e | e
    · subst e; exact ⟨hi, rOp_mono hw (fun a' w' hc' h' => wpAnyR_plan hsel hs hc p f _ a' w' hc' (inv.set hk hi) hp h') h.1⟩
    · subst e; exact ⟨hj, rOp_mono hw (fun a' w' hc' h' => wpAnyR_plan hsel hs hc q f _ a' w' hc' (inv.set hk hj) hq h') h.2⟩

def planOk (md : Region.Mode) (ops : Array Oper) (ls : List Nat) (n : Nat) (p : Plan) : Bool :=
  Region.noSelect ops && decide (n ≤ ops.size) && Region.sinkB md ops n && Region.chainB md ops n && planB md ops (fun i => ls.getD i 2) (ops.size - n) n p n (Array.replicate ops.size false)

theorem wp_plan {id : Nat} {Q : Exit → Act → World → Prop} {a : Act} {w : World} {l : List Oper} (n : Nat) (ls : List Nat) (p : Plan) (C : World → Prop) (hm : P.follows .mixedOrders = true) (hB : planOk .any l.toArray ls n p = true)
    (hC : C w) (hCd : ∀ w n, C w → C (w.drewN n))
    (h : wpP P l.toArray C (fun i => ls.getD i 2) (wpList P l.toArray Q (l.drop n)) p a (w.drewN 1)) : (Code.region id l.toArray true).wp P Q a w := by
  simp only [planOk, Bool.and_eq_true, decide_eq_true_eq] at hB
  obtain ⟨⟨⟨⟨hsel, hn⟩, hs⟩, hc⟩, hlex⟩ := hB
  have hn' : n ≤ l.length := by simpa using hn
  have hdl : (l.drop n).length = l.toArray.size - n := by simp
  have inv0 : HeadInv .any l.toArray n (Array.replicate l.toArray.size false) :=
    ⟨by simp, fun j oj _ hl => (by rw [getD_replicate_false] at hl; cases hl), fun t _ ht => getD_in (by simpa using ht) (getD_replicate_false _ _)⟩
  have H := wpAnyR_plan (md := .any) (g := l.toArray.size - n) hsel hs hc p n _ a _ (hCd _ 1 hC) inv0 hlex h
  refine wp_region_any hm ?_
  have := wpAny_of_R (Q' := Q) (g := l.toArray.size - n) hCd (fun l a w m hL => ⟨hL.1, fun k => by rw [World.drewN_drewN]; exact hL.2 _⟩) (fun listed a' w' hw' hL => by
    have := wpAny_of_seq (md := .any) (Q' := Q) (l.drop n) n listed a' w' (fun j => by simp [List.getElem?_drop]) (by rw [hdl]; exact hL.1) (hL.2 0)
    rwa [hdl] at this) _ _ _ _ (hCd _ 1 hC) H
  rw [show n + (l.toArray.size - n) = l.toArray.size by simp; omega] at this
  exact this

variable {Q : Act → World → Prop} {a : Act} {w w0 : World} {o : Oper} {i j : Nat} {p q : Plan}
theorem plan_fin (h : ∀ n, Q a (w.drewN n)) : wpP P ops C lab Q .fin a w := h
theorem rOp_go (ho : ops[i]? = some o) (hg : o.guard = none) {K : Act → World → Prop} (h : ∀ K' : Act → World → Prop, (∀ a w, K a w → K' a w) → stepV P C o a (lab i) (fun v => K' (a.put o.dst v)) w) : rOp P ops C lab i K a w := by
  unfold rOp
  rw [ho]
  have hw : Region.wanted o (yielded ops a.tmps) = true := by unfold Region.wanted; rw [hg]
  simp only [hw, if_true]
  exact h K fun _ _ h => h
theorem plan_go (h : rOp P ops C lab i (fun a w => wpP P ops C lab Q p a w) a w) : wpP P ops C lab Q (.go i p) a w := h
theorem plan_only (h : rOp P ops C lab i (fun a w => wpP P ops C lab Q p a w) a w) : wpP P ops C lab Q (.only i p) a w := h
theorem plan_either (h1 : rOp P ops C lab i (fun a w => wpP P ops C lab Q p a w) a w) (h2 : rOp P ops C lab j (fun a w => wpP P ops C lab Q q a w) a w) : wpP P ops C lab Q (.either i j p q) a w := ⟨h1, h2⟩
/-- an operation that reads: one value in every world of the class -/
theorem pl0 {K : Act → World → Prop} (ho : ops[i]? = some o) (hg : o.guard = none) (hl : lab i = 0) {v : Value} (h1 : ∀ w', C w' → one v w' ((execOp a.eval o).run P w'))
    (h2 : ∀ K' : Act → World → Prop, (∀ a w, K a w → K' a w) → K' (a.put o.dst v) w) : rOp P ops C lab i K a w :=
  rOp_go ho hg fun K hK => by rw [hl]; exact ⟨v, fun w' hw' => gives_of_one (h1 w' hw'), h2 K hK⟩
/-- an operation on floats -/
theorem pl1 {K : Act → World → Prop} (ho : ops[i]? = some o) (hg : o.guard = none) (hl : lab i = 1) (h : ∀ K' : Act → World → Prop, (∀ a w, K a w → K' a w) → ∀ w', C w' → any1 (fun v => K' (a.put o.dst v) w) w' ((execOp a.eval o).run P w')) : rOp P ops C lab i K a w :=
  rOp_go ho hg fun K hK => by rw [hl]; exact fun w' hw' => gives_of_any (h K hK w' hw')
/-- a call; an operation that makes or writes memory -/
theorem pl2 {K : Act → World → Prop} (ho : ops[i]? = some o) (hg : o.guard = none) (hl : lab i = 2) (h : ∀ K' : Act → World → Prop, (∀ a w, K a w → K' a w) → ∀ n, uponV P C (fun v => K' (a.put o.dst v)) ((execOp a.eval o).run P (w.drewN n))) : rOp P ops C lab i K a w :=
  rOp_go ho hg fun K hK => by rw [hl]; exact h K hK
end
end Go.Reg
