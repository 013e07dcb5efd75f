/- A region that draws its order: one walk of the text's order serves every order, also where values are not fixed (a not-a-number's bits, a new block's address), where calls make memory, and where the last operations come behind all others. -/
import Derived.StillTail
import Derived.Deep.Draws
import Derived.Calls
import Derived.Below
import Derived.WalkSmall
namespace Go.Reg

section
variable {P : Program} {ops : Array Oper} {md : Region.Mode} {C : World → Prop} {lab : Nat → Nat}

/-- the operation, in state a and world w, yields v, and leaves the world as it was but for draws -/
def Gives (P : Program) (o : Oper) (a : Act) (w : World) (v : Value) : Prop :=
  ∃ n, (execOp a.eval o).run P w = .ok (.value v) (w.drewN n) ∨ ((execOp a.eval o).run P w = .ok .skip (w.drewN n) ∧ v = undef)

def uponV (P : Program) (C : World → Prop) (R : Value → World → Prop) : Result Next → Prop
  | .ok (.value v) w' => C w' ∧ R v w'
  | .ok .skip w' => C w' ∧ R undef w'
  | .ok (.enter f args) w' => Calls P f args w' fun e w'' => ∃ v, e = .returned v ∧ C w'' ∧ R v w''
  | _ => False

/-- label 0: one value in every world of the class; 1: no call, a value that may hang on the world; 2: whatever -/
def stepV (P : Program) (C : World → Prop) (o : Oper) (a : Act) (l : Nat) (R : Value → World → Prop) (w : World) : Prop :=
  match l with
  | 0 => ∃ v, (∀ w', C w' → Gives P o a w' v) ∧ R v w
  | 1 => ∀ w', C w' → ∃ v, Gives P o a w' v ∧ R v w
  | _ => ∀ n, uponV P C R ((execOp a.eval o).run P (w.drewN n))

theorem uponV_mono {R R' : Value → World → Prop} (h : ∀ v w, C w → R v w → R' v w) {r : Result Next} (hh : uponV P C R r) : uponV P C R' r := by
  cases r with
  | halt x w => exact hh
  | ok n w =>
    cases n <;> simp only [uponV] at hh ⊢
    case value v => exact ⟨hh.1, h _ _ hh.1 hh.2⟩
    case skip => exact ⟨hh.1, h _ _ hh.1 hh.2⟩
    case enter f args => exact hh.mono fun e w'' ⟨v, he, hc, hr⟩ => ⟨v, he, hc, h _ _ hc hr⟩

theorem stepV_mono {o : Oper} {a : Act} {l : Nat} {R R' : Value → World → Prop} {w : World} (hw : C w) (h : ∀ v w, C w → R v w → R' v w) (hh : stepV P C o a l R w) : stepV P C o a l R' w := by
  match l with
  | 0 => obtain ⟨v, h1, h2⟩ := hh; exact ⟨v, h1, h _ _ hw h2⟩
  | 1 => exact fun w' hw' => let ⟨v, h1, h2⟩ := hh w' hw'; ⟨v, h1, h _ _ hw h2⟩
  | l + 2 => exact fun n => uponV_mono h (hh n)

theorem stepV_same {o : Oper} {a a' : Act} {l : Nat} {R : Value → World → Prop} {w : World} (he : execOp a'.eval o = execOp a.eval o) (hh : stepV P C o a l R w) : stepV P C o a' l R w := by
  match l with
  | 0 => simp only [stepV, Gives] at hh ⊢; rw [he]; exact hh
  | 1 => simp only [stepV, Gives] at hh ⊢; rw [he]; exact hh
  | l + 2 => simp only [stepV] at hh ⊢; rw [he]; exact hh

theorem stepV_drew {o : Oper} {a : Act} {l : Nat} {R : Value → World → Prop} {w : World} (hR : ∀ v w n, R v w → R v (w.drewN n)) (m : Nat) (hh : stepV P C o a l R w) : stepV P C o a l R (w.drewN m) := by
  match l with
  | 0 => obtain ⟨v, h1, h2⟩ := hh; exact ⟨v, h1, hR _ _ _ h2⟩
  | 1 => exact fun w' hw' => let ⟨v, h1, h2⟩ := hh w' hw'; ⟨v, h1, hR _ _ _ h2⟩
  | l + 2 => intro n; rw [World.drewN_drewN]; exact hh (m + n)

theorem uponV_some {R : Value → World → Prop} {r : Result Next} (hh : uponV P C R r) : ∃ v w, C w ∧ R v w := by
  cases r with
  | halt x w => exact hh.elim
  | ok n w =>
    cases n <;> simp only [uponV] at hh
    case value v => exact ⟨_, _, hh⟩
    case skip => exact ⟨_, _, hh⟩
    case enter f args => obtain ⟨e, w', fr, ⟨v, _, hc, hr⟩, _⟩ := hh []; exact ⟨v, w', hc, hr⟩

theorem stepV_some {o : Oper} {a : Act} {l : Nat} {R : Value → World → Prop} {w : World} (hw : C w) (hh : stepV P C o a l R w) : ∃ v w, C w ∧ R v w := by
  match l with
  | 0 => obtain ⟨v, _, h2⟩ := hh; exact ⟨v, w, hw, h2⟩
  | 1 => obtain ⟨v, _, h2⟩ := hh w hw; exact ⟨v, w, hw, h2⟩
  | l + 2 => exact uponV_some (hh 0)

theorem Gives.unique {o : Oper} {a : Act} {w : World} {u v : Value} (h1 : Gives P o a w u) (h2 : Gives P o a w v) : u = v := by
  obtain ⟨n1, h1⟩ := h1
  obtain ⟨n2, h2⟩ := h2
  rcases h1 with h1 | ⟨h1, rfl⟩ <;> rcases h2 with h2 | ⟨h2, rfl⟩ <;> rw [h1] at h2 <;> injection h2 with e1 e2
  · injection e1
  · cases e1
  · cases e1

/-- may an operation of label l, hoisted, be passed by one of label m -/
def okPair (l m : Nat) : Bool := l == 0 || (l == 1 && decide (m ≤ 1)) || m == 0

theorem swapV {oi oj : Oper} {a b : Act} {l m : Nat} {w : World} (hw : C w) (hok : okPair l m = true) {R : Value → Value → World → Prop}
    (h : stepV P C oi a l (fun v => stepV P C oj b m fun u => R v u) w) : stepV P C oj b m (fun u => stepV P C oi a l fun v => R v u) w := by
  match l, h with
  | 0, h =>
    obtain ⟨v, h1, h2⟩ := h
    exact stepV_mono hw (fun u w _ hu => ⟨v, h1, hu⟩) h2
  | 1, h =>
    match m, h with
    | 0, h =>
      obtain ⟨v0, _, u0, hu0, _⟩ := h w hw
      refine ⟨u0, hu0, fun w' hw' => ?_⟩
      obtain ⟨v, hv, u, hu, hr⟩ := h w' hw'
      have := (hu w hw).unique (hu0 w hw)
      subst this
      exact ⟨v, hv, hr⟩
    | 1, h =>
      intro w2 hw2
      obtain ⟨v0, _, h0⟩ := h w hw
      obtain ⟨u0, hu0, _⟩ := h0 w2 hw2
      refine ⟨u0, hu0, fun w' hw' => ?_⟩
      obtain ⟨v, hv, h1⟩ := h w' hw'
      obtain ⟨u, hu, hr⟩ := h1 w2 hw2
      have := hu.unique hu0
      subst this
      exact ⟨v, hv, hr⟩
    | m + 2, _ => simp [okPair] at hok
  | l + 2, h =>
    match m, h with
    | 0, h =>
      have h' : ∀ n, uponV P C (fun v w => ∃ u, (∀ w', C w' → Gives P oj b w' u) ∧ R v u w) ((execOp a.eval oi).run P (w.drewN n)) := h
      obtain ⟨v0, w0, _, u0, hu0, _⟩ := uponV_some (h' 0)
      refine ⟨u0, hu0, fun n => uponV_mono (fun v w' _ hv => ?_) (h' n)⟩
      obtain ⟨u, hu, hr⟩ := hv
      have := (hu w hw).unique (hu0 w hw)
      subst this
      exact hr
    | m + 1, _ => simp [okPair] at hok

/-- Operation number i comes up in state a. -/
def rOp (P : Program) (ops : Array Oper) (C : World → Prop) (lab : Nat → Nat) (i : Nat) (K : Act → World → Prop) (a : Act) (w : World) : Prop :=
  match ops[i]? with
  | none => K a w
  | some o => if Region.wanted o (yielded ops a.tmps) then stepV P C o a (lab i) (fun v => K (a.put o.dst v)) w else K (a.put o.dst undef) w

theorem rOp_mono {i : Nat} {a : Act} {w : World} (hw : C w) {K K' : Act → World → Prop} (h : ∀ a w, C w → K a w → K' a w) (hh : rOp P ops C lab i K a w) : rOp P ops C lab i K' a w := by
  unfold rOp at *
  split
  · exact h _ _ hw (by simpa [*] using hh)
  · rename_i o ho
    simp only [ho] at hh
    split
    · rename_i hwt; simp only [hwt, if_true] at hh; exact stepV_mono hw (fun v => h _) hh
    · rename_i hwt; simp only [hwt] at hh; exact h _ _ hw hh

theorem rOp_drew {i : Nat} {a : Act} {w : World} {K : Act → World → Prop} (hK : ∀ a w n, K a w → K a (w.drewN n)) (n : Nat) (hh : rOp P ops C lab i K a w) : rOp P ops C lab i K a (w.drewN n) := by
  unfold rOp at *
  split
  · rename_i ho; simp only [ho] at hh; exact hK _ _ _ hh
  · rename_i o ho
    simp only [ho] at hh
    split
    · rename_i hwt; simp only [hwt, if_true] at hh; exact stepV_drew (fun v w n => hK _ _ _) n hh
    · rename_i hwt; simp only [hwt] at hh; exact hK _ _ _ hh

theorem rOp_some {i : Nat} {a : Act} {w : World} (hw : C w) {K : Act → World → Prop} (hh : rOp P ops C lab i K a w) : ∃ a' w', C w' ∧ K a' w' := by
  unfold rOp at hh
  split at hh
  · exact ⟨_, _, hw, hh⟩
  · split at hh
    · obtain ⟨v, w', hc, hv⟩ := stepV_some hw hh; exact ⟨_, _, hc, hv⟩
    · exact ⟨_, _, hw, hh⟩

theorem rOp_swap {i j : Nat} {oi oj : Oper} (hi : ops[i]? = some oi) (hj : ops[j]? = some oj) (hap : oi.apart ops oj = true)
    (hsi : ∀ cs b, oi.op ≠ .select cs b) (hsj : ∀ cs b, oj.op ≠ .select cs b) (hok : okPair (lab i) (lab j) = true) {K : Act → World → Prop} {a : Act} {w : World} (hw : C w)
    (h : rOp P ops C lab i (rOp P ops C lab j K) a w) : rOp P ops C lab j (rOp P ops C lab i K) a w := by
  obtain ⟨h1, h2, h3⟩ := Oper.apart_spec hap
  unfold rOp at *
  simp only [hi, hj] at *
  have e1 : ∀ v, Region.wanted oj (yielded ops (a.put oi.dst v).tmps) = Region.wanted oj (yielded ops a.tmps) := fun v => wanted_put oj a oi.dst v h1
  have e2 : ∀ v, Region.wanted oi (yielded ops (a.put oj.dst v).tmps) = Region.wanted oi (yielded ops a.tmps) := fun v => wanted_put oi a oj.dst v h3
  have x1 : ∀ v, execOp (a.put oi.dst v).eval oj = execOp a.eval oj := fun v => execOp_put oj hsj a oi.dst v h1
  have x2 : ∀ v, execOp (a.put oj.dst v).eval oi = execOp a.eval oi := fun v => execOp_put oi hsi a oj.dst v h3
  simp only [e1, e2] at *
  have c : ∀ v u, (a.put oi.dst v).put oj.dst u = (a.put oj.dst u).put oi.dst v := fun v u => Act.put_comm a v u h2
  by_cases wi : Region.wanted oi (yielded ops a.tmps) = true <;> by_cases wj : Region.wanted oj (yielded ops a.tmps) = true <;> simp only [wi, wj, if_true, Bool.false_eq_true, if_false] at h ⊢
  · have h' : stepV P C oi a (lab i) (fun v => stepV P C oj a (lab j) fun u => K ((a.put oi.dst v).put oj.dst u)) w := stepV_mono hw (fun v w _ hv => stepV_same (x1 v).symm hv) h
    exact stepV_mono hw (fun u w hc hu => stepV_same (x2 u) (stepV_mono hc (fun v w _ hv => by rw [← c]; exact hv) hu)) (swapV hw hok h')
  · exact stepV_same (x2 _) (stepV_mono hw (fun v w _ hv => by rw [← c]; exact hv) h)
  · exact stepV_mono hw (fun u w _ hu => by rw [← c]; exact hu) (stepV_same (x1 _).symm h)
  · rw [← c]; exact h

/-- Whatever order is picked of what stands ahead of number n; then L. -/
def wpAnyR (P : Program) (md : Region.Mode) (ops : Array Oper) (C : World → Prop) (lab : Nat → Nat) (n : Nat) (L : Array Bool → Act → World → Prop) : Nat → Array Bool → Act → World → Prop
  | 0, listed, a, w => L listed a w
  | f + 1, listed, a, w =>
    Region.ready md ops listed ≠ [] ∧ ∀ i ∈ Region.ready md ops listed, i < n ∧ rOp P ops C lab i (wpAnyR P md ops C lab n L f (listed.setIfInBounds i true)) a w

theorem wpAnyR_drew {n : Nat} {L : Array Bool → Act → World → Prop} (hL : ∀ l a w m, L l a w → L l a (w.drewN m)) : ∀ (f : Nat) (listed : Array Bool) (a : Act) (w : World) (m : Nat), wpAnyR P md ops C lab n L f listed a w → wpAnyR P md ops C lab n L f listed a (w.drewN m)
  | 0, _, _, _, _, h => hL _ _ _ _ h
  | f + 1, _, _, _, m, h => ⟨h.1, fun i hi => ⟨(h.2 i hi).1, rOp_drew (fun a w n => wpAnyR_drew hL f _ a w n) m (h.2 i hi).2⟩⟩

theorem wp_of_uponV {o : Oper} {a : Act} {R : Value → World → Prop} {K' : Act → World → Prop} {Q' : Exit → Act → World → Prop} {r : Result Next} (h : ∀ v w', C w' → R v w' → K' (a.put o.dst v) w')
    (hh : uponV P C R r) : o.upon P a K' Q' r := by
  cases r with
  | halt x w => exact hh.elim
  | ok n w =>
    cases n <;> simp only [uponV] at hh <;> simp only [Oper.upon]
    case value v => exact h _ _ hh.1 hh.2
    case skip => exact h _ _ hh.1 hh.2
    case enter f args => exact hh.mono fun e w'' ⟨v, he, hc, hr⟩ => by subst he; exact h _ _ hc hr

theorem wp_of_stepV {o : Oper} {a : Act} {l : Nat} {R : Value → World → Prop} {K' : Act → World → Prop} {Q' : Exit → Act → World → Prop} {w : World} (hw : C w) (hCd : ∀ w n, C w → C (w.drewN n)) (hR : ∀ v w n, R v w → R v (w.drewN n))
    (h : ∀ v w', C w' → R v w' → K' (a.put o.dst v) w') (hh : stepV P C o a l R w) : o.wp P a w K' Q' := by
  have g : ∀ v, Gives P o a w v → R v w → o.wp P a w K' Q' := by
    intro v ⟨n, hr⟩ hv
    unfold Oper.wp
    rcases hr with hr | ⟨hr, rfl⟩ <;> rw [hr] <;> exact h _ _ (hCd _ _ hw) (hR _ _ _ hv)
  match l, hh with
  | 0, hh => obtain ⟨v, h1, h2⟩ := hh; exact g v (h1 w hw) h2
  | 1, hh => obtain ⟨v, h1, h2⟩ := hh w hw; exact g v h1 h2
  | l + 2, hh => exact wp_of_uponV h (hh 0)

theorem wpOp_of_rOp {i : Nat} {a : Act} {K : Act → World → Prop} {K' : Act → World → Prop} {Q' : Exit → Act → World → Prop} {w : World} (hw : C w) (hCd : ∀ w n, C w → C (w.drewN n)) (hK : ∀ a w n, K a w → K a (w.drewN n))
    (h : ∀ a w', C w' → K a w' → K' a w') (hh : rOp P ops C lab i K a w) : wpOp P ops Q' i K' a w := by
  unfold rOp at hh
  unfold wpOp
  split
  · rename_i ho; simp only [ho] at hh; exact h _ _ hw hh
  · rename_i o ho
    simp only [ho] at hh
    split
    · rename_i hwt; simp only [hwt, if_true] at hh; exact .inl (wp_of_stepV hw hCd (fun v w n => hK _ _ _) (fun v w' hc hv => h _ _ hc hv) hh)
    · rename_i hwt; simp only [hwt] at hh; exact h _ _ hw hh

theorem wpAny_of_R {n g : Nat} {L : Array Bool → Act → World → Prop} {Q' : Exit → Act → World → Prop} (hCd : ∀ w n, C w → C (w.drewN n)) (hLd : ∀ l a w m, L l a w → L l a (w.drewN m)) (hL : ∀ listed a w, C w → L listed a w → wpAny P md ops Q' g listed a w) :
    ∀ (f : Nat) (listed : Array Bool) (a : Act) (w : World), C w → wpAnyR P md ops C lab n L f listed a w → wpAny P md ops Q' (f + g) listed a w
  | 0, listed, a, w, hw, h => by rw [Nat.zero_add]; exact hL _ _ _ hw h
  | f + 1, listed, a, w, hw, h => by
    rw [show f + 1 + g = (f + g) + 1 by omega]
    exact ⟨fun h0 => absurd h0 h.1, fun i hi => wpOp_of_rOp hw hCd (fun a w n => wpAnyR_drew hLd f _ a w n) (fun a' w' hc h' => wpAny_of_R hCd hLd hL f _ a' w' hc h') (h.2 i hi).2⟩

/-- all operations that are not listed either wait for i, or are apart from it and may pass it -/
def freeR (md : Region.Mode) (ops : Array Oper) (lab : Nat → Nat) (listed : Array Bool) (i : Nat) : Bool :=
  match ops[i]? with
  | none => false
  | some oi => (List.range ops.size).all fun j => j == i || listed.getD j true || match ops[j]? with
      | some oj => oj.after.any (fun e => Region.binds md e && e.on == i) || (oi.apart ops oj && okPair (lab i) (lab j))
      | none => true

theorem freeR_spec {i : Nat} {oi : Oper} {listed : Array Bool} (hi : ops[i]? = some oi) (h : freeR md ops lab listed i = true) (j : Nat) (oj : Oper)
    (hj : ops[j]? = some oj) (hne : j ≠ i) (hun : listed.getD j true = false) (hno : ∀ e ∈ oj.after, Region.binds md e = true → e.on ≠ i) :
    oi.apart ops oj = true ∧ okPair (lab i) (lab j) = true := by
  simp only [freeR, hi, List.all_eq_true, List.mem_range] at h
  have h1 := h j (Array.getElem?_eq_some_iff.1 hj).1
  simp only [hj, hun, Bool.or_eq_true, beq_iff_eq, Bool.and_eq_true, Bool.false_eq_true, or_false] at h1
  rcases h1 with h1 | h1 | h1
  · exact absurd h1 hne
  · obtain ⟨e, he, hb⟩ := Array.any_eq_true'.1 h1
    simp only [Bool.and_eq_true, beq_iff_eq] at hb
    exact absurd hb.2 (hno e he hb.1)
  · exact h1

theorem tail_no {n : Nat} {listed : Array Bool} (hs : Region.sinkB md ops n = true) (hc : Region.chainB md ops n = true) (inv : HeadInv md ops n listed)
    {i : Nat} (hi : i < n) (hun : listed.getD i true = false) {t : Nat} (ht : t ∈ Region.ready md ops listed) : t < n := by
  rcases Nat.lt_or_ge t n with h | h
  · exact h
  · obtain ⟨_, ot, hot, _⟩ := mem_ready.1 ht
    have htlt : t < ops.size := (Array.getElem?_eq_some_iff.1 hot).1
    exact absurd ht (tail_waits hs hc (by omega) inv _ i rfl hi hun t h)

theorem wpAnyR_first {n i : Nat} {oi : Oper} {L : Array Bool → Act → World → Prop} (hi : ops[i]? = some oi) (hsel : ∀ (j : Nat) (o : Oper) cs b, ops[j]? = some o → o.op ≠ .select cs b)
    (hs : Region.sinkB md ops n = true) (hc : Region.chainB md ops n = true) (hin : i < n)
    (hdone : ∀ listed a w, L listed a w → ∀ j ∈ Region.ready md ops listed, n ≤ j) :
    ∀ (f : Nat) (listed : Array Bool) (a : Act) (w : World), C w → HeadInv md ops n listed →
      (∀ j oj, ops[j]? = some oj → j ≠ i → listed.getD j true = false → (∀ e ∈ oj.after, Region.binds md e = true → e.on ≠ i) → oi.apart ops oj = true ∧ okPair (lab i) (lab j) = true) →
      i ∈ Region.ready md ops listed →
      rOp P ops C lab i (wpAnyR P md ops C lab n L f (listed.setIfInBounds i true)) a w → wpAnyR P md ops C lab n L (f + 1) listed a w := by
  intro f
  induction f with
  | zero =>
    intro listed a w hw inv _ hr H
    have hun := (mem_ready.1 hr).1
    refine ⟨fun h => (by rw [h] at hr; cases hr), fun j hj => ?_⟩
    have hjn := tail_no hs hc inv hin hun hj
    refine ⟨hjn, ?_⟩
    by_cases hji : j = i
    · subst hji; exact H
    · obtain ⟨a', w', _, ha'⟩ := rOp_some hw H
      have := hdone _ _ _ ha' j (ready_mono hj hji)
      omega
  | succ f ih =>
    intro listed a w hw inv hfree hr H
    have hun := (mem_ready.1 hr).1
    refine ⟨fun h => (by rw [h] at hr; cases hr), fun j hj => ?_⟩
    have hjn := tail_no hs hc inv hin hun hj
    refine ⟨hjn, ?_⟩
    by_cases hji : j = i
    · subst hji; exact H
    · obtain ⟨hjun, oj, hoj, hall⟩ := mem_ready.1 hj
      have hnot : ∀ e ∈ oj.after, Region.binds md e = true → e.on ≠ i := fun e he hb heq => by
        have h1 := hall e he hb
        rw [heq, getD_both hun] at h1
        cases h1
      obtain ⟨hap, hok⟩ := hfree j oj hoj hji hjun hnot
      have h1 := rOp_mono hw (fun a' w' _ h' => (h'.2 j (ready_mono hj hji)).2) H
      have h2 := rOp_swap hi hoj hap (fun cs b => hsel i oi cs b hi) (fun cs b => hsel j oj cs b hoj) hok hw h1
      have hfree' : ∀ k ok, ops[k]? = some ok → k ≠ i → (listed.setIfInBounds j true).getD k true = false →
          (∀ e ∈ ok.after, Region.binds md e = true → e.on ≠ i) → oi.apart ops ok = true ∧ okPair (lab i) (lab k) = true := fun k ok hk hki hun' hno => by
        refine hfree k ok hk hki ?_ hno
        by_cases hjk : j = k
        · subst hjk; exact hjun
        · rw [getD_set_ne true hjk] at hun'; exact hun'
      refine rOp_mono hw (fun a' w' hc' h3 => ih (listed.setIfInBounds j true) a' w' hc' (inv.set hj hjn) hfree' (ready_mono hr (Ne.symm hji)) ?_) h2
      rw [Array.setIfInBounds_comm _ _ hji]
      exact h3

/-- the walk of the text's order -/
def wpR (P : Program) (ops : Array Oper) (C : World → Prop) (Q : Act → World → Prop) : List Nat → List Oper → Act → World → Prop
  | _, [], a, w => ∀ n, Q a (w.drewN n)
  | ls, o :: rest, a, w => if Region.wanted o (yielded ops a.tmps) then stepV P C o a (ls.headD 2) (fun v => wpR P ops C Q ls.tail rest (a.put o.dst v)) w else wpR P ops C Q ls.tail rest (a.put o.dst undef) w

theorem wpR_nil {Q : Act → World → Prop} {ls : List Nat} {a : Act} {w : World} (h : ∀ n, Q a (w.drewN n)) : wpR P ops C Q ls [] a w := h
theorem wpR_step {Q : Act → World → Prop} {l : Nat} {ls : List Nat} {a : Act} {w : World} {o : Oper} {rest : List Oper}
    (h : ∀ K : Act → World → Prop, (∀ a w, wpR P ops C Q ls rest a w → K a w) → if Region.wanted o (yielded ops a.tmps) then stepV P C o a l (fun v => K (a.put o.dst v)) w else K (a.put o.dst undef) w) : wpR P ops C Q (l :: ls) (o :: rest) a w :=
  h _ (fun _ _ h => h)

/-- in the text's order each comes up, and is free; behind number n each comes alone -/
def lexHead (md : Region.Mode) (ops : Array Oper) (lab : Nat → Nat) (g : Nat) : Nat → Nat → Array Bool → Bool
  | 0, k, listed => Region.seqB md ops g k listed
  | f + 1, k, listed => (Region.ready md ops listed).contains k && (freeR md ops lab listed k || (Region.ready md ops listed).all (fun j => j == k)) && lexHead md ops lab g f (k + 1) (listed.setIfInBounds k true)

def lexB (md : Region.Mode) (ops : Array Oper) (ls : List Nat) (n : Nat) : Bool :=
  Region.noSelect ops && decide (n ≤ ops.size) && Region.sinkB md ops n && Region.chainB md ops n && lexHead md ops (fun i => ls.getD i 2) (ops.size - n) n 0 (Array.replicate ops.size false)

theorem wpAnyR_lex {n g : Nat} {Lq : Act → World → Prop} {ls : List Nat} (hsel : Region.noSelect ops = true) (hs : Region.sinkB md ops n = true) (hc : Region.chainB md ops n = true) :
    ∀ (l : List Oper) (k : Nat) (listed : Array Bool) (a : Act) (w : World), C w → (∀ j, j < l.length → l[j]? = ops[k + j]?) → k + l.length = n → HeadInv md ops n listed →
    lexHead md ops (fun i => ls.getD i 2) g l.length k listed = true → wpR P ops C Lq (ls.drop k) l a w →
    wpAnyR P md ops C (fun i => ls.getD i 2) n (fun listed' a' w' => Region.seqB md ops g n listed' = true ∧ ∀ m, Lq a' (w'.drewN m)) l.length listed a w
  | [], k, listed, a, w, _, _, hk, _, hB, h => by
    have : k = n := by simpa using hk
    subst this
    exact ⟨by simpa [lexHead] using hB, h⟩
  | o :: l, k, listed, a, w, hw, hl, hk, inv, hB, h => by
    have h0 : ops[k]? = some o := by simpa using (hl 0 (by simp)).symm
    simp only [List.length_cons, lexHead, Bool.and_eq_true] at hB
    obtain ⟨⟨hr, hf⟩, hB'⟩ := hB
    have hkn : k < n := by simp only [List.length_cons] at hk; omega
    have hr' : k ∈ Region.ready md ops listed := by simpa using hr
    have e1 : (ls.drop k).headD 2 = ls.getD k 2 := by
      rw [List.headD_eq_head?_getD, List.head?_drop]; rfl
    have e2 : (ls.drop k).tail = ls.drop (k + 1) := by rw [List.tail_drop]
    have ih : ∀ a' w', C w' → wpR P ops C Lq (ls.drop (k + 1)) l a' w' → wpAnyR P md ops C (fun i => ls.getD i 2) n (fun listed' a' w' => Region.seqB md ops g n listed' = true ∧ ∀ m, Lq a' (w'.drewN m)) l.length (listed.setIfInBounds k true) a' w' := fun a' w' hc' ha' =>
      wpAnyR_lex hsel hs hc l (k + 1) _ a' w' hc' (fun j hj => by have := hl (j + 1) (by simp; omega); simpa [Nat.add_assoc, Nat.add_comm 1 j] using this) (by simp only [List.length_cons] at hk; omega) (inv.set hr' hkn) hB' ha'
    have hst : rOp P ops C (fun i => ls.getD i 2) k (wpAnyR P md ops C (fun i => ls.getD i 2) n (fun listed' a' w' => Region.seqB md ops g n listed' = true ∧ ∀ m, Lq a' (w'.drewN m)) l.length (listed.setIfInBounds k true)) a w := by
      unfold rOp
      simp only [h0]
      unfold wpR at h
      rw [e1, e2] at h
      split
      · rename_i hwt; rw [if_pos hwt] at h; exact stepV_mono hw (fun v w' hc' hv => ih _ _ hc' hv) h
      · rename_i hwt; rw [if_neg hwt] at h; exact ih _ _ hw h
    rcases Bool.or_eq_true _ _ ▸ hf with hf | hf
    · exact wpAnyR_first h0 (Region.noSelect_spec hsel) hs hc hkn (fun listed' a' w' hL => seqB_ready hL.1) l.length listed a w hw inv (freeR_spec h0 hf) hr' hst
    · refine ⟨fun e => (by rw [e] at hr'; cases hr'), fun j hj => ?_⟩
      have hjk : j = k := by simpa using List.all_eq_true.1 hf j hj
      subst hjk
      exact ⟨hkn, hst⟩

/-- **A REGION THAT DRAWS ITS ORDER.** The operations ahead of number n in the text's order, each by its label; those behind it one by one. -/
theorem wp_region {id : Nat} {Q : Exit → Act → World → Prop} {a : Act} {w : World} {l : List Oper} (n : Nat) (ls : List Nat) (C : World → Prop) (hm : P.follows .mixedOrders = true) (hB : lexB .any l.toArray ls n = true)
    (hC : C w) (hCd : ∀ w n, C w → C (w.drewN n))
    (h : wpR P l.toArray C (wpList P l.toArray Q (l.drop n)) ls (l.take n) a (w.drewN 1)) : (Code.region id l.toArray true).wp P Q a w := by
  simp only [lexB, Bool.and_eq_true, decide_eq_true_eq] at hB
  obtain ⟨⟨⟨⟨hsel, hn⟩, hs⟩, hc⟩, hlex⟩ := hB
  have hn' : n ≤ l.length := by simpa using hn
  have htl : (l.take n).length = n := by simp; omega
  have hdl : (l.drop n).length = l.toArray.size - n := by simp
  have inv0 : HeadInv .any l.toArray n (Array.replicate l.toArray.size false) :=
    ⟨by simp, fun j oj _ hl => (by rw [getD_replicate_false] at hl; cases hl), fun t _ ht => getD_in (by simpa using ht) (getD_replicate_false _ _)⟩
  have H := wpAnyR_lex (md := .any) (g := l.toArray.size - n) (ls := ls) hsel hs hc (l.take n) 0 _ a _ (hCd _ 1 hC) (fun j hj => by
    have hj' : j < n := by rw [htl] at hj; exact hj
    simp [hj']) (by simpa using htl) inv0 (by rw [htl]; exact hlex) (by simpa using h)
  refine wp_region_any hm ?_
  have := wpAny_of_R (Q' := Q) (g := l.toArray.size - n) hCd (fun l a w m hL => ⟨hL.1, fun k => by rw [World.drewN_drewN]; exact hL.2 _⟩) (fun listed a' w' hw' hL => by
    have := wpAny_of_seq (md := .any) (Q' := Q) (l.drop n) n listed a' w' (fun j => by simp [List.getElem?_drop]) (by rw [hdl]; exact hL.1) (hL.2 0)
    rwa [hdl] at this) _ _ _ _ (hCd _ 1 hC) H
  rw [htl, show n + (l.toArray.size - n) = l.toArray.size by omega] at this
  exact this
end
/-! ### the steps as the walk's simp takes them -/
/-- the class 'w after some draws' -/
def Dr (w w' : World) : Prop := ∃ n, w' = w.drewN n
/-- the class 'below w's end nothing has turned' -/
def Bl (w w' : World) : Prop := RowKit.Below w.heap.size w w'
theorem Dr.refl (w : World) : Dr w w := ⟨0, rfl⟩
theorem Dr.drew {w : World} (w' : World) (n : Nat) (h : Dr w w') : Dr w (w'.drewN n) := by
  obtain ⟨m, rfl⟩ := h; exact ⟨m + n, by rw [World.drewN_drewN]⟩
theorem Dr.of {w : World} {m k : Nat} (h : m ≤ k) : Dr (w.drewN m) (w.drewN k) := ⟨k - m, by rw [World.drewN_drewN]; congr 1; omega⟩
theorem Dr.of0 (w : World) (k : Nat) : Dr w (w.drewN k) := ⟨k, rfl⟩
theorem Bl.refl (w : World) : Bl w w := RowKit.Below.refl _ _
theorem Bl.drew {w : World} (w' : World) (n : Nat) (h : Bl w w') : Bl w (w'.drewN n) := below_drewN h n
@[go_sem] theorem Dr_drewN (w : World) (n : Nat) : Dr w (w.drewN n) = True := eq_true ⟨n, rfl⟩
@[go_sem] theorem Dr_self (w : World) : Dr w w = True := eq_true ⟨0, rfl⟩

def one (v : Value) (w : World) : Result Next → Prop
  | .ok (.value u) w' => u = v ∧ ∃ n, w' = w.drewN n
  | .ok .skip w' => undef = v ∧ ∃ n, w' = w.drewN n
  | _ => False
def any1 (R : Value → Prop) (w : World) : Result Next → Prop
  | .ok (.value u) w' => R u ∧ ∃ n, w' = w.drewN n
  | .ok .skip w' => R undef ∧ ∃ n, w' = w.drewN n
  | _ => False

theorem gives_of_one {P : Program} {o : Oper} {a : Act} {w : World} {v : Value} (h : one v w ((execOp a.eval o).run P w)) : Gives P o a w v := by
  unfold Gives
  cases hr : (execOp a.eval o).run P w with
  | halt x w' => rw [hr] at h; exact h.elim
  | ok n w' =>
    rw [hr] at h
    cases n <;> simp only [one] at h
    case value u => obtain ⟨rfl, n, rfl⟩ := h; exact ⟨n, .inl rfl⟩
    case skip => obtain ⟨rfl, n, rfl⟩ := h; exact ⟨n, .inr ⟨rfl, rfl⟩⟩
theorem gives_of_any {P : Program} {o : Oper} {a : Act} {w : World} {R : Value → Prop} (h : any1 R w ((execOp a.eval o).run P w)) : ∃ v, Gives P o a w v ∧ R v := by
  unfold Gives
  cases hr : (execOp a.eval o).run P w with
  | halt x w' => rw [hr] at h; exact h.elim
  | ok n w' =>
    rw [hr] at h
    cases n <;> simp only [any1] at h
    case value u => obtain ⟨hu, n, rfl⟩ := h; exact ⟨u, ⟨n, .inl rfl⟩, hu⟩
    case skip => obtain ⟨hu, n, rfl⟩ := h; exact ⟨undef, ⟨n, .inr ⟨rfl, rfl⟩⟩, hu⟩

section
variable {P : Program} {ops : Array Oper} {Q : Act → World → Prop} {ls : List Nat} {a : Act} {w w0 : World} {o : Oper} {rest : List Oper} {C : World → Prop}
/-- the front's form of a step, in the class of draws -/
theorem dr_step {l : Nat}
    (h : ∀ K : Act → World → Prop, (∀ a w, wpR P ops (Dr w0) Q ls rest a w → K a w) →
      if Region.wanted o (yielded ops a.tmps) then
        (match l with
          | 0 => ∃ v, (∀ n, one v (w0.drewN n) ((execOp a.eval o).run P (w0.drewN n))) ∧ K (a.put o.dst v) w
          | 1 => ∀ n, any1 (fun v => K (a.put o.dst v) w) (w0.drewN n) ((execOp a.eval o).run P (w0.drewN n))
          | _ => ∀ n, uponV P (Dr w0) (fun v => K (a.put o.dst v)) ((execOp a.eval o).run P (w.drewN n)))
      else K (a.put o.dst undef) w) : wpR P ops (Dr w0) Q (l :: ls) (o :: rest) a w := by
  refine wpR_step fun K hK => ?_
  have := h K hK
  split
  · rename_i hw
    rw [if_pos hw] at this
    match l, this with
    | 0, h => obtain ⟨v, h1, h2⟩ := h; exact ⟨v, fun w' ⟨n, hn⟩ => by subst hn; exact gives_of_one (h1 n), h2⟩
    | 1, h => exact fun w' ⟨n, hn⟩ => by subst hn; exact gives_of_any (h n)
    | l + 2, h => exact h
  · rename_i hw
    rwa [if_neg hw] at this
/-- .. in the class of what leaves old memory alone -/
theorem bl_step {l : Nat}
    (h : ∀ K : Act → World → Prop, (∀ a w, wpR P ops (Bl w0) Q ls rest a w → K a w) →
      if Region.wanted o (yielded ops a.tmps) then
        (match l with
          | 0 => ∃ v, (∀ w', RowKit.Below w0.heap.size w0 w' → one v w' ((execOp a.eval o).run P w')) ∧ K (a.put o.dst v) w
          | 1 => ∀ w', RowKit.Below w0.heap.size w0 w' → any1 (fun v => K (a.put o.dst v) w) w' ((execOp a.eval o).run P w')
          | _ => ∀ n, uponV P (Bl w0) (fun v => K (a.put o.dst v)) ((execOp a.eval o).run P (w.drewN n)))
      else K (a.put o.dst undef) w) : wpR P ops (Bl w0) Q (l :: ls) (o :: rest) a w := by
  refine wpR_step fun K hK => ?_
  have := h K hK
  split
  · rename_i hw
    rw [if_pos hw] at this
    match l, this with
    | 0, h => obtain ⟨v, h1, h2⟩ := h; exact ⟨v, fun w' hw' => gives_of_one (h1 w' hw'), h2⟩
    | 1, h => exact fun w' hw' => gives_of_any (h w' hw')
    | l + 2, h => exact h
  · rename_i hw
    rwa [if_neg hw] at this

theorem wp_dr {id : Nat} {Q : Exit → Act → World → Prop} {l : List Oper} (n : Nat) (ls : List Nat) (hm : P.follows .mixedOrders = true) (hB : lexB .any l.toArray ls n = true)
    (h : wpR P l.toArray (Dr w) (wpList P l.toArray Q (l.drop n)) ls (l.take n) a (w.drewN 1)) : (Code.region id l.toArray true).wp P Q a w :=
  wp_region n ls (Dr w) hm hB (Dr.refl w) Dr.drew h
theorem wp_bl {id : Nat} {Q : Exit → Act → World → Prop} {l : List Oper} (n : Nat) (ls : List Nat) (hm : P.follows .mixedOrders = true) (hB : lexB .any l.toArray ls n = true)
    (h : wpR P l.toArray (Bl w) (wpList P l.toArray Q (l.drop n)) ls (l.take n) a (w.drewN 1)) : (Code.region id l.toArray true).wp P Q a w :=
  wp_region n ls (Bl w) hm hB (Bl.refl w) Bl.drew h
end
section
variable (v u : Value) (R : Value → Prop) (w w' : World) (n k : Nat)
@[go_sem] theorem one_same : one v w (.ok (.value u) w) = (u = v) := propext ⟨fun h => h.1, fun h => ⟨h, 0, rfl⟩⟩
@[go_sem] theorem one_drew : one v w (.ok (.value u) (w.drewN k)) = (u = v) := propext ⟨fun h => h.1, fun h => ⟨h, k, rfl⟩⟩
@[go_sem] theorem one_drews : one v (w.drewN n) (.ok (.value u) (w.drewN (n + k))) = (u = v) := propext ⟨fun h => h.1, fun h => ⟨h, k, by rw [World.drewN_drewN]⟩⟩
@[go_sem] theorem one_skip : one v w (.ok .skip w) = (undef = v) := propext ⟨fun h => h.1, fun h => ⟨h, 0, rfl⟩⟩
@[go_sem] theorem any_same : any1 R w (.ok (.value u) w) = R u := propext ⟨fun h => h.1, fun h => ⟨h, 0, rfl⟩⟩
@[go_sem] theorem any_drew : any1 R w (.ok (.value u) (w.drewN k)) = R u := propext ⟨fun h => h.1, fun h => ⟨h, k, rfl⟩⟩
@[go_sem] theorem any_drews : any1 R (w.drewN n) (.ok (.value u) (w.drewN (n + k))) = R u := propext ⟨fun h => h.1, fun h => ⟨h, k, by rw [World.drewN_drewN]⟩⟩
@[go_sem] theorem any_skip : any1 R w (.ok .skip w) = R undef := propext ⟨fun h => h.1, fun h => ⟨h, 0, rfl⟩⟩
end
section
variable (P : Program) (C : World → Prop) (R : Value → World → Prop) (w : World)
@[go_sem] theorem uponV_value (v : Value) : uponV P C R (.ok (.value v) w) = (C w ∧ R v w) := rfl
@[go_sem] theorem uponV_enter (f : FuncId) (args : Array Value) : uponV P C R (.ok (.enter f args) w) = Calls P f args w (fun e w'' => ∃ v, e = .returned v ∧ C w'' ∧ R v w'') := rfl
end
end Go.Reg
