/- Two tensors that are valid and of one shape: the spec's answer and the program's. -/
import Derived.Test.YtoeppdkhncllbaaValid
namespace Go.Proofs.Ytoeppdkhncllbaa
open Go.RowKit Go.Fl Go.Reg
def lk (r c : Int) (n : Nat) (r2 c2 : Int) (n2 : Nat) : Bool := decide (vt r c n) && (decide (vt r2 c2 n2) && (decide (r = r2) && decide (c = c2)))
theorem lk_yes {r c : Int} {n : Nat} {r2 c2 : Int} {n2 : Nat} (h : lk r c n r2 c2 n2 = true) : vt r c n ∧ r2 = r ∧ c2 = c ∧ n2 = n := by
  unfold lk at h
  simp only [Bool.and_eq_true, decide_eq_true_eq] at h
  obtain ⟨h1, h2, h3, h4⟩ := h
  subst h3; subst h4
  refine ⟨h1, rfl, rfl, ?_⟩
  have a := h1.2.2.2.2
  have b := h2.2.2.2.2
  omega
theorem isTb (r c : Int) (a : Option Addr) (n cap : Nat) (b : Nat) (w : World) (k : Nat) (hn : n ≤ maxLen) (Q : Box w b r c a n cap) :
    Calls Try.prog 40 #[.pointer (some ⟨b, 0, none⟩)] (w.drewN k) fun e w' => e = .returned (.bool (decide (vt r c n))) ∧ ∃ m, w' = w.drewN (k + m) := by
  refine (isT r c a n cap b 0 (w.drewN k) hn Q.c0 Q.c1 Q.c2).mono ?_
  rintro e w1 ⟨rfl, m, rfl⟩
  exact ⟨rfl, m, World.drewN_drewN ..⟩
end Go.Proofs.Ytoeppdkhncllbaa
