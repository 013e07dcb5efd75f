/- laws.sameFloat answers true on two words that are one canonical word. -/
import Derived.Test.YtcfnhkadljlgcaaExt
namespace Go.Proofs.Ytcfnhkadljlgcaa
open Go.RowKit Go.Fl
theorem sameFloat (a b : Nat) (w : World) (h : cn .f64 a = cn .f64 b) : Calls Try.prog 18 #[.float .f64 a, .float .f64 b] w fun e w' => e = .returned (.bool true) ∧ w' = w := by
  have hnn := cn_eq_nan h
  cases hn : isNaN .f64 a
  · rw [hn] at hnn
    rw [cn_of_not hn, cn_of_not hnn.symm] at h
    subst h
    obtain ⟨r, hr⟩ := quo_one hn
    have h1 := fres_of hr
    have h2 := fdr_of hr
    have h3 := order_self hn
    clear hnn hr
    cases hz : (FloatKind.f64.format.order a 0 == some .eq)
    all_goals
      go_enter Try.func18, Try.ntmps18
      go_wp2
      go_ret
      refine ⟨by simp, ?_⟩
      first | rfl | simp
  · rw [hn] at hnn
    have hnn' := hnn.symm
    clear hnn h
    go_enter Try.func18, Try.ntmps18
    go_wp2
    go_ret
    exact ⟨rfl, rfl⟩
end Go.Proofs.Ytcfnhkadljlgcaa
