/- The reading of a decimal number: the program's walk. -/
import Derived.Test.YtidfjjmhohkejaaDoorRdS
import Derived.Test.YtidfjjmhohkejaaDoorLTextI
import Derived.Test.YtidfjjmhohkejaaDoorCard
import Derived.Lib.AtoiErrMem
namespace Go.Proofs.YtidfjjmhohkejaaDoor
open Go.RowKit Go.Fl Go.Reg Go.PlainAid
theorem var_below {w w' : World} {n : String} {cs : Array Value} (h : w.var? Tryd.prog n = some cs) (hb : Below w.heap.size w w') : w'.var? Tryd.prog n = some cs := by
  unfold World.var? at h ⊢
  cases hn : Tryd.prog.globalNamed n with
  | none => rw [hn] at h; simp at h
  | some g =>
    rw [hn] at h
    simp only [Option.bind_some] at h ⊢
    have hg : g < w.heap.size := by
      rcases Nat.lt_or_ge g w.heap.size with x | x
      · exact x
      · rw [Array.getElem?_eq_none x] at h
        simp at h
    rw [hb.block g hg]
    exact h
/-- the library's variables that the reading of a number comes to -/
structure LT (w : World) : Prop where
  tab : Lib.TabIs Tryd.prog w "internal/strconv.uint64pow10" .u64 Lib.pow10Tab
  syn : ∃ tp p, w.var? Tryd.prog "strconv.ErrSyntax" = some #[.iface tp p]
  rng : ∃ tp p, w.var? Tryd.prog "strconv.ErrRange" = some #[.iface tp p]
theorem LT.below {w w' : World} (h : LT w) (hb : Below w.heap.size w w') : LT w' :=
  ⟨var_below h.tab hb, (by obtain ⟨tp, p, e⟩ := h.syn; exact ⟨tp, p, var_below e hb⟩), (by obtain ⟨tp, p, e⟩ := h.rng; exact ⟨tp, p, var_below e hb⟩)⟩
theorem row88 (u : TypeId) (h : Tryd.prog.typeName? 3 u = some "*errors.errorString") : u = 88 :=
  typeName_ptr_named (nm := "errors.errorString") (by rw [show "*" ++ "errors.errorString" = "*errors.errorString" by decide]; kernel_rfl) (by kernel_rfl) (by decide) u (by rw [show "*" ++ "errors.errorString" = "*errors.errorString" by decide]; exact h)
theorem rng_of_laid {W : World} {rest : List (String × DataW Unit)} (h : laidMet Tryd.prog (("strconv.ErrRange", Rows.laid_strconv_ErrRange) :: rest) W) : ∃ tp p, W.var? Tryd.prog "strconv.ErrRange" = some #[.iface tp p] := by
  obtain ⟨a, s, hv, -⟩ := laid_sentinel (g := 1) h (by kernel_rfl) (by kernel_rfl) Tryd.underlying37 row88 Tryd.underlying88 Tryd.underlying90 rfl rfl Tryd.underlying9 (by kernel_rfl) (by kernel_rfl)
  exact ⟨_, _, hv⟩
theorem syn_of_laid {W : World} {rest : List (String × DataW Unit)} (h : laidMet Tryd.prog (("strconv.ErrSyntax", Rows.laid_strconv_ErrSyntax) :: rest) W) : ∃ tp p, W.var? Tryd.prog "strconv.ErrSyntax" = some #[.iface tp p] := by
  obtain ⟨a, s, hv, -⟩ := laid_sentinel (g := 0) h (by kernel_rfl) (by kernel_rfl) Tryd.underlying37 row88 Tryd.underlying88 Tryd.underlying90 rfl rfl Tryd.underlying9 (by kernel_rfl) (by kernel_rfl)
  exact ⟨_, _, hv⟩
set_option maxHeartbeats 4000000 in
set_option maxRecDepth 100000 in
theorem readI (s : ByteArray) (w : World) (hs : s.size ≤ 281474976710656) (hT : LT w) : Calls Tryd.prog 8 #[.string s] w (NV s.data.toList w) := by
  have HT := Lib.hid hT
  cases hp : Lib.parseIntB 64 s.data.toList
  · rename_i v
    have HP := Lib.hid hp
    have key := Tryd.strconv_ParseInt_10_at64_ok s (by omega) v hp w
    have KEY := Lib.hid key
    clear hp key hT
    go_enter Tryd.func8, Tryd.ntmps8
    go_wp2_with fail
    refine KEY.out.mono ?_
    rintro e w1 ⟨rfl, hw1⟩
    have A : Below w.heap.size w w1 := by
      rcases hw1 with rfl | ⟨t, rfl⟩
      · exact Below.refl _ _
      · exact Lib.bytesWorld_below w _ t
    have HA := Lib.hid A
    clear A hw1 KEY
    go_wp2_with fail
    refine (valueI v _).mono ?_
    rintro e wx ⟨rfl, hsame⟩
    replace hsame := hsame.symm
    subst hsame
    cases ho : okv v
    · have HR := Lib.hid (rd_parse_no HP.out (.inl ho))
      clear ho
      go_wp2
      go_ret2
      exact NV.no HR.out HA.out
    · have HO := Lib.hid ho
      have hr := okv_yes ho
      clear ho
      go_wp2_with fail
      refine (decI v (by omega) (by omega) _ ((HT.out.below HA.out).tab)).mono ?_
      rintro e w3 ⟨rfl, A⟩
      have HA3 := Lib.hid (HA.out.trans (A.mono HA.out.size))
      clear A hr
      by_cases he : Lib.itoa v = s.data.toList
      · have hbe : (⟨(Lib.itoa v).toArray⟩ : ByteArray) = s := by rw [he]
        have HR := Lib.hid (rd_parse_yes HP.out HO.out he)
        clear he
        rw [hbe]
        clear hbe
        go_wp2
        go_ret2
        exact NV.yes HR.out HA3.out
      · have hbe : ¬ (⟨(Lib.itoa v).toArray⟩ : ByteArray) = s := fun e => he (by rw [← e])
        have HR := Lib.hid (rd_parse_no HP.out (.inr he))
        clear he
        obtain ⟨B, hB⟩ : ∃ B, B = (⟨(Lib.itoa v).toArray⟩ : ByteArray) := ⟨_, rfl⟩
        rw [← hB] at hbe ⊢
        have hbt : (B.toList == s.toList) = false := bytes_ne hbe
        clear hB hbe
        go_wp2
        go_ret2
        exact NV.no HR.out HA3.out
  · have HR := Lib.hid (rd_parse_err (l := s.data.toList) (fun v h => by rw [hp] at h; cases h))
    obtain ⟨tp, p, hv⟩ := hT.syn
    have KEY := Lib.hid (Tryd.strconv_ParseInt_10_at64_syntax_var s hs hp tp p w hv)
    clear hp hT hv
    go_enter Tryd.func8, Tryd.ntmps8
    go_wp2_with fail
    refine KEY.out.mono ?_
    rintro e w1 ⟨N, rfl, -, -, A⟩
    have HA := Lib.hid A
    clear A KEY
    go_wp2
    go_ret2
    exact NV.no HR.out HA.out
  · have HR := Lib.hid (rd_parse_err (l := s.data.toList) (fun v h => by rw [hp] at h; cases h))
    obtain ⟨tp, p, hv⟩ := hT.rng
    have KEY := Lib.hid (Tryd.strconv_ParseInt_10_at64_range_var s hs hp tp p w hv)
    clear hp hT hv
    go_enter Tryd.func8, Tryd.ntmps8
    go_wp2_with fail
    refine KEY.out.mono ?_
    rintro e w1 ⟨N, rfl, -, -, A⟩
    have HA := Lib.hid A
    clear A KEY
    go_wp2
    go_ret2
    exact NV.no HR.out HA.out
end Go.Proofs.YtidfjjmhohkejaaDoor
