/- The reading of a list of decimal numbers: both walks. -/
import Derived.Test.YtidfjjmhohkejaaDoorRlC
namespace Go.Proofs.YtidfjjmhohkejaaDoor
open Go.RowKit Go.Fl Go.Reg Go.PlainAid
/-- numbers in a row of one's own -/
structure Ns (w : World) (B : Nat) (v : Value) (n : Nat) (xs : List Int) : Prop where
  own : w.ownsRow B 2 1 v n (il xs)
  le : B ≤ w.heap.size
theorem Ns.below {w w' : World} {B : Nat} {v : Value} {n : Nat} {xs : List Int} (h : Ns w B v n xs) (hb : Below w.heap.size w w') : Ns w' B v n xs := ⟨own_below h.own hb, Nat.le_trans h.le hb.size⟩
theorem Ns.start (w : World) : Ns (w.alloc (.cells #[] 2)) w.heap.size (.slice (some ⟨w.heap.size, 0, none⟩) 0 0) 0 [] :=
  ⟨World.ownsRow_made w #[] 0 (Nat.le_refl _) (by simp [maxLen]) rfl, by simp⟩
theorem Ns.app {w w' : World} {B g c n : Nat} {xs : List Int} {x : Int} {v : Value} (_h : Ns w B (.slice (some ⟨g, 0, none⟩) n c) n xs) (hown : w'.ownsRow B 2 1 v (n + 1) (il xs ++ [.int .i64 x])) (hnil : ¬ v = .slice none 0 0) (hB : B ≤ w'.heap.size) :
    ∃ g' c', v = .slice (some ⟨g', 0, none⟩) (n + 1) c' ∧ Ns w' B (.slice (some ⟨g', 0, none⟩) (n + 1) c') (n + 1) (xs ++ [x]) := by
  rcases hown.2 with ⟨e1, _⟩ | ⟨g', c', cur, rfl, _⟩
  · exact absurd e1 hnil
  · exact ⟨g', c', rfl, by rw [il_append]; exact hown, hB⟩
theorem int_at (w : World) (x : Int) (t : TypeId) : ∀ (j : Nat) u, [Value.int .i64 x][j]? = some u → (w.alloc (.cells #[.int .i64 x] t)).cell? ((Addr.mk w.heap.size 0 none).add j) = some u := one_at w (.int .i64 x) t
theorem int_cell (x : Int) : ∀ u ∈ [Value.int .i64 x], u.oneCell' = true := by
  intro u hu
  simp at hu
  subst hu
  rfl
/-- the piece at a place of the row -/
theorem Ss.at {w : World} {B g c n : Nat} {ys : List (List UInt8)} (h : Ss w B (.slice (some ⟨g, 0, none⟩) n c) n ys) {j : Nat} (hj : j < n) : w.cell? ⟨g, j, none⟩ = some (.string ⟨(pat ys j).toArray⟩) := by
  rw [h.own.cellAt j (by omega), List.getElem?_map]
  unfold pat
  have := h.len
  rw [List.getElem?_eq_getElem (by omega)]
  rfl
theorem pat_size {s : ByteArray} {j : Nat} (hs : s.size ≤ 1048576) : (⟨(pat (cutF [] s.data.toList) j).toArray⟩ : ByteArray).size ≤ 1048576 := by
  show (pat (cutF [] s.data.toList) j).toArray.size ≤ _
  rw [List.size_toArray]
  unfold pat
  have hlen : s.data.toList.length = s.size := Array.length_toList
  cases h : (cutF [] s.data.toList)[j]? with
  | none => simp
  | some p =>
    have := cutF_each _ _ p (List.mem_of_getElem? h)
    simp only [List.length_nil, Option.getD_some] at this ⊢
    omega
theorem none_bytes {s : ByteArray} (h : ¬ s.data.toList = noneT) : (s.toList == [110, 111, 110, 101]) = false := by
  rw [beq_eq_false_iff_ne, Lib.toList_data]
  exact h
theorem none_is {s : ByteArray} (h : s.data.toList = noneT) : s = ⟨#[110, 111, 110, 101]⟩ := by rw [← Lib.mk_data s, h]; rfl
def RLs (s : ByteArray) (w : World) (e : Ending) (w' : World) : Prop := RJ 2 w ((rl s.data.toList).getD []) (rl s.data.toList).isSome e w'
theorem RLs.no {s : ByteArray} {w w' : World} (h : rl s.data.toList = none) (B : Below w.heap.size w w') : RLs s w (.returned (.tuple #[.slice none 0 0, .bool false])) w' := by
  unfold RLs; rw [h]; exact RJ_no B
theorem RLs.yes {s : ByteArray} {w w' : World} {S : List Int} {g n c : Nat} (h : rl s.data.toList = some S) (hn : S.length = n) (O : Ns w' w.heap.size (.slice (some ⟨g, 0, none⟩) n c) n S) (B : Below w.heap.size w w') : RLs s w (.returned (.tuple #[.slice (some ⟨g, 0, none⟩) n c, .bool true])) w' := by
  unfold RLs; rw [h]
  subst hn
  exact ⟨_, _, S, rfl, Jrow.of O.own O.le, rfl, B⟩
theorem piecesNone (w : World) : Calls Tryd.prog 23 #[.string ⟨#[110, 111, 110, 101]⟩] w fun e w' => e = .returned (.slice none 0 0) ∧ w' = w := by
  go_enter Tryd.func23, Tryd.ntmps23
  go_wp2
  go_ret
  exact ⟨rfl, rfl⟩
theorem piecesI (s : ByteArray) (w : World) (hs : s.size ≤ 1048576) (h0 : ¬ s.data.toList = noneT) (h : ∃ m, w.cell? ⟨3, 0, none⟩ = some (.int .i64 m)) : Calls Tryd.prog 23 #[.string s] w (PS s w) := by
  have hb := none_bytes h0
  have KEY := Lib.hid (splitI s w hs h)
  clear h h0
  go_enter Tryd.func23, Tryd.ntmps23
  go_wp2_with fail
  refine KEY.out.mono ?_
  rintro e w1 ⟨g, c, rfl, S, A⟩
  have HS := Lib.hid S
  have HA := Lib.hid A
  clear S A KEY
  go_wp2
  go_ret
  exact ⟨g, c, rfl, HS.out, HA.out⟩
set_option maxHeartbeats 4000000 in
set_option maxRecDepth 100000 in
theorem numbersS (s : ByteArray) (w : World) (hs : s.size ≤ 1048576) : Calls Tryd.prog 22 #[.string s] w (RLs s w) := by
  obtain ⟨i0, hi, hz0, hz1, hz2⟩ := info_parts infoI64
  have HI := Lib.hid hi
  have HZ0 := Lib.hid hz0
  have HZ1 := Lib.hid hz1
  have HZ2 := Lib.hid hz2
  clear hi hz0 hz1 hz2
  by_cases h0 : s.data.toList = noneT
  · have HR := Lib.hid (rl_none h0)
    have hse := none_is h0
    subst hse
    clear h0
    go_enter Tryd.func22, Tryd.ntmps22
    go_wp2
    go_ret2
    exact RLs.yes HR.out rfl (Ns.start w) ((Below.refl _ _).alloc (Nat.le_refl _) _)
  have hb := none_bytes h0
  have H0 := Lib.hid h0
  skip
  skip
  skip
  clear h0
  go_enter Tryd.func22, Tryd.ntmps22
  go_wp2_with fail
  clear hb
  refine calls_at ?_
  intro w1 hA
  have A : Below w.heap.size w w1 := by rw [hA]; exact (Below.refl _ _).alloc (Nat.le_refl _) _
  have N : Ns w1 w.heap.size (.slice (some ⟨w.heap.size, 0, none⟩) 0 0) 0 [] := by rw [hA]; exact Ns.start w
  have z1 : w.heap.size < w1.heap.size := by rw [hA]; simp
  have HA := Lib.hid A
  have HN := Lib.hid N
  clear A N hA
  refine (cutS s _ hs).mono ?_
  rintro e w2 ⟨gp, cp, rfl, S, A⟩
  have hgp : w1.heap.size ≤ gp := (S.own.lt gp rfl).1
  have HS := Lib.hid S
  have HN := Lib.hid (HN.out.below A)
  have HA := Lib.hid (HA.out.trans (A.mono HA.out.size))
  clear A S
  obtain ⟨ps, hps⟩ : ∃ ps, ps = cutF [] s.data.toList := ⟨_, rfl⟩
  obtain ⟨n, hn⟩ : ∃ n, n = ps.length := ⟨_, rfl⟩
  rw [← hps, ← hn] at HS ⊢
  have HPS := Lib.hid hps
  have HNN := Lib.hid hn
  have hnle : n ≤ 1048577 := by
    have h1 := cutF_len s.data.toList []
    have h2 : s.data.toList.length = s.size := Array.length_toList
    rw [hn, hps]; omega
  clear hps hn
  by_cases h64 : 64 < n
  · have HR := Lib.hid (rl_long H0.out (by rw [← HPS.out, ← HNN.out]; exact h64))
    have h64i : (64 : Int) < (n : Int) := by omega
    clear h64
    go_wp2
    go_ret2
    exact RLs.no HR.out HA.out
  have h64i : ¬ (64 : Int) < (n : Int) := by omega
  go_wp2
  clear h64i
  go_loopw [4, 6] (fun v i w' => ∃ (k g c : Nat), k ≤ n ∧ g ≠ gp ∧ v = .slice (some ⟨g, 0, none⟩) k c ∧ i = .int .i64 k ∧ Hid (∀ j, j < k → (rd (pat ps j)).isSome = true) ∧ Hid (Ns w' w.heap.size (.slice (some ⟨g, 0, none⟩) k c) k (vals ps k)) ∧ Hid (Ss w' w1.heap.size (.slice (some ⟨gp, 0, none⟩) n cp) n ps) ∧ Hid (Below w.heap.size w w')) (fun _ i _ => n - (RowKit.intOf i).toNat)
  case atStart => exact ⟨0, _, 0, Nat.zero_le _, by omega, rfl, rfl, fun j hj => by omega, HN.out, HS.out, HA.out⟩
  case round =>
    obtain ⟨k, g, c, hk, hg, rfl, rfl, hO, hN, hS, hB⟩ := hrel
    by_cases hlt : k < n
    · have hc := hS.out.at hlt
      obtain ⟨p, hp⟩ : ∃ p, p = pat ps k := ⟨_, rfl⟩
      rw [← hp] at hc
      have hpz : (⟨p.toArray⟩ : ByteArray).size ≤ 1048576 := by rw [hp, HPS.out]; exact pat_size hs
      have HP := Lib.hid hp
      clear hp
      obtain ⟨pb, hpb⟩ : ∃ pb, pb = (⟨p.toArray⟩ : ByteArray) := ⟨_, rfl⟩
      rw [← hpb] at hc hpz
      have HPB := Lib.hid (show pb.data.toList = p by rw [hpb])
      clear hpb
      go_wp2_with fail
      clear hc
      refine (valueS pb _ (by unfold maxLen; omega)).mono ?_
      rintro e w3 ⟨rfl, A⟩
      have hN := Lib.hid (hN.out.below A)
      have hS := Lib.hid (hS.out.below A)
      have hB := Lib.hid (hB.out.trans (A.mono hB.out.size))
      clear A hpz
      rw [HPB.out]
      cases hr : rd p with
      | none =>
        have HR := Lib.hid (rl_bad H0.out (j := k) (by rw [← HPS.out, ← HNN.out]; exact hlt) (by rw [← HPS.out, ← HP.out]; exact hr))
        clear hr
        go_wp2
        go_ret2
        exact RLs.no HR.out hB.out
      | some x =>
        have HRD := Lib.hid (show rd (pat ps k) = some x by rw [← HP.out]; exact hr)
        clear hr
        have zB : w.heap.size ≤ w3.heap.size := hB.out.size
        have zP : gp < w3.heap.size := (hS.out.own.lt gp rfl).2
        go_wp2_with (at_builtin; refine wpList_append_own_at _ rfl (.tmp 34) (.tmp 36) 25 rfl w.heap.size 2 i0 (.int .i64 0) 1 8 Tryd.underlying25 HI.out HZ0.out HZ1.out HZ2.out rfl (by decide) (.slice (some ⟨g, 0, none⟩) k c) k (il (vals ps k)) rfl (own_below hN.out.own ((Below.refl _ _).alloc (Nat.le_refl _) _)) ⟨w3.heap.size, 0, none⟩ 1 1 [.int .i64 x] rfl rfl (int_at _ _ _) (int_cell _) (by unfold maxLen; omega) (by omega) (by simp; omega) ?_)
        intro v' w9 hown hgr hnil hblk
        have T9 := Lib.hid ((hB.out.alloc zB _).grown hgr (by simp <;> omega) (fun q hq => (hN.out.own.lt q hq).1))
        obtain ⟨g9, c9, rfl, N9⟩ := hN.out.app hown (by first | exact hnil | (intro e; have := hnil.1 e; simp at this)) T9.out.size
        rw [show vals ps k ++ [x] = vals ps (k + 1) by rw [vals_step, HRD.out]; rfl] at N9
        have S9 : Ss w9 w1.heap.size (.slice (some ⟨gp, 0, none⟩) n cp) n ps := ⟨(own_below hS.out.own ((Below.refl _ _).alloc (Nat.le_refl _) _)).kept hgr (by first | (intro e; simp [Value.ownBlock] at e; exact hg e.symm) | (intro q e; simp [Value.ownBlock] at e ⊢; intro h; exact hg (by omega)) | (simp [Value.ownBlock]; exact fun h => hg h.symm) | (simp [Value.ownBlock]; exact hg)), Nat.le_trans hS.out.le (Nat.le_trans (by simp) hgr.size)⟩
        have g9n : g9 ≠ gp := by
          rcases hblk with h | h
          · simp [Value.ownBlock] at h; omega
          · simp [Value.ownBlock] at h; omega
        have HS9 := Lib.hid S9
        have HN9 := Lib.hid N9
        clear hown hgr hnil hblk S9 N9
        go_wp2
        go_roundw
        case rel => exact ⟨k + 1, g9, c9, by omega, g9n, (by go_num), (by go_num), fun j hj => by
          by_cases e : j = k
          · subst e; rw [HRD.out]; rfl
          · exact hO.out j (by omega), HN9, HS9, T9⟩
        case measure => (simp [RowKit.intOf] <;> omega)
    · have e : k = n := by omega
      subst e
      have HR := Lib.hid (show rl s.data.toList = some (vals ps k) by
        have := rl_ok H0.out (by rw [← HPS.out, ← HNN.out]; omega) (fun j hj => by rw [← HPS.out]; exact hO.out j (by rw [← HPS.out, ← HNN.out] at hj; exact hj))
        rw [← HPS.out, ← HNN.out] at this
        exact this)
      clear hO
      go_wp2
      go_ret2
      exact RLs.yes HR.out (vals_len _ _) hN.out hB.out
set_option maxHeartbeats 4000000 in
set_option maxRecDepth 100000 in
theorem listRI (s : ByteArray) (w : World) (hs : s.size ≤ 1048576) (hT : LT w) (hm : ∃ m, w.cell? ⟨3, 0, none⟩ = some (.int .i64 m)) : Calls Tryd.prog 10 #[.string s] w (RLs s w) := by
  obtain ⟨i0, hi, hz0, hz1, hz2⟩ := info_parts infoI64
  have HI := Lib.hid hi
  have HZ0 := Lib.hid hz0
  have HZ1 := Lib.hid hz1
  have HZ2 := Lib.hid hz2
  clear hi hz0 hz1 hz2
  by_cases h0 : s.data.toList = noneT
  · have HR := Lib.hid (rl_none h0)
    have hse := none_is h0
    subst hse
    clear h0
    go_enter Tryd.func10, Tryd.ntmps10
    go_wp2_with fail
    refine calls_at ?_
    intro w1 hA
    have A : Below w.heap.size w w1 := by rw [hA]; exact (Below.refl _ _).alloc (Nat.le_refl _) _
    have N : Ns w1 w.heap.size (.slice (some ⟨w.heap.size, 0, none⟩) 0 0) 0 [] := by rw [hA]; exact Ns.start w
    have HA := Lib.hid A
    have HN := Lib.hid N
    clear A N hA
    refine (piecesNone _).mono ?_
    rintro e wx ⟨rfl, hsame⟩
    replace hsame := hsame.symm
    subst hsame
    go_wp2
    go_loopw [4, 13] (fun v i w' => v = .slice (some ⟨w.heap.size, 0, none⟩) 0 0 ∧ i = .int .i64 0 ∧ w' = w1) (fun _ _ _ => 0)
    case atStart => exact ⟨rfl, rfl, (by first | rfl | trivial)⟩
    case round =>
      obtain ⟨rfl, rfl, rfl⟩ := hrel
      go_wp2
      go_ret2
      exact RLs.yes HR.out rfl HN.out HA.out
  have hb := none_bytes h0
  have H0 := Lib.hid h0
  have HT := Lib.hid hT
  have HMX := Lib.hid hm
  clear hT hm
  clear h0
  go_enter Tryd.func10, Tryd.ntmps10
  go_wp2_with fail
  clear hb
  refine calls_at ?_
  intro w1 hA
  have A : Below w.heap.size w w1 := by rw [hA]; exact (Below.refl _ _).alloc (Nat.le_refl _) _
  have N : Ns w1 w.heap.size (.slice (some ⟨w.heap.size, 0, none⟩) 0 0) 0 [] := by rw [hA]; exact Ns.start w
  have z1 : w.heap.size < w1.heap.size := by rw [hA]; simp
  have HA := Lib.hid A
  have HN := Lib.hid N
  clear A N hA
  refine (piecesI s _ hs H0.out (by obtain ⟨m, hm⟩ := HMX.out; exact ⟨m, (HA.out.cell (p := ⟨3, 0, none⟩) (World.block_lt_of_cell? w _ hm)).trans hm⟩)).mono ?_
  rintro e w2 ⟨gp, cp, rfl, S, A⟩
  have hgp : w1.heap.size ≤ gp := (S.own.lt gp rfl).1
  have HS := Lib.hid S
  have HN := Lib.hid (HN.out.below A)
  have HA := Lib.hid (HA.out.trans (A.mono HA.out.size))
  clear A S
  obtain ⟨ps, hps⟩ : ∃ ps, ps = cutF [] s.data.toList := ⟨_, rfl⟩
  obtain ⟨n, hn⟩ : ∃ n, n = ps.length := ⟨_, rfl⟩
  rw [← hps, ← hn] at HS ⊢
  have HPS := Lib.hid hps
  have HNN := Lib.hid hn
  have hnle : n ≤ 1048577 := by
    have h1 := cutF_len s.data.toList []
    have h2 : s.data.toList.length = s.size := Array.length_toList
    rw [hn, hps]; omega
  clear hps hn
  go_wp2
  go_loopw [4, 13] (fun v i w' => ∃ (k g c : Nat), k ≤ n ∧ k ≤ 64 ∧ g ≠ gp ∧ v = .slice (some ⟨g, 0, none⟩) k c ∧ i = .int .i64 k ∧ Hid (∀ j, j < k → (rd (pat ps j)).isSome = true) ∧ Hid (Ns w' w.heap.size (.slice (some ⟨g, 0, none⟩) k c) k (vals ps k)) ∧ Hid (Ss w' w1.heap.size (.slice (some ⟨gp, 0, none⟩) n cp) n ps) ∧ Hid (Below w.heap.size w w')) (fun _ i _ => n - (RowKit.intOf i).toNat)
  case atStart => exact ⟨0, _, 0, Nat.zero_le _, by omega, by omega, rfl, rfl, fun j hj => by omega, HN.out, HS.out, HA.out⟩
  case round =>
    obtain ⟨k, g, c, hk, hk64, hg, rfl, rfl, hO, hN, hS, hB⟩ := hrel
    by_cases hlt : k < n
    · have hc := hS.out.at hlt
      obtain ⟨p, hp⟩ : ∃ p, p = pat ps k := ⟨_, rfl⟩
      rw [← hp] at hc
      have hpz : (⟨p.toArray⟩ : ByteArray).size ≤ 1048576 := by rw [hp, HPS.out]; exact pat_size hs
      have HP := Lib.hid hp
      clear hp
      obtain ⟨pb, hpb⟩ : ∃ pb, pb = (⟨p.toArray⟩ : ByteArray) := ⟨_, rfl⟩
      rw [← hpb] at hc hpz
      have HPB := Lib.hid (show pb.data.toList = p by rw [hpb])
      clear hpb
      go_wp2_with fail
      clear hc
      refine (readI pb _ (by omega) (HT.out.below hB.out)).mono ?_
      rintro e w3 ⟨rfl, A⟩
      have hN := Lib.hid (hN.out.below A)
      have hS := Lib.hid (hS.out.below A)
      have hB := Lib.hid (hB.out.trans (A.mono hB.out.size))
      clear A hpz
      rw [HPB.out]
      cases hr : rd p with
      | none =>
        have HR := Lib.hid (rl_bad H0.out (j := k) (by rw [← HPS.out, ← HNN.out]; exact hlt) (by rw [← HPS.out, ← HP.out]; exact hr))
        clear hr
        go_wp2
        go_ret2
        exact RLs.no HR.out hB.out
      | some x =>
        have HRD := Lib.hid (show rd (pat ps k) = some x by rw [← HP.out]; exact hr)
        clear hr
        by_cases hk6 : k = 64
        · have HR := Lib.hid (rl_long H0.out (by rw [← HPS.out, ← HNN.out]; omega))
          have hki : (k : Int) = 64 := by omega
          clear hk6
          go_wp2
          go_ret2
          exact RLs.no HR.out hB.out
        have hki : ¬ (k : Int) = 64 := by omega
        have zB : w.heap.size ≤ w3.heap.size := hB.out.size
        have zP : gp < w3.heap.size := (hS.out.own.lt gp rfl).2
        go_wp2_with (at_builtin; refine wpList_append_own_at _ rfl (.tmp 29) (.tmp 31) 25 rfl w.heap.size 2 i0 (.int .i64 0) 1 8 Tryd.underlying25 HI.out HZ0.out HZ1.out HZ2.out rfl (by decide) (.slice (some ⟨g, 0, none⟩) k c) k (il (vals ps k)) rfl (own_below hN.out.own ((Below.refl _ _).alloc (Nat.le_refl _) _)) ⟨w3.heap.size, 0, none⟩ 1 1 [.int .i64 x] rfl rfl (int_at _ _ _) (int_cell _) (by unfold maxLen; omega) (by omega) (by simp; omega) ?_)
        intro v' w9 hown hgr hnil hblk
        have T9 := Lib.hid ((hB.out.alloc zB _).grown hgr (by simp <;> omega) (fun q hq => (hN.out.own.lt q hq).1))
        obtain ⟨g9, c9, rfl, N9⟩ := hN.out.app hown (by first | exact hnil | (intro e; have := hnil.1 e; simp at this)) T9.out.size
        rw [show vals ps k ++ [x] = vals ps (k + 1) by rw [vals_step, HRD.out]; rfl] at N9
        have S9 : Ss w9 w1.heap.size (.slice (some ⟨gp, 0, none⟩) n cp) n ps := ⟨(own_below hS.out.own ((Below.refl _ _).alloc (Nat.le_refl _) _)).kept hgr (by first | (intro e; simp [Value.ownBlock] at e; exact hg e.symm) | (intro q e; simp [Value.ownBlock] at e ⊢; intro h; exact hg (by omega)) | (simp [Value.ownBlock]; exact fun h => hg h.symm) | (simp [Value.ownBlock]; exact hg)), Nat.le_trans hS.out.le (Nat.le_trans (by simp) hgr.size)⟩
        have g9n : g9 ≠ gp := by
          rcases hblk with h | h
          · simp [Value.ownBlock] at h; omega
          · simp [Value.ownBlock] at h; omega
        have HS9 := Lib.hid S9
        have HN9 := Lib.hid N9
        clear hown hgr hnil hblk S9 N9
        go_wp2
        go_roundw
        case rel => exact ⟨k + 1, g9, c9, by omega, by omega, g9n, (by go_num), (by go_num), fun j hj => by
          by_cases e : j = k
          · subst e; rw [HRD.out]; rfl
          · exact hO.out j (by omega), HN9, HS9, T9⟩
        case measure => (simp [RowKit.intOf] <;> omega)
    · have e : k = n := by omega
      subst e
      have HR := Lib.hid (show rl s.data.toList = some (vals ps k) by
        have := rl_ok H0.out (by rw [← HPS.out, ← HNN.out]; omega) (fun j hj => by rw [← HPS.out]; exact hO.out j (by rw [← HPS.out, ← HNN.out] at hj; exact hj))
        rw [← HPS.out, ← HNN.out] at this
        exact this)
      clear hO
      go_wp2
      go_ret2
      exact RLs.yes HR.out (vals_len _ _) hN.out hB.out
theorem readLS (s : ByteArray) (w : World) (hs : s.size ≤ 1048576) : Calls Tryd.prog 9 #[.string s] w (RLs s w) := by
  have KEY := Lib.hid (numbersS s w hs)
  go_enter Tryd.func9, Tryd.ntmps9
  go_wp2_with fail
  refine KEY.out.mono ?_
  rintro e w1 ⟨a, cap, xs, rfl, R, E, A⟩
  have HR := Lib.hid R
  have HE := Lib.hid E
  have HA := Lib.hid A
  clear R E A KEY
  go_wp2
  go_ret2
  exact ⟨a, cap, xs, rfl, HR.out, HE.out, HA.out⟩
end Go.Proofs.YtidfjjmhohkejaaDoor
