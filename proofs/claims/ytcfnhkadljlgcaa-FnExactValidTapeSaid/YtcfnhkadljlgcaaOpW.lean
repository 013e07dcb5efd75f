/- Which tapes are valid: the shapes of all values, by the reference. -/
import Derived.Test.YtcfnhkadljlgcaaOpV
import Derived.Maps.AppendAt
namespace Go.Proofs.Ytcfnhkadljlgcaa
open Go.RowKit Go.Fl Go.Reg
def sat (S : List (Int × Int)) (i : Nat) : Int × Int := S[i]?.getD (0, 0)
def fitB (k : Int) (v w : Int × Int) : Bool := if k = 1 ∨ k = 3 then decide (v.1 = w.1) && decide (v.2 = w.2) else if k = 2 ∨ k = 4 then decide (w.1 = 1) && decide (v.2 = w.2) else if k = 6 then decide (v.2 = w.1) else true
def ownB (k : Int) (v w : Int × Int) : Int × Int := if k = 6 then (v.1, w.2) else if k = 7 then (v.2, v.1) else if k = 10 then (1, 1) else v
def nxt (l : OD) (S : List (Int × Int)) : Option (Int × Int) := if l.k = 0 then some (l.r, l.c) else if fitB l.k (sat S l.a.toNat) (sat S l.b.toNat) = true then some (ownB l.k (sat S l.a.toNat) (sat S l.b.toNat)) else none
/-- the shapes of the first j values -/
def run (L : List OD) : Nat → Option (List (Int × Int))
  | 0 => some []
  | j + 1 => match run L j with
    | none => none
    | some S => if hdB (oat L j) (j : Int) = true then (match nxt (oat L j) S with | none => none | some s => some (S ++ [s])) else none
def vld (L : List OD) (n : Nat) : Bool := decide (1 ≤ n) && decide (n ≤ 48) && (run L n).isSome
theorem run_none {L : List OD} {j n : Nat} (h : run L j = none) (hn : j ≤ n) : run L n = none := by
  induction n with
  | zero => have : j = 0 := by omega
            subst this; exact h
  | succ n ih =>
    by_cases e : j = n + 1
    · subst e; exact h
    · have := ih (by omega)
      show (match run L n with | none => none | some S => _) = none
      rw [this]
theorem vld_hd {L : List OD} {j n : Nat} {S : List (Int × Int)} {l : OD} (hS : run L j = some S) (hl : l = oat L j) (h : hdB l (j : Int) = false) (hn : j < n) : vld L n = false := by
  have : run L (j + 1) = none := by
    show (match run L j with | none => none | some S => _) = none
    rw [hS]
    simp only
    rw [← hl, h, if_neg (by simp)]
  unfold vld
  rw [run_none this (by omega)]
  simp
theorem run_hd {L : List OD} {j : Nat} {S : List (Int × Int)} {l : OD} {s : Int × Int} (hS : run L j = some S) (hl : l = oat L j) (h : hdB l (j : Int) = true) (hn : nxt l S = some s) : run L (j + 1) = some (S ++ [s]) := by
  show (match run L j with | none => none | some S => _) = some (S ++ [s])
  rw [hS]
  simp only
  rw [← hl, h, if_pos rfl, hn]
theorem vld_nx {L : List OD} {j n : Nat} {S : List (Int × Int)} {l : OD} (hS : run L j = some S) (hl : l = oat L j) (h : nxt l S = none) (hn : j < n) : vld L n = false := by
  have : run L (j + 1) = none := by
    show (match run L j with | none => none | some S => _) = none
    rw [hS]
    simp only
    rw [← hl, h]
    split <;> rfl
  unfold vld
  rw [run_none this (by omega)]
  simp
def SP (w : World) (ok : Bool) (e : Ending) (w' : World) : Prop := ∃ v, e = .returned (.tuple #[v, .bool ok]) ∧ Below w.heap.size w w'
/-- shapes in a list of one's own, 3 cells each -/
structure S3 (w : World) (B g j cap : Nat) (S : List (Int × Int)) (cs : List Value) : Prop where
  own : w.ownsRow B 36 3 (.slice (some ⟨g, 0, none⟩) j cap) j cs
  len : S.length = j
  c : ∀ i, i < j → cs[i * 3]? = some (.int .i64 (sat S i).1) ∧ cs[i * 3 + 1]? = some (.int .i64 (sat S i).2) ∧ cs[i * 3 + 2]? = some (.slice none 0 0)
  le : B ≤ w.heap.size
theorem S3.below {w w' : World} {B g j cap : Nat} {S : List (Int × Int)} {cs : List Value} (h : S3 w B g j cap S cs) (hb : Below w.heap.size w w') : S3 w' B g j cap S cs :=
  ⟨own_below7 h.own hb, h.len, h.c, Nat.le_trans h.le hb.size⟩
theorem S3.alloc {w : World} {B g j cap : Nat} {S : List (Int × Int)} {cs : List Value} (h : S3 w B g j cap S cs) (o : Obj) : S3 (w.alloc o) B g j cap S cs := h.below ((Below.refl _ _).alloc (Nat.le_refl _) o)
theorem S3.at {w : World} {B g j cap : Nat} {S : List (Int × Int)} {cs : List Value} (h : S3 w B g j cap S cs) {i : Nat} (hi : i < j) :
    w.cell? ⟨g, i * 3, none⟩ = some (.int .i64 (sat S i).1) ∧ w.cell? ⟨g, i * 3 + 1, none⟩ = some (.int .i64 (sat S i).2) ∧ w.cell? ⟨g, i * 3 + 2, none⟩ = some (.slice none 0 0) ∧ g < w.heap.size := by
  obtain ⟨k0, k1, k2⟩ := h.c i hi
  exact ⟨(h.own.cellAt _ (by omega)).trans k0, (h.own.cellAt _ (by omega)).trans k1, (h.own.cellAt _ (by omega)).trans k2, (h.own.lt g rfl).2⟩
theorem S3.app {w w' : World} {B g j cap : Nat} {S : List (Int × Int)} {cs : List Value} {v' : Value} {r c : Int} (h : S3 w B g j cap S cs) (hown : w'.ownsRow B 36 3 v' (j + 1) (cs ++ [.int .i64 r, .int .i64 c, .slice none 0 0])) (hz : ¬ v' = .slice none 0 0) (hle : B ≤ w'.heap.size) :
    ∃ g' cap', v' = .slice (some ⟨g', 0, none⟩) (j + 1) cap' ∧ S3 w' B g' (j + 1) cap' (S ++ [(r, c)]) (cs ++ [.int .i64 r, .int .i64 c, .slice none 0 0]) := by
  have hlen : cs.length = j * 3 := h.own.1
  have hl := h.len
  rcases hown.2 with ⟨e, _⟩ | ⟨g', cap', cur, e, _⟩
  · exact absurd e hz
  · subst e
    refine ⟨g', cap', rfl, hown, by simp [hl], fun i hi => ?_, hle⟩
    by_cases e : i = j
    · subst e
      have es : sat (S ++ [(r, c)]) i = (r, c) := by unfold sat; rw [List.getElem?_append_right (by omega)]; simp [hl]
      rw [es, List.getElem?_append_right (by omega), List.getElem?_append_right (by omega), List.getElem?_append_right (by omega), hlen]
      simp
    · have es : sat (S ++ [(r, c)]) i = sat S i := by unfold sat; rw [List.getElem?_append_left (by omega)]
      rw [es, List.getElem?_append_left (by omega), List.getElem?_append_left (by omega), List.getElem?_append_left (by omega)]
      exact h.c i (by omega)
theorem S3.start (w : World) : S3 (w.alloc (.cells #[] 36)) w.heap.size w.heap.size 0 0 [] [] :=
  ⟨World.ownsRow_made w #[] 0 (Nat.le_refl _) (by simp [maxLen]) rfl, rfl, fun i hi => by omega, by simp⟩
theorem infoS3 : (Try.prog.info? 36).map (fun i => (i.zero, i.size, i.bytes)) = some (some (.agg #[.int .i64 0, .int .i64 0, .slice none 0 0]), 3, 40) := by kernel_rfl
/-- shapes in a list of one's own, 2 cells each -/
structure S2 (w : World) (B g j cap : Nat) (S : List (Int × Int)) (cs : List Value) : Prop where
  own : w.ownsRow B 51 2 (.slice (some ⟨g, 0, none⟩) j cap) j cs
  len : S.length = j
  c : ∀ i, i < j → cs[i * 2]? = some (.int .i64 (sat S i).1) ∧ cs[i * 2 + 1]? = some (.int .i64 (sat S i).2)
  le : B ≤ w.heap.size
theorem S2.below {w w' : World} {B g j cap : Nat} {S : List (Int × Int)} {cs : List Value} (h : S2 w B g j cap S cs) (hb : Below w.heap.size w w') : S2 w' B g j cap S cs :=
  ⟨own_below7 h.own hb, h.len, h.c, Nat.le_trans h.le hb.size⟩
theorem S2.alloc {w : World} {B g j cap : Nat} {S : List (Int × Int)} {cs : List Value} (h : S2 w B g j cap S cs) (o : Obj) : S2 (w.alloc o) B g j cap S cs := h.below ((Below.refl _ _).alloc (Nat.le_refl _) o)
theorem S2.at {w : World} {B g j cap : Nat} {S : List (Int × Int)} {cs : List Value} (h : S2 w B g j cap S cs) {i : Nat} (hi : i < j) :
    w.cell? ⟨g, i * 2, none⟩ = some (.int .i64 (sat S i).1) ∧ w.cell? ⟨g, i * 2 + 1, none⟩ = some (.int .i64 (sat S i).2) ∧ g < w.heap.size := by
  obtain ⟨k0, k1⟩ := h.c i hi
  exact ⟨(h.own.cellAt _ (by omega)).trans k0, (h.own.cellAt _ (by omega)).trans k1, (h.own.lt g rfl).2⟩
theorem S2.app {w w' : World} {B g j cap : Nat} {S : List (Int × Int)} {cs : List Value} {v' : Value} {r c : Int} (h : S2 w B g j cap S cs) (hown : w'.ownsRow B 51 2 v' (j + 1) (cs ++ [.int .i64 r, .int .i64 c])) (hz : ¬ v' = .slice none 0 0) (hle : B ≤ w'.heap.size) :
    ∃ g' cap', v' = .slice (some ⟨g', 0, none⟩) (j + 1) cap' ∧ S2 w' B g' (j + 1) cap' (S ++ [(r, c)]) (cs ++ [.int .i64 r, .int .i64 c]) := by
  have hlen : cs.length = j * 2 := h.own.1
  have hl := h.len
  rcases hown.2 with ⟨e, _⟩ | ⟨g', cap', cur, e, _⟩
  · exact absurd e hz
  · subst e
    refine ⟨g', cap', rfl, hown, by simp [hl], fun i hi => ?_, hle⟩
    by_cases e : i = j
    · subst e
      have es : sat (S ++ [(r, c)]) i = (r, c) := by unfold sat; rw [List.getElem?_append_right (by omega)]; simp [hl]
      rw [es, List.getElem?_append_right (by omega), List.getElem?_append_right (by omega), hlen]
      simp
    · have es : sat (S ++ [(r, c)]) i = sat S i := by unfold sat; rw [List.getElem?_append_left (by omega)]
      rw [es, List.getElem?_append_left (by omega), List.getElem?_append_left (by omega)]
      exact h.c i (by omega)
theorem S2.start (w : World) : S2 (w.alloc (.cells #[] 51)) w.heap.size w.heap.size 0 0 [] [] :=
  ⟨World.ownsRow_made w #[] 0 (Nat.le_refl _) (by simp [maxLen]) rfl, rfl, fun i hi => by omega, by simp⟩
theorem infoS2 : (Try.prog.info? 51).map (fun i => (i.zero, i.size, i.bytes)) = some (some (.agg #[.int .i64 0, .int .i64 0]), 2, 16) := by kernel_rfl
theorem below3 {w w2 : World} (T : Below w.heap.size w w2) (a b c : Obj) : Below w.heap.size w (((w2.alloc a).alloc b).alloc c) :=
  ((T.alloc T.size _).alloc (by have := T.size; simp; omega) _).alloc (by have := T.size; simp; omega) _
theorem SP.of {w w' : World} {ok b : Bool} {v : Value} (h : ok = b) (B : Below w.heap.size w w') : SP w ok (.returned (.tuple #[v, .bool b])) w' := by subst h; exact ⟨v, rfl, B⟩
/-- a list of operations that is read; no row is nil -/
structure Oz (w : World) (a : Option Addr) (n cap : Nat) (L : List OD) : Prop where
  cap1 : n ≤ cap
  cap2 : cap ≤ maxLen
  bd : ∀ j, j < n → (oat L j).z < 4294967296 ∧ (oat L j).xs.length ≤ maxLen
  cell : ∀ j, j < n → ∃ p o, a = some ⟨p, o, none⟩ ∧ ∃ q c1, Ob w p (o + j * 7) (oat L j) (some ⟨q, 0, none⟩) (oat L j).xs.length c1
theorem Oz.below {w w' : World} {a : Option Addr} {n cap : Nat} {L : List OD} (h : Oz w a n cap L) (hb : Below w.heap.size w w') : Oz w' a n cap L :=
  ⟨h.cap1, h.cap2, h.bd, fun j hj => by obtain ⟨p, o, e, q, c1, x⟩ := h.cell j hj; exact ⟨p, o, e, q, c1, x.below hb⟩⟩
theorem Ow.oz {w : World} {B g n cap : Nat} {L : List OD} {cs : List Value} {A C : Nat → Nat} (h : Ow w B g n cap L n cs A C) (hb : ∀ j, j < n → (oat L j).z < 4294967296) : Oz w (some ⟨g, 0, none⟩) n cap L :=
  ⟨h.caps.1, h.caps.2, fun j hj => ⟨hb j hj, Nat.le_trans (h.r j hj).1.cap1 (h.r j hj).1.cap2⟩, fun j hj => ⟨g, 0, rfl, _, _, by rw [Nat.zero_add]; exact (h.at hj).1⟩⟩
theorem in_nat {x : Int} {j : Nat} (h : inr x 0 ((j : Int) - 1) = true) : ∃ y : Nat, x = (y : Int) ∧ y < j := by
  unfold inr at h
  simp at h
  exact ⟨x.toNat, by omega, by omega⟩
set_option maxHeartbeats 16000000 in
set_option maxRecDepth 100000 in
theorem shapesS (a0 : Option Addr) (n cap : Nat) (L : List OD) (w : World) (hn : n ≤ 1048576) (h : Oz w a0 n cap L) :
    Calls Try.prog 15 #[.slice a0 n cap] w (SP w (vld L n)) := by
  obtain ⟨i0, hi, hz0, hz1, hz2⟩ := info_parts infoS3
  have HI := Lib.hid hi
  have HZ0 := Lib.hid hz0
  have HZ1 := Lib.hid hz1
  have HZ2 := Lib.hid hz2
  clear hi hz0 hz1 hz2
  have hc1 := h.cap1
  have hc2 := h.cap2
  unfold maxLen at hc2
  have H := Lib.hid h
  clear h
  go_enter Try.func15, Try.ntmps15
  go_wp2_with fail
  refine calls_at ?_
  intro w1 hA
  have ST := Lib.hid (show S3 w1 w.heap.size w.heap.size 0 0 [] [] by rw [hA]; exact S3.start w)
  have T0 := Lib.hid (show Below w.heap.size w w1 by rw [hA]; exact (Below.refl _ _).alloc (Nat.le_refl _) _)
  clear hA
  refine (inS _ _ _ _).mono ?_
  rintro e wx ⟨rfl, hsame⟩
  replace hsame := hsame.symm
  subst hsame
  cases hin : inr (n : Int) 1 48
  · have hv : vld L n = false := by
      unfold inr at hin
      unfold vld
      simp at hin
      by_cases h1 : 1 ≤ n
      · rw [decide_eq_false (show ¬ n ≤ 48 by omega)]; simp
      · rw [decide_eq_false h1]; simp
    have HV := Lib.hid hv
    clear hin hv
    go_wp2
    go_ret2
    exact SP.of HV.out T0.out
  have hnn : 1 ≤ n ∧ n ≤ 48 := by unfold inr at hin; simp at hin; omega
  clear hin
  go_wp2
  go_loopw [4, 5] (fun v i w' => ∃ (j g c : Nat) (S : List (Int × Int)) (cs : List Value), j ≤ n ∧ i = .int .i64 j ∧ v = .slice (some ⟨g, 0, none⟩) j c ∧ Hid (run L j = some S) ∧ Hid (S3 w' w.heap.size g j c S cs) ∧ Hid (Below w.heap.size w w')) (fun _ i _ => n - (intOf i).toNat)
  case atStart => exact ⟨0, _, 0, [], [], Nat.zero_le _, rfl, rfl, rfl, ST.out, T0.out⟩
  case round =>
    obtain ⟨j, g, cap', S, cs, hj, rfl, rfl, hR, hS, hB⟩ := hrel
    by_cases hlt : j < n
    · obtain ⟨p, o, rfl, q, d1, QL⟩ := (H.out.below hB.out).cell j hlt
      obtain ⟨hz, hm⟩ := H.out.bd j hlt
      obtain ⟨l, hl⟩ : ∃ l, l = oat L j := ⟨_, rfl⟩
      rw [← hl] at QL hz hm
      have HL := Lib.hid hl
      clear hl
      obtain ⟨k, a, b, z, r, c, xs⟩ := l
      dsimp only at QL hz hm
      have hMX := Lib.hid hm
      unfold maxLen at hm
      obtain ⟨m, hmx⟩ : ∃ m, m = xs.length := ⟨_, rfl⟩
      rw [← hmx] at QL hm hMX
      have HMX := Lib.hid hmx
      clear hmx
      obtain ⟨q0, q1, q2, q3, q4, q5, q6, q7⟩ := QL
      dsimp only at q0 q1 q2 q3 q4 q5 q6
      go_wp2_with fail
      clear q0 q1 q2 q3 q4 q5 q6 q7
      refine calls_at ?_
      intro w1 hA
      obtain ⟨O_, A, z1, z2⟩ := ob_new (l := ⟨k, a, b, z, r, c, []⟩) hA
      clear hA
      have O := Lib.hid O_
      have T := hB.out.trans (A.mono hB.out.size)
      have hS := Lib.hid (hS.out.below A)
      clear O_ A
      refine (inS _ _ _ _).mono ?_
      rintro e wx ⟨rfl, hsame⟩
      replace hsame := hsame.symm
      subst hsame
      cases hin : inr k 0 10
      · skip
        have HIN := Lib.hid hin
        clear hin
        have hv : vld L n = false := vld_hd hR.out HL.out (by simp [hdB, HIN.out]) hlt
        have HV := Lib.hid hv
        clear hv
        go_wp2
        go_ret2
        exact SP.of HV.out T
      · skip
        have HIN := Lib.hid hin
        clear hin
        by_cases k5 : k = 5
        · skip
          subst k5
          obtain ⟨o0, o1, o2, o3, o4, o5, o6, o7⟩ := O.out
          dsimp only at o0 o1 o2 o3 o4 o5 o6
          go_wp2_with fail
          clear o0 o1 o2 o3 o4 o5 o6 o7
          refine (noneS r c _ m d1 _ _ _ O.out.c4 O.out.c5 O.out.c6).mono ?_
          rintro e wx ⟨rfl, hsame⟩
          replace hsame := hsame.symm
          subst hsame
          cases hnn2 : nn r c m
          · skip
            have HNN2 := Lib.hid hnn2
            clear hnn2
            have hv : vld L n = false := vld_hd hR.out HL.out (by simp [hdB, HNN2.out, ← HMX.out]) hlt
            have HV := Lib.hid hv
            clear hv
            go_wp2
            go_ret2
            exact SP.of HV.out T
          · skip
            have HNN2 := Lib.hid hnn2
            clear hnn2
            obtain ⟨o0, o1, o2, o3, o4, o5, o6, o7⟩ := O.out
            dsimp only at o0 o1 o2 o3 o4 o5 o6
            go_wp2_with fail
            clear o0 o1 o2 o3 o4 o5 o6 o7
            refine (inS _ _ _ _).mono ?_
            rintro e wx ⟨rfl, hsame⟩
            replace hsame := hsame.symm
            subst hsame
            cases ha : inr a 0 ((j : Int) - 1)
            · skip
              have HA := Lib.hid ha
              clear ha
              have hv : vld L n = false := vld_hd hR.out HL.out (by simp [hdB, HA.out]) hlt
              have HV := Lib.hid hv
              clear hv
              go_wp2
              go_ret2
              exact SP.of HV.out T
            · skip
              have HA := Lib.hid ha
              clear ha
              obtain ⟨o0, o1, o2, o3, o4, o5, o6, o7⟩ := O.out
              dsimp only at o0 o1 o2 o3 o4 o5 o6
              go_wp2_with fail
              clear o0 o1 o2 o3 o4 o5 o6 o7
              refine (twS _ _ HIN.out).mono ?_
              rintro e wx ⟨rfl, hsame⟩
              replace hsame := hsame.symm
              subst hsame
              have ht : tw 5 = false := by decide
              rw [ht]
              have HT := Lib.hid ht
              clear ht
              obtain ⟨o0, o1, o2, o3, o4, o5, o6, o7⟩ := O.out
              dsimp only at o0 o1 o2 o3 o4 o5 o6
              go_wp2_with fail
              clear o0 o1 o2 o3 o4 o5 o6 o7
              refine (twS _ _ HIN.out).mono ?_
              rintro e wx ⟨rfl, hsame⟩
              replace hsame := hsame.symm
              subst hsame
              rw [HT.out]
              by_cases b0 : b = 0
              · skip
                subst b0
                obtain ⟨A, rfl, hA⟩ := in_nat HA.out
                have hBj : 0 < j := by omega
                obtain ⟨v0, v1, v2, v3⟩ := hS.out.at hA
                obtain ⟨t0, t1, t2, t3⟩ := hS.out.at hBj
                simp only [Nat.zero_mul, Nat.zero_add] at t0 t1 t2
                obtain ⟨x1, hx1⟩ : ∃ x, x = (sat S A).1 := ⟨_, rfl⟩
                obtain ⟨x2, hx2⟩ : ∃ x, x = (sat S A).2 := ⟨_, rfl⟩
                obtain ⟨y1, hy1⟩ : ∃ x, x = (sat S 0).1 := ⟨_, rfl⟩
                obtain ⟨y2, hy2⟩ : ∃ x, x = (sat S 0).2 := ⟨_, rfl⟩
                rw [← hx1] at v0
                rw [← hx2] at v1
                rw [← hy1] at t0
                rw [← hy2] at t1
                have HX1 := Lib.hid hx1
                have HX2 := Lib.hid hx2
                have HY1 := Lib.hid hy1
                have HY2 := Lib.hid hy2
                clear hx1 hx2 hy1 hy2
                have HVA := Lib.hid (show sat S A = (x1, x2) by rw [HX1.out, HX2.out])
                have HVB := Lib.hid (show sat S 0 = (y1, y2) by rw [HY1.out, HY2.out])
                · skip
                  obtain ⟨o0, o1, o2, o3, o4, o5, o6, o7⟩ := O.out
                  dsimp only at o0 o1 o2 o3 o4 o5 o6
                  have p1 : wr.heap.size < w1.heap.size + 1 := by omega
                  have p2 : wr.heap.size < w1.heap.size + 1 + 1 := by omega
                  have hzz : w.heap.size ≤ w1.heap.size := T.size
                  go_wp2_with (at_builtin; refine wpList_append_own _ rfl (.tmp 172) (.tmp 174) 45 rfl w.heap.size 36 i0 (.agg #[.int .i64 0, .int .i64 0, .slice none 0 0]) 3 40 Try.underlying45 HI.out HZ0.out HZ1.out HZ2.out rfl (by decide) (.slice (some ⟨g, 0, none⟩) j cap') j cs rfl ((((hS.out.alloc _).alloc _).alloc _).alloc _).own ⟨w1.heap.size + 1 + 1 + 1, 0, none⟩ 1 1 [.int .i64 x1, .int .i64 x2, .slice none 0 0] rfl rfl ?c1 ?c2 ?c3 ?c4 ?c5 ?_)
                  case c1 =>
                    intro j v hj
                    match j, hj with
                    | 0, hj => simp at hj; subst hj; simp [go_sem]
                    | 1, hj => simp at hj; subst hj; simp [go_sem]
                    | 2, hj => simp at hj; subst hj; simp [go_sem]
                  case c2 => intro v hv; simp at hv; rcases hv with rfl | rfl | rfl <;> rfl
                  case c3 => unfold maxLen; omega
                  case c4 => omega
                  case c5 => simp <;> omega
                  intro v' w9 hown hgr hnil
                  have T9 := Lib.hid (((((T.alloc (by omega) _).alloc (by simp <;> omega) _).alloc (by simp <;> omega) _).alloc (by simp <;> omega) _).grown hgr (by simp <;> omega) (fun q hq => (hS.out.own.lt q hq).1))
                  obtain ⟨g2, cap2, rfl, S9_⟩ := hS.out.app hown hnil T9.out.size
                  have S9 := Lib.hid S9_
                  have R9 := Lib.hid (run_hd hR.out HL.out (by simp [hdB, HA.out, HT.out, HNN2.out, HIN.out, ← HMX.out]) (show nxt _ S = some ( x1,  x2) by simp [nxt, fitB, ownB, HVA.out]))
                  clear S9_ hown hgr hnil
                  go_wp2
                  go_roundw
                  case rel => exact ⟨j + 1, g2, cap2, _, _, by omega, by go_num, by go_num, R9.out, S9.out, T9.out⟩
                  case measure => simp [intOf]; omega
              · skip
                have hv : vld L n = false := vld_hd hR.out HL.out (by simp [hdB, HT.out, b0]) hlt
                have HV := Lib.hid hv
                clear hv
                obtain ⟨o0, o1, o2, o3, o4, o5, o6, o7⟩ := O.out
                dsimp only at o0 o1 o2 o3 o4 o5 o6
                go_wp2
                go_ret2
                exact SP.of HV.out T
        · skip
          obtain ⟨o0, o1, o2, o3, o4, o5, o6, o7⟩ := O.out
          dsimp only at o0 o1 o2 o3 o4 o5 o6
          go_wp2_with fail
          clear o0 o1 o2 o3 o4 o5 o6 o7
          refine (sameS _ _ _ hz (by omega)).mono ?_
          rintro e w2 ⟨rfl, A⟩
          have T := T.trans (A.mono T.size)
          have O := Lib.hid (O.out.below A)
          have hS := Lib.hid (hS.out.below A)
          have z3 := A.size
          clear A
          cases hsm : sm z 0
          · skip
            have HSM := Lib.hid hsm
            clear hsm
            have hv : vld L n = false := vld_hd hR.out HL.out (by simp [hdB, HSM.out, k5]) hlt
            have HV := Lib.hid hv
            clear hv
            go_wp2
            go_ret2
            exact SP.of HV.out T
          · skip
            have HSM := Lib.hid hsm
            clear hsm
            by_cases k0 : k = 0
            · skip
              subst k0
              by_cases a0 : a = 0
              · skip
                subst a0
                by_cases b0 : b = 0
                · skip
                  subst b0
                  obtain ⟨o0, o1, o2, o3, o4, o5, o6, o7⟩ := O.out
                  dsimp only at o0 o1 o2 o3 o4 o5 o6
                  go_wp2_with fail
                  clear o0 o1 o2 o3 o4 o5 o6 o7
                  refine (isT r c _ m _ _ _ _ hMX.out O.out.c4 O.out.c5 O.out.c6).mono ?_
                  rintro e w3 ⟨rfl, mm, hw3⟩
                  have A := below_of_drew hw3
                  have T := T.trans (A.mono T.size)
                  have O := Lib.hid (O.out.below A)
                  have hS := Lib.hid (hS.out.below A)
                  have z4 := A.size
                  clear A hw3
                  cases hvt : decide (vt r c m)
                  · skip
                    have HVT := Lib.hid hvt
                    clear hvt
                    have hv : vld L n = false := vld_hd hR.out HL.out (by simp [hdB, of_decide_eq_false HVT.out, ← HMX.out]) hlt
                    have HV := Lib.hid hv
                    clear hv
                    go_wp2
                    go_ret2
                    exact SP.of HV.out T
                  · skip
                    have HVT := Lib.hid hvt
                    clear hvt
                    obtain ⟨o0, o1, o2, o3, o4, o5, o6, o7⟩ := O.out
                    dsimp only at o0 o1 o2 o3 o4 o5 o6
                    have hzz : w.heap.size ≤ w3.heap.size := T.size
                    go_wp2_with (at_builtin; refine wpList_append_own _ rfl (.tmp 60) (.tmp 68) 45 rfl w.heap.size 36 i0 (.agg #[.int .i64 0, .int .i64 0, .slice none 0 0]) 3 40 Try.underlying45 HI.out HZ0.out HZ1.out HZ2.out rfl (by decide) (.slice (some ⟨g, 0, none⟩) j cap') j cs rfl (hS.out.alloc _).own ⟨w3.heap.size, 0, none⟩ 1 1 [.int .i64 r, .int .i64 c, .slice none 0 0] rfl rfl ?c1 ?c2 ?c3 ?c4 ?c5 ?_)
                    case c1 =>
                      intro j v hj
                      match j, hj with
                      | 0, hj => simp at hj; subst hj; simp [go_sem]
                      | 1, hj => simp at hj; subst hj; simp [go_sem]
                      | 2, hj => simp at hj; subst hj; simp [go_sem]
                    case c2 => intro v hv; simp at hv; rcases hv with rfl | rfl | rfl <;> rfl
                    case c3 => unfold maxLen; omega
                    case c4 => omega
                    case c5 => simp <;> omega
                    intro v' w9 hown hgr hnil
                    have T9 := Lib.hid ((T.alloc (by omega) _).grown hgr (by simp <;> omega) (fun q hq => (hS.out.own.lt q hq).1))
                    obtain ⟨g2, cap2, rfl, S9_⟩ := hS.out.app hown hnil T9.out.size
                    have S9 := Lib.hid S9_
                    have R9 := Lib.hid (run_hd hR.out HL.out (by simp [hdB, HSM.out, of_decide_eq_true HVT.out, HIN.out, ← HMX.out]) (show nxt _ S = some ( r,  c) by rfl))
                    clear S9_ hown hgr hnil
                    go_wp2
                    go_roundw
                    case rel => exact ⟨j + 1, g2, cap2, _, _, by omega, by go_num, by go_num, R9.out, S9.out, T9.out⟩
                    case measure => simp [intOf]; omega
                · skip
                  have hv : vld L n = false := vld_hd hR.out HL.out (by simp [hdB, b0]) hlt
                  have HV := Lib.hid hv
                  clear hv
                  obtain ⟨o0, o1, o2, o3, o4, o5, o6, o7⟩ := O.out
                  dsimp only at o0 o1 o2 o3 o4 o5 o6
                  go_wp2
                  go_ret2
                  exact SP.of HV.out T
              · skip
                have hv : vld L n = false := vld_hd hR.out HL.out (by simp [hdB, a0]) hlt
                have HV := Lib.hid hv
                clear hv
                obtain ⟨o0, o1, o2, o3, o4, o5, o6, o7⟩ := O.out
                dsimp only at o0 o1 o2 o3 o4 o5 o6
                go_wp2
                go_ret2
                exact SP.of HV.out T
            · skip
              obtain ⟨o0, o1, o2, o3, o4, o5, o6, o7⟩ := O.out
              dsimp only at o0 o1 o2 o3 o4 o5 o6
              go_wp2_with fail
              clear o0 o1 o2 o3 o4 o5 o6 o7
              refine (noneS r c _ m d1 _ _ _ O.out.c4 O.out.c5 O.out.c6).mono ?_
              rintro e wx ⟨rfl, hsame⟩
              replace hsame := hsame.symm
              subst hsame
              cases hnn2 : nn r c m
              · skip
                have HNN2 := Lib.hid hnn2
                clear hnn2
                have hv : vld L n = false := vld_hd hR.out HL.out (by simp [hdB, k5, k0, HNN2.out, ← HMX.out]) hlt
                have HV := Lib.hid hv
                clear hv
                go_wp2
                go_ret2
                exact SP.of HV.out T
              · skip
                have HNN2 := Lib.hid hnn2
                clear hnn2
                obtain ⟨o0, o1, o2, o3, o4, o5, o6, o7⟩ := O.out
                dsimp only at o0 o1 o2 o3 o4 o5 o6
                go_wp2_with fail
                clear o0 o1 o2 o3 o4 o5 o6 o7
                refine (inS _ _ _ _).mono ?_
                rintro e wx ⟨rfl, hsame⟩
                replace hsame := hsame.symm
                subst hsame
                cases ha : inr a 0 ((j : Int) - 1)
                · skip
                  have HA := Lib.hid ha
                  clear ha
                  have hv : vld L n = false := vld_hd hR.out HL.out (by simp [hdB, k5, k0, HA.out]) hlt
                  have HV := Lib.hid hv
                  clear hv
                  go_wp2
                  go_ret2
                  exact SP.of HV.out T
                · skip
                  have HA := Lib.hid ha
                  clear ha
                  obtain ⟨o0, o1, o2, o3, o4, o5, o6, o7⟩ := O.out
                  dsimp only at o0 o1 o2 o3 o4 o5 o6
                  go_wp2_with fail
                  clear o0 o1 o2 o3 o4 o5 o6 o7
                  refine (twS _ _ HIN.out).mono ?_
                  rintro e wx ⟨rfl, hsame⟩
                  replace hsame := hsame.symm
                  subst hsame
                  cases ht : tw k
                  · skip
                    have HT := Lib.hid ht
                    clear ht
                    obtain ⟨o0, o1, o2, o3, o4, o5, o6, o7⟩ := O.out
                    dsimp only at o0 o1 o2 o3 o4 o5 o6
                    go_wp2_with fail
                    clear o0 o1 o2 o3 o4 o5 o6 o7
                    refine (twS _ _ HIN.out).mono ?_
                    rintro e wx ⟨rfl, hsame⟩
                    replace hsame := hsame.symm
                    subst hsame
                    rw [HT.out]
                    by_cases b0 : b = 0
                    · skip
                      subst b0
                      have hk : k = 7 ∨ k = 8 ∨ k = 9 ∨ k = 10 := by
                        rcases in10 HIN.out with h | h | h | h | h | h | h | h | h | h | h
                        all_goals first | omega | (exfalso; have := HT.out; rw [h] at this; revert this; decide)
                      obtain ⟨A, rfl, hA⟩ := in_nat HA.out
                      have hBj : 0 < j := by omega
                      obtain ⟨v0, v1, v2, v3⟩ := hS.out.at hA
                      obtain ⟨t0, t1, t2, t3⟩ := hS.out.at hBj
                      simp only [Nat.zero_mul, Nat.zero_add] at t0 t1 t2
                      obtain ⟨x1, hx1⟩ : ∃ x, x = (sat S A).1 := ⟨_, rfl⟩
                      obtain ⟨x2, hx2⟩ : ∃ x, x = (sat S A).2 := ⟨_, rfl⟩
                      obtain ⟨y1, hy1⟩ : ∃ x, x = (sat S 0).1 := ⟨_, rfl⟩
                      obtain ⟨y2, hy2⟩ : ∃ x, x = (sat S 0).2 := ⟨_, rfl⟩
                      rw [← hx1] at v0
                      rw [← hx2] at v1
                      rw [← hy1] at t0
                      rw [← hy2] at t1
                      have HX1 := Lib.hid hx1
                      have HX2 := Lib.hid hx2
                      have HY1 := Lib.hid hy1
                      have HY2 := Lib.hid hy2
                      clear hx1 hx2 hy1 hy2
                      have HVA := Lib.hid (show sat S A = (x1, x2) by rw [HX1.out, HX2.out])
                      have HVB := Lib.hid (show sat S 0 = (y1, y2) by rw [HY1.out, HY2.out])
                      rcases hk with rfl | rfl | rfl | rfl
                      · skip
                        obtain ⟨o0, o1, o2, o3, o4, o5, o6, o7⟩ := O.out
                        dsimp only at o0 o1 o2 o3 o4 o5 o6
                        have p1 : wr.heap.size < w2.heap.size + 1 := by omega
                        have p2 : wr.heap.size < w2.heap.size + 1 + 1 := by omega
                        have hzz : w.heap.size ≤ w2.heap.size := T.size
                        go_wp2_with (at_builtin; refine wpList_append_own _ rfl (.tmp 172) (.tmp 174) 45 rfl w.heap.size 36 i0 (.agg #[.int .i64 0, .int .i64 0, .slice none 0 0]) 3 40 Try.underlying45 HI.out HZ0.out HZ1.out HZ2.out rfl (by decide) (.slice (some ⟨g, 0, none⟩) j cap') j cs rfl ((((hS.out.alloc _).alloc _).alloc _).alloc _).own ⟨w2.heap.size + 1 + 1 + 1, 0, none⟩ 1 1 [.int .i64 x2, .int .i64 x1, .slice none 0 0] rfl rfl ?c1 ?c2 ?c3 ?c4 ?c5 ?_)
                        case c1 =>
                          intro j v hj
                          match j, hj with
                          | 0, hj => simp at hj; subst hj; simp [go_sem]
                          | 1, hj => simp at hj; subst hj; simp [go_sem]
                          | 2, hj => simp at hj; subst hj; simp [go_sem]
                        case c2 => intro v hv; simp at hv; rcases hv with rfl | rfl | rfl <;> rfl
                        case c3 => unfold maxLen; omega
                        case c4 => omega
                        case c5 => simp <;> omega
                        intro v' w9 hown hgr hnil
                        have T9 := Lib.hid (((((T.alloc (by omega) _).alloc (by simp <;> omega) _).alloc (by simp <;> omega) _).alloc (by simp <;> omega) _).grown hgr (by simp <;> omega) (fun q hq => (hS.out.own.lt q hq).1))
                        obtain ⟨g2, cap2, rfl, S9_⟩ := hS.out.app hown hnil T9.out.size
                        have S9 := Lib.hid S9_
                        have R9 := Lib.hid (run_hd hR.out HL.out (by simp [hdB, HSM.out, HA.out, HT.out, HNN2.out, HIN.out, ← HMX.out]) (show nxt _ S = some ( x2,  x1) by simp [nxt, fitB, ownB, HVA.out]))
                        clear S9_ hown hgr hnil
                        go_wp2
                        go_roundw
                        case rel => exact ⟨j + 1, g2, cap2, _, _, by omega, by go_num, by go_num, R9.out, S9.out, T9.out⟩
                        case measure => simp [intOf]; omega
                      · skip
                        obtain ⟨o0, o1, o2, o3, o4, o5, o6, o7⟩ := O.out
                        dsimp only at o0 o1 o2 o3 o4 o5 o6
                        have p1 : wr.heap.size < w2.heap.size + 1 := by omega
                        have p2 : wr.heap.size < w2.heap.size + 1 + 1 := by omega
                        have hzz : w.heap.size ≤ w2.heap.size := T.size
                        go_wp2_with (at_builtin; refine wpList_append_own _ rfl (.tmp 172) (.tmp 174) 45 rfl w.heap.size 36 i0 (.agg #[.int .i64 0, .int .i64 0, .slice none 0 0]) 3 40 Try.underlying45 HI.out HZ0.out HZ1.out HZ2.out rfl (by decide) (.slice (some ⟨g, 0, none⟩) j cap') j cs rfl ((((hS.out.alloc _).alloc _).alloc _).alloc _).own ⟨w2.heap.size + 1 + 1 + 1, 0, none⟩ 1 1 [.int .i64 x1, .int .i64 x2, .slice none 0 0] rfl rfl ?c1 ?c2 ?c3 ?c4 ?c5 ?_)
                        case c1 =>
                          intro j v hj
                          match j, hj with
                          | 0, hj => simp at hj; subst hj; simp [go_sem]
                          | 1, hj => simp at hj; subst hj; simp [go_sem]
                          | 2, hj => simp at hj; subst hj; simp [go_sem]
                        case c2 => intro v hv; simp at hv; rcases hv with rfl | rfl | rfl <;> rfl
                        case c3 => unfold maxLen; omega
                        case c4 => omega
                        case c5 => simp <;> omega
                        intro v' w9 hown hgr hnil
                        have T9 := Lib.hid (((((T.alloc (by omega) _).alloc (by simp <;> omega) _).alloc (by simp <;> omega) _).alloc (by simp <;> omega) _).grown hgr (by simp <;> omega) (fun q hq => (hS.out.own.lt q hq).1))
                        obtain ⟨g2, cap2, rfl, S9_⟩ := hS.out.app hown hnil T9.out.size
                        have S9 := Lib.hid S9_
                        have R9 := Lib.hid (run_hd hR.out HL.out (by simp [hdB, HSM.out, HA.out, HT.out, HNN2.out, HIN.out, ← HMX.out]) (show nxt _ S = some ( x1,  x2) by simp [nxt, fitB, ownB, HVA.out]))
                        clear S9_ hown hgr hnil
                        go_wp2
                        go_roundw
                        case rel => exact ⟨j + 1, g2, cap2, _, _, by omega, by go_num, by go_num, R9.out, S9.out, T9.out⟩
                        case measure => simp [intOf]; omega
                      · skip
                        obtain ⟨o0, o1, o2, o3, o4, o5, o6, o7⟩ := O.out
                        dsimp only at o0 o1 o2 o3 o4 o5 o6
                        have p1 : wr.heap.size < w2.heap.size + 1 := by omega
                        have p2 : wr.heap.size < w2.heap.size + 1 + 1 := by omega
                        have hzz : w.heap.size ≤ w2.heap.size := T.size
                        go_wp2_with (at_builtin; refine wpList_append_own _ rfl (.tmp 172) (.tmp 174) 45 rfl w.heap.size 36 i0 (.agg #[.int .i64 0, .int .i64 0, .slice none 0 0]) 3 40 Try.underlying45 HI.out HZ0.out HZ1.out HZ2.out rfl (by decide) (.slice (some ⟨g, 0, none⟩) j cap') j cs rfl ((((hS.out.alloc _).alloc _).alloc _).alloc _).own ⟨w2.heap.size + 1 + 1 + 1, 0, none⟩ 1 1 [.int .i64 x1, .int .i64 x2, .slice none 0 0] rfl rfl ?c1 ?c2 ?c3 ?c4 ?c5 ?_)
                        case c1 =>
                          intro j v hj
                          match j, hj with
                          | 0, hj => simp at hj; subst hj; simp [go_sem]
                          | 1, hj => simp at hj; subst hj; simp [go_sem]
                          | 2, hj => simp at hj; subst hj; simp [go_sem]
                        case c2 => intro v hv; simp at hv; rcases hv with rfl | rfl | rfl <;> rfl
                        case c3 => unfold maxLen; omega
                        case c4 => omega
                        case c5 => simp <;> omega
                        intro v' w9 hown hgr hnil
                        have T9 := Lib.hid (((((T.alloc (by omega) _).alloc (by simp <;> omega) _).alloc (by simp <;> omega) _).alloc (by simp <;> omega) _).grown hgr (by simp <;> omega) (fun q hq => (hS.out.own.lt q hq).1))
                        obtain ⟨g2, cap2, rfl, S9_⟩ := hS.out.app hown hnil T9.out.size
                        have S9 := Lib.hid S9_
                        have R9 := Lib.hid (run_hd hR.out HL.out (by simp [hdB, HSM.out, HA.out, HT.out, HNN2.out, HIN.out, ← HMX.out]) (show nxt _ S = some ( x1,  x2) by simp [nxt, fitB, ownB, HVA.out]))
                        clear S9_ hown hgr hnil
                        go_wp2
                        go_roundw
                        case rel => exact ⟨j + 1, g2, cap2, _, _, by omega, by go_num, by go_num, R9.out, S9.out, T9.out⟩
                        case measure => simp [intOf]; omega
                      · skip
                        obtain ⟨o0, o1, o2, o3, o4, o5, o6, o7⟩ := O.out
                        dsimp only at o0 o1 o2 o3 o4 o5 o6
                        have p1 : wr.heap.size < w2.heap.size + 1 := by omega
                        have p2 : wr.heap.size < w2.heap.size + 1 + 1 := by omega
                        have hzz : w.heap.size ≤ w2.heap.size := T.size
                        go_wp2_with (at_builtin; refine wpList_append_own _ rfl (.tmp 172) (.tmp 174) 45 rfl w.heap.size 36 i0 (.agg #[.int .i64 0, .int .i64 0, .slice none 0 0]) 3 40 Try.underlying45 HI.out HZ0.out HZ1.out HZ2.out rfl (by decide) (.slice (some ⟨g, 0, none⟩) j cap') j cs rfl ((((hS.out.alloc _).alloc _).alloc _).alloc _).own ⟨w2.heap.size + 1 + 1 + 1, 0, none⟩ 1 1 [.int .i64 1, .int .i64 1, .slice none 0 0] rfl rfl ?c1 ?c2 ?c3 ?c4 ?c5 ?_)
                        case c1 =>
                          intro j v hj
                          match j, hj with
                          | 0, hj => simp at hj; subst hj; simp [go_sem]
                          | 1, hj => simp at hj; subst hj; simp [go_sem]
                          | 2, hj => simp at hj; subst hj; simp [go_sem]
                        case c2 => intro v hv; simp at hv; rcases hv with rfl | rfl | rfl <;> rfl
                        case c3 => unfold maxLen; omega
                        case c4 => omega
                        case c5 => simp <;> omega
                        intro v' w9 hown hgr hnil
                        have T9 := Lib.hid (((((T.alloc (by omega) _).alloc (by simp <;> omega) _).alloc (by simp <;> omega) _).alloc (by simp <;> omega) _).grown hgr (by simp <;> omega) (fun q hq => (hS.out.own.lt q hq).1))
                        obtain ⟨g2, cap2, rfl, S9_⟩ := hS.out.app hown hnil T9.out.size
                        have S9 := Lib.hid S9_
                        have R9 := Lib.hid (run_hd hR.out HL.out (by simp [hdB, HSM.out, HA.out, HT.out, HNN2.out, HIN.out, ← HMX.out]) (show nxt _ S = some ( 1,  1) by simp [nxt, fitB, ownB]))
                        clear S9_ hown hgr hnil
                        go_wp2
                        go_roundw
                        case rel => exact ⟨j + 1, g2, cap2, _, _, by omega, by go_num, by go_num, R9.out, S9.out, T9.out⟩
                        case measure => simp [intOf]; omega
                    · skip
                      have hv : vld L n = false := vld_hd hR.out HL.out (by simp [hdB, k5, k0, HT.out, b0]) hlt
                      have HV := Lib.hid hv
                      clear hv
                      obtain ⟨o0, o1, o2, o3, o4, o5, o6, o7⟩ := O.out
                      dsimp only at o0 o1 o2 o3 o4 o5 o6
                      go_wp2
                      go_ret2
                      exact SP.of HV.out T
                  · skip
                    have HT := Lib.hid ht
                    clear ht
                    obtain ⟨o0, o1, o2, o3, o4, o5, o6, o7⟩ := O.out
                    dsimp only at o0 o1 o2 o3 o4 o5 o6
                    go_wp2_with fail
                    clear o0 o1 o2 o3 o4 o5 o6 o7
                    refine (inS _ _ _ _).mono ?_
                    rintro e wx ⟨rfl, hsame⟩
                    replace hsame := hsame.symm
                    subst hsame
                    cases hb : inr b 0 ((j : Int) - 1)
                    · skip
                      have HB := Lib.hid hb
                      clear hb
                      have hv : vld L n = false := vld_hd hR.out HL.out (by simp [hdB, k5, k0, HT.out, HB.out]) hlt
                      have HV := Lib.hid hv
                      clear hv
                      go_wp2
                      go_ret2
                      exact SP.of HV.out T
                    · skip
                      have HB := Lib.hid hb
                      clear hb
                      obtain ⟨o0, o1, o2, o3, o4, o5, o6, o7⟩ := O.out
                      dsimp only at o0 o1 o2 o3 o4 o5 o6
                      go_wp2_with fail
                      clear o0 o1 o2 o3 o4 o5 o6 o7
                      refine (twS _ _ HIN.out).mono ?_
                      rintro e wx ⟨rfl, hsame⟩
                      replace hsame := hsame.symm
                      subst hsame
                      rw [HT.out]
                      have hk : k = 1 ∨ k = 2 ∨ k = 3 ∨ k = 4 ∨ k = 6 := by
                        rcases in10 HIN.out with h | h | h | h | h | h | h | h | h | h | h
                        all_goals first | omega | (exfalso; have := HT.out; rw [h] at this; revert this; decide)
                      obtain ⟨A, rfl, hA⟩ := in_nat HA.out
                      obtain ⟨B, rfl, hBj⟩ := in_nat HB.out
                      obtain ⟨v0, v1, v2, v3⟩ := hS.out.at hA
                      obtain ⟨t0, t1, t2, t3⟩ := hS.out.at hBj
                      obtain ⟨x1, hx1⟩ : ∃ x, x = (sat S A).1 := ⟨_, rfl⟩
                      obtain ⟨x2, hx2⟩ : ∃ x, x = (sat S A).2 := ⟨_, rfl⟩
                      obtain ⟨y1, hy1⟩ : ∃ x, x = (sat S B).1 := ⟨_, rfl⟩
                      obtain ⟨y2, hy2⟩ : ∃ x, x = (sat S B).2 := ⟨_, rfl⟩
                      rw [← hx1] at v0
                      rw [← hx2] at v1
                      rw [← hy1] at t0
                      rw [← hy2] at t1
                      have HX1 := Lib.hid hx1
                      have HX2 := Lib.hid hx2
                      have HY1 := Lib.hid hy1
                      have HY2 := Lib.hid hy2
                      clear hx1 hx2 hy1 hy2
                      have HVA := Lib.hid (show sat S A = (x1, x2) by rw [HX1.out, HX2.out])
                      have HVB := Lib.hid (show sat S B = (y1, y2) by rw [HY1.out, HY2.out])
                      rcases hk with rfl | rfl | rfl | rfl | rfl
                      · skip
                        obtain ⟨o0, o1, o2, o3, o4, o5, o6, o7⟩ := O.out
                        dsimp only at o0 o1 o2 o3 o4 o5 o6
                        have p1 : wr.heap.size < w2.heap.size + 1 := by omega
                        have p2 : wr.heap.size < w2.heap.size + 1 + 1 := by omega
                        cases d0 : (x1 == y1)
                        · skip
                          have d0e : ¬ x1 = y1 := by simpa using d0
                          have D0 := Lib.hid d0e
                          clear d0e
                          have hv : vld L n = false := vld_nx hR.out HL.out (by simp [nxt, fitB, HVA.out, HVB.out, D0.out]) hlt
                          have HV := Lib.hid hv
                          clear hv
                          go_wp2
                          go_ret2
                          exact SP.of HV.out (below3 T _ _ _)
                        · skip
                          have d0e : x1 = y1 := by simpa using d0
                          have D0 := Lib.hid d0e
                          clear d0e
                          cases d1 : (x2 == y2)
                          · skip
                            have d1e : ¬ x2 = y2 := by simpa using d1
                            have D1 := Lib.hid d1e
                            clear d1e
                            have hv : vld L n = false := vld_nx hR.out HL.out (by simp [nxt, fitB, HVA.out, HVB.out, D0.out, D1.out]) hlt
                            have HV := Lib.hid hv
                            clear hv
                            go_wp2
                            go_ret2
                            exact SP.of HV.out (below3 T _ _ _)
                          · skip
                            have d1e : x2 = y2 := by simpa using d1
                            have D1 := Lib.hid d1e
                            clear d1e
                            have hzz : w.heap.size ≤ w2.heap.size := T.size
                            go_wp2_with (at_builtin; refine wpList_append_own _ rfl (.tmp 172) (.tmp 174) 45 rfl w.heap.size 36 i0 (.agg #[.int .i64 0, .int .i64 0, .slice none 0 0]) 3 40 Try.underlying45 HI.out HZ0.out HZ1.out HZ2.out rfl (by decide) (.slice (some ⟨g, 0, none⟩) j cap') j cs rfl ((((hS.out.alloc _).alloc _).alloc _).alloc _).own ⟨w2.heap.size + 1 + 1 + 1, 0, none⟩ 1 1 [.int .i64 x1, .int .i64 x2, .slice none 0 0] rfl rfl ?c1 ?c2 ?c3 ?c4 ?c5 ?_)
                            case c1 =>
                              intro j v hj
                              match j, hj with
                              | 0, hj => simp at hj; subst hj; simp [go_sem]
                              | 1, hj => simp at hj; subst hj; simp [go_sem]
                              | 2, hj => simp at hj; subst hj; simp [go_sem]
                            case c2 => intro v hv; simp at hv; rcases hv with rfl | rfl | rfl <;> rfl
                            case c3 => unfold maxLen; omega
                            case c4 => omega
                            case c5 => simp <;> omega
                            intro v' w9 hown hgr hnil
                            have T9 := Lib.hid (((((T.alloc (by omega) _).alloc (by simp <;> omega) _).alloc (by simp <;> omega) _).alloc (by simp <;> omega) _).grown hgr (by simp <;> omega) (fun q hq => (hS.out.own.lt q hq).1))
                            obtain ⟨g2, cap2, rfl, S9_⟩ := hS.out.app hown hnil T9.out.size
                            have S9 := Lib.hid S9_
                            have R9 := Lib.hid (run_hd hR.out HL.out (by simp [hdB, HSM.out, HA.out, HT.out, HB.out, HNN2.out, HIN.out, ← HMX.out]) (show nxt _ S = some ( x1,  x2) by simp [nxt, fitB, ownB, HVA.out, HVB.out, D0.out, D1.out]))
                            clear S9_ hown hgr hnil
                            go_wp2
                            go_roundw
                            case rel => exact ⟨j + 1, g2, cap2, _, _, by omega, by go_num, by go_num, R9.out, S9.out, T9.out⟩
                            case measure => simp [intOf]; omega
                      · skip
                        obtain ⟨o0, o1, o2, o3, o4, o5, o6, o7⟩ := O.out
                        dsimp only at o0 o1 o2 o3 o4 o5 o6
                        have p1 : wr.heap.size < w2.heap.size + 1 := by omega
                        have p2 : wr.heap.size < w2.heap.size + 1 + 1 := by omega
                        cases d0 : (y1 == 1)
                        · skip
                          have d0e : ¬ y1 = 1 := by simpa using d0
                          have D0 := Lib.hid d0e
                          clear d0e
                          have hv : vld L n = false := vld_nx hR.out HL.out (by simp [nxt, fitB, HVA.out, HVB.out, D0.out]) hlt
                          have HV := Lib.hid hv
                          clear hv
                          go_wp2
                          go_ret2
                          exact SP.of HV.out (below3 T _ _ _)
                        · skip
                          have d0e : y1 = 1 := by simpa using d0
                          have D0 := Lib.hid d0e
                          clear d0e
                          cases d1 : (x2 == y2)
                          · skip
                            have d1e : ¬ x2 = y2 := by simpa using d1
                            have D1 := Lib.hid d1e
                            clear d1e
                            have hv : vld L n = false := vld_nx hR.out HL.out (by simp [nxt, fitB, HVA.out, HVB.out, D0.out, D1.out]) hlt
                            have HV := Lib.hid hv
                            clear hv
                            go_wp2
                            go_ret2
                            exact SP.of HV.out (below3 T _ _ _)
                          · skip
                            have d1e : x2 = y2 := by simpa using d1
                            have D1 := Lib.hid d1e
                            clear d1e
                            have hzz : w.heap.size ≤ w2.heap.size := T.size
                            go_wp2_with (at_builtin; refine wpList_append_own _ rfl (.tmp 172) (.tmp 174) 45 rfl w.heap.size 36 i0 (.agg #[.int .i64 0, .int .i64 0, .slice none 0 0]) 3 40 Try.underlying45 HI.out HZ0.out HZ1.out HZ2.out rfl (by decide) (.slice (some ⟨g, 0, none⟩) j cap') j cs rfl ((((hS.out.alloc _).alloc _).alloc _).alloc _).own ⟨w2.heap.size + 1 + 1 + 1, 0, none⟩ 1 1 [.int .i64 x1, .int .i64 x2, .slice none 0 0] rfl rfl ?c1 ?c2 ?c3 ?c4 ?c5 ?_)
                            case c1 =>
                              intro j v hj
                              match j, hj with
                              | 0, hj => simp at hj; subst hj; simp [go_sem]
                              | 1, hj => simp at hj; subst hj; simp [go_sem]
                              | 2, hj => simp at hj; subst hj; simp [go_sem]
                            case c2 => intro v hv; simp at hv; rcases hv with rfl | rfl | rfl <;> rfl
                            case c3 => unfold maxLen; omega
                            case c4 => omega
                            case c5 => simp <;> omega
                            intro v' w9 hown hgr hnil
                            have T9 := Lib.hid (((((T.alloc (by omega) _).alloc (by simp <;> omega) _).alloc (by simp <;> omega) _).alloc (by simp <;> omega) _).grown hgr (by simp <;> omega) (fun q hq => (hS.out.own.lt q hq).1))
                            obtain ⟨g2, cap2, rfl, S9_⟩ := hS.out.app hown hnil T9.out.size
                            have S9 := Lib.hid S9_
                            have R9 := Lib.hid (run_hd hR.out HL.out (by simp [hdB, HSM.out, HA.out, HT.out, HB.out, HNN2.out, HIN.out, ← HMX.out]) (show nxt _ S = some ( x1,  x2) by simp [nxt, fitB, ownB, HVA.out, HVB.out, D0.out, D1.out]))
                            clear S9_ hown hgr hnil
                            go_wp2
                            go_roundw
                            case rel => exact ⟨j + 1, g2, cap2, _, _, by omega, by go_num, by go_num, R9.out, S9.out, T9.out⟩
                            case measure => simp [intOf]; omega
                      · skip
                        obtain ⟨o0, o1, o2, o3, o4, o5, o6, o7⟩ := O.out
                        dsimp only at o0 o1 o2 o3 o4 o5 o6
                        have p1 : wr.heap.size < w2.heap.size + 1 := by omega
                        have p2 : wr.heap.size < w2.heap.size + 1 + 1 := by omega
                        cases d0 : (x1 == y1)
                        · skip
                          have d0e : ¬ x1 = y1 := by simpa using d0
                          have D0 := Lib.hid d0e
                          clear d0e
                          have hv : vld L n = false := vld_nx hR.out HL.out (by simp [nxt, fitB, HVA.out, HVB.out, D0.out]) hlt
                          have HV := Lib.hid hv
                          clear hv
                          go_wp2
                          go_ret2
                          exact SP.of HV.out (below3 T _ _ _)
                        · skip
                          have d0e : x1 = y1 := by simpa using d0
                          have D0 := Lib.hid d0e
                          clear d0e
                          cases d1 : (x2 == y2)
                          · skip
                            have d1e : ¬ x2 = y2 := by simpa using d1
                            have D1 := Lib.hid d1e
                            clear d1e
                            have hv : vld L n = false := vld_nx hR.out HL.out (by simp [nxt, fitB, HVA.out, HVB.out, D0.out, D1.out]) hlt
                            have HV := Lib.hid hv
                            clear hv
                            go_wp2
                            go_ret2
                            exact SP.of HV.out (below3 T _ _ _)
                          · skip
                            have d1e : x2 = y2 := by simpa using d1
                            have D1 := Lib.hid d1e
                            clear d1e
                            have hzz : w.heap.size ≤ w2.heap.size := T.size
                            go_wp2_with (at_builtin; refine wpList_append_own _ rfl (.tmp 172) (.tmp 174) 45 rfl w.heap.size 36 i0 (.agg #[.int .i64 0, .int .i64 0, .slice none 0 0]) 3 40 Try.underlying45 HI.out HZ0.out HZ1.out HZ2.out rfl (by decide) (.slice (some ⟨g, 0, none⟩) j cap') j cs rfl ((((hS.out.alloc _).alloc _).alloc _).alloc _).own ⟨w2.heap.size + 1 + 1 + 1, 0, none⟩ 1 1 [.int .i64 x1, .int .i64 x2, .slice none 0 0] rfl rfl ?c1 ?c2 ?c3 ?c4 ?c5 ?_)
                            case c1 =>
                              intro j v hj
                              match j, hj with
                              | 0, hj => simp at hj; subst hj; simp [go_sem]
                              | 1, hj => simp at hj; subst hj; simp [go_sem]
                              | 2, hj => simp at hj; subst hj; simp [go_sem]
                            case c2 => intro v hv; simp at hv; rcases hv with rfl | rfl | rfl <;> rfl
                            case c3 => unfold maxLen; omega
                            case c4 => omega
                            case c5 => simp <;> omega
                            intro v' w9 hown hgr hnil
                            have T9 := Lib.hid (((((T.alloc (by omega) _).alloc (by simp <;> omega) _).alloc (by simp <;> omega) _).alloc (by simp <;> omega) _).grown hgr (by simp <;> omega) (fun q hq => (hS.out.own.lt q hq).1))
                            obtain ⟨g2, cap2, rfl, S9_⟩ := hS.out.app hown hnil T9.out.size
                            have S9 := Lib.hid S9_
                            have R9 := Lib.hid (run_hd hR.out HL.out (by simp [hdB, HSM.out, HA.out, HT.out, HB.out, HNN2.out, HIN.out, ← HMX.out]) (show nxt _ S = some ( x1,  x2) by simp [nxt, fitB, ownB, HVA.out, HVB.out, D0.out, D1.out]))
                            clear S9_ hown hgr hnil
                            go_wp2
                            go_roundw
                            case rel => exact ⟨j + 1, g2, cap2, _, _, by omega, by go_num, by go_num, R9.out, S9.out, T9.out⟩
                            case measure => simp [intOf]; omega
                      · skip
                        obtain ⟨o0, o1, o2, o3, o4, o5, o6, o7⟩ := O.out
                        dsimp only at o0 o1 o2 o3 o4 o5 o6
                        have p1 : wr.heap.size < w2.heap.size + 1 := by omega
                        have p2 : wr.heap.size < w2.heap.size + 1 + 1 := by omega
                        cases d0 : (y1 == 1)
                        · skip
                          have d0e : ¬ y1 = 1 := by simpa using d0
                          have D0 := Lib.hid d0e
                          clear d0e
                          have hv : vld L n = false := vld_nx hR.out HL.out (by simp [nxt, fitB, HVA.out, HVB.out, D0.out]) hlt
                          have HV := Lib.hid hv
                          clear hv
                          go_wp2
                          go_ret2
                          exact SP.of HV.out (below3 T _ _ _)
                        · skip
                          have d0e : y1 = 1 := by simpa using d0
                          have D0 := Lib.hid d0e
                          clear d0e
                          cases d1 : (x2 == y2)
                          · skip
                            have d1e : ¬ x2 = y2 := by simpa using d1
                            have D1 := Lib.hid d1e
                            clear d1e
                            have hv : vld L n = false := vld_nx hR.out HL.out (by simp [nxt, fitB, HVA.out, HVB.out, D0.out, D1.out]) hlt
                            have HV := Lib.hid hv
                            clear hv
                            go_wp2
                            go_ret2
                            exact SP.of HV.out (below3 T _ _ _)
                          · skip
                            have d1e : x2 = y2 := by simpa using d1
                            have D1 := Lib.hid d1e
                            clear d1e
                            have hzz : w.heap.size ≤ w2.heap.size := T.size
                            go_wp2_with (at_builtin; refine wpList_append_own _ rfl (.tmp 172) (.tmp 174) 45 rfl w.heap.size 36 i0 (.agg #[.int .i64 0, .int .i64 0, .slice none 0 0]) 3 40 Try.underlying45 HI.out HZ0.out HZ1.out HZ2.out rfl (by decide) (.slice (some ⟨g, 0, none⟩) j cap') j cs rfl ((((hS.out.alloc _).alloc _).alloc _).alloc _).own ⟨w2.heap.size + 1 + 1 + 1, 0, none⟩ 1 1 [.int .i64 x1, .int .i64 x2, .slice none 0 0] rfl rfl ?c1 ?c2 ?c3 ?c4 ?c5 ?_)
                            case c1 =>
                              intro j v hj
                              match j, hj with
                              | 0, hj => simp at hj; subst hj; simp [go_sem]
                              | 1, hj => simp at hj; subst hj; simp [go_sem]
                              | 2, hj => simp at hj; subst hj; simp [go_sem]
                            case c2 => intro v hv; simp at hv; rcases hv with rfl | rfl | rfl <;> rfl
                            case c3 => unfold maxLen; omega
                            case c4 => omega
                            case c5 => simp <;> omega
                            intro v' w9 hown hgr hnil
                            have T9 := Lib.hid (((((T.alloc (by omega) _).alloc (by simp <;> omega) _).alloc (by simp <;> omega) _).alloc (by simp <;> omega) _).grown hgr (by simp <;> omega) (fun q hq => (hS.out.own.lt q hq).1))
                            obtain ⟨g2, cap2, rfl, S9_⟩ := hS.out.app hown hnil T9.out.size
                            have S9 := Lib.hid S9_
                            have R9 := Lib.hid (run_hd hR.out HL.out (by simp [hdB, HSM.out, HA.out, HT.out, HB.out, HNN2.out, HIN.out, ← HMX.out]) (show nxt _ S = some ( x1,  x2) by simp [nxt, fitB, ownB, HVA.out, HVB.out, D0.out, D1.out]))
                            clear S9_ hown hgr hnil
                            go_wp2
                            go_roundw
                            case rel => exact ⟨j + 1, g2, cap2, _, _, by omega, by go_num, by go_num, R9.out, S9.out, T9.out⟩
                            case measure => simp [intOf]; omega
                      · skip
                        obtain ⟨o0, o1, o2, o3, o4, o5, o6, o7⟩ := O.out
                        dsimp only at o0 o1 o2 o3 o4 o5 o6
                        have p1 : wr.heap.size < w2.heap.size + 1 := by omega
                        have p2 : wr.heap.size < w2.heap.size + 1 + 1 := by omega
                        cases d0 : (x2 == y1)
                        · skip
                          have d0e : ¬ x2 = y1 := by simpa using d0
                          have D0 := Lib.hid d0e
                          clear d0e
                          have hv : vld L n = false := vld_nx hR.out HL.out (by simp [nxt, fitB, HVA.out, HVB.out, D0.out]) hlt
                          have HV := Lib.hid hv
                          clear hv
                          go_wp2
                          go_ret2
                          exact SP.of HV.out (below3 T _ _ _)
                        · skip
                          have d0e : x2 = y1 := by simpa using d0
                          have D0 := Lib.hid d0e
                          clear d0e
                          have hzz : w.heap.size ≤ w2.heap.size := T.size
                          go_wp2_with (at_builtin; refine wpList_append_own _ rfl (.tmp 172) (.tmp 174) 45 rfl w.heap.size 36 i0 (.agg #[.int .i64 0, .int .i64 0, .slice none 0 0]) 3 40 Try.underlying45 HI.out HZ0.out HZ1.out HZ2.out rfl (by decide) (.slice (some ⟨g, 0, none⟩) j cap') j cs rfl ((((hS.out.alloc _).alloc _).alloc _).alloc _).own ⟨w2.heap.size + 1 + 1 + 1, 0, none⟩ 1 1 [.int .i64 x1, .int .i64 y2, .slice none 0 0] rfl rfl ?c1 ?c2 ?c3 ?c4 ?c5 ?_)
                          case c1 =>
                            intro j v hj
                            match j, hj with
                            | 0, hj => simp at hj; subst hj; simp [go_sem]
                            | 1, hj => simp at hj; subst hj; simp [go_sem]
                            | 2, hj => simp at hj; subst hj; simp [go_sem]
                          case c2 => intro v hv; simp at hv; rcases hv with rfl | rfl | rfl <;> rfl
                          case c3 => unfold maxLen; omega
                          case c4 => omega
                          case c5 => simp <;> omega
                          intro v' w9 hown hgr hnil
                          have T9 := Lib.hid (((((T.alloc (by omega) _).alloc (by simp <;> omega) _).alloc (by simp <;> omega) _).alloc (by simp <;> omega) _).grown hgr (by simp <;> omega) (fun q hq => (hS.out.own.lt q hq).1))
                          obtain ⟨g2, cap2, rfl, S9_⟩ := hS.out.app hown hnil T9.out.size
                          have S9 := Lib.hid S9_
                          have R9 := Lib.hid (run_hd hR.out HL.out (by simp [hdB, HSM.out, HA.out, HT.out, HB.out, HNN2.out, HIN.out, ← HMX.out]) (show nxt _ S = some ( x1,  y2) by simp [nxt, fitB, ownB, HVA.out, HVB.out, D0.out]))
                          clear S9_ hown hgr hnil
                          go_wp2
                          go_roundw
                          case rel => exact ⟨j + 1, g2, cap2, _, _, by omega, by go_num, by go_num, R9.out, S9.out, T9.out⟩
                          case measure => simp [intOf]; omega
    · have e : j = n := by omega
      subst e
      have hv : vld L j = true := by unfold vld; rw [hR.out, decide_eq_true hnn.1, decide_eq_true hnn.2]; rfl
      have HV := Lib.hid hv
      clear hv
      go_wp2
      go_ret2
      exact SP.of HV.out hB.out
end Go.Proofs.Ytcfnhkadljlgcaa
