/- Lists of whole numbers: one that is read, one that the call owns, and the laws' own helpers on them. -/

import Derived.Test.YtidfjjmhohkejaaDoorRows
import Derived.Laws.ResultCell
import Derived.Test.YtidfjjmhohkejaaDoorAcc
namespace Go.Fl
open Go.RowKit
def il (xs : List Int) : List Value := xs.map (Value.int .i64)
theorem il_length (xs : List Int) : (il xs).length = xs.length := by simp [il]
theorem il_get (xs : List Int) (i : Nat) (h : i < xs.length) : (il xs)[i]? = some (.int .i64 (xs[i]?.getD 0)) := by simp [il, h]
theorem il_set (xs : List Int) (i : Nat) (x : Int) : (il xs).set i (.int .i64 x) = il (xs.set i x) := by simp [il, List.map_set]
/-- a slice of whole numbers that is read -/
structure Js (w : World) (a : Option Addr) (n cap : Nat) (xs : List Int) : Prop where
  len : n = xs.length
  cap1 : n ≤ cap
  cap2 : cap ≤ maxLen
  cell : ∀ i, i < n → ∃ b o, a = some ⟨b, o, none⟩ ∧ w.cell? ⟨b, o + i, none⟩ = some (.int .i64 (xs[i]?.getD 0))
theorem Js.nil (w : World) : Js w none 0 0 [] := ⟨rfl, Nat.le_refl _, Nat.zero_le _, fun _ hi => absurd hi (Nat.not_lt_zero _)⟩
theorem Js.own {w : World} {base : Nat} {e : TypeId} {a : Option Addr} {n cap : Nat} {xs : List Int} (h : w.ownsRow base e 1 (.slice a n cap) n (il xs)) : Js w a n cap xs := by
  have hl : xs.length = n := by have := h.1; rw [il_length, Nat.mul_one] at this; exact this
  rcases h.2 with ⟨e1, rfl⟩ | ⟨g, c, cur, e1, hb, hg, hn, hm, hs, ht⟩
  · injection e1 with e1 e2 e3
    subst e1; subst e3
    have : xs = [] := List.eq_nil_of_length_eq_zero hl
    subst this
    exact Js.nil w
  · injection e1 with e1 e2 e3
    subst e1; subst e3
    refine ⟨hl.symm, hn, hm, fun i hi => ⟨g, 0, rfl, ?_⟩⟩
    rw [Nat.zero_add, h.cellAt i (by omega), il_get xs i (by omega)]
/-- a row of whole numbers that the call owns; its block lies in lo .. hi -/
structure Jrow (w : World) (lo hi : Nat) (t : TypeId) (v : Value) (n : Nat) (xs : List Int) : Prop where
  own : w.ownsRow lo t 1 v n (il xs)
  low : lo ≤ hi
  top : hi ≤ w.heap.size
  lt : ∀ k, v.ownBlock = some k → k < hi
section
variable {w w' : World} {lo hi lo' hi' : Nat} {t : TypeId} {v : Value} {n : Nat} {xs : List Int}
theorem Jrow.of (h : w.ownsRow lo t 1 v n (il xs)) (hl : lo ≤ w.heap.size) : Jrow w lo w.heap.size t v n xs := ⟨h, hl, Nat.le_refl _, fun k hk => (h.lt k hk).2⟩
theorem Jrow.nil (w : World) (t : TypeId) (lo : Nat) (hl : lo ≤ w.heap.size) : Jrow w lo w.heap.size t (.slice none 0 0) 0 [] := Jrow.of (World.ownsRow_nil _ _ _ _) hl
theorem Jrow.below (h : Jrow w lo hi t v n xs) (hb : Below w.heap.size w w') : Jrow w' lo hi t v n xs := ⟨own_below h.own hb, h.low, Nat.le_trans h.top hb.size, h.lt⟩
theorem Jrow.drew (h : Jrow w lo hi t v n xs) (m : Nat) : Jrow (w.drewN m) lo hi t v n xs := ⟨h.own, h.low, h.top, h.lt⟩
theorem Jrow.alloc (h : Jrow w lo hi t v n xs) (o : Obj) : Jrow (w.alloc o) lo hi t v n xs := h.below ((Below.refl _ _).alloc (Nat.le_refl _) o)
theorem Jrow.keep (h : Jrow w lo hi t v n xs) (k : Keep lo' hi' w w') (hd : hi ≤ lo' ∨ hi' ≤ lo) : Jrow w' lo hi t v n xs := by
  refine ⟨⟨h.own.1, ?_⟩, h.low, Nat.le_trans h.top k.size, h.lt⟩
  have hl := h.own.lt
  have hh := h.lt
  rcases h.own.2 with hn | ⟨g, cap, cur, rfl, hbg, hgg, rest⟩
  · exact .inl hn
  · have h1 := hh g rfl
    have h2 := hl g rfl
    exact .inr ⟨g, cap, cur, rfl, hbg, by rw [k.block g h2.2 (by omega)]; exact hgg, rest⟩
theorem Jrow.fs {a : Option Addr} {cap : Nat} (h : Jrow w lo hi t (.slice a n cap) n xs) : Js w a n cap xs := Js.own h.own
theorem Jrow.down (h : Jrow w lo hi t v n xs) (h1 : lo' ≤ lo) : Jrow w lo' hi t v n xs := ⟨own_base h.own h1, Nat.le_trans h1 h.low, h.top, h.lt⟩
end
/-- a list of whole numbers of its own is handed back; nothing else was written -/
def RJ (t : TypeId) (w : World) (S : List Int) (ok : Bool) (e : Ending) (w' : World) : Prop :=
  ∃ a cap xs, e = .returned (.tuple #[.slice a S.length cap, .bool ok]) ∧ Jrow w' w.heap.size w'.heap.size t (.slice a S.length cap) S.length xs ∧ xs = S ∧ Below w.heap.size w w'
/-- the marks that the law writes -/
def mkj (k : Int) (n : Nat) : List Int := (List.range n).map (fun (i : Nat) => k + (i : Int))
theorem mkj_length (k : Int) (n : Nat) : (mkj k n).length = n := by simp [mkj]
theorem mkj_get (k : Int) (n i : Nat) (h : i < n) : (mkj k n)[i]?.getD 0 = k + (i : Int) := by simp [mkj, h]
theorem mkj_step (xs : List Int) (k : Int) (n i : Nat) (hx : n = xs.length) (hi : i < n) :
    (il (mkj k i ++ xs.drop i)).set i (.int .i64 (k + (i : Int))) = il (mkj k (i + 1) ++ xs.drop (i + 1)) := by
  rw [il_set]
  congr 1
  rw [List.set_append_right _ _ (by rw [mkj_length]; omega), mkj_length, Nat.sub_self, List.drop_eq_getElem_cons (by omega), List.set_cons_zero]
  simp [mkj, List.range_succ]
/-- a list of whole numbers that is built by appending, in a variable -/
structure OwnJ (B : Nat) (t : TypeId) (w0 w : World) (k : Nat) (a : Option Addr) (cap : Nat) (ys : List Int) : Prop where
  below : Below B w0 w
  own : w.ownsRow B t 1 (.slice a k cap) k (il ys)
  le : B ≤ w.heap.size
theorem il_append (xs ys : List Int) : il (xs ++ ys) = il xs ++ il ys := by simp [il]
section
variable {B : Nat} {t : TypeId} {w0 w w' : World} {k : Nat} {a : Option Addr} {cap : Nat} {ys : List Int}
theorem OwnJ.next (h : OwnJ B t w0 w k a cap ys) (hb : Below w.heap.size w w') : OwnJ B t w0 w' k a cap ys := ⟨h.below.trans (hb.mono h.le), own_below h.own hb, Nat.le_trans h.le hb.size⟩
theorem OwnJ.drew (h : OwnJ B t w0 w k a cap ys) (m : Nat) : OwnJ B t w0 (w.drewN m) k a cap ys := ⟨bdrew h.below m, h.own, h.le⟩
theorem OwnJ.alloc (h : OwnJ B t w0 w k a cap ys) (o : Obj) : OwnJ B t w0 (w.alloc o) k a cap ys := h.next ((Below.refl _ _).alloc (Nat.le_refl _) o)
theorem OwnJ.app {v' : Value} {m : Nat} {us : List Int} {o : Obj} (h : OwnJ B t w0 w k a cap ys) (hown : w'.ownsRow B t 1 v' (k + m) (il ys ++ il us)) (hg : (w.alloc o).grownBy w' (Value.slice a k cap).ownBlock) :
    ∃ a' cap', v' = .slice a' (k + m) cap' ∧ OwnJ B t w0 w' (k + m) a' cap' (ys ++ us) := by
  obtain ⟨a', cap', rfl, hp⟩ := own_shape hown
  have hA := h.alloc o
  refine ⟨a', cap', rfl, hA.below.grown hg hA.le (fun q hq => (h.own.lt q hq).1), ?_, Nat.le_trans hA.le hg.size⟩
  rw [il_append]; exact hown
theorem OwnJ.row (h : OwnJ B t w0 w k a cap ys) : Jrow w B w.heap.size t (.slice a k cap) k ys := Jrow.of h.own h.le
theorem OwnJ.len (h : OwnJ B t w0 w k a cap ys) : ys.length = k := by have := h.own.1; rw [il_length, Nat.mul_one] at this; exact this
theorem ownJ_start (w : World) (t : TypeId) : OwnJ w.heap.size t w (w.alloc (.cells #[] t)) 0 (some ⟨w.heap.size, 0, none⟩) 0 [] :=
  ⟨(Below.refl _ _).alloc (Nat.le_refl _) _, World.ownsRow_made w #[] 0 (Nat.le_refl _) (by simp [maxLen]) rfl, by simp⟩
end
theorem RJ_no {t : TypeId} {w wr : World} (B : Below w.heap.size w wr) : RJ t w [] false (.returned (.tuple #[.slice none 0 0, .bool false])) wr := ⟨none, 0, [], rfl, Jrow.nil _ _ _ B.size, rfl, B⟩
theorem RJ_own {t : TypeId} {w wr : World} {S ys : List Int} {a : Option Addr} {n cap : Nat} (hS : S.length = n) (O : OwnJ w.heap.size t w wr n a cap ys) (hy : ys = S) : RJ t w S true (.returned (.tuple #[.slice a n cap, .bool true])) wr := by
  subst hS
  exact ⟨_, _, ys, rfl, O.row, hy, O.below⟩
end Go.Fl
namespace Go.Proofs.YtidfjjmhohkejaaDoor
open Go.RowKit Go.Fl Go.Reg
theorem infoI64 : (Tryd.prog.info? 2).map (fun i => (i.zero, i.size, i.bytes)) = some (some (.int .i64 0), 1, 8) := by kernel_rfl
theorem eqI64 (a b : Option Addr) (n c1 c2 : Nat) (xs ys : List Int) (w : World) (hn : n ≤ 1048576) (h1 : Js w a n c1 xs) (h2 : Js w b n c2 ys) (he : xs = ys) :
    Calls Tryd.prog 11 #[.slice a n c1, .slice b n c2] w fun e w' => e = .returned (.bool true) ∧ Below w.heap.size w w' := by
  subst he
  have HX := Lib.hid h1.cell
  have HY := Lib.hid h2.cell
  clear h1 h2
  go_enter Tryd.func11, Tryd.ntmps11
  go_wp2
  go_loopw [5] (fun i w' => ∃ k m : Nat, k ≤ n ∧ i = .int .i64 k ∧ w' = w.drewN m) (fun i _ => n - (intOf i).toNat)
  case atStart => exact ⟨0, 0, Nat.zero_le _, rfl, rfl⟩
  case round =>
    obtain ⟨k, m, hk, rfl, rfl⟩ := hrel
    by_cases hlt : k < n
    · obtain ⟨b1, o1, rfl, g1⟩ := HX.out k hlt
      obtain ⟨b2, o2, rfl, g2⟩ := HY.out k hlt
      go_wp2_with fail
      refine wp_dr 8 [0, 0, 0, 0, 0, 0, 0, 0, 0] (by kernel_rfl) (by kernel_rfl) ?_
      simp only [List.take_succ_cons, List.take_zero, List.drop_succ_cons, List.drop_zero]
      iterate 8 (with_reducible refine dr_step ?_; intro K hK; go_simp; (try intro _); refine hK _ _ ?_; clear hK K)
      refine wpR_nil (fun nq => ?_)
      go_wp2
      go_roundw
      case rel => exact ⟨k + 1, _, by omega, by go_num, rfl⟩
      case measure => simp [intOf]; omega
    · go_wp2
      go_ret
      exact ⟨rfl, bdrew (Below.refl _ _) _⟩
theorem markI64 (a : Option Addr) (n cap lo hi : Nat) (xs : List Int) (k : Int) (w : World) (hn : n ≤ 1048576) (hk : 0 ≤ k ∧ k ≤ 4294967296) (h : Jrow w lo hi 2 (.slice a n cap) n xs) :
    Calls Tryd.prog 12 #[.slice a n cap, .int .i64 k] w fun e w' => e = .returned (.int .i64 (k + (n : Int))) ∧ Jrow w' lo hi 2 (.slice a n cap) n (mkj k n) ∧ Keep lo hi w w' := by
  have hlen := h.fs.len
  have hcap := h.fs.cap1
  have hcap2 := h.fs.cap2
  unfold maxLen at hcap2
  have H0 := Lib.hid h
  clear h
  go_enter Tryd.func12, Tryd.ntmps12
  go_wp2
  go_loopw [1, 5] (fun kk i w' => ∃ j : Nat, j ≤ n ∧ i = .int .i64 j ∧ kk = .int .i64 (k + (j : Int)) ∧ Jrow w' lo hi 2 (.slice a n cap) n (mkj k j ++ xs.drop j) ∧ Keep lo hi w w') (fun _ i _ => n - (intOf i).toNat)
  case atStart => exact ⟨0, Nat.zero_le _, rfl, by go_num, H0.out, Keep.refl _ _ _⟩
  case round =>
    obtain ⟨j, hj, rfl, rfl, hr, hb⟩ := hrel
    by_cases hlt : j < n
    · have hf := hr.fs.cell j hlt
      obtain ⟨g, o, rfl, hc⟩ := hf
      have ho : o = 0 := by rcases hr.own.2 with ⟨e, _⟩ | ⟨_, _, _, e, _⟩ <;> cases e; rfl
      subst ho
      rw [Nat.zero_add] at hc
      have hfo := hr.own.frozenAt j
      have hst := hr.own.stored j (.int .i64 (k + (j : Int)))
      rw [mkj_step xs k n j hlen hlt] at hst
      have HS := Lib.hid hst
      have HB := Lib.hid hb
      have HO := Lib.hid hr
      clear hst hb hr
      go_wp2
      go_roundw
      case rel =>
        have g1 := HO.out.lt g rfl
        have g2 := (HO.out.own.lt g rfl).1
        exact ⟨j + 1, by omega, by go_num, by go_num, ⟨HS.out.1, HO.out.low, Nat.le_trans HO.out.top HS.out.2.size, HO.out.lt⟩, HB.out.trans ⟨HS.out.2.os, HS.out.2.tape, HS.out.2.output, HS.out.2.size, fun q hq hr => HS.out.2.block q hq (by intro e; injection e with e; omega)⟩⟩
      case measure => simp [intOf]; omega
    · go_wp2
      go_ret
      have : j = n := by omega
      subst this
      rw [List.drop_of_length_le (by omega), List.append_nil] at hr
      exact ⟨rfl, hr, hb⟩
theorem heldI64 (a : Option Addr) (n cap : Nat) (k : Int) (w : World) (hn : n ≤ 1048576) (hk : 0 ≤ k ∧ k ≤ 4294967296) (h : Js w a n cap (mkj k n)) :
    Calls Tryd.prog 13 #[.slice a n cap, .int .i64 k] w fun e w' => e = .returned (.int .i64 (k + (n : Int))) ∧ Below w.heap.size w w' := by
  have hcap := h.cap1
  have hcap2 := h.cap2
  unfold maxLen at hcap2
  have H0 := Lib.hid h
  clear h
  go_enter Tryd.func13, Tryd.ntmps13
  go_wp2
  go_loopw [1, 5] (fun kk i w' => ∃ j m : Nat, j ≤ n ∧ i = .int .i64 j ∧ kk = .int .i64 (k + (j : Int)) ∧ w' = w.drewN m) (fun _ i _ => n - (intOf i).toNat)
  case atStart => exact ⟨0, 0, Nat.zero_le _, rfl, by go_num, rfl⟩
  case round =>
    obtain ⟨j, m, hj, rfl, rfl, rfl⟩ := hrel
    by_cases hlt : j < n
    · obtain ⟨g, o, rfl, hc⟩ := H0.out.cell j hlt
      rw [mkj_get _ _ _ hlt] at hc
      go_wp2
      go_roundw
      case rel => exact ⟨j + 1, _, by omega, by go_num, by go_num, rfl⟩
      case measure => simp [intOf]; omega
    · go_wp2
      go_ret
      have : j = n := by omega
      subst this
      exact ⟨rfl, bdrew (Below.refl _ _) _⟩
end Go.Proofs.YtidfjjmhohkejaaDoor
