/- Which texts are lists of decimal numbers, in plain Lean: the pieces between commas, by the reference and by strings.Split. -/
import Derived.Test.YtidfjjmhohkejaaDoorRdP
import Derived.Lib.SplitLaws
import Derived.Lib.IndexBytes
import Derived.Lib.IndexLaws
namespace Go.Proofs.YtidfjjmhohkejaaDoor
open Go.Lib
/-- the pieces: 'cur' is the piece that is under way -/
def cutF : List UInt8 → List UInt8 → List (List UInt8)
  | cur, [] => [cur]
  | cur, b :: r => if b = 44 then cur :: cutF [] r else cutF (cur ++ [b]) r
theorem cutF_nil (cur : List UInt8) : cutF cur [] = [cur] := by rw [cutF]
theorem cutF_cons (cur : List UInt8) (b : UInt8) (r : List UInt8) : cutF cur (b :: r) = if b = 44 then cur :: cutF [] r else cutF (cur ++ [b]) r := by rw [cutF]
theorem cutF_none : ∀ (l cur : List UInt8), (∀ k : Nat, l[k]? ≠ some 44) → cutF cur l = [cur ++ l]
  | [], cur, _ => by simp [cutF]
  | b :: r, cur, h => by
    have hb : ¬ b = 44 := fun e => h 0 (by rw [e]; rfl)
    rw [cutF_cons, if_neg hb, cutF_none r (cur ++ [b]) (fun k => h (k + 1))]
    simp
theorem cutF_hit : ∀ (i : Nat) (l cur : List UInt8), l[i]? = some 44 → (∀ k, k < i → l[k]? ≠ some 44) → cutF cur l = (cur ++ l.take i) :: cutF [] (l.drop (i + 1))
  | _, [], _, h, _ => by simp at h
  | 0, b :: r, cur, h, _ => by
    simp at h
    subst h
    rw [cutF_cons, if_pos rfl]
    simp
  | i + 1, b :: r, cur, h, hn => by
    have hb : ¬ b = 44 := fun e => hn 0 (by omega) (by rw [e]; rfl)
    rw [cutF_cons, if_neg hb, cutF_hit i r (cur ++ [b]) h (fun k hk => hn (k + 1) (by omega))]
    simp
theorem split_cut : ∀ (n : Nat) (l : List UInt8), l.length ≤ n → splitK [44] 0 (count l [44]) l = cutF [] l := by
  intro n
  induction n with
  | zero =>
    intro l hl
    have : l = [] := List.length_eq_zero_iff.1 (by omega)
    subst this
    rfl
  | succ n ih =>
    intro l hl
    have hi := index_one l 44
    by_cases hm : indexByte l 44 = -1
    · rw [hm] at hi
      rw [count_miss hi]
      have := indexByte_none hm
      rw [cutF_none l [] this]
      rfl
    · have hge := indexByte_ge l 44
      obtain ⟨i, hii⟩ : ∃ i : Nat, indexByte l 44 = i := ⟨(indexByte l 44).toNat, by omega⟩
      rw [hii] at hi
      obtain ⟨h1, h2⟩ := indexByte_some hii
      have hlt : i < l.length := (List.getElem?_eq_some_iff.1 h1).1
      rw [count_hit (by simp) hi, Nat.add_comm 1, cutF_hit i l [] h1 h2]
      unfold splitK
      rw [if_neg (by rw [hi]; simp)]
      rw [hi]
      have e : ((i : Nat) : Int).toNat = i := by omega
      rw [e]
      have := ih (l.drop (i + 1)) (by rw [List.length_drop]; omega)
      simp only [List.length_cons, List.length_nil, Nat.zero_add, Nat.add_zero, List.nil_append]
      rw [this]
theorem cutF_len : ∀ (l cur : List UInt8), (cutF cur l).length ≤ l.length + 1
  | [], _ => by simp [cutF]
  | b :: r, cur => by
    rw [cutF_cons]
    split
    · have := cutF_len r []
      simp only [List.length_cons]
      omega
    · have := cutF_len r (cur ++ [b])
      simp only [List.length_cons]
      omega
theorem cutF_each : ∀ (l cur : List UInt8), ∀ p ∈ cutF cur l, p.length ≤ cur.length + l.length
  | [], cur, p, hp => by
    simp only [cutF, List.mem_cons, List.not_mem_nil, or_false] at hp
    subst hp
    simp
  | b :: r, cur, p, hp => by
    rw [cutF_cons] at hp
    split at hp
    · rcases List.mem_cons.1 hp with rfl | hp
      · omega
      · have := cutF_each r [] p hp
        simp only [List.length_cons, List.length_nil] at this ⊢
        omega
    · have := cutF_each r (cur ++ [b]) p hp
      simp only [List.length_append, List.length_cons, List.length_nil] at this ⊢
      omega
/-- the loop over all places: the pieces that are done, where the next begins, the place -/
def CI (l : List UInt8) (done : List (List UInt8)) (f k : Nat) : Prop := (k ≤ l.length ∧ f ≤ k ∧ done ++ cutF ((l.drop f).take (k - f)) (l.drop k) = cutF [] l) ∨ (k = l.length + 1 ∧ done = cutF [] l)
theorem CI.start (l : List UInt8) : CI l [] 0 0 := .inl ⟨Nat.zero_le _, Nat.le_refl _, by simp⟩
theorem CI.rng {l : List UInt8} {done : List (List UInt8)} {f k : Nat} (h : CI l done f k) (hk : k ≤ l.length) : f ≤ k := by
  rcases h with ⟨_, h, _⟩ | ⟨h, _⟩
  · exact h
  · omega
theorem CI.last {l : List UInt8} {done : List (List UInt8)} {f k : Nat} (h : CI l done f k) (hk : k = l.length) : CI l (done ++ [(l.drop f).take (k - f)]) (k + 1) (k + 1) := by
  rcases h with ⟨_, _, h⟩ | ⟨h, _⟩
  · refine .inr ⟨by omega, ?_⟩
    rw [← h, hk, List.drop_length]
    rfl
  · omega
theorem CI.comma {l : List UInt8} {done : List (List UInt8)} {f k : Nat} (h : CI l done f k) (hk : k < l.length) (hb : l[k]? = some 44) : CI l (done ++ [(l.drop f).take (k - f)]) (k + 1) (k + 1) := by
  rcases h with ⟨_, _, h⟩ | ⟨h, _⟩
  · refine .inl ⟨by omega, Nat.le_refl _, ?_⟩
    rw [← h]
    have e : l.drop k = 44 :: l.drop (k + 1) := by
      rw [List.drop_eq_getElem_cons hk]
      rw [List.getElem?_eq_getElem hk] at hb
      injection hb with hb
      rw [hb]
    rw [e]
    rw [cutF_cons, if_pos rfl]
    simp
  · omega
theorem CI.other {l : List UInt8} {done : List (List UInt8)} {f k : Nat} (h : CI l done f k) (hk : k < l.length) (hb : ¬ l[k]? = some 44) : CI l done f (k + 1) := by
  rcases h with ⟨_, hf, h⟩ | ⟨h, _⟩
  · refine .inl ⟨by omega, by omega, ?_⟩
    rw [← h]
    have e : l.drop k = l[k] :: l.drop (k + 1) := List.drop_eq_getElem_cons hk
    have hb2 : ¬ l[k] = 44 := fun e => hb (by rw [List.getElem?_eq_getElem hk, e])
    rw [e]
    rw [cutF_cons, if_neg hb2]
    congr 2
    rw [show k + 1 - f = (k - f) + 1 by omega, List.take_add_one, List.getElem?_drop, show f + (k - f) = k by omega, List.getElem?_eq_getElem hk]
    rfl
  · omega
theorem CI.fin {l : List UInt8} {done : List (List UInt8)} {f k : Nat} (h : CI l done f k) (hk : ¬ k ≤ l.length) : done = cutF [] l := by
  rcases h with ⟨h, _⟩ | ⟨_, h⟩
  · omega
  · exact h
def pat (ps : List (List UInt8)) (j : Nat) : List UInt8 := ps[j]?.getD []
/-- the numbers of the first j pieces -/
def vals (ps : List (List UInt8)) (j : Nat) : List Int := (List.range j).map (fun i => (rd (pat ps i)).getD 0)
theorem vals_len (ps : List (List UInt8)) (j : Nat) : (vals ps j).length = j := by simp [vals]
theorem vals_step (ps : List (List UInt8)) (j : Nat) : vals ps (j + 1) = vals ps j ++ [(rd (pat ps j)).getD 0] := by unfold vals; rw [List.range_succ, List.map_append]; rfl
def allrd (ps : List (List UInt8)) (n : Nat) : Bool := (List.range n).all (fun i => (rd (pat ps i)).isSome)
def noneT : List UInt8 := [110, 111, 110, 101]
/-- the list with a text -/
def rl (l : List UInt8) : Option (List Int) := if l = noneT then some [] else if (cutF [] l).length ≤ 64 ∧ allrd (cutF [] l) (cutF [] l).length = true then some (vals (cutF [] l) (cutF [] l).length) else none
theorem rl_none {l : List UInt8} (h : l = noneT) : rl l = some [] := by unfold rl; rw [if_pos h]
theorem rl_long {l : List UInt8} (h0 : ¬ l = noneT) (h : 64 < (cutF [] l).length) : rl l = none := by unfold rl; rw [if_neg h0, if_neg (by omega)]
theorem rl_bad {l : List UInt8} {j : Nat} (h0 : ¬ l = noneT) (hj : j < (cutF [] l).length) (h : rd (pat (cutF [] l) j) = none) : rl l = none := by
  unfold rl
  have : allrd (cutF [] l) (cutF [] l).length = false := by
    unfold allrd
    rw [List.all_eq_false]
    exact ⟨j, List.mem_range.2 hj, by rw [h]; simp⟩
  rw [if_neg h0, if_neg (by rw [this]; simp)]
theorem rl_ok {l : List UInt8} (h0 : ¬ l = noneT) (h1 : (cutF [] l).length ≤ 64) (h : ∀ j, j < (cutF [] l).length → (rd (pat (cutF [] l) j)).isSome = true) : rl l = some (vals (cutF [] l) (cutF [] l).length) := by
  unfold rl
  have : allrd (cutF [] l) (cutF [] l).length = true := by
    unfold allrd
    exact List.all_eq_true.2 fun j hj => h j (List.mem_range.1 hj)
  rw [if_neg h0, if_pos ⟨h1, this⟩]
theorem rl_le (l : List UInt8) : ((rl l).getD []).length ≤ 64 := by
  unfold rl
  split
  · simp
  · split
    · rename_i h
      simp [vals_len]; exact h.1
    · simp
end Go.Proofs.YtidfjjmhohkejaaDoor
