/- Which texts are decimal numbers, in plain Lean: the reference's reading and Go's. -/
import Derived.Test.YtidfjjmhohkejaaDoorLText
import Derived.Lib.ParseIntB
namespace Go.Proofs.YtidfjjmhohkejaaDoor
open Go.Lib
/-- one byte more is read: digits count, others are passed over -/
def dgf (acc : Nat) (b : UInt8) : Nat := if 48 ≤ b.toNat ∧ b.toNat ≤ 57 then 10 * acc + (b.toNat - 48) else acc
def dgv (l : List UInt8) : Nat := l.foldl dgf 0
theorem dgv_snoc (l : List UInt8) (b : UInt8) : dgv (l ++ [b]) = dgf (dgv l) b := by unfold dgv; rw [List.foldl_append]; rfl
theorem dgf_ge (acc : Nat) (b : UInt8) : acc ≤ dgf acc b := by unfold dgf; split <;> omega
theorem fold_ge (l : List UInt8) : ∀ acc, acc ≤ l.foldl dgf acc := by
  induction l with
  | nil => intro acc; exact Nat.le_refl _
  | cons b l ih => intro acc; exact Nat.le_trans (dgf_ge acc b) (ih _)
theorem fold_lt (l : List UInt8) : ∀ acc, l.foldl dgf acc < (acc + 1) * 10 ^ l.length := by
  induction l with
  | nil => intro acc; simp
  | cons b l ih =>
    intro acc
    refine Nat.lt_of_lt_of_le (ih (dgf acc b)) ?_
    rw [List.length_cons, Nat.pow_succ, Nat.mul_comm (10 ^ l.length) 10, ← Nat.mul_assoc]
    refine Nat.mul_le_mul_right _ ?_
    unfold dgf
    split <;> omega
theorem dgv_lt (l : List UInt8) : dgv l < 10 ^ l.length := by have := fold_lt l 0; simpa [dgv] using this
theorem digit_toNat {d : Nat} (h : d < 10) : (UInt8.ofNat (48 + d)).toNat = 48 + d := by
  show (48 + d) % 256 = 48 + d
  omega
theorem dgf_digit (acc : Nat) {d : Nat} (h : d < 10) : dgf acc (UInt8.ofNat (48 + d)) = 10 * acc + d := by
  unfold dgf
  rw [digit_toNat h, if_pos (by omega)]
  omega
theorem dgv_dec : ∀ m, dgv (decDigits m) = m := by
  intro m
  induction m using Nat.strongRecOn with
  | ind m ih =>
    rw [decDigits]
    split
    · rename_i h
      show dgf 0 (UInt8.ofNat (48 + m)) = m
      rw [dgf_digit 0 h]; omega
    · rename_i h
      rw [dgv_snoc, ih (m / 10) (by omega), dgf_digit _ (Nat.mod_lt _ (by omega))]
      omega
theorem dec_digits : ∀ m, ∀ b ∈ decDigits m, 48 ≤ b.toNat ∧ b.toNat ≤ 57 := by
  intro m
  induction m using Nat.strongRecOn with
  | ind m ih =>
    rw [decDigits]
    split
    · rename_i h
      intro b hb
      simp only [List.mem_cons, List.not_mem_nil, or_false] at hb
      subst hb
      rw [digit_toNat h]; omega
    · rename_i h
      intro b hb
      rcases List.mem_append.1 hb with hb | hb
      · exact ih (m / 10) (by omega) b hb
      · simp only [List.mem_cons, List.not_mem_nil, or_false] at hb
        subst hb
        have := Nat.mod_lt m (show 0 < 10 by omega)
        rw [digit_toNat this]; omega
theorem dec_ne (m : Nat) : decDigits m ≠ [] := by
  rw [decDigits]; split <;> simp
theorem dec_len : ∀ k m, m < 10 ^ (k + 1) → (decDigits m).length ≤ k + 1 := by
  intro k
  induction k with
  | zero => intro m hm; rw [decDigits, dif_pos (by simpa using hm)]; simp
  | succ k ih =>
    intro m hm
    rw [decDigits]
    split
    · simp
    · rw [List.length_append]
      have := ih (m / 10) (by rw [Nat.div_lt_iff_lt_mul (by omega)]; rw [Nat.pow_succ] at hm; exact hm)
      simp only [List.length_cons, List.length_nil]
      omega
theorem parse_digits (M : Nat) : ∀ (l : List UInt8) (acc : Nat), (∀ b ∈ l, 48 ≤ b.toNat ∧ b.toNat ≤ 57) → l.foldl dgf acc ≤ M → l.foldl dgf acc < 1844674407370955162 → parseUintM M acc l = .ok (l.foldl dgf acc) := by
  intro l
  induction l with
  | nil => intro acc _ _ _; rfl
  | cons b l ih =>
    intro acc hb hM hm
    have h1 := hb b (List.mem_cons_self ..)
    have e : dgf acc b = acc * 10 + (b.toNat - 48) := by unfold dgf; rw [if_pos h1]; omega
    have h2 := fold_ge l (dgf acc b)
    have h3 := dgf_ge acc b
    simp only [List.foldl_cons] at hM hm ⊢
    unfold parseUintM
    rw [if_pos h1, if_neg (by omega), if_neg (by rw [← e]; omega), ← e]
    exact ih _ (fun x hx => hb x (List.mem_cons_of_mem _ hx)) hM hm
theorem okv_nat {n : Int} (h : okv n = true) : n.natAbs ≤ 1000000000000000 := by have := okv_yes h; omega
theorem parseU_dec {m : Nat} (h : m ≤ 1000000000000000) : parseUintB 64 (decDigits m) = .ok m := by
  unfold parseUintB
  rw [if_neg (dec_ne m)]
  have e : (decDigits m).foldl dgf 0 = m := dgv_dec m
  have := parse_digits (2 ^ 64 - 1) (decDigits m) 0 (dec_digits m) (by rw [e]; omega) (by rw [e]; omega)
  rw [e] at this
  exact this
theorem parse_itoa {n : Int} (h : okv n = true) : parseIntB 64 (itoa n) = .ok n := by
  have hr := okv_yes h
  unfold itoa
  by_cases hn : n < 0
  · rw [if_pos hn]
    have hp := parseU_dec (m := n.natAbs) (by omega)
    have e45 : (45 : UInt8).toNat = 45 := rfl
    unfold parseIntB
    simp only [e45, or_true, if_true, hp]
    rw [if_neg (by simp), if_neg (by omega)]
    congr 1
    omega
  · rw [if_neg hn]
    have hp := parseU_dec (m := n.toNat) (by omega)
    have hd := dec_digits n.toNat
    have hne := dec_ne n.toNat
    cases hl : decDigits n.toNat with
    | nil => exact absurd hl hne
    | cons c r =>
      rw [hl] at hp hd
      have hc := hd c (List.mem_cons_self ..)
      unfold parseIntB
      simp only
      rw [if_neg (show ¬ (c.toNat = 43 ∨ c.toNat = 45) by omega), hp]
      simp only
      rw [if_neg (by omega), if_neg (by omega), if_neg (by omega)]
      congr 1
      omega
theorem itoa_len {n : Int} (h : okv n = true) : 1 ≤ (itoa n).length ∧ (itoa n).length ≤ 17 := by
  have hr := okv_yes h
  have hlow : ∀ m, 1 ≤ (decDigits m).length := fun m => by
    have := dec_ne m
    cases hl : decDigits m with
    | nil => exact absurd hl this
    | cons c r => simp
  have hup : ∀ m, m ≤ 1000000000000000 → (decDigits m).length ≤ 16 := fun m hm => dec_len 15 m (by omega)
  unfold itoa
  split
  · have := hup n.natAbs (by omega)
    simp only [List.length_cons]
    omega
  · exact ⟨hlow _, Nat.le_trans (hup _ (by omega)) (by omega)⟩
/-- what the reference reads: the digits' number, its sign -/
def sg (l : List UInt8) : Int := if l.head?.map (·.toNat) = some 45 then -(dgv l : Int) else (dgv l : Int)
theorem sg_itoa (n : Int) : sg (itoa n) = n := by
  unfold itoa
  by_cases hn : n < 0
  · rw [if_pos hn]
    have e : dgv (45 :: decDigits n.natAbs) = n.natAbs := by
      show (decDigits n.natAbs).foldl dgf (dgf 0 45) = _
      rw [show dgf 0 45 = 0 by rfl]
      exact dgv_dec _
    unfold sg
    rw [if_pos (by rfl), e]
    omega
  · rw [if_neg hn]
    have hd := dec_digits n.toNat
    unfold sg
    rw [dgv_dec, if_neg]
    · omega
    · intro h
      cases hl : decDigits n.toNat with
      | nil => exact absurd hl (dec_ne _)
      | cons c r =>
        rw [hl] at h hd
        have hc := hd c (List.mem_cons_self ..)
        simp at h
        omega
/-- the number with a text -/
def rd (l : List UInt8) : Option Int := if (1 ≤ l.length ∧ l.length ≤ 17) ∧ okv (sg l) = true ∧ itoa (sg l) = l then some (sg l) else none
theorem rd_itoa {n : Int} (h : okv n = true) : rd (itoa n) = some n := by
  unfold rd
  rw [sg_itoa, if_pos ⟨itoa_len h, h, rfl⟩]
theorem rd_some {l : List UInt8} {n : Int} (h : rd l = some n) : okv n = true ∧ itoa n = l := by
  unfold rd at h
  split at h
  · rename_i hc
    injection h with h
    subst h
    exact hc.2
  · cases h
/-- the program's reading -/
theorem rd_parse_yes {l : List UInt8} {v : Int} (_hp : parseIntB 64 l = .ok v) (ho : okv v = true) (he : itoa v = l) : rd l = some v := by rw [← he]; exact rd_itoa ho
theorem rd_parse_no {l : List UInt8} {v : Int} (hp : parseIntB 64 l = .ok v) (h : okv v = false ∨ itoa v ≠ l) : rd l = none := by
  cases hr : rd l with
  | none => rfl
  | some n =>
    obtain ⟨h1, h2⟩ := rd_some hr
    have := parse_itoa h1
    rw [h2, hp] at this
    injection this with this
    subst this
    rcases h with h | h
    · rw [h1] at h; cases h
    · exact absurd h2 h
theorem rd_parse_err {l : List UInt8} (hp : ∀ v, parseIntB 64 l ≠ .ok v) : rd l = none := by
  cases hr : rd l with
  | none => rfl
  | some n =>
    obtain ⟨h1, h2⟩ := rd_some hr
    have := parse_itoa h1
    rw [h2] at this
    exact absurd this (hp n)
end Go.Proofs.YtidfjjmhohkejaaDoor
