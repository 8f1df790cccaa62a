/- Numbers as lists of binary digits: the plain laws. -/
import Derived.Test.YtjeapimjgojpoaaIa
set_option linter.unusedSimpArgs false
set_option linter.unusedVariables false
set_option maxRecDepth 100000
namespace Go.Proofs.Ytjeapimjgojpoaa
open Go.RowKit
namespace G

/-- The binary digits, the least one first. -/
def bitsOf (n : Nat) : List Nat := if h : n = 0 then [] else n % 2 :: bitsOf (n / 2)
termination_by n
decreasing_by omega
def valD : List Nat → Nat
  | [] => 0
  | d :: l => d + 2 * valD l
def allD (l : List Nat) : Prop := ∀ d ∈ l, d ≤ 1
theorem bits_zero : bitsOf 0 = [] := by rw [bitsOf]; simp
theorem bits_pos {n : Nat} (h : n ≠ 0) : bitsOf n = n % 2 :: bitsOf (n / 2) := by rw [bitsOf]; simp [h]
theorem val_bits (n : Nat) : valD (bitsOf n) = n := by
  induction n using Nat.strongRecOn with
  | _ n ih =>
    by_cases h : n = 0
    · subst h; rw [bits_zero]; rfl
    · rw [bits_pos h]
      show n % 2 + 2 * valD (bitsOf (n / 2)) = n
      rw [ih (n / 2) (by omega)]; omega
theorem all_bits (n : Nat) : allD (bitsOf n) := by
  induction n using Nat.strongRecOn with
  | _ n ih =>
    by_cases h : n = 0
    · subst h; rw [bits_zero]; intro d hd; simp at hd
    · rw [bits_pos h]
      intro d hd
      rcases List.mem_cons.1 hd with hd | hd
      · omega
      · exact ih (n / 2) (by omega) d hd
theorem val_lt {l : List Nat} (h : allD l) : valD l < 2 ^ l.length := by
  induction l with
  | nil => simp [valD]
  | cons d l ih =>
    have h1 := ih (fun x hx => h x (List.mem_cons_of_mem _ hx))
    have h2 := h d (List.mem_cons_self ..)
    simp only [valD, List.length_cons, Nat.pow_succ]
    omega
theorem bits_len_lo {n : Nat} (h : n ≠ 0) : 2 ^ ((bitsOf n).length - 1) ≤ n := by
  induction n using Nat.strongRecOn with
  | _ n ih =>
    rw [bits_pos h]
    simp only [List.length_cons, Nat.add_sub_cancel]
    by_cases h2 : n / 2 = 0
    · rw [h2, bits_zero]; simp; omega
    · have h3 := ih (n / 2) (by omega) h2
      have h4 : 0 < (bitsOf (n / 2)).length := by rw [bits_pos h2]; simp
      obtain ⟨k, hk⟩ : ∃ k, (bitsOf (n / 2)).length = k + 1 := ⟨_, (Nat.succ_pred_eq_of_pos h4).symm⟩
      rw [hk] at h3 ⊢
      simp only [Nat.add_sub_cancel] at h3
      rw [Nat.pow_succ]; omega
theorem bits_len_le {n k : Nat} (h : n < 2 ^ k) : (bitsOf n).length ≤ k := by
  by_cases h0 : n = 0
  · subst h0; rw [bits_zero]; simp
  · have h1 := bits_len_lo h0
    rcases Nat.lt_or_ge k (bitsOf n).length with h2 | h2
    · have := Nat.pow_le_pow_right (n := 2) (by omega) (show k ≤ (bitsOf n).length - 1 by omega)
      omega
    · exact h2
theorem bits_len_zero {n : Nat} : (bitsOf n).length = 0 ↔ n = 0 := by
  constructor
  · intro h
    by_cases h0 : n = 0
    · exact h0
    · rw [bits_pos h0] at h; simp at h
  · intro h; subst h; rw [bits_zero]; rfl
theorem bits_len_one {n : Nat} : (bitsOf n).length = 1 ↔ n = 1 := by
  constructor
  · intro h
    by_cases h0 : n = 0
    · subst h0; rw [bits_zero] at h; simp at h
    · rw [bits_pos h0] at h
      simp only [List.length_cons, Nat.add_eq_right] at h
      have := bits_len_zero.1 h
      omega
  · intro h; subst h; rw [bits_pos (by omega), show 1 / 2 = 0 by rfl, bits_zero]; rfl
/-- The value from a place on. -/
theorem val_split (l : List Nat) (i : Nat) : valD l = valD (l.take i) + 2 ^ i * valD (l.drop i) := by
  induction l generalizing i with
  | nil => simp [valD]
  | cons d l ih =>
    cases i with
    | zero => simp [valD]
    | succ i =>
      simp only [List.take_succ_cons, List.drop_succ_cons, valD, Nat.pow_succ]
      have h1 := ih i
      have h2 : 2 ^ i * 2 * valD (l.drop i) = 2 * (2 ^ i * valD (l.drop i)) := by rw [Nat.mul_comm (2 ^ i) 2, Nat.mul_assoc]
      omega
theorem all_take {l : List Nat} (h : allD l) (i : Nat) : allD (l.take i) := fun d hd => h d (List.mem_of_mem_take hd)
theorem val_less {a b : List Nat} (ha : allD a) {i : Nat} (hi : i < a.length) (hi' : i < b.length) (hab : a.drop (i + 1) = b.drop (i + 1)) (h : a[i] < b[i]) : valD a < valD b := by
  have e1 := val_split a i
  have e2 := val_split b i
  have h1 := val_lt (all_take ha i)
  have h2 : (a.take i).length ≤ i := by simp; omega
  have h3 := Nat.pow_le_pow_right (n := 2) (by omega) h2
  rw [List.drop_eq_getElem_cons hi] at e1
  rw [List.drop_eq_getElem_cons hi', ← hab] at e2
  simp only [valD] at e1 e2
  have h4 : 2 ^ i * (a[i] + 1 + 2 * valD (a.drop (i + 1))) ≤ 2 ^ i * (b[i] + 2 * valD (a.drop (i + 1))) := Nat.mul_le_mul_left _ (by omega)
  have h5 : 2 ^ i * (a[i] + 1 + 2 * valD (a.drop (i + 1))) = 2 ^ i * (a[i] + 2 * valD (a.drop (i + 1))) + 2 ^ i := by
    rw [show a[i] + 1 + 2 * valD (a.drop (i + 1)) = (a[i] + 2 * valD (a.drop (i + 1))) + 1 by omega, Nat.mul_add, Nat.mul_one]
  omega
theorem bits_less {m n : Nat} (h : (bitsOf m).length < (bitsOf n).length) : m < n := by
  have h0 : n ≠ 0 := fun e => by subst e; rw [bits_zero] at h; simp at h
  have h1 := bits_len_lo h0
  have h2 := val_lt (all_bits m)
  rw [val_bits] at h2
  have := Nat.pow_le_pow_right (n := 2) (by omega) (show (bitsOf m).length ≤ (bitsOf n).length - 1 by omega)
  omega
/-- The digits without the zeros at the end. -/
def trimN (l : List Nat) : Nat → Nat
  | 0 => 0
  | k + 1 => if l[k]?.getD 0 = 0 then trimN l k else k + 1
theorem bits_of_val {l : List Nat} (h : allD l) (hl : ∀ (h0 : l ≠ []), l.getLast h0 ≠ 0) : bitsOf (valD l) = l := by
  induction l with
  | nil => exact bits_zero
  | cons d l ih =>
    have h2 := h d (List.mem_cons_self ..)
    have h3 : allD l := fun x hx => h x (List.mem_cons_of_mem _ hx)
    by_cases hn : l = []
    · subst hn
      have := hl (by simp)
      simp only [List.getLast_singleton] at this
      obtain rfl : d = 1 := by omega
      show bitsOf 1 = [1]
      rw [bits_pos (by omega), show 1 / 2 = 0 by rfl, bits_zero]
    · have h4 := ih h3 (fun h0 => by have := hl (by simp); rwa [List.getLast_cons h0] at this)
      have h5 : valD l ≠ 0 := fun e => by rw [e, bits_zero] at h4; exact hn h4.symm
      show bitsOf (d + 2 * valD l) = d :: l
      rw [bits_pos (by omega), show (d + 2 * valD l) % 2 = d by omega, show (d + 2 * valD l) / 2 = valD l by omega, h4]

end G
end Go.Proofs.Ytjeapimjgojpoaa
