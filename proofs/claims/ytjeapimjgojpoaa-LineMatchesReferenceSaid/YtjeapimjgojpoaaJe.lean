/- Numbers as lists of binary digits: 'divisor': the plain laws. -/
import Derived.Test.YtjeapimjgojpoaaJd
set_option linter.unusedSimpArgs false
set_option linter.unusedVariables false
set_option maxRecDepth 100000
namespace Go.Proofs.Ytjeapimjgojpoaa
open Go.RowKit
namespace G

theorem gcd_half {m n : Nat} (h : m % 2 = 0) (hg : Nat.gcd m n % 2 = 1) : Nat.gcd (m / 2) n = Nat.gcd m n := by
  obtain ⟨k, rfl⟩ : ∃ k, m = 2 * k := ⟨m / 2, by omega⟩
  have hn : n % 2 = 1 := by
    rcases Nat.mod_two_eq_zero_or_one n with h2 | h2
    · have h3 : 2 ∣ Nat.gcd (2 * k) n := Nat.dvd_gcd ⟨k, rfl⟩ (Nat.dvd_of_mod_eq_zero h2)
      have := Nat.mod_eq_zero_of_dvd h3
      omega
    · exact h2
  have hc : Nat.Coprime 2 n := by
    unfold Nat.Coprime
    rw [Nat.gcd_rec, hn]
    rfl
  rw [show 2 * k / 2 = k by omega, Nat.Coprime.gcd_mul_left_cancel k hc]
theorem gcd_half2 {m n : Nat} (h : n % 2 = 0) (hg : Nat.gcd m n % 2 = 1) : Nat.gcd m (n / 2) = Nat.gcd m n := by
  rw [Nat.gcd_comm, Nat.gcd_comm m n]
  rw [Nat.gcd_comm] at hg
  exact gcd_half h hg
theorem gcd_both {m n : Nat} (h : m % 2 = 0) (h' : n % 2 = 0) : Nat.gcd m n = 2 * Nat.gcd (m / 2) (n / 2) := by
  obtain ⟨k, rfl⟩ : ∃ k, m = 2 * k := ⟨m / 2, by omega⟩
  obtain ⟨j, rfl⟩ : ∃ k, n = 2 * k := ⟨n / 2, by omega⟩
  rw [show 2 * k / 2 = k by omega, show 2 * j / 2 = j by omega, Nat.gcd_mul_left]
theorem gcd_odd {m n : Nat} (h : ¬ (m % 2 = 0 ∧ n % 2 = 0)) : Nat.gcd m n % 2 = 1 := by
  rcases Nat.mod_two_eq_zero_or_one (Nat.gcd m n) with h2 | h2
  · have h3 := Nat.dvd_of_mod_eq_zero h2
    exact absurd ⟨Nat.mod_eq_zero_of_dvd (Nat.dvd_trans h3 (Nat.gcd_dvd_left m n)), Nat.mod_eq_zero_of_dvd (Nat.dvd_trans h3 (Nat.gcd_dvd_right m n))⟩ h
  · exact h2
theorem gcd_minus {m n : Nat} (h : m ≤ n) : Nat.gcd m (n - m) = Nat.gcd m n := Nat.gcd_sub_self_right h
theorem gcd_minus2 {m n : Nat} (h : n ≤ m) : Nat.gcd (m - n) n = Nat.gcd m n := Nat.gcd_sub_self_left h
theorem bits_shift {g : Nat} (hg : g ≠ 0) : ∀ t, (bitsOf (2 ^ t * g)).length = t + (bitsOf g).length
  | 0 => by simp
  | t + 1 => by
    have h0 : 2 ^ (t + 1) * g ≠ 0 := Nat.mul_ne_zero (by simp) hg
    have h1 : 2 ^ (t + 1) * g / 2 = 2 ^ t * g := by
      rw [Nat.pow_succ, Nat.mul_right_comm, Nat.mul_div_cancel _ (by omega)]
    rw [bits_pos h0, h1, List.length_cons, bits_shift hg t]; omega
theorem bits_dg0 {n : Nat} (h : n ≠ 0) : dg (bitsOf n) 0 = n % 2 := by rw [bits_pos h]; rfl
theorem bits_len_pos {n : Nat} (h : n ≠ 0) : (bitsOf n).length = (bitsOf (n / 2)).length + 1 := by rw [bits_pos h]; rfl
theorem DigAt.tail {w : World} {b off c n : Nat} (h : DigAt w (some ⟨b, off, none⟩) c (bitsOf n)) (hn : n ≠ 0) : DigAt w (if c = 1 then some ⟨b, off, none⟩ else some ⟨b, off + 1, none⟩) (c - 1) (bitsOf (n / 2)) := by
  have hl := bits_len_pos hn
  have hc := h.cap
  have hm := h.most
  refine ⟨fun i hi => ?_, by omega, by omega, fun e => by split at e <;> cases e⟩
  obtain ⟨b', off', e, hb, c0⟩ := h.cells (i + 1) (by omega)
  injection e with e
  injection e with e1 e2
  subst e1 e2
  rw [if_neg (by omega)]
  refine ⟨b, off + 1, rfl, hb, ?_⟩
  rw [show off + 1 + i = off + (i + 1) by omega, c0]
  rw [bits_pos hn]
  rfl

end G
end Go.Proofs.Ytjeapimjgojpoaa
