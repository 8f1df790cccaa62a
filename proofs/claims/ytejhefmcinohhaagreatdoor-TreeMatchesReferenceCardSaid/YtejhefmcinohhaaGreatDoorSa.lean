/- Digests: plain laws. -/
import Derived.WalkKit
set_option linter.unusedSimpArgs false
set_option linter.unusedVariables false
set_option maxRecDepth 100000
namespace Go.Proofs.YtejhefmcinohhaaGreatDoor
namespace S

/-! Mixing. -/
def mixA (x : Nat) : Nat := (x ^^^ (x / 2147483648)) * 11400714819323198485 % 18446744073709551616
def mixB (x : Nat) : Nat := (x ^^^ (x / 134217728)) * 15074714826142052245 % 18446744073709551616
def mixN (x : Nat) : Nat := mixB (mixA x) ^^^ (mixB (mixA x) / 8589934592)
theorem xor_lt {a b : Nat} (ha : a < 18446744073709551616) (hb : b < 18446744073709551616) : a ^^^ b < 18446744073709551616 := Nat.xor_lt_two_pow (n := 64) ha hb
theorem div_lt' {a k : Nat} (ha : a < 18446744073709551616) : a / k < 18446744073709551616 := Nat.lt_of_le_of_lt (Nat.div_le_self _ _) ha
theorem mixA_lt (x : Nat) : mixA x < 18446744073709551616 := Nat.mod_lt _ (by omega)
theorem mixB_lt (x : Nat) : mixB x < 18446744073709551616 := Nat.mod_lt _ (by omega)
theorem mixN_lt (x : Nat) : mixN x < 18446744073709551616 := xor_lt (mixB_lt _) (div_lt' (mixB_lt _))
theorem shift_inj (k : Nat) (hk : 0 < k) {x y : Nat} (h : x ^^^ (x / 2 ^ k) = y ^^^ (y / 2 ^ k)) : x = y := by
  rw [← Nat.shiftRight_eq_div_pow, ← Nat.shiftRight_eq_div_pow] at h
  have hz : (x ^^^ y) = (x ^^^ y) >>> k := by
    rw [Nat.shiftRight_xor_distrib]
    have h2 : (x ^^^ x >>> k) ^^^ (y ^^^ x >>> k) = (y ^^^ y >>> k) ^^^ (y ^^^ x >>> k) := by rw [h]
    have e1 : (x ^^^ x >>> k) ^^^ (y ^^^ x >>> k) = x ^^^ y := by
      rw [Nat.xor_comm y, Nat.xor_assoc, ← Nat.xor_assoc (x >>> k), Nat.xor_self, Nat.zero_xor]
    have e2 : (y ^^^ y >>> k) ^^^ (y ^^^ x >>> k) = x >>> k ^^^ y >>> k := by
      rw [Nat.xor_comm y (y >>> k), Nat.xor_assoc, ← Nat.xor_assoc y, Nat.xor_self, Nat.zero_xor, Nat.xor_comm]
    rw [← e1, h2, e2]
  have h0 : x ^^^ y = 0 := by
    rw [Nat.shiftRight_eq_div_pow] at hz
    generalize x ^^^ y = z at hz
    rcases Nat.eq_zero_or_pos z with h | h
    · exact h
    · have : z / 2 ^ k < z := Nat.div_lt_self h (Nat.one_lt_two_pow (by omega))
      omega
  have h3 : (x ^^^ y) ^^^ y = 0 ^^^ y := by rw [h0]
  rwa [Nat.xor_assoc, Nat.xor_self, Nat.xor_zero, Nat.zero_xor] at h3
theorem mul_inj {c i x y : Nat} (hc : c * i % 18446744073709551616 = 1) (hx : x < 18446744073709551616) (hy : y < 18446744073709551616) (h : x * c % 18446744073709551616 = y * c % 18446744073709551616) : x = y := by
  have back (z : Nat) (hz : z < 18446744073709551616) : (z * c % 18446744073709551616) * i % 18446744073709551616 = z := by
    rw [Nat.mod_mul_mod, Nat.mul_assoc, Nat.mul_mod, hc, Nat.mul_one, Nat.mod_mod, Nat.mod_eq_of_lt hz]
  rw [← back x hx, ← back y hy, h]
theorem mul1 : 11400714819323198485 * 17428512612931826493 % 18446744073709551616 = 1 := by decide +kernel
theorem mul2 : 15074714826142052245 * 6281218453581128637 % 18446744073709551616 = 1 := by decide +kernel
theorem p31 : 2147483648 = 2 ^ 31 := by decide +kernel
theorem p27 : 134217728 = 2 ^ 27 := by decide +kernel
theorem p33 : 8589934592 = 2 ^ 33 := by decide +kernel
theorem shift_inj' (p k : Nat) (hk : 0 < k) (hp : p = 2 ^ k) {x y : Nat} (h : x ^^^ (x / p) = y ^^^ (y / p)) : x = y := by
  subst hp; exact shift_inj k hk h
theorem mulp_inj (c i p k : Nat) (hc : c * i % 18446744073709551616 = 1) (hk : 0 < k) (hp : p = 2 ^ k) {x y : Nat} (hx : x < 18446744073709551616) (hy : y < 18446744073709551616)
    (h : (x ^^^ (x / p)) * c % 18446744073709551616 = (y ^^^ (y / p)) * c % 18446744073709551616) : x = y :=
  shift_inj' p k hk hp (mul_inj hc (xor_lt hx (div_lt' hx)) (xor_lt hy (div_lt' hy)) h)
theorem mixA_inj {x y : Nat} (hx : x < 18446744073709551616) (hy : y < 18446744073709551616) (h : mixA x = mixA y) : x = y :=
  mulp_inj _ _ _ 31 mul1 (by omega) p31 hx hy h
theorem mixB_inj {x y : Nat} (hx : x < 18446744073709551616) (hy : y < 18446744073709551616) (h : mixB x = mixB y) : x = y :=
  mulp_inj _ _ _ 27 mul2 (by omega) p27 hx hy h
theorem mixN_inj {x y : Nat} (hx : x < 18446744073709551616) (hy : y < 18446744073709551616) (h : mixN x = mixN y) : x = y :=
  mixA_inj hx hy (mixB_inj (mixA_lt _) (mixA_lt _) (shift_inj' _ 33 (by omega) p33 h))

/-! The state. -/
/-- The first k of eight bytes as a number. -/
def bl (B : Nat → Nat) : Nat → Nat
  | 0 => 0
  | k + 1 => bl B k * 256 + B k
theorem bl_lt (B : Nat → Nat) (hB : ∀ i, B i < 256) : ∀ k, bl B k < 256 ^ k
  | 0 => by simp [bl]
  | k + 1 => by
    have h1 := bl_lt B hB k
    have h2 := hB k
    simp only [bl, Nat.pow_succ]
    omega
theorem bl_inj (B C : Nat → Nat) (hB : ∀ i, B i < 256) (hC : ∀ i, C i < 256) : ∀ k, bl B k = bl C k → ∀ i, i < k → B i = C i
  | 0, _, i, hi => by omega
  | k + 1, h, i, hi => by
    simp only [bl] at h
    have h1 := hB k
    have h2 := hC k
    rcases (by omega : i < k ∨ i = k) with h3 | h3
    · exact bl_inj B C hB hC k (by omega) i h3
    · subst h3; omega
theorem bl_congr (B C : Nat → Nat) : ∀ k, (∀ i, i < k → B i = C i) → bl B k = bl C k
  | 0, _ => rfl
  | k + 1, h => by
    simp only [bl]
    rw [bl_congr B C k (fun i hi => h i (by omega)), h k (by omega)]
abbrev Tx := List UInt8
def byt (l : Tx) (i : Nat) : Nat := (l[i]?.getD 0).toNat
theorem byt_lt (l : Tx) (i : Nat) : byt l i < 256 := UInt8.toNat_lt _
/-- The block from a place on. -/
def blkN (l : Tx) (f : Nat) : Nat := bl (fun i => byt l (f + i)) 8
theorem blkN_lt (l : Tx) (f : Nat) : blkN l f < 18446744073709551616 := bl_lt _ (fun i => byt_lt l _) 8
/-- The state after j blocks. -/
def st (l : Tx) : Nat → Nat
  | 0 => 7640891576956012809 ^^^ l.length
  | j + 1 => mixN (st l j ^^^ blkN l (8 * j))
theorem st_lt (l : Tx) (hl : l.length < 18446744073709551616) : ∀ j, st l j < 18446744073709551616
  | 0 => xor_lt (by omega) hl
  | j + 1 => mixN_lt _
def sumN (l : Tx) : Nat := st l (l.length / 8 + 1)
theorem sumN_lt (l : Tx) : sumN l < 18446744073709551616 := mixN_lt _

/-! The text. -/
def hexd (d : Nat) : UInt8 := if d < 10 then UInt8.ofNat (48 + d) else UInt8.ofNat (87 + d)
/-- The k last hexadecimal digits of a number. -/
def hexs : Nat → Nat → Tx
  | 0, _ => []
  | k + 1, n => hexs k (n / 16) ++ [hexd (n % 16)]
theorem hexs_len : ∀ k n, (hexs k n).length = k
  | 0, _ => rfl
  | k + 1, n => by simp [hexs, hexs_len k]
theorem hexd_inj : ∀ a, a < 16 → ∀ b, b < 16 → hexd a = hexd b → a = b := by decide +kernel
theorem hexs_inj : ∀ k m n, m < 16 ^ k → n < 16 ^ k → hexs k m = hexs k n → m = n
  | 0, m, n, hm, hn, _ => by simp at hm hn; omega
  | k + 1, m, n, hm, hn, h => by
    simp only [hexs] at h
    obtain ⟨h1, h2⟩ := List.append_inj' h rfl
    have h3 := hexs_inj k (m / 16) (n / 16) (by rw [Nat.pow_succ] at hm; omega) (by rw [Nat.pow_succ] at hn; omega) h1
    have h4 := hexd_inj (m % 16) (by omega) (n % 16) (by omega) (by simpa using h2)
    omega
def sumL (l : Tx) : Tx := hexs 16 (sumN l)
theorem sumL_len (l : Tx) : (sumL l).length = 16 := hexs_len _ _
theorem sumL_eq {a b : Tx} (h : sumL a = sumL b) : sumN a = sumN b := hexs_inj 16 _ _ (sumN_lt a) (sumN_lt b) h
/-- The chain. -/
def chn (l : Tx) : Nat → Tx
  | 0 => l
  | k + 1 => sumL (chn l k)
theorem chn_add (l : Tx) (a b : Nat) : chn (chn l a) b = chn l (a + b) := by
  induction b with
  | zero => rfl
  | succ b ih => exact congrArg sumL ih
/-- A digest. -/
def digB (c : UInt8) : Bool := (48 ≤ c && c ≤ 57) || (97 ≤ c && c ≤ 102)
def isD (l : Tx) : Bool := decide (l.length = 16) && l.all digB
theorem hexd_dig : ∀ d, d < 16 → digB (hexd d) = true := by decide +kernel
theorem hexs_dig : ∀ k n, (hexs k n).all digB = true
  | 0, _ => rfl
  | k + 1, n => by
    simp only [hexs, List.all_append, hexs_dig k, Bool.true_and, List.all_cons, List.all_nil, Bool.and_true]
    exact hexd_dig _ (by omega)
theorem isD_sum (l : Tx) : isD (sumL l) = true := by
  unfold isD; rw [sumL_len]; simp [sumL, hexs_dig]
theorem isD_chn (l : Tx) (k : Nat) : isD (chn l (k + 1)) = true := isD_sum _

/-- Decimal digits. -/
def decs : Nat → Nat → Tx
  | 0, _ => []
  | f + 1, n => (if n < 10 then [] else decs f (n / 10)) ++ [UInt8.ofNat (48 + n % 10)]
def dec (n : Nat) : Tx := decs 20 n
def joinT : List Tx → Tx
  | [] => []
  | t :: r => dec t.length ++ [58] ++ t ++ joinT r
def listL (l : List Tx) : Tx := sumL (joinT l)

/-- The examples of the chapter. -/
theorem head_plain : isD [48,49,50,51,52,53,54,55,56,57,97,98,99,100,101,102] = true ∧ isD [48,49,50,51,52,53,54,55,56,57,97,98,99,100,101,70] = false ∧ isD [] = false ∧
    joinT [[97], [98, 99]] = [49, 58, 97, 50, 58, 98, 99] ∧ (sumL [] == sumL [0]) = false ∧ (sumL [1] == sumL []) = false := by decide +kernel

end S
end Go.Proofs.YtejhefmcinohhaaGreatDoor
