/- Digests: plain laws. -/
import Derived.WalkKit
set_option linter.unusedSimpArgs false
set_option linter.unusedVariables false
set_option maxRecDepth 100000
namespace Go.Proofs.YthdjdlndfkemiaaGreatDoor
namespace S

/-! Mixing. -/
def mixA (x : Nat) : Nat := (x ^^^ (x / 2147483648)) * 11400714819323198485 % 18446744073709551616
def mixB (x : Nat) : Nat := (x ^^^ (x / 134217728)) * 15074714826142052245 % 18446744073709551616
def mixN (x : Nat) : Nat := mixB (mixA x) ^^^ (mixB (mixA x) / 8589934592)
theorem xor_lt {a b : Nat} (ha : a < 18446744073709551616) (hb : b < 18446744073709551616) : a ^^^ b < 18446744073709551616 := Nat.xor_lt_two_pow (n := 64) ha hb
theorem div_lt' {a k : Nat} (ha : a < 18446744073709551616) : a / k < 18446744073709551616 := Nat.lt_of_le_of_lt (Nat.div_le_self _ _) ha
theorem mixA_lt (x : Nat) : mixA x < 18446744073709551616 := Nat.mod_lt _ (by omega)
theorem mixB_lt (x : Nat) : mixB x < 18446744073709551616 := Nat.mod_lt _ (by omega)
theorem mixN_lt (x : Nat) : mixN x < 18446744073709551616 := xor_lt (mixB_lt _) (div_lt' (mixB_lt _))
theorem shift_inj (k : Nat) (hk : 0 < k) {x y : Nat} (h : x ^^^ (x / 2 ^ k) = y ^^^ (y / 2 ^ k)) : x = y := by
  rw [← Nat.shiftRight_eq_div_pow, ← Nat.shiftRight_eq_div_pow] at h
  have hz : (x ^^^ y) = (x ^^^ y) >>> k := by
    rw [Nat.shiftRight_xor_distrib]
    have h2 : (x ^^^ x >>> k) ^^^ (y ^^^ x >>> k) = (y ^^^ y >>> k) ^^^ (y ^^^ x >>> k) := by rw [h]
    have e1 : (x ^^^ x >>> k) ^^^ (y ^^^ x >>> k) = x ^^^ y := by
      rw [Nat.xor_comm y, Nat.xor_assoc, ← Nat.xor_assoc (x >>> k), Nat.xor_self, Nat.zero_xor]
    have e2 : (y ^^^ y >>> k) ^^^ (y ^^^ x >>> k) = x >>> k ^^^ y >>> k := by
      rw [Nat.xor_comm y (y >>> k), Nat.xor_assoc, ← Nat.xor_assoc y, Nat.xor_self, Nat.zero_xor, Nat.xor_comm]
    rw [← e1, h2, e2]
  have h0 : x ^^^ y = 0 := by
    rw [Nat.shiftRight_eq_div_pow] at hz
    generalize x ^^^ y = z at hz
    rcases Nat.eq_zero_or_pos z with h | h
    · exact h
    · have : z / 2 ^ k < z := Nat.div_lt_self h (Nat.one_lt_two_pow (by omega))
      omega
  have h3 : (x ^^^ y) ^^^ y = 0 ^^^ y := by rw [h0]
  rwa [Nat.xor_assoc, Nat.xor_self, Nat.xor_zero, Nat.zero_xor] at h3
theorem mul_inj {c i x y : Nat} (hc : c * i % 18446744073709551616 = 1) (hx : x < 18446744073709551616) (hy : y < 18446744073709551616) (h : x * c % 18446744073709551616 = y * c % 18446744073709551616) : x = y := by
  have back (z : Nat) (hz : z < 18446744073709551616) : (z * c % 18446744073709551616) * i % 18446744073709551616 = z := by
    rw [Nat.mod_mul_mod, Nat.mul_assoc, Nat.mul_mod, hc, Nat.mul_one, Nat.mod_mod, Nat.mod_eq_of_lt hz]
  rw [← back x hx, ← back y hy, h]
theorem mul1 : 11400714819323198485 * 17428512612931826493 % 18446744073709551616 = 1 := by decide +kernel
theorem mul2 : 15074714826142052245 * 6281218453581128637 % 18446744073709551616 = 1 := by decide +kernel
theorem p31 : 2147483648 = 2 ^ 31 := by decide +kernel
theorem p27 : 134217728 = 2 ^ 27 := by decide +kernel
theorem p33 : 8589934592 = 2 ^ 33 := by decide +kernel
theorem shift_inj' (p k : Nat) (hk : 0 < k) (hp : p = 2 ^ k) {x y : Nat} (h : x ^^^ (x / p) = y ^^^ (y / p)) : x = y := by
  subst hp; exact shift_inj k hk h
theorem mulp_inj (c i p k : Nat) (hc : c * i % 18446744073709551616 = 1) (hk : 0 < k) (hp : p = 2 ^ k) {x y : Nat} (hx : x < 18446744073709551616) (hy : y < 18446744073709551616)
    (h : (x ^^^ (x / p)) * c % 18446744073709551616 = (y ^^^ (y / p)) * c % 18446744073709551616) : x = y :=
  shift_inj' p k hk hp (mul_inj hc (xor_lt hx (div_lt' hx)) (xor_lt hy (div_lt' hy)) h)
theorem mixA_inj {x y : Nat} (hx : x < 18446744073709551616) (hy : y < 18446744073709551616) (h : mixA x = mixA y) : x = y :=
  mulp_inj _ _ _ 31 mul1 (by omega) p31 hx hy h
theorem mixB_inj {x y : Nat} (hx : x < 18446744073709551616) (hy : y < 18446744073709551616) (h : mixB x = mixB y) : x = y :=
  mulp_inj _ _ _ 27 mul2 (by omega) p27 hx hy h
theorem mixN_inj {x y : Nat} (hx : x < 18446744073709551616) (hy : y < 18446744073709551616) (h : mixN x = mixN y) : x = y :=
  mixA_inj hx hy (mixB_inj (mixA_lt _) (mixA_lt _) (shift_inj' _ 33 (by omega) p33 h))

/-! The state. -/
/-- The first k of eight bytes as a number. -/
def bl (B : Nat → Nat) : Nat → Nat
  | 0 => 0
  | k + 1 => bl B k * 256 + B k
theorem bl_lt (B : Nat → Nat) (hB : ∀ i, B i < 256) : ∀ k, bl B k < 256 ^ k
  | 0 => by simp [bl]
  | k + 1 => by
    have h1 := bl_lt B hB k
    have h2 := hB k
    simp only [bl, Nat.pow_succ]
    omega
theorem bl_inj (B C : Nat → Nat) (hB : ∀ i, B i < 256) (hC : ∀ i, C i < 256) : ∀ k, bl B k = bl C k → ∀ i, i < k → B i = C i
  | 0, _, i, hi => by omega
  | k + 1, h, i, hi => by
    simp only [bl] at h
    have h1 := hB k
    have h2 := hC k
    rcases (by omega : i < k ∨ i = k) with h3 | h3
    · exact bl_inj B C hB hC k (by omega) i h3
    · subst h3; omega
theorem bl_congr (B C : Nat → Nat) : ∀ k, (∀ i, i < k → B i = C i) → bl B k = bl C k
  | 0, _ => rfl
  | k + 1, h => by
    simp only [bl]
    rw [bl_congr B C k (fun i hi => h i (by omega)), h k (by omega)]
abbrev Tx := List UInt8
def byt (l : Tx) (i : Nat) : Nat := (l[i]?.getD 0).toNat
theorem byt_lt (l : Tx) (i : Nat) : byt l i < 256 := UInt8.toNat_lt _
/-- The block from a place on. -/
def blkN (l : Tx) (f : Nat) : Nat := bl (fun i => byt l (f + i)) 8
theorem blkN_lt (l : Tx) (f : Nat) : blkN l f < 18446744073709551616 := bl_lt _ (fun i => byt_lt l _) 8
/-- The state after j blocks. -/
def st (l : Tx) : Nat → Nat
  | 0 => 7640891576956012809 ^^^ l.length
  | j + 1 => mixN (st l j ^^^ blkN l (8 * j))
theorem st_lt (l : Tx) (hl : l.length < 18446744073709551616) : ∀ j, st l j < 18446744073709551616
  | 0 => xor_lt (by omega) hl
  | j + 1 => mixN_lt _
def sumN (l : Tx) : Nat := st l (l.length / 8 + 1)
theorem sumN_lt (l : Tx) : sumN l < 18446744073709551616 := mixN_lt _

/-! The text. -/
def hexd (d : Nat) : UInt8 := if d < 10 then UInt8.ofNat (48 + d) else UInt8.ofNat (87 + d)
/-- The k last hexadecimal digits of a number. -/
def hexs : Nat → Nat → Tx
  | 0, _ => []
  | k + 1, n => hexs k (n / 16) ++ [hexd (n % 16)]
theorem hexs_len : ∀ k n, (hexs k n).length = k
  | 0, _ => rfl
  | k + 1, n => by simp [hexs, hexs_len k]
theorem hexd_inj : ∀ a, a < 16 → ∀ b, b < 16 → hexd a = hexd b → a = b := by decide +kernel
theorem hexs_inj : ∀ k m n, m < 16 ^ k → n < 16 ^ k → hexs k m = hexs k n → m = n
  | 0, m, n, hm, hn, _ => by simp at hm hn; omega
  | k + 1, m, n, hm, hn, h => by
    simp only [hexs] at h
    obtain ⟨h1, h2⟩ := List.append_inj' h rfl
    have h3 := hexs_inj k (m / 16) (n / 16) (by rw [Nat.pow_succ] at hm; omega) (by rw [Nat.pow_succ] at hn; omega) h1
    have h4 := hexd_inj (m % 16) (by omega) (n % 16) (by omega) (by simpa using h2)
    omega
def sumL (l : Tx) : Tx := hexs 16 (sumN l)
theorem sumL_len (l : Tx) : (sumL l).length = 16 := hexs_len _ _
theorem sumL_eq {a b : Tx} (h : sumL a = sumL b) : sumN a = sumN b := hexs_inj 16 _ _ (sumN_lt a) (sumN_lt b) h
/-- The chain. -/
def chn (l : Tx) : Nat → Tx
  | 0 => l
  | k + 1 => sumL (chn l k)
theorem chn_add (l : Tx) (a b : Nat) : chn (chn l a) b = chn l (a + b) := by
  induction b with
  | zero => rfl
  | succ b ih => exact congrArg sumL ih
/-- A digest. -/
def digB (c : UInt8) : Bool := (48 ≤ c && c ≤ 57) || (97 ≤ c && c ≤ 102)
def isD (l : Tx) : Bool := decide (l.length = 16) && l.all digB
theorem hexd_dig : ∀ d, d < 16 → digB (hexd d) = true := by decide +kernel
theorem hexs_dig : ∀ k n, (hexs k n).all digB = true
  | 0, _ => rfl
  | k + 1, n => by
    simp only [hexs, List.all_append, hexs_dig k, Bool.true_and, List.all_cons, List.all_nil, Bool.and_true]
    exact hexd_dig _ (by omega)
theorem isD_sum (l : Tx) : isD (sumL l) = true := by
  unfold isD; rw [sumL_len]; simp [sumL, hexs_dig]
theorem isD_chn (l : Tx) (k : Nat) : isD (chn l (k + 1)) = true := isD_sum _

/-- Decimal digits. -/
def decs : Nat → Nat → Tx
  | 0, _ => []
  | f + 1, n => (if n < 10 then [] else decs f (n / 10)) ++ [UInt8.ofNat (48 + n % 10)]
def dec (n : Nat) : Tx := decs 20 n
def joinT : List Tx → Tx
  | [] => []
  | t :: r => dec t.length ++ [58] ++ t ++ joinT r
def listL (l : List Tx) : Tx := sumL (joinT l)

/-- The examples of the chapter. -/
theorem head_plain : isD [48,49,50,51,52,53,54,55,56,57,97,98,99,100,101,102] = true ∧ isD [48,49,50,51,52,53,54,55,56,57,97,98,99,100,101,70] = false ∧ isD [] = false ∧
    joinT [[97], [98, 99]] = [49, 58, 97, 50, 58, 98, 99] ∧ (sumL [] == sumL [0]) = false ∧ (sumL [1] == sumL []) = false := by decide +kernel

end S
end Go.Proofs.YthdjdlndfkemiaaGreatDoor

/- Digests: plain laws on short texts, blocks. -/
namespace Go.Proofs.YthdjdlndfkemiaaGreatDoor
namespace S

theorem xor_cancel {a b c : Nat} (h : a ^^^ b = a ^^^ c) : b = c := by
  have h2 : a ^^^ (a ^^^ b) = a ^^^ (a ^^^ c) := by rw [h]
  rwa [← Nat.xor_assoc, ← Nat.xor_assoc, Nat.xor_self, Nat.zero_xor, Nat.zero_xor] at h2
theorem xor_cancel' {a b c : Nat} (h : b ^^^ a = c ^^^ a) : b = c := by
  rw [Nat.xor_comm b, Nat.xor_comm c] at h; exact xor_cancel h
theorem byt_ext {a b : Tx} (hl : a.length = b.length) (h : ∀ i, i < a.length → byt a i = byt b i) : a = b := by
  apply List.ext_getElem hl
  intro i h1 h2
  have := h i h1
  unfold byt at this
  rw [List.getElem?_eq_getElem h1, List.getElem?_eq_getElem h2] at this
  simp only [Option.getD_some] at this
  exact UInt8.toNat_inj.1 this
theorem byt_out (a : Tx) (i : Nat) (h : a.length ≤ i) : byt a i = 0 := by
  unfold byt; rw [List.getElem?_eq_none h]; rfl
theorem blk_inj {a b : Tx} {f g : Nat} (h : blkN a f = blkN b g) : ∀ i, i < 8 → byt a (f + i) = byt b (g + i) :=
  bl_inj _ _ (fun i => byt_lt _ _) (fun i => byt_lt _ _) 8 h
theorem blk_last (a : Tx) (h : a.length ≤ 7) : blkN a 0 % 256 = 0 := by
  have e : blkN a 0 = bl (fun i => byt a (0 + i)) 7 * 256 + byt a (0 + 7) := rfl
  rw [e, byt_out a (0 + 7) (by omega)]
  omega
theorem short_inj {a b : Tx} (ha : a.length ≤ 7) (hb : b.length ≤ 7) (h : sumL a = sumL b) : a = b := by
  have h1 := sumL_eq h
  have ea : sumN a = mixN (st a 0 ^^^ blkN a (8 * 0)) := by unfold sumN; rw [Nat.div_eq_of_lt (by omega)]; rfl
  have eb : sumN b = mixN (st b 0 ^^^ blkN b (8 * 0)) := by unfold sumN; rw [Nat.div_eq_of_lt (by omega)]; rfl
  rw [ea, eb] at h1
  have h2 := mixN_inj (xor_lt (st_lt a (by omega) 0) (blkN_lt a _)) (xor_lt (st_lt b (by omega) 0) (blkN_lt b _)) h1
  simp only [st, Nat.mul_zero] at h2
  rw [Nat.xor_assoc, Nat.xor_assoc] at h2
  have h3 := xor_cancel h2
  have h4 : a.length = b.length := by
    have h5 := congrArg (· % 2 ^ 8) h3
    simp only [Nat.xor_mod_two_pow] at h5
    rw [show (2 : Nat) ^ 8 = 256 from rfl, blk_last a ha, blk_last b hb, Nat.xor_zero, Nat.xor_zero, Nat.mod_eq_of_lt (by omega), Nat.mod_eq_of_lt (by omega)] at h5
    exact h5
  rw [h4] at h3
  have h6 := blk_inj (xor_cancel h3)
  exact byt_ext h4 fun i hi => by have := h6 i (by omega); simpa using this
theorem short_law (a b : Tx) (ha : a.length ≤ 7) (hb : b.length ≤ 7) : (sumL a == sumL b) = (a == b) := by
  rw [Bool.eq_iff_iff, beq_iff_eq, beq_iff_eq]
  exact ⟨short_inj ha hb, fun h => by rw [h]⟩

theorem st_back {x y : Tx} (hx : x.length < 18446744073709551616) (hy : y.length < 18446744073709551616) (j : Nat) : ∀ m, (∀ i, j ≤ i → i < j + m → blkN x (8 * i) = blkN y (8 * i)) → st x (j + m) = st y (j + m) → st x j = st y j
  | 0, _, h => h
  | m + 1, hb, h => by
    have h1 : mixN (st x (j + m) ^^^ blkN x (8 * (j + m))) = mixN (st y (j + m) ^^^ blkN y (8 * (j + m))) := h
    have h2 := mixN_inj (xor_lt (st_lt x hx _) (blkN_lt _ _)) (xor_lt (st_lt y hy _) (blkN_lt _ _)) h1
    rw [hb (j + m) (by omega) (by omega)] at h2
    exact st_back hx hy j m (fun i h3 h4 => hb i h3 (by omega)) (xor_cancel' h2)
theorem st_pre {x y : Tx} (hl : x.length = y.length) : ∀ j, (∀ i, i < j → blkN x (8 * i) = blkN y (8 * i)) → st x j = st y j
  | 0, _ => by simp [st, hl]
  | j + 1, h => by
    show mixN _ = mixN _
    rw [st_pre hl j (fun i hi => h i (by omega)), h j (by omega)]
theorem byt_app1 (a b : Tx) (i : Nat) (h : i < a.length) : byt (a ++ b) i = byt a i := by unfold byt; rw [List.getElem?_append_left h]
theorem byt_app2 (a b : Tx) (i : Nat) (h : a.length ≤ i) : byt (a ++ b) i = byt b (i - a.length) := by unfold byt; rw [List.getElem?_append_right h]
theorem blk_congr {x y : Tx} {f : Nat} (h : ∀ i, i < 8 → byt x (f + i) = byt y (f + i)) : blkN x f = blkN y f := bl_congr _ _ 8 h
/-- Two texts that differ in one block. -/
theorem block_inj {p a b r : Tx} {k : Nat} (hp : p.length = 8 * k) (hab : a.length = b.length) (ha : a.length ≤ 8) (hs : (p ++ a ++ r).length < 18446744073709551616) (h : sumL (p ++ a ++ r) = sumL (p ++ b ++ r)) : a = b := by
  have hl : (p ++ a ++ r).length = (p ++ b ++ r).length := by simp [hab]
  have h1 := sumL_eq h
  unfold sumN at h1
  rw [← hl] at h1
  have hk : k ≤ (p ++ a ++ r).length / 8 := by
    have : 8 * k ≤ (p ++ a ++ r).length := by simp only [List.length_append]; omega
    omega
  have hbefore : ∀ i, i < k → blkN (p ++ a ++ r) (8 * i) = blkN (p ++ b ++ r) (8 * i) := fun i hi => blk_congr fun t ht => by
    rw [List.append_assoc, List.append_assoc, byt_app1 _ _ _ (by omega), byt_app1 _ _ _ (by omega)]
  have hafter : ∀ i, k + 1 ≤ i → i < k + 1 + ((p ++ a ++ r).length / 8 - k) → blkN (p ++ a ++ r) (8 * i) = blkN (p ++ b ++ r) (8 * i) := fun i hi _ => blk_congr fun t ht => by
    rw [byt_app2 (p ++ a) _ _ (by simp only [List.length_append]; omega), byt_app2 (p ++ b) _ _ (by simp only [List.length_append]; omega)]
    simp [hab]
  have e : (p ++ a ++ r).length / 8 + 1 = k + 1 + ((p ++ a ++ r).length / 8 - k) := by omega
  rw [e] at h1
  have h2 := st_back hs (by rw [← hl]; exact hs) (k + 1) _ hafter h1
  have h3 : mixN (st (p ++ a ++ r) k ^^^ blkN (p ++ a ++ r) (8 * k)) = mixN (st (p ++ b ++ r) k ^^^ blkN (p ++ b ++ r) (8 * k)) := h2
  have h4 := mixN_inj (xor_lt (st_lt _ hs _) (blkN_lt _ _)) (xor_lt (st_lt _ (by rw [← hl]; exact hs) _) (blkN_lt _ _)) h3
  rw [st_pre hl k hbefore] at h4
  have h5 := blk_inj (xor_cancel h4)
  refine byt_ext hab fun i hi => ?_
  have h6 := h5 i (by omega)
  rw [List.append_assoc, List.append_assoc, byt_app2 p _ _ (by omega), byt_app2 p _ _ (by omega), hp, Nat.add_sub_cancel_left, byt_app1 _ _ _ hi, byt_app1 _ _ _ (by omega)] at h6
  exact h6
theorem block_law {p a b r : Tx} {k : Nat} (hp : p.length = 8 * k) (hab : a.length = b.length) (ha : a.length ≤ 8) (hs : (p ++ a ++ r).length < 18446744073709551616) : (sumL (p ++ a ++ r) == sumL (p ++ b ++ r)) = (a == b) := by
  rw [Bool.eq_iff_iff, beq_iff_eq, beq_iff_eq]
  exact ⟨block_inj hp hab ha hs, fun h => by rw [h]⟩

end S
end Go.Proofs.YthdjdlndfkemiaaGreatDoor

/- Digests: plain laws of joined texts. -/
namespace Go.Proofs.YthdjdlndfkemiaaGreatDoor
namespace S

def digV10 (l : Tx) : Nat := l.foldl (fun v c => v * 10 + (c.toNat - 48)) 0
theorem digV10_snoc (l : Tx) (c : UInt8) : digV10 (l ++ [c]) = digV10 l * 10 + (c.toNat - 48) := by simp [digV10]
theorem d48 : ∀ d, d < 10 → (UInt8.ofNat (48 + d)).toNat - 48 = d ∧ UInt8.ofNat (48 + d) ≠ 58 := by decide +kernel
theorem digV10_decs : ∀ f n, n < 10 ^ f → digV10 (decs f n) = n
  | 0, n, h => by simp at h; subst h; rfl
  | f + 1, n, h => by
    have e := (d48 (n % 10) (by omega)).1
    rw [decs, digV10_snoc, e]
    by_cases h10 : n < 10
    · rw [if_pos h10]; simp [digV10]; omega
    · rw [if_neg h10, digV10_decs f (n / 10) (by rw [Nat.pow_succ] at h; omega)]; omega
theorem decs_no : ∀ f n, ∀ c ∈ decs f n, c ≠ 58
  | 0, n, c, h => by simp [decs] at h
  | f + 1, n, c, h => by
    rw [decs, List.mem_append] at h
    rcases h with h | h
    · split at h
      · simp at h
      · exact decs_no f _ c h
    · rw [List.mem_singleton.1 h]; exact (d48 (n % 10) (by omega)).2
theorem dec_inj {m n : Nat} (hm : m < 10 ^ 20) (hn : n < 10 ^ 20) (h : dec m = dec n) : m = n := by
  rw [← digV10_decs 20 m hm, ← digV10_decs 20 n hn]; exact congrArg digV10 h
theorem split58 : ∀ (a b r s : Tx), (∀ c ∈ a, c ≠ 58) → (∀ c ∈ b, c ≠ 58) → a ++ 58 :: r = b ++ 58 :: s → a = b ∧ r = s
  | [], [], r, s, _, _, h => ⟨rfl, by simpa using h⟩
  | [], y :: b, r, s, _, hb, h => by
    simp only [List.nil_append, List.cons_append, List.cons.injEq] at h
    exact absurd h.1.symm (hb y List.mem_cons_self)
  | x :: a, [], r, s, ha, _, h => by
    simp only [List.nil_append, List.cons_append, List.cons.injEq] at h
    exact absurd h.1 (ha x List.mem_cons_self)
  | x :: a, y :: b, r, s, ha, hb, h => by
    simp only [List.cons_append, List.cons.injEq] at h
    obtain ⟨e1, e2⟩ := split58 a b r s (fun c hc => ha c (List.mem_cons_of_mem _ hc)) (fun c hc => hb c (List.mem_cons_of_mem _ hc)) h.2
    exact ⟨by rw [h.1, e1], e2⟩
theorem joinT_inj : ∀ a b : List Tx, (∀ t ∈ a, t.length < 10 ^ 20) → (∀ t ∈ b, t.length < 10 ^ 20) → joinT a = joinT b → a = b
  | [], [], _, _, _ => rfl
  | [], t :: b, _, _, h => by simp [joinT] at h
  | t :: a, [], _, _, h => by simp [joinT] at h
  | t :: a, u :: b, ha, hb, h => by
    simp only [joinT, List.append_assoc, List.cons_append, List.nil_append] at h
    obtain ⟨e1, e2⟩ := split58 _ _ _ _ (decs_no 20 _) (decs_no 20 _) h
    have e3 := dec_inj (ha t List.mem_cons_self) (hb u List.mem_cons_self) e1
    obtain ⟨e4, e5⟩ := List.append_inj e2 e3
    rw [e4, joinT_inj a b (fun x hx => ha x (List.mem_cons_of_mem _ hx)) (fun x hx => hb x (List.mem_cons_of_mem _ hx)) e5]
theorem joinT_law {a b : List Tx} (ha : ∀ t ∈ a, t.length < 10 ^ 20) (hb : ∀ t ∈ b, t.length < 10 ^ 20) : (joinT a == joinT b) = decide (a = b) := by
  rw [Bool.eq_iff_iff, beq_iff_eq, decide_eq_true_iff]
  exact ⟨joinT_inj a b ha hb, fun h => by rw [h]⟩
theorem dec_one : ∀ n, n ≤ 9 → dec n = [UInt8.ofNat (48 + n)] := by decide +kernel
theorem one_law (x y : Tx) (h : x.length = y.length) (h9 : x.length ≤ 9) (h6 : x.take 6 = y.take 6) : (listL [x] == listL [y]) = (x == y) := by
  by_cases hs : x.length < 6
  · have e : x = y := by rw [← List.take_of_length_le (l := x) (i := 6) (by omega), h6, List.take_of_length_le (by omega)]
    subst e; simp
  · have e1 : joinT [x] = ([UInt8.ofNat (48 + x.length), 58] ++ x.take 6) ++ x.drop 6 ++ [] := by
      simp only [joinT, dec_one x.length h9, List.append_nil]
      rw [List.append_assoc [UInt8.ofNat (48 + x.length), 58], List.take_append_drop]; rfl
    have e2 : joinT [y] = ([UInt8.ofNat (48 + x.length), 58] ++ x.take 6) ++ y.drop 6 ++ [] := by
      simp only [joinT, ← h, dec_one x.length h9, List.append_nil]
      rw [h6, List.append_assoc [UInt8.ofNat (48 + x.length), 58], List.take_append_drop]; rfl
    unfold listL
    rw [e1, e2, block_law (k := 1) (by simp; omega) (by simp; omega) (by simp; omega) (by simp; omega)]
    rw [Bool.eq_iff_iff, beq_iff_eq, beq_iff_eq]
    exact ⟨fun hd => by rw [← List.take_append_drop 6 x, h6, hd, List.take_append_drop], fun hd => by rw [hd]⟩

end S
end Go.Proofs.YthdjdlndfkemiaaGreatDoor
