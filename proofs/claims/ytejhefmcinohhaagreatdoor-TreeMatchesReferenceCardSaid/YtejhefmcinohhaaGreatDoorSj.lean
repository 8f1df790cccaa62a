/- Digests: plain laws on short texts, blocks. -/
import Derived.Test.YtejhefmcinohhaaGreatDoorSa
set_option linter.unusedSimpArgs false
set_option linter.unusedVariables false
set_option maxRecDepth 100000
namespace Go.Proofs.YtejhefmcinohhaaGreatDoor
namespace S

theorem xor_cancel {a b c : Nat} (h : a ^^^ b = a ^^^ c) : b = c := by
  have h2 : a ^^^ (a ^^^ b) = a ^^^ (a ^^^ c) := by rw [h]
  rwa [← Nat.xor_assoc, ← Nat.xor_assoc, Nat.xor_self, Nat.zero_xor, Nat.zero_xor] at h2
theorem xor_cancel' {a b c : Nat} (h : b ^^^ a = c ^^^ a) : b = c := by
  rw [Nat.xor_comm b, Nat.xor_comm c] at h; exact xor_cancel h
theorem byt_ext {a b : Tx} (hl : a.length = b.length) (h : ∀ i, i < a.length → byt a i = byt b i) : a = b := by
  apply List.ext_getElem hl
  intro i h1 h2
  have := h i h1
  unfold byt at this
  rw [List.getElem?_eq_getElem h1, List.getElem?_eq_getElem h2] at this
  simp only [Option.getD_some] at this
  exact UInt8.toNat_inj.1 this
theorem byt_out (a : Tx) (i : Nat) (h : a.length ≤ i) : byt a i = 0 := by
  unfold byt; rw [List.getElem?_eq_none h]; rfl
theorem blk_inj {a b : Tx} {f g : Nat} (h : blkN a f = blkN b g) : ∀ i, i < 8 → byt a (f + i) = byt b (g + i) :=
  bl_inj _ _ (fun i => byt_lt _ _) (fun i => byt_lt _ _) 8 h
theorem blk_last (a : Tx) (h : a.length ≤ 7) : blkN a 0 % 256 = 0 := by
  have e : blkN a 0 = bl (fun i => byt a (0 + i)) 7 * 256 + byt a (0 + 7) := rfl
  rw [e, byt_out a (0 + 7) (by omega)]
  omega
theorem short_inj {a b : Tx} (ha : a.length ≤ 7) (hb : b.length ≤ 7) (h : sumL a = sumL b) : a = b := by
  have h1 := sumL_eq h
  have ea : sumN a = mixN (st a 0 ^^^ blkN a (8 * 0)) := by unfold sumN; rw [Nat.div_eq_of_lt (by omega)]; rfl
  have eb : sumN b = mixN (st b 0 ^^^ blkN b (8 * 0)) := by unfold sumN; rw [Nat.div_eq_of_lt (by omega)]; rfl
  rw [ea, eb] at h1
  have h2 := mixN_inj (xor_lt (st_lt a (by omega) 0) (blkN_lt a _)) (xor_lt (st_lt b (by omega) 0) (blkN_lt b _)) h1
  simp only [st, Nat.mul_zero] at h2
  rw [Nat.xor_assoc, Nat.xor_assoc] at h2
  have h3 := xor_cancel h2
  have h4 : a.length = b.length := by
    have h5 := congrArg (· % 2 ^ 8) h3
    simp only [Nat.xor_mod_two_pow] at h5
    rw [show (2 : Nat) ^ 8 = 256 from rfl, blk_last a ha, blk_last b hb, Nat.xor_zero, Nat.xor_zero, Nat.mod_eq_of_lt (by omega), Nat.mod_eq_of_lt (by omega)] at h5
    exact h5
  rw [h4] at h3
  have h6 := blk_inj (xor_cancel h3)
  exact byt_ext h4 fun i hi => by have := h6 i (by omega); simpa using this
theorem short_law (a b : Tx) (ha : a.length ≤ 7) (hb : b.length ≤ 7) : (sumL a == sumL b) = (a == b) := by
  rw [Bool.eq_iff_iff, beq_iff_eq, beq_iff_eq]
  exact ⟨short_inj ha hb, fun h => by rw [h]⟩

theorem st_back {x y : Tx} (hx : x.length < 18446744073709551616) (hy : y.length < 18446744073709551616) (j : Nat) : ∀ m, (∀ i, j ≤ i → i < j + m → blkN x (8 * i) = blkN y (8 * i)) → st x (j + m) = st y (j + m) → st x j = st y j
  | 0, _, h => h
  | m + 1, hb, h => by
    have h1 : mixN (st x (j + m) ^^^ blkN x (8 * (j + m))) = mixN (st y (j + m) ^^^ blkN y (8 * (j + m))) := h
    have h2 := mixN_inj (xor_lt (st_lt x hx _) (blkN_lt _ _)) (xor_lt (st_lt y hy _) (blkN_lt _ _)) h1
    rw [hb (j + m) (by omega) (by omega)] at h2
    exact st_back hx hy j m (fun i h3 h4 => hb i h3 (by omega)) (xor_cancel' h2)
theorem st_pre {x y : Tx} (hl : x.length = y.length) : ∀ j, (∀ i, i < j → blkN x (8 * i) = blkN y (8 * i)) → st x j = st y j
  | 0, _ => by simp [st, hl]
  | j + 1, h => by
    show mixN _ = mixN _
    rw [st_pre hl j (fun i hi => h i (by omega)), h j (by omega)]
theorem byt_app1 (a b : Tx) (i : Nat) (h : i < a.length) : byt (a ++ b) i = byt a i := by unfold byt; rw [List.getElem?_append_left h]
theorem byt_app2 (a b : Tx) (i : Nat) (h : a.length ≤ i) : byt (a ++ b) i = byt b (i - a.length) := by unfold byt; rw [List.getElem?_append_right h]
theorem blk_congr {x y : Tx} {f : Nat} (h : ∀ i, i < 8 → byt x (f + i) = byt y (f + i)) : blkN x f = blkN y f := bl_congr _ _ 8 h
/-- Two texts that differ in one block. -/
theorem block_inj {p a b r : Tx} {k : Nat} (hp : p.length = 8 * k) (hab : a.length = b.length) (ha : a.length ≤ 8) (hs : (p ++ a ++ r).length < 18446744073709551616) (h : sumL (p ++ a ++ r) = sumL (p ++ b ++ r)) : a = b := by
  have hl : (p ++ a ++ r).length = (p ++ b ++ r).length := by simp [hab]
  have h1 := sumL_eq h
  unfold sumN at h1
  rw [← hl] at h1
  have hk : k ≤ (p ++ a ++ r).length / 8 := by
    have : 8 * k ≤ (p ++ a ++ r).length := by simp only [List.length_append]; omega
    omega
  have hbefore : ∀ i, i < k → blkN (p ++ a ++ r) (8 * i) = blkN (p ++ b ++ r) (8 * i) := fun i hi => blk_congr fun t ht => by
    rw [List.append_assoc, List.append_assoc, byt_app1 _ _ _ (by omega), byt_app1 _ _ _ (by omega)]
  have hafter : ∀ i, k + 1 ≤ i → i < k + 1 + ((p ++ a ++ r).length / 8 - k) → blkN (p ++ a ++ r) (8 * i) = blkN (p ++ b ++ r) (8 * i) := fun i hi _ => blk_congr fun t ht => by
    rw [byt_app2 (p ++ a) _ _ (by simp only [List.length_append]; omega), byt_app2 (p ++ b) _ _ (by simp only [List.length_append]; omega)]
    simp [hab]
  have e : (p ++ a ++ r).length / 8 + 1 = k + 1 + ((p ++ a ++ r).length / 8 - k) := by omega
  rw [e] at h1
  have h2 := st_back hs (by rw [← hl]; exact hs) (k + 1) _ hafter h1
  have h3 : mixN (st (p ++ a ++ r) k ^^^ blkN (p ++ a ++ r) (8 * k)) = mixN (st (p ++ b ++ r) k ^^^ blkN (p ++ b ++ r) (8 * k)) := h2
  have h4 := mixN_inj (xor_lt (st_lt _ hs _) (blkN_lt _ _)) (xor_lt (st_lt _ (by rw [← hl]; exact hs) _) (blkN_lt _ _)) h3
  rw [st_pre hl k hbefore] at h4
  have h5 := blk_inj (xor_cancel h4)
  refine byt_ext hab fun i hi => ?_
  have h6 := h5 i (by omega)
  rw [List.append_assoc, List.append_assoc, byt_app2 p _ _ (by omega), byt_app2 p _ _ (by omega), hp, Nat.add_sub_cancel_left, byt_app1 _ _ _ hi, byt_app1 _ _ _ (by omega)] at h6
  exact h6
theorem block_law {p a b r : Tx} {k : Nat} (hp : p.length = 8 * k) (hab : a.length = b.length) (ha : a.length ≤ 8) (hs : (p ++ a ++ r).length < 18446744073709551616) : (sumL (p ++ a ++ r) == sumL (p ++ b ++ r)) = (a == b) := by
  rw [Bool.eq_iff_iff, beq_iff_eq, beq_iff_eq]
  exact ⟨block_inj hp hab ha hs, fun h => by rw [h]⟩

end S
end Go.Proofs.YtejhefmcinohhaaGreatDoor
