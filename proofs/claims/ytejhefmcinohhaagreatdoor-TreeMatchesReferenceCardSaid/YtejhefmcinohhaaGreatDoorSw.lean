/- Digests: plain laws of joined texts. -/
import Derived.Test.YtejhefmcinohhaaGreatDoorSj
set_option linter.unusedSimpArgs false
set_option linter.unusedVariables false
set_option maxRecDepth 100000
namespace Go.Proofs.YtejhefmcinohhaaGreatDoor
namespace S

def digV10 (l : Tx) : Nat := l.foldl (fun v c => v * 10 + (c.toNat - 48)) 0
theorem digV10_snoc (l : Tx) (c : UInt8) : digV10 (l ++ [c]) = digV10 l * 10 + (c.toNat - 48) := by simp [digV10]
theorem d48 : ∀ d, d < 10 → (UInt8.ofNat (48 + d)).toNat - 48 = d ∧ UInt8.ofNat (48 + d) ≠ 58 := by decide +kernel
theorem digV10_decs : ∀ f n, n < 10 ^ f → digV10 (decs f n) = n
  | 0, n, h => by simp at h; subst h; rfl
  | f + 1, n, h => by
    have e := (d48 (n % 10) (by omega)).1
    rw [decs, digV10_snoc, e]
    by_cases h10 : n < 10
    · rw [if_pos h10]; simp [digV10]; omega
    · rw [if_neg h10, digV10_decs f (n / 10) (by rw [Nat.pow_succ] at h; omega)]; omega
theorem decs_no : ∀ f n, ∀ c ∈ decs f n, c ≠ 58
  | 0, n, c, h => by simp [decs] at h
  | f + 1, n, c, h => by
    rw [decs, List.mem_append] at h
    rcases h with h | h
    · split at h
      · simp at h
      · exact decs_no f _ c h
    · rw [List.mem_singleton.1 h]; exact (d48 (n % 10) (by omega)).2
theorem dec_inj {m n : Nat} (hm : m < 10 ^ 20) (hn : n < 10 ^ 20) (h : dec m = dec n) : m = n := by
  rw [← digV10_decs 20 m hm, ← digV10_decs 20 n hn]; exact congrArg digV10 h
theorem split58 : ∀ (a b r s : Tx), (∀ c ∈ a, c ≠ 58) → (∀ c ∈ b, c ≠ 58) → a ++ 58 :: r = b ++ 58 :: s → a = b ∧ r = s
  | [], [], r, s, _, _, h => ⟨rfl, by simpa using h⟩
  | [], y :: b, r, s, _, hb, h => by
    simp only [List.nil_append, List.cons_append, List.cons.injEq] at h
    exact absurd h.1.symm (hb y List.mem_cons_self)
  | x :: a, [], r, s, ha, _, h => by
    simp only [List.nil_append, List.cons_append, List.cons.injEq] at h
    exact absurd h.1 (ha x List.mem_cons_self)
  | x :: a, y :: b, r, s, ha, hb, h => by
    simp only [List.cons_append, List.cons.injEq] at h
    obtain ⟨e1, e2⟩ := split58 a b r s (fun c hc => ha c (List.mem_cons_of_mem _ hc)) (fun c hc => hb c (List.mem_cons_of_mem _ hc)) h.2
    exact ⟨by rw [h.1, e1], e2⟩
theorem joinT_inj : ∀ a b : List Tx, (∀ t ∈ a, t.length < 10 ^ 20) → (∀ t ∈ b, t.length < 10 ^ 20) → joinT a = joinT b → a = b
  | [], [], _, _, _ => rfl
  | [], t :: b, _, _, h => by simp [joinT] at h
  | t :: a, [], _, _, h => by simp [joinT] at h
  | t :: a, u :: b, ha, hb, h => by
    simp only [joinT, List.append_assoc, List.cons_append, List.nil_append] at h
    obtain ⟨e1, e2⟩ := split58 _ _ _ _ (decs_no 20 _) (decs_no 20 _) h
    have e3 := dec_inj (ha t List.mem_cons_self) (hb u List.mem_cons_self) e1
    obtain ⟨e4, e5⟩ := List.append_inj e2 e3
    rw [e4, joinT_inj a b (fun x hx => ha x (List.mem_cons_of_mem _ hx)) (fun x hx => hb x (List.mem_cons_of_mem _ hx)) e5]
theorem joinT_law {a b : List Tx} (ha : ∀ t ∈ a, t.length < 10 ^ 20) (hb : ∀ t ∈ b, t.length < 10 ^ 20) : (joinT a == joinT b) = decide (a = b) := by
  rw [Bool.eq_iff_iff, beq_iff_eq, decide_eq_true_iff]
  exact ⟨joinT_inj a b ha hb, fun h => by rw [h]⟩
theorem dec_one : ∀ n, n ≤ 9 → dec n = [UInt8.ofNat (48 + n)] := by decide +kernel
theorem one_law (x y : Tx) (h : x.length = y.length) (h9 : x.length ≤ 9) (h6 : x.take 6 = y.take 6) : (listL [x] == listL [y]) = (x == y) := by
  by_cases hs : x.length < 6
  · have e : x = y := by rw [← List.take_of_length_le (l := x) (i := 6) (by omega), h6, List.take_of_length_le (by omega)]
    subst e; simp
  · have e1 : joinT [x] = ([UInt8.ofNat (48 + x.length), 58] ++ x.take 6) ++ x.drop 6 ++ [] := by
      simp only [joinT, dec_one x.length h9, List.append_nil]
      rw [List.append_assoc [UInt8.ofNat (48 + x.length), 58], List.take_append_drop]; rfl
    have e2 : joinT [y] = ([UInt8.ofNat (48 + x.length), 58] ++ x.take 6) ++ y.drop 6 ++ [] := by
      simp only [joinT, ← h, dec_one x.length h9, List.append_nil]
      rw [h6, List.append_assoc [UInt8.ofNat (48 + x.length), 58], List.take_append_drop]; rfl
    unfold listL
    rw [e1, e2, block_law (k := 1) (by simp; omega) (by simp; omega) (by simp; omega) (by simp; omega)]
    rw [Bool.eq_iff_iff, beq_iff_eq, beq_iff_eq]
    exact ⟨fun hd => by rw [← List.take_append_drop 6 x, h6, hd, List.take_append_drop], fun hd => by rw [hd]⟩

end S
end Go.Proofs.YtejhefmcinohhaaGreatDoor
