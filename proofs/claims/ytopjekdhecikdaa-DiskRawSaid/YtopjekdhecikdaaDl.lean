/- Disk: plain laws. -/
import Derived.Test.YtopjekdhecikdaaDn
set_option linter.unusedSimpArgs false
set_option linter.unusedVariables false
set_option maxRecDepth 100000
namespace Go.Proofs.Ytopjekdhecikdaa
namespace D

theorem write_clean {d : Dk} (ho : d.off = false) (ha : d.arm = none) (s : Int) (t : Tx) :
    write d s t = if isAt d s = false then (1, d) else if t.length ≠ 64 then (1, d) else (0, { d with q := d.q ++ [(s.toNat, t)] }) := by
  unfold write count
  rw [if_neg (by simp [ho])]
  simp only [ha]
theorem write_on {d : Dk} (ho : d.off = false) (ha : d.arm = none) (s : Int) (t : Tx) : (write d s t).2.off = false ∧ (write d s t).2.arm = none ∧ (write d s t).2.st = d.st := by
  rw [write_clean ho ha]
  split
  · exact ⟨ho, ha, rfl⟩
  · split
    · exact ⟨ho, ha, rfl⟩
    · exact ⟨ho, ha, rfl⟩
theorem eff_more (d : Dk) (s : Nat) (t : Tx) : eff { d with q := d.q ++ [(s, t)] } = put (eff d) s t := by
  unfold eff
  rw [settle_append]; rfl
theorem secs_get {n : Nat} {st : Tx} {i : Nat} (hi : i < n) : (secs n st)[i]? = some (sec st i) := by simp [secs, hi]
theorem secs_len' (n : Nat) (st : Tx) : (secs n st).length = n := by simp [secs]
theorem conts_len (n : Nat) (d : Dk) : (conts n d).length = n := secs_len' _ _
theorem secs_put {n : Nat} {st : Tx} (hl : st.length = n * 64) {s : Nat} {t : Tx} (hs : s < n) (ht : t.length = 64) : secs n (put st s t) = (secs n st).set s t := by
  apply List.ext_getElem?
  intro i
  rcases Nat.lt_or_ge i n with hi | hi
  · rw [secs_get hi, List.getElem?_set, secs_len']
    by_cases e : s = i
    · subst e; rw [if_pos rfl, if_pos hs, sec_put_same ht (by omega)]
    · rw [if_neg e, secs_get hi, sec_put_other (fun h => e h.symm) (by omega) (by omega)]
  · rw [List.getElem?_eq_none (by rw [secs_len']; omega), List.getElem?_eq_none (by rw [List.length_set, secs_len']; omega)]
theorem conts_more {n : Nat} {d : Dk} (h : Good n d) {s : Nat} {t : Tx} (hs : s < n) (ht : t.length = 64) : conts n { d with q := d.q ++ [(s, t)] } = (conts n d).set s t := by
  unfold conts
  rw [eff_more, secs_put h.eff hs ht]

/-- A write on a disk that was started: it succeeds, or changes nothing. -/
theorem write_cases {n : Nat} {d : Dk} (h : Good n d) (ho : d.off = false) (ha : d.arm = none) (s : Int) (t : Tx) :
    ((write d s t).1 = 0 ∧ 0 ≤ s ∧ s < n ∧ t.length = 64 ∧ (write d s t).2 = { d with q := d.q ++ [(s.toNat, t)] } ∧ conts n (write d s t).2 = (conts n d).set s.toNat t) ∨
    ((write d s t).1 = 1 ∧ (write d s t).2 = d ∧ (s < 0 ∨ (n : Int) ≤ s ∨ t.length ≠ 64)) := by
  rw [write_clean ho ha]
  cases hs : isAt d s
  · right
    rw [if_pos rfl]
    refine ⟨rfl, rfl, ?_⟩
    rw [isAt_of h] at hs
    simp at hs
    omega
  · rw [if_neg (by simp)]
    rw [isAt_of h] at hs
    simp only [Bool.and_eq_true, decide_eq_true_eq] at hs
    by_cases ht : t.length = 64
    · left
      rw [if_neg (by simp [ht])]
      exact ⟨rfl, hs.1, hs.2, ht, rfl, conts_more h (by omega) ht⟩
    · right
      rw [if_pos ht]
      exact ⟨rfl, rfl, .inr (.inr ht)⟩
theorem fail_is_off (d : Dk) (x y : Int) : (fail d x y).off = true := by
  unfold fail
  split
  · assumption
  · rfl
theorem write_when_off {d : Dk} (ho : d.off = true) (s : Int) (t : Tx) : write d s t = (21, d) := by unfold write; rw [if_pos ho]
theorem read_when_off {d : Dk} (ho : d.off = true) (s : Int) : read d s = ([], 21) := by unfold read; rw [if_pos ho]

theorem fail_zero {d : Dk} (ho : d.off = false) : (fail d 0 0).st = d.st := by
  unfold fail
  rw [if_neg (by simp [ho])]
  have e1 : clip 0 d.q.length = 0 := by unfold clip; omega
  have e2 : clip 0 64 = 0 := by unfold clip; omega
  rw [e1, e2]
  show torn (settle d.st (d.q.take 0)) d.q 0 0 = d.st
  rw [List.take_zero]
  unfold torn
  split
  · rfl
  · rw [List.take_zero, put_nil]; rfl
theorem sync_clean {d : Dk} (ho : d.off = false) (ha : d.arm = none) : sync d = (0, { d with st := eff d, q := [] }) := by
  unfold sync count
  rw [if_neg (by simp [ho])]
  simp only [ha]
  rw [if_neg (by simp)]
  rfl
theorem flat_secs : ∀ (n : Nat) (st : Tx), st.length = n * 64 → (secs n st).flatten = st := by
  intro n
  induction n with
  | zero => intro st h; simp [secs]; exact List.length_eq_zero_iff.1 (by omega)
  | succ n ih =>
    intro st h
    have e : secs (n + 1) st = secs n (st.take (n * 64)) ++ [sec st n] := by
      unfold secs
      rw [List.range_succ, List.map_append]
      congr 1
      apply List.map_congr_left
      intro i hi
      have hi := List.mem_range.1 hi
      unfold sec
      rw [List.drop_take, List.take_take, Nat.min_eq_left (by omega)]
    rw [e, List.flatten_append, ih _ (by rw [List.length_take]; omega)]
    simp only [List.flatten_cons, List.flatten_nil, List.append_nil]
    unfold sec
    have e2 : (st.drop (n * 64)).take 64 = st.drop (n * 64) := List.take_of_length_le (by rw [List.length_drop]; omega)
    rw [e2, List.take_append_drop]

theorem torn_end (st : Tx) (q : List (Nat × Tx)) (k : Nat) : torn st q q.length k = st := by
  unfold torn; rw [List.getElem?_eq_none (Nat.le_refl _)]
theorem fail_all {d : Dk} (ho : d.off = false) {x : Int} (h : (d.q.length : Int) ≤ x) (y : Int) : fail d x y = ⟨eff d, [], true, none⟩ := by
  unfold fail
  have e : clip x d.q.length = d.q.length := by unfold clip; omega
  rw [if_neg (by simp [ho]), e, torn_end, List.take_length]; rfl
theorem fail_none {d : Dk} (ho : d.off = false) (hq : d.q = []) (x y : Int) : fail d x y = ⟨d.st, [], true, none⟩ := by
  unfold fail
  have e : clip x d.q.length = d.q.length := by rw [hq]; unfold clip; simp; omega
  rw [if_neg (by simp [ho]), e, torn_end, hq]; rfl
theorem fail_still {d : Dk} (ho : d.off = true) (x y : Int) : fail d x y = d := by unfold fail; rw [if_pos ho]

theorem flat_take_le (L : List Tx) (k : Nat) : (L.take k).flatten.length ≤ L.flatten.length := by
  have h : L.flatten = (L.take k).flatten ++ (L.drop k).flatten := by rw [← List.flatten_append, List.take_append_drop]
  rw [h, List.length_append]; omega
theorem flat_get_le (L : List Tx) (k : Nat) (hk : k < L.length) : L[k].length ≤ L.flatten.length := by
  have h : L.flatten = (L.take k).flatten ++ (L[k] ++ (L.drop (k + 1)).flatten) := by
    have e : L = L.take k ++ (L[k] :: L.drop (k + 1)) := by rw [List.getElem_cons_drop, List.take_append_drop]
    have e2 : ∀ (a b : List Tx) (x : Tx), (a ++ (x :: b)).flatten = a.flatten ++ (x ++ b.flatten) := fun a b x => by simp
    rw [← e2, ← e]
  rw [h, List.length_append, List.length_append]; omega

end D
end Go.Proofs.Ytopjekdhecikdaa
