/- Disk: plain laws. -/
import Derived.Test.YtopjekdhecikdaaDn
set_option linter.unusedSimpArgs false
set_option linter.unusedVariables false
set_option maxRecDepth 100000
namespace Go.Proofs.Ytopjekdhecikdaa
namespace D

theorem write_clean {d : Dk} (ho : d.off = false) (ha : d.arm = none) (s : Int) (t : Tx) :
    write d s t = if isAt d s = false then (1, d) else if t.length ≠ 64 then (1, d) else (0, { d with q := d.q ++ [(s.toNat, t)] }) := by
  unfold write count
  rw [if_neg (by simp [ho])]
  simp only [ha]
theorem write_on {d : Dk} (ho : d.off = false) (ha : d.arm = none) (s : Int) (t : Tx) : (write d s t).2.off = false ∧ (write d s t).2.arm = none ∧ (write d s t).2.st = d.st := by
  rw [write_clean ho ha]
  split
  · exact ⟨ho, ha, rfl⟩
  · split
    · exact ⟨ho, ha, rfl⟩
    · exact ⟨ho, ha, rfl⟩
theorem eff_more (d : Dk) (s : Nat) (t : Tx) : eff { d with q := d.q ++ [(s, t)] } = put (eff d) s t := by
  unfold eff
  rw [settle_append]; rfl
theorem secs_get {n : Nat} {st : Tx} {i : Nat} (hi : i < n) : (secs n st)[i]? = some (sec st i) := by simp [secs, hi]
theorem secs_len' (n : Nat) (st : Tx) : (secs n st).length = n := by simp [secs]
theorem conts_len (n : Nat) (d : Dk) : (conts n d).length = n := secs_len' _ _
theorem secs_put {n : Nat} {st : Tx} (hl : st.length = n * 64) {s : Nat} {t : Tx} (hs : s < n) (ht : t.length = 64) : secs n (put st s t) = (secs n st).set s t := by
  apply List.ext_getElem?
  intro i
  rcases Nat.lt_or_ge i n with hi | hi
  · rw [secs_get hi, List.getElem?_set, secs_len']
    by_cases e : s = i
    · subst e; rw [if_pos rfl, if_pos hs, sec_put_same ht (by omega)]
    · rw [if_neg e, secs_get hi, sec_put_other (fun h => e h.symm) (by omega) (by omega)]
  · rw [List.getElem?_eq_none (by rw [secs_len']; omega), List.getElem?_eq_none (by rw [List.length_set, secs_len']; omega)]
theorem conts_more {n : Nat} {d : Dk} (h : Good n d) {s : Nat} {t : Tx} (hs : s < n) (ht : t.length = 64) : conts n { d with q := d.q ++ [(s, t)] } = (conts n d).set s t := by
  unfold conts
  rw [eff_more, secs_put h.eff hs ht]

/-- A write on a disk that was started: it succeeds, or changes nothing. -/
theorem write_cases {n : Nat} {d : Dk} (h : Good n d) (ho : d.off = false) (ha : d.arm = none) (s : Int) (t : Tx) :
    ((write d s t).1 = 0 ∧ 0 ≤ s ∧ s < n ∧ t.length = 64 ∧ (write d s t).2 = { d with q := d.q ++ [(s.toNat, t)] } ∧ conts n (write d s t).2 = (conts n d).set s.toNat t) ∨
    ((write d s t).1 = 1 ∧ (write d s t).2 = d ∧ (s < 0 ∨ (n : Int) ≤ s ∨ t.length ≠ 64)) := by
  rw [write_clean ho ha]
  cases hs : isAt d s
  · right
    rw [if_pos rfl]
    refine ⟨rfl, rfl, ?_⟩
    rw [isAt_of h] at hs
    simp at hs
    omega
  · rw [if_neg (by simp)]
    rw [isAt_of h] at hs
    simp only [Bool.and_eq_true, decide_eq_true_eq] at hs
    by_cases ht : t.length = 64
    · left
      rw [if_neg (by simp [ht])]
      exact ⟨rfl, hs.1, hs.2, ht, rfl, conts_more h (by omega) ht⟩
    · right
      rw [if_pos ht]
      exact ⟨rfl, rfl, .inr (.inr ht)⟩
theorem fail_is_off (d : Dk) (x y : Int) : (fail d x y).off = true := by
  unfold fail
  split
  · assumption
  · rfl
theorem write_when_off {d : Dk} (ho : d.off = true) (s : Int) (t : Tx) : write d s t = (21, d) := by unfold write; rw [if_pos ho]
theorem read_when_off {d : Dk} (ho : d.off = true) (s : Int) : read d s = ([], 21) := by unfold read; rw [if_pos ho]

end D
end Go.Proofs.Ytopjekdhecikdaa
