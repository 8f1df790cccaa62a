/- Disk: plain laws. -/
import Derived.Test.YtopjekdhecikdaaDn
set_option linter.unusedSimpArgs false
set_option linter.unusedVariables false
set_option maxRecDepth 100000
namespace Go.Proofs.Ytopjekdhecikdaa
namespace D

theorem write_clean {d : Dk} (ho : d.off = false) (ha : d.arm = none) (s : Int) (t : Tx) :
    write d s t = if isAt d s = false then (1, d) else if t.length ≠ 64 then (1, d) else (0, { d with q := d.q ++ [(s.toNat, t)] }) := by
  unfold write count
  rw [if_neg (by simp [ho])]
  simp only [ha]
theorem write_on {d : Dk} (ho : d.off = false) (ha : d.arm = none) (s : Int) (t : Tx) : (write d s t).2.off = false ∧ (write d s t).2.arm = none ∧ (write d s t).2.st = d.st := by
  rw [write_clean ho ha]
  split
  · exact ⟨ho, ha, rfl⟩
  · split
    · exact ⟨ho, ha, rfl⟩
    · exact ⟨ho, ha, rfl⟩
theorem eff_more (d : Dk) (s : Nat) (t : Tx) : eff { d with q := d.q ++ [(s, t)] } = put (eff d) s t := by
  unfold eff
  rw [settle_append]; rfl
theorem secs_get {n : Nat} {st : Tx} {i : Nat} (hi : i < n) : (secs n st)[i]? = some (sec st i) := by simp [secs, hi]
theorem secs_len' (n : Nat) (st : Tx) : (secs n st).length = n := by simp [secs]
theorem conts_len (n : Nat) (d : Dk) : (conts n d).length = n := secs_len' _ _
theorem secs_put {n : Nat} {st : Tx} (hl : st.length = n * 64) {s : Nat} {t : Tx} (hs : s < n) (ht : t.length = 64) : secs n (put st s t) = (secs n st).set s t := by
  apply List.ext_getElem?
  intro i
  rcases Nat.lt_or_ge i n with hi | hi
  · rw [secs_get hi, List.getElem?_set, secs_len']
    by_cases e : s = i
    · subst e; rw [if_pos rfl, if_pos hs, sec_put_same ht (by omega)]
    · rw [if_neg e, secs_get hi, sec_put_other (fun h => e h.symm) (by omega) (by omega)]
  · rw [List.getElem?_eq_none (by rw [secs_len']; omega), List.getElem?_eq_none (by rw [List.length_set, secs_len']; omega)]
theorem conts_more {n : Nat} {d : Dk} (h : Good n d) {s : Nat} {t : Tx} (hs : s < n) (ht : t.length = 64) : conts n { d with q := d.q ++ [(s, t)] } = (conts n d).set s t := by
  unfold conts
  rw [eff_more, secs_put h.eff hs ht]

/-- A write on a disk that was started: it succeeds, or changes nothing. -/
theorem write_cases {n : Nat} {d : Dk} (h : Good n d) (ho : d.off = false) (ha : d.arm = none) (s : Int) (t : Tx) :
    ((write d s t).1 = 0 ∧ 0 ≤ s ∧ s < n ∧ t.length = 64 ∧ (write d s t).2 = { d with q := d.q ++ [(s.toNat, t)] } ∧ conts n (write d s t).2 = (conts n d).set s.toNat t) ∨
    ((write d s t).1 = 1 ∧ (write d s t).2 = d ∧ (s < 0 ∨ (n : Int) ≤ s ∨ t.length ≠ 64)) := by
  rw [write_clean ho ha]
  cases hs : isAt d s
  · right
    rw [if_pos rfl]
    refine ⟨rfl, rfl, ?_⟩
    rw [isAt_of h] at hs
    simp at hs
    omega
  · rw [if_neg (by simp)]
    rw [isAt_of h] at hs
    simp only [Bool.and_eq_true, decide_eq_true_eq] at hs
    by_cases ht : t.length = 64
    · left
      rw [if_neg (by simp [ht])]
      exact ⟨rfl, hs.1, hs.2, ht, rfl, conts_more h (by omega) ht⟩
    · right
      rw [if_pos ht]
      exact ⟨rfl, rfl, .inr (.inr ht)⟩
theorem fail_is_off (d : Dk) (x y : Int) : (fail d x y).off = true := by
  unfold fail
  split
  · assumption
  · rfl
theorem write_when_off {d : Dk} (ho : d.off = true) (s : Int) (t : Tx) : write d s t = (21, d) := by unfold write; rw [if_pos ho]
theorem read_when_off {d : Dk} (ho : d.off = true) (s : Int) : read d s = ([], 21) := by unfold read; rw [if_pos ho]

theorem fail_zero {d : Dk} (ho : d.off = false) : (fail d 0 0).st = d.st := by
  unfold fail
  rw [if_neg (by simp [ho])]
  have e1 : clip 0 d.q.length = 0 := by unfold clip; omega
  have e2 : clip 0 64 = 0 := by unfold clip; omega
  rw [e1, e2]
  show torn (settle d.st (d.q.take 0)) d.q 0 0 = d.st
  rw [List.take_zero]
  unfold torn
  split
  · rfl
  · rw [List.take_zero, put_nil]; rfl
theorem sync_clean {d : Dk} (ho : d.off = false) (ha : d.arm = none) : sync d = (0, { d with st := eff d, q := [] }) := by
  unfold sync count
  rw [if_neg (by simp [ho])]
  simp only [ha]
  rw [if_neg (by simp)]
  rfl
theorem flat_secs : ∀ (n : Nat) (st : Tx), st.length = n * 64 → (secs n st).flatten = st := by
  intro n
  induction n with
  | zero => intro st h; simp [secs]; exact List.length_eq_zero_iff.1 (by omega)
  | succ n ih =>
    intro st h
    have e : secs (n + 1) st = secs n (st.take (n * 64)) ++ [sec st n] := by
      unfold secs
      rw [List.range_succ, List.map_append]
      congr 1
      apply List.map_congr_left
      intro i hi
      have hi := List.mem_range.1 hi
      unfold sec
      rw [List.drop_take, List.take_take, Nat.min_eq_left (by omega)]
    rw [e, List.flatten_append, ih _ (by rw [List.length_take]; omega)]
    simp only [List.flatten_cons, List.flatten_nil, List.append_nil]
    unfold sec
    have e2 : (st.drop (n * 64)).take 64 = st.drop (n * 64) := List.take_of_length_le (by rw [List.length_drop]; omega)
    rw [e2, List.take_append_drop]

theorem torn_end (st : Tx) (q : List (Nat × Tx)) (k : Nat) : torn st q q.length k = st := by
  unfold torn; rw [List.getElem?_eq_none (Nat.le_refl _)]
theorem fail_all {d : Dk} (ho : d.off = false) {x : Int} (h : (d.q.length : Int) ≤ x) (y : Int) : fail d x y = ⟨eff d, [], true, none⟩ := by
  unfold fail
  have e : clip x d.q.length = d.q.length := by unfold clip; omega
  rw [if_neg (by simp [ho]), e, torn_end, List.take_length]; rfl
theorem fail_none {d : Dk} (ho : d.off = false) (hq : d.q = []) (x y : Int) : fail d x y = ⟨d.st, [], true, none⟩ := by
  unfold fail
  have e : clip x d.q.length = d.q.length := by rw [hq]; unfold clip; simp; omega
  rw [if_neg (by simp [ho]), e, torn_end, hq]; rfl
theorem fail_still {d : Dk} (ho : d.off = true) (x y : Int) : fail d x y = d := by unfold fail; rw [if_pos ho]

theorem flat_take_le (L : List Tx) (k : Nat) : (L.take k).flatten.length ≤ L.flatten.length := by
  have h : L.flatten = (L.take k).flatten ++ (L.drop k).flatten := by rw [← List.flatten_append, List.take_append_drop]
  rw [h, List.length_append]; omega
theorem flat_get_le (L : List Tx) (k : Nat) (hk : k < L.length) : L[k].length ≤ L.flatten.length := by
  have h : L.flatten = (L.take k).flatten ++ (L[k] ++ (L.drop (k + 1)).flatten) := by
    have e : L = L.take k ++ (L[k] :: L.drop (k + 1)) := by rw [List.getElem_cons_drop, List.take_append_drop]
    have e2 : ∀ (a b : List Tx) (x : Tx), (a ++ (x :: b)).flatten = a.flatten ++ (x ++ b.flatten) := fun a b x => by simp
    rw [← e2, ← e]
  rw [h, List.length_append, List.length_append]; omega

theorem rotAt_twice (st : Tx) (i : Nat) (m : Int) (hm : m.toNat < 256) : rotAt (rotAt st i m) i m = st := by
  unfold rotAt
  apply List.ext_getElem?
  intro j
  rw [List.getElem?_modify, List.getElem?_modify]
  by_cases e : i = j
  · subst e
    simp only [if_true, Option.map_eq_map, Option.map_map]
    cases h : st[i]? with
    | none => rfl
    | some x =>
      simp only [Option.map_some, Function.comp]
      have hx : x.toNat ^^^ m.toNat < 2 ^ 8 := Nat.xor_lt_two_pow x.toNat_lt hm
      rw [UInt8.toNat_ofNat_of_lt' (by simpa using hx), Nat.xor_assoc, Nat.xor_self, Nat.xor_zero, UInt8.ofNat_toNat]
  · simp [e]
theorem rotOk_bd {n : Nat} {d : Dk} (h : Good n d) {s a m : Int} (hr : rotOk d s a m = true) : 0 ≤ s ∧ s < n ∧ 0 ≤ a ∧ a < 64 ∧ 1 ≤ m ∧ m ≤ 255 := by
  unfold rotOk at hr
  rw [isAt_of h] at hr
  simp only [Bool.and_eq_true, decide_eq_true_eq] at hr
  omega
theorem rotOk_mk {n : Nat} {d : Dk} (h : Good n d) {s a m : Int} (hr : 0 ≤ s ∧ s < n ∧ 0 ≤ a ∧ a < 64 ∧ 1 ≤ m ∧ m ≤ 255) : rotOk d s a m = true := by
  unfold rotOk
  rw [isAt_of h]
  simp only [Bool.and_eq_true, decide_eq_true_eq]
  omega
theorem rot_twice {n : Nat} {d : Dk} (h : Good n d) (s a m : Int) : rot (rot d s a m) s a m = d := by
  cases hr : rotOk d s a m
  · have e : rot d s a m = d := by unfold rot; rw [hr]; rfl
    rw [e, e]
  · have hb := rotOk_bd h hr
    have e : rot d s a m = { d with st := rotAt d.st (s.toNat * 64 + a.toNat) m } := by unfold rot; rw [if_pos hr]
    have hg := h.rot s a m
    have hr2 := rotOk_mk hg hb
    have e2 : rot (rot d s a m) s a m = { rot d s a m with st := rotAt (rot d s a m).st (s.toNat * 64 + a.toNat) m } := by
      show (if rotOk (rot d s a m) s a m = true then _ else _) = _
      rw [if_pos hr2]
    rw [e2, e]
    simp only
    rw [rotAt_twice _ _ _ (by omega)]
/-- The bytes before and after. -/
theorem rot_byte {n : Nat} {d : Dk} (h : Good n d) (s a m : Int) {i k : Nat} (hi : i < n) (hk : k < 64) :
    ∃ x y : UInt8, (sec d.st i)[k]? = some x ∧ (sec (rot d s a m).st i)[k]? = some y ∧ ((x.toNat ^^^ y.toNat : Nat) : Int) = if rotOk d s a m = true ∧ (i : Int) = s ∧ (k : Int) = a then m else 0 := by
  have hl := h.len
  have hik : i * 64 + k < d.st.length := by omega
  rw [sec_get hk, sec_get hk]
  refine ⟨d.st[i * 64 + k], ?_⟩
  cases hr : rotOk d s a m
  · have e : rot d s a m = d := by unfold rot; rw [hr]; rfl
    rw [e]
    exact ⟨_, List.getElem?_eq_getElem hik, List.getElem?_eq_getElem hik, by simp⟩
  · have hb := rotOk_bd h hr
    have e : (rot d s a m).st = rotAt d.st (s.toNat * 64 + a.toNat) m := by unfold rot; rw [if_pos hr]
    rw [e]
    unfold rotAt
    rw [List.getElem?_modify, List.getElem?_eq_getElem hik]
    by_cases e2 : s.toNat * 64 + a.toNat = i * 64 + k
    · have e3 : (i : Int) = s ∧ (k : Int) = a := by omega
      refine ⟨UInt8.ofNat ((d.st[i * 64 + k]).toNat ^^^ m.toNat), rfl, by simp [e2], ?_⟩
      have hx : (d.st[i * 64 + k]).toNat ^^^ m.toNat < 2 ^ 8 := Nat.xor_lt_two_pow (d.st[i * 64 + k]).toNat_lt (by omega)
      rw [if_pos ⟨rfl, e3⟩, UInt8.toNat_ofNat_of_lt' (by simpa using hx), ← Nat.xor_assoc, Nat.xor_self, Nat.zero_xor]
      omega
    · refine ⟨d.st[i * 64 + k], rfl, by simp [e2], ?_⟩
      rw [if_neg (by rintro ⟨_, e3, e4⟩; omega)]
      simp

end D
end Go.Proofs.Ytopjekdhecikdaa
