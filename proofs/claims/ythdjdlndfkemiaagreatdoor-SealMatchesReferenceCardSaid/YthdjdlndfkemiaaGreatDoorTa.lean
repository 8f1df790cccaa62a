/- Trees: plain laws. -/
import Derived.Test.YthdjdlndfkemiaaGreatDoorSa
set_option linter.unusedSimpArgs false
set_option linter.unusedVariables false
set_option maxRecDepth 100000
namespace Go.Proofs.YthdjdlndfkemiaaGreatDoor
namespace S

/-! Halves. -/
def hfF : Nat → Nat → Nat → Nat
  | 0, k, _ => k
  | f + 1, k, n => if 2 * k < n then hfF f (2 * k) n else k
/-- The greatest power of two below n. -/
def hf (n : Nat) : Nat := hfF n 1 n
theorem hfF_pow : ∀ f k n, (∃ e, k = 2 ^ e) → ∃ e, hfF f k n = 2 ^ e
  | 0, k, n, h => h
  | f + 1, k, n, h => by
    unfold hfF
    split
    · obtain ⟨e, rfl⟩ := h; exact hfF_pow f _ n ⟨e + 1, by rw [Nat.pow_succ]; omega⟩
    · exact h
theorem hfF_lt : ∀ f k n, 0 < k → k < n → 0 < hfF f k n ∧ hfF f k n < n
  | 0, k, n, h, h2 => ⟨h, h2⟩
  | f + 1, k, n, h, h2 => by
    unfold hfF
    split
    · exact hfF_lt f _ n (by omega) (by omega)
    · exact ⟨h, h2⟩
theorem hfF_ge : ∀ f k n, 0 < k → n ≤ f + k → n ≤ 2 * hfF f k n
  | 0, k, n, h, h2 => by unfold hfF; omega
  | f + 1, k, n, h, h2 => by
    unfold hfF
    split
    · exact hfF_ge f _ n (by omega) (by omega)
    · omega
theorem hf_spec {n : Nat} (h : 2 ≤ n) : 0 < hf n ∧ hf n < n ∧ n ≤ 2 * hf n ∧ ∃ e, hf n = 2 ^ e :=
  ⟨(hfF_lt n 1 n (by omega) (by omega)).1, (hfF_lt n 1 n (by omega) (by omega)).2, hfF_ge n 1 n (by omega) (by omega), hfF_pow n 1 n ⟨0, rfl⟩⟩
theorem pow_half {e f n : Nat} (h1 : 2 ^ e < n) (h2 : n ≤ 2 ^ f) : 2 * 2 ^ e ≤ 2 ^ f := by
  have h3 : e < f := (Nat.pow_lt_pow_iff_right (by omega : 1 < 2)).1 (by omega)
  have h4 : 2 ^ (e + 1) ≤ 2 ^ f := Nat.pow_le_pow_right (by omega) h3
  rw [Nat.pow_succ] at h4; omega
theorem hf_eq {m e : Nat} (h1 : 2 ^ e < m) (h2 : m ≤ 2 * 2 ^ e) : hf m = 2 ^ e := by
  have hp : 0 < 2 ^ e := Nat.pow_pos (by omega)
  obtain ⟨a1, a2, a3, f, hf'⟩ := hf_spec (n := m) (by omega)
  rw [hf'] at a2 a3 ⊢
  rcases Nat.lt_trichotomy e f with h | h | h
  · have h4 : 2 ^ (e + 1) ≤ 2 ^ f := Nat.pow_le_pow_right (by omega) h
    rw [Nat.pow_succ] at h4; omega
  · rw [h]
  · have h4 : 2 ^ (f + 1) ≤ 2 ^ e := Nat.pow_le_pow_right (by omega) h
    rw [Nat.pow_succ] at h4; omega

/-! Roots. -/
def nodeT : Tx := [110, 111, 100, 101]
def leafT : Tx := [108, 101, 97, 102]
def emptyT : Tx := [101, 109, 112, 116, 121]
def jn (a b : Tx) : Tx := joinT [nodeT, a, b]
def node (a b : Tx) : Tx := listL [nodeT, a, b]
def leaf (s : Tx) : Tx := listL [leafT, s]
def empT : Tx := listL [emptyT]
theorem node_jn (a b : Tx) : node a b = sumL (jn a b) := rfl
def rootT (l : List Tx) : Tx :=
  if l.length ≤ 1 then l.headD empT else node (rootT (l.take (hf l.length))) (rootT (l.drop (hf l.length)))
termination_by l.length
decreasing_by all_goals (have := hf_spec (n := l.length) (by omega); simp; omega)
theorem root_nil : rootT [] = empT := by rw [rootT]; rfl
theorem root_one (x : Tx) : rootT [x] = x := by rw [rootT]; rfl
theorem root_step {l : List Tx} (h : 2 ≤ l.length) : rootT l = node (rootT (l.take (hf l.length))) (rootT (l.drop (hf l.length))) := by
  rw [rootT, if_neg (by omega)]
def Sm (t : Tx) : Prop := t.length ≤ 1000
theorem node_sm (a b : Tx) : Sm (node a b) := by unfold Sm node listL; rw [sumL_len]; omega
theorem node_len (a b : Tx) : (node a b).length = 16 := sumL_len _
theorem emp_sm : Sm empT := by unfold Sm empT listL; rw [sumL_len]; omega
theorem root_sm (l : List Tx) (h : ∀ t ∈ l, Sm t) : Sm (rootT l) := by
  by_cases h2 : 2 ≤ l.length
  · rw [root_step h2]; exact node_sm _ _
  · match l, h2, h with
    | [], _, _ => rw [root_nil]; exact emp_sm
    | [x], _, h => rw [root_one]; exact h x List.mem_cons_self
    | _ :: _ :: _, h2, _ => simp at h2
theorem root_dig (l : List Tx) (h : ∀ t ∈ l, isD t = true) : isD (rootT l) = true := by
  by_cases h2 : 2 ≤ l.length
  · rw [root_step h2]; exact isD_sum _
  · match l, h2, h with
    | [], _, _ => rw [root_nil]; exact isD_sum _
    | [x], _, h => rw [root_one]; exact h x List.mem_cons_self
    | _ :: _ :: _, h2, _ => simp at h2
theorem isD_sm {t : Tx} (h : isD t = true) : Sm t := by unfold isD at h; simp at h; unfold Sm; omega
theorem sm_take {l : List Tx} (h : ∀ t ∈ l, Sm t) (k : Nat) : ∀ t ∈ l.take k, Sm t := fun t ht => h t (List.mem_of_mem_take ht)
theorem sm_drop {l : List Tx} (h : ∀ t ∈ l, Sm t) (k : Nat) : ∀ t ∈ l.drop k, Sm t := fun t ht => h t (List.mem_of_mem_drop ht)

/-! Collisions. -/
def Coll (L : List Tx) : Prop := ∃ a ∈ L, ∃ b ∈ L, a ≠ b ∧ sumL a = sumL b
theorem Coll.mono {L M : List Tx} (h : Coll L) (hs : ∀ t ∈ L, t ∈ M) : Coll M := by
  obtain ⟨a, ha, b, hb, h1, h2⟩ := h
  exact ⟨a, hs a ha, b, hs b hb, h1, h2⟩
def shownB (L : List Tx) : Bool := L.any fun a => L.any fun b => a != b && sumL a == sumL b
theorem shown_iff (L : List Tx) : shownB L = true ↔ Coll L := by
  unfold shownB Coll
  simp only [List.any_eq_true, Bool.and_eq_true, bne_iff_ne, beq_iff_eq]
theorem node_inj {a b c d : Tx} (ha : Sm a) (hb : Sm b) (hc : Sm c) (hd : Sm d) (h : node a b = node c d) : (a = c ∧ b = d) ∨ (jn a b ≠ jn c d ∧ sumL (jn a b) = sumL (jn c d)) := by
  by_cases hj : jn a b = jn c d
  · left
    unfold Sm at ha hb hc hd
    have := joinT_inj [nodeT, a, b] [nodeT, c, d] (by simp [nodeT]; omega) (by simp [nodeT]; omega) hj
    simpa using this
  · exact .inr ⟨hj, h⟩
def textsT (l : List Tx) : List Tx :=
  if l.length ≤ 1 then (if l.length = 0 then [joinT [emptyT]] else []) else textsT (l.take (hf l.length)) ++ textsT (l.drop (hf l.length)) ++ [jn (rootT (l.take (hf l.length))) (rootT (l.drop (hf l.length)))]
termination_by l.length
decreasing_by all_goals (have := hf_spec (n := l.length) (by omega); simp; omega)
theorem texts_step {l : List Tx} (h : 2 ≤ l.length) : textsT l = textsT (l.take (hf l.length)) ++ textsT (l.drop (hf l.length)) ++ [jn (rootT (l.take (hf l.length))) (rootT (l.drop (hf l.length)))] := by
  rw [textsT, if_neg (by omega)]
theorem roots_law : ∀ n (a b : List Tx), a.length = n → b.length = n → (∀ t ∈ a, Sm t) → (∀ t ∈ b, Sm t) → rootT a = rootT b → a = b ∨ Coll (textsT a ++ textsT b) := by
  intro n
  induction n using Nat.strongRecOn with
  | ind n ih =>
    intro a b ha hb sa sb h
    by_cases h2 : 2 ≤ n
    · obtain ⟨k0, k1, k2, _⟩ := hf_spec h2
      have ea := root_step (l := a) (by omega)
      have eb := root_step (l := b) (by omega)
      have ta := texts_step (l := a) (by omega)
      have tb := texts_step (l := b) (by omega)
      rw [ha] at ea ta
      rw [hb] at eb tb
      rw [ea, eb] at h
      rcases node_inj (root_sm _ (sm_take sa _)) (root_sm _ (sm_drop sa _)) (root_sm _ (sm_take sb _)) (root_sm _ (sm_drop sb _)) h with ⟨e1, e2⟩ | ⟨e1, e2⟩
      · rcases ih (hf n) k1 (a.take (hf n)) (b.take (hf n)) (by simp; omega) (by simp; omega) (sm_take sa _) (sm_take sb _) e1 with q1 | q1
        · rcases ih (n - hf n) (by omega) (a.drop (hf n)) (b.drop (hf n)) (by simp; omega) (by simp; omega) (sm_drop sa _) (sm_drop sb _) e2 with q2 | q2
          · left; rw [← List.take_append_drop (hf n) a, q1, q2, List.take_append_drop]
          · right; exact q2.mono fun t ht => by rw [ta, tb]; simp only [List.mem_append] at ht ⊢; rcases ht with ht | ht <;> simp [ht]
        · right; exact q1.mono fun t ht => by rw [ta, tb]; simp only [List.mem_append] at ht ⊢; rcases ht with ht | ht <;> simp [ht]
      · right
        exact ⟨_, by rw [ta]; simp, _, by rw [tb]; simp, e1, e2⟩
    · left
      match a, b, ha, hb with
      | [], [], _, _ => rfl
      | [x], [y], _, _ => rw [root_one, root_one] at h; rw [h]
      | [], _ :: _, ha, hb => simp at ha hb; omega
      | _ :: _, [], ha, hb => simp at ha hb; omega
      | _ :: _ :: _, _, ha, _ => simp at ha; omega
      | [_], _ :: _ :: _, ha, hb => simp at ha hb; omega

/-! Paths. -/
def pathT (l : List Tx) (i : Nat) : List Tx :=
  if l.length ≤ 1 then [] else if i < hf l.length then pathT (l.take (hf l.length)) i ++ [rootT (l.drop (hf l.length))] else pathT (l.drop (hf l.length)) (i - hf l.length) ++ [rootT (l.take (hf l.length))]
termination_by l.length
decreasing_by all_goals (have := hf_spec (n := l.length) (by omega); simp; omega)
theorem path_one {l : List Tx} (i : Nat) (h : l.length ≤ 1) : pathT l i = [] := by rw [pathT, if_pos h]
theorem path_left {l : List Tx} {i : Nat} (h : 2 ≤ l.length) (hi : i < hf l.length) : pathT l i = pathT (l.take (hf l.length)) i ++ [rootT (l.drop (hf l.length))] := by
  rw [pathT, if_neg (by omega), if_pos hi]
theorem path_right {l : List Tx} {i : Nat} (h : 2 ≤ l.length) (hi : ¬ i < hf l.length) : pathT l i = pathT (l.drop (hf l.length)) (i - hf l.length) ++ [rootT (l.take (hf l.length))] := by
  rw [pathT, if_neg (by omega), if_neg hi]
def lenT (n i : Nat) : Nat := if n ≤ 1 then 0 else if i < hf n then 1 + lenT (hf n) i else 1 + lenT (n - hf n) (i - hf n)
termination_by n
decreasing_by all_goals (have := hf_spec (n := n) (by omega); omega)
theorem len_one {n : Nat} (i : Nat) (h : n ≤ 1) : lenT n i = 0 := by rw [lenT, if_pos h]
theorem len_left {n i : Nat} (h : 2 ≤ n) (hi : i < hf n) : lenT n i = 1 + lenT (hf n) i := by rw [lenT, if_neg (by omega), if_pos hi]
theorem len_right {n i : Nat} (h : 2 ≤ n) (hi : ¬ i < hf n) : lenT n i = 1 + lenT (n - hf n) (i - hf n) := by rw [lenT, if_neg (by omega), if_neg hi]
/-- The root out of a digest and a path, whose last element comes first. -/
def upT (n i : Nat) (d : Tx) (q : List Tx) : Tx := if n ≤ 1 then d else if i < hf n then node (upT (hf n) i d q.tail) (q.headD []) else node (q.headD []) (upT (n - hf n) (i - hf n) d q.tail)
termination_by n
decreasing_by all_goals (have := hf_spec (n := n) (by omega); omega)
theorem up_one {n : Nat} (i : Nat) (d : Tx) (q : List Tx) (h : n ≤ 1) : upT n i d q = d := by rw [upT, if_pos h]
theorem up_left {n i : Nat} (d : Tx) (q : List Tx) (h : 2 ≤ n) (hi : i < hf n) : upT n i d q = node (upT (hf n) i d q.tail) (q.headD []) := by rw [upT, if_neg (by omega), if_pos hi]
theorem up_right {n i : Nat} (d : Tx) (q : List Tx) (h : 2 ≤ n) (hi : ¬ i < hf n) : upT n i d q = node (q.headD []) (upT (n - hf n) (i - hf n) d q.tail) := by rw [upT, if_neg (by omega), if_neg hi]
theorem path_len : ∀ n (l : List Tx) i, l.length = n → (pathT l i).length = lenT n i := by
  intro n
  induction n using Nat.strongRecOn with
  | ind n ih =>
    intro l i hl
    by_cases h2 : 2 ≤ n
    · obtain ⟨k0, k1, k2, _⟩ := hf_spec h2
      by_cases hi : i < hf n
      · rw [path_left (by omega) (by rw [hl]; exact hi), len_left h2 hi, List.length_append, hl, ih (hf n) k1 _ _ (by simp; omega)]; simp; omega
      · rw [path_right (by omega) (by rw [hl]; exact hi), len_right h2 hi, List.length_append, hl, ih (n - hf n) (by omega) _ _ (by simp; omega)]; simp; omega
    · rw [path_one _ (by omega), len_one _ (by omega)]; rfl
theorem up_path : ∀ n (l : List Tx) i (hi : i < l.length), l.length = n → upT n i l[i] (pathT l i).reverse = rootT l := by
  intro n
  induction n using Nat.strongRecOn with
  | ind n ih =>
    intro l i hi hl
    by_cases h2 : 2 ≤ n
    · obtain ⟨k0, k1, k2, _⟩ := hf_spec h2
      rw [root_step (by omega), hl]
      by_cases hk : i < hf n
      · rw [path_left (by omega) (by rw [hl]; exact hk), up_left _ _ h2 hk, hl]
        simp only [List.reverse_append, List.reverse_cons, List.reverse_nil, List.nil_append, List.cons_append, List.tail_cons, List.headD_cons]
        have := ih (hf n) k1 (l.take (hf n)) i (by simp; omega) (by simp; omega)
        rw [List.getElem_take] at this
        rw [this]
      · rw [path_right (by omega) (by rw [hl]; exact hk), up_right _ _ h2 hk, hl]
        simp only [List.reverse_append, List.reverse_cons, List.reverse_nil, List.nil_append, List.cons_append, List.tail_cons, List.headD_cons]
        have := ih (n - hf n) (by omega) (l.drop (hf n)) (i - hf n) (by simp; omega) (by simp; omega)
        rw [List.getElem_drop] at this
        simp only [show hf n + (i - hf n) = i by omega] at this
        rw [this]
    · match l, hi, hl with
      | [x], hi, hl =>
        have : i = 0 := by simp at hi; omega
        subst this
        rw [up_one _ _ _ (by omega), root_one]; rfl
      | [], hi, _ => simp at hi
      | _ :: _ :: _, _, hl => simp at hl; omega
def bitsN (n : Nat) : Nat := if n = 0 then 0 else bitsN (n / 2) + 1
termination_by n
decreasing_by omega
theorem bits_lt : ∀ n, n < 2 ^ bitsN n := by
  intro n
  induction n using Nat.strongRecOn with
  | ind n ih =>
    rw [bitsN]
    split
    · simp; omega
    · have := ih (n / 2) (by omega)
      rw [Nat.pow_succ]; omega
theorem len_le : ∀ n i e, n ≤ 2 ^ e → lenT n i ≤ e := by
  intro n
  induction n using Nat.strongRecOn with
  | ind n ih =>
    intro i e he
    by_cases h2 : 2 ≤ n
    · obtain ⟨k0, k1, k2, f, hf'⟩ := hf_spec h2
      have h3 := pow_half (e := f) (f := e) (n := n) (by omega) he
      match e, he, h3 with
      | 0, he, _ => simp at he; omega
      | e + 1, he, h3 =>
        rw [Nat.pow_succ] at h3
        by_cases hk : i < hf n
        · rw [len_left h2 hk]; have := ih (hf n) k1 i e (by omega); omega
        · rw [len_right h2 hk]; have := ih (n - hf n) (by omega) (i - hf n) e (by omega); omega
    · rw [len_one _ (by omega)]; omega
theorem len_bits (n i : Nat) : lenT n i ≤ bitsN n := len_le n i _ (Nat.le_of_lt (bits_lt n))
theorem len_zero (n i : Nat) (h : 1 ≤ n) : lenT n i = 0 ↔ n = 1 := by
  by_cases h2 : 2 ≤ n
  · by_cases hk : i < hf n
    · rw [len_left h2 hk]; omega
    · rw [len_right h2 hk]; omega
  · rw [len_one _ (by omega)]; omega
def pathTexts (n i : Nat) (d : Tx) (q : List Tx) : List Tx := if n ≤ 1 then [] else if i < hf n then pathTexts (hf n) i d q.tail ++ [jn (upT (hf n) i d q.tail) (q.headD [])] else pathTexts (n - hf n) (i - hf n) d q.tail ++ [jn (q.headD []) (upT (n - hf n) (i - hf n) d q.tail)]
termination_by n
decreasing_by all_goals (have := hf_spec (n := n) (by omega); omega)
theorem pt_one {n : Nat} (i : Nat) (d : Tx) (q : List Tx) (h : n ≤ 1) : pathTexts n i d q = [] := by rw [pathTexts, if_pos h]
theorem pt_left {n i : Nat} (d : Tx) (q : List Tx) (h : 2 ≤ n) (hi : i < hf n) : pathTexts n i d q = pathTexts (hf n) i d q.tail ++ [jn (upT (hf n) i d q.tail) (q.headD [])] := by rw [pathTexts, if_neg (by omega), if_pos hi]
theorem pt_right {n i : Nat} (d : Tx) (q : List Tx) (h : 2 ≤ n) (hi : ¬ i < hf n) : pathTexts n i d q = pathTexts (n - hf n) (i - hf n) d q.tail ++ [jn (q.headD []) (upT (n - hf n) (i - hf n) d q.tail)] := by rw [pathTexts, if_neg (by omega), if_neg hi]
theorem up_sm (n i : Nat) (d : Tx) (q : List Tx) (hd : Sm d) : Sm (upT n i d q) := by
  by_cases h2 : 2 ≤ n
  · by_cases hk : i < hf n
    · rw [up_left _ _ h2 hk]; exact node_sm _ _
    · rw [up_right _ _ h2 hk]; exact node_sm _ _
  · rw [up_one _ _ _ (by omega)]; exact hd
theorem sm_headD {q : List Tx} (h : ∀ t ∈ q, Sm t) : Sm (q.headD []) := by
  cases q with
  | nil => simp [Sm]
  | cons x q => exact h x List.mem_cons_self
theorem sm_tail {q : List Tx} (h : ∀ t ∈ q, Sm t) : ∀ t ∈ q.tail, Sm t := fun t ht => h t (List.mem_of_mem_tail ht)
theorem binds_law : ∀ n (l : List Tx) i (hi : i < l.length) (s : Tx) (q : List Tx), l.length = n → (∀ t ∈ l, Sm t) → (∀ t ∈ q, Sm t) → Sm s → upT n i s q = rootT l → s = l[i] ∨ Coll (textsT l ++ pathTexts n i s q) := by
  intro n
  induction n using Nat.strongRecOn with
  | ind n ih =>
    intro l i hi s q hl sl sq ss h
    by_cases h2 : 2 ≤ n
    · obtain ⟨k0, k1, k2, _⟩ := hf_spec h2
      have tl := texts_step (l := l) (by omega)
      rw [root_step (by omega), hl] at h
      rw [hl] at tl
      by_cases hk : i < hf n
      · rw [up_left _ _ h2 hk] at h
        rw [pt_left _ _ h2 hk]
        rcases node_inj (up_sm _ _ _ _ ss) (sm_headD sq) (root_sm _ (sm_take sl _)) (root_sm _ (sm_drop sl _)) h with ⟨e1, e2⟩ | ⟨e1, e2⟩
        · rcases ih (hf n) k1 (l.take (hf n)) i (by simp; omega) s q.tail (by simp; omega) (sm_take sl _) (sm_tail sq) ss e1 with r | r
          · left; rw [r, List.getElem_take]
          · right; exact r.mono fun t ht => by rw [tl]; simp only [List.mem_append] at ht ⊢; rcases ht with ht | ht <;> simp [ht]
        · right; exact ⟨_, by simp, _, by rw [tl]; simp, e1, e2⟩
      · rw [up_right _ _ h2 hk] at h
        rw [pt_right _ _ h2 hk]
        rcases node_inj (sm_headD sq) (up_sm _ _ _ _ ss) (root_sm _ (sm_take sl _)) (root_sm _ (sm_drop sl _)) h with ⟨e1, e2⟩ | ⟨e1, e2⟩
        · rcases ih (n - hf n) (by omega) (l.drop (hf n)) (i - hf n) (by simp; omega) s q.tail (by simp; omega) (sm_drop sl _) (sm_tail sq) ss e2 with r | r
          · left; rw [r, List.getElem_drop]; simp only [show hf n + (i - hf n) = i by omega]
          · right; exact r.mono fun t ht => by rw [tl]; simp only [List.mem_append] at ht ⊢; rcases ht with ht | ht <;> simp [ht]
        · right; exact ⟨_, by simp, _, by rw [tl]; simp, e1, e2⟩
    · left
      rw [up_one _ _ _ (by omega)] at h
      match l, hi, hl with
      | [x], hi, hl =>
        have : i = 0 := by simp at hi; omega
        subst this
        rw [root_one] at h; exact h
      | [], hi, _ => simp at hi
      | _ :: _ :: _, _, hl => simp at hl; omega

end S
end Go.Proofs.YthdjdlndfkemiaaGreatDoor

/- Trees: plain laws of links. -/
namespace Go.Proofs.YthdjdlndfkemiaaGreatDoor
namespace S

def linkT (l : List Tx) (m : Nat) (whole : Bool) : List Tx :=
  if l.length ≤ m then (if whole then [] else [rootT l]) else if l.length ≤ 1 then [] else
    if m ≤ hf l.length then linkT (l.take (hf l.length)) m whole ++ [rootT (l.drop (hf l.length))] else linkT (l.drop (hf l.length)) (m - hf l.length) false ++ [rootT (l.take (hf l.length))]
termination_by l.length
decreasing_by all_goals (have := hf_spec (n := l.length) (by omega); simp; omega)
theorem link_end {l : List Tx} {m : Nat} (whole : Bool) (h : l.length ≤ m) : linkT l m whole = if whole then [] else [rootT l] := by rw [linkT, if_pos h]
theorem link_left {l : List Tx} {m : Nat} (whole : Bool) (h : m < l.length) (h2 : 2 ≤ l.length) (hm : m ≤ hf l.length) : linkT l m whole = linkT (l.take (hf l.length)) m whole ++ [rootT (l.drop (hf l.length))] := by
  rw [linkT, if_neg (by omega), if_neg (by omega), if_pos hm]
theorem link_right {l : List Tx} {m : Nat} (whole : Bool) (h : m < l.length) (h2 : 2 ≤ l.length) (hm : ¬ m ≤ hf l.length) : linkT l m whole = linkT (l.drop (hf l.length)) (m - hf l.length) false ++ [rootT (l.take (hf l.length))] := by
  rw [linkT, if_neg (by omega), if_neg (by omega), if_neg hm]
def longT (n m : Nat) (whole : Bool) : Nat :=
  if n ≤ m then (if whole then 0 else 1) else if n ≤ 1 then 0 else if m ≤ hf n then 1 + longT (hf n) m whole else 1 + longT (n - hf n) (m - hf n) false
termination_by n
decreasing_by all_goals (have := hf_spec (n := n) (by omega); omega)
theorem long_end {n m : Nat} (whole : Bool) (h : n ≤ m) : longT n m whole = if whole then 0 else 1 := by rw [longT, if_pos h]
theorem long_left {n m : Nat} (whole : Bool) (h : m < n) (h2 : 2 ≤ n) (hm : m ≤ hf n) : longT n m whole = 1 + longT (hf n) m whole := by rw [longT, if_neg (by omega), if_neg (by omega), if_pos hm]
theorem long_right {n m : Nat} (whole : Bool) (h : m < n) (h2 : 2 ≤ n) (hm : ¬ m ≤ hf n) : longT n m whole = 1 + longT (n - hf n) (m - hf n) false := by rw [longT, if_neg (by omega), if_neg (by omega), if_neg hm]
/-- The roots of the first m and of all out of a link, whose last element comes first. -/
def bothT (n m : Nat) (whole : Bool) (old : Tx) (q : List Tx) : Tx × Tx :=
  if n ≤ m then (if whole then (old, old) else (q.headD [], q.headD [])) else if n ≤ 1 then ([], []) else
    if m ≤ hf n then ((bothT (hf n) m whole old q.tail).1, node (bothT (hf n) m whole old q.tail).2 (q.headD []))
    else (node (q.headD []) (bothT (n - hf n) (m - hf n) false old q.tail).1, node (q.headD []) (bothT (n - hf n) (m - hf n) false old q.tail).2)
termination_by n
decreasing_by all_goals (have := hf_spec (n := n) (by omega); omega)
theorem both_end {n m : Nat} (whole : Bool) (old : Tx) (q : List Tx) (h : n ≤ m) : bothT n m whole old q = if whole then (old, old) else (q.headD [], q.headD []) := by rw [bothT, if_pos h]
theorem both_left {n m : Nat} (whole : Bool) (old : Tx) (q : List Tx) (h : m < n) (h2 : 2 ≤ n) (hm : m ≤ hf n) : bothT n m whole old q = ((bothT (hf n) m whole old q.tail).1, node (bothT (hf n) m whole old q.tail).2 (q.headD [])) := by
  rw [bothT, if_neg (by omega), if_neg (by omega), if_pos hm]
theorem both_right {n m : Nat} (whole : Bool) (old : Tx) (q : List Tx) (h : m < n) (h2 : 2 ≤ n) (hm : ¬ m ≤ hf n) : bothT n m whole old q = (node (q.headD []) (bothT (n - hf n) (m - hf n) false old q.tail).1, node (q.headD []) (bothT (n - hf n) (m - hf n) false old q.tail).2) := by
  rw [bothT, if_neg (by omega), if_neg (by omega), if_neg hm]
def linkTexts (n m : Nat) (whole : Bool) (old : Tx) (q : List Tx) : List Tx :=
  if n ≤ m then [] else if n ≤ 1 then [] else
    if m ≤ hf n then linkTexts (hf n) m whole old q.tail ++ [jn (bothT (hf n) m whole old q.tail).2 (q.headD [])]
    else linkTexts (n - hf n) (m - hf n) false old q.tail ++ [jn (q.headD []) (bothT (n - hf n) (m - hf n) false old q.tail).1] ++ [jn (q.headD []) (bothT (n - hf n) (m - hf n) false old q.tail).2]
termination_by n
decreasing_by all_goals (have := hf_spec (n := n) (by omega); omega)
theorem lt_end {n m : Nat} (whole : Bool) (old : Tx) (q : List Tx) (h : n ≤ m) : linkTexts n m whole old q = [] := by rw [linkTexts, if_pos h]
theorem lt_left {n m : Nat} (whole : Bool) (old : Tx) (q : List Tx) (h : m < n) (h2 : 2 ≤ n) (hm : m ≤ hf n) : linkTexts n m whole old q = linkTexts (hf n) m whole old q.tail ++ [jn (bothT (hf n) m whole old q.tail).2 (q.headD [])] := by
  rw [linkTexts, if_neg (by omega), if_neg (by omega), if_pos hm]
theorem lt_right {n m : Nat} (whole : Bool) (old : Tx) (q : List Tx) (h : m < n) (h2 : 2 ≤ n) (hm : ¬ m ≤ hf n) : linkTexts n m whole old q = linkTexts (n - hf n) (m - hf n) false old q.tail ++ [jn (q.headD []) (bothT (n - hf n) (m - hf n) false old q.tail).1] ++ [jn (q.headD []) (bothT (n - hf n) (m - hf n) false old q.tail).2] := by
  rw [linkTexts, if_neg (by omega), if_neg (by omega), if_neg hm]

theorem link_len : ∀ n (l : List Tx) m whole, l.length = n → 1 ≤ m → (linkT l m whole).length = longT n m whole := by
  intro n
  induction n using Nat.strongRecOn with
  | ind n ih =>
    intro l m whole hl hm
    by_cases hlt : m < n
    · have h2 : 2 ≤ n := by omega
      obtain ⟨k0, k1, k2, _⟩ := hf_spec h2
      by_cases hk : m ≤ hf n
      · rw [link_left whole (by omega) (by omega) (by rw [hl]; exact hk), long_left whole hlt h2 hk, List.length_append, hl, ih (hf n) k1 _ _ _ (by simp; omega) hm]; simp; omega
      · rw [link_right whole (by omega) (by omega) (by rw [hl]; exact hk), long_right whole hlt h2 hk, List.length_append, hl, ih (n - hf n) (by omega) _ _ _ (by simp; omega) (by omega)]; simp; omega
    · rw [link_end whole (by omega), long_end whole (by omega)]; cases whole <;> rfl
theorem long_zero (n m : Nat) (h : 1 ≤ m) (hm : m ≤ n) : longT n m true = 0 ↔ m = n := by
  by_cases hlt : m < n
  · by_cases hk : m ≤ hf n
    · rw [long_left true hlt (by omega) hk]; omega
    · rw [long_right true hlt (by omega) hk]; omega
  · rw [long_end true (by omega)]; simp; omega
theorem long_le : ∀ n m whole e, 1 ≤ m → n ≤ 2 ^ e → longT n m whole ≤ e + 1 := by
  intro n
  induction n using Nat.strongRecOn with
  | ind n ih =>
    intro m whole e hm he
    by_cases hlt : m < n
    · have h2 : 2 ≤ n := by omega
      obtain ⟨k0, k1, k2, f, hf'⟩ := hf_spec h2
      have h3 := pow_half (e := f) (f := e) (n := n) (by omega) he
      match e, he, h3 with
      | 0, he, _ => simp at he; omega
      | e + 1, he, h3 =>
        rw [Nat.pow_succ] at h3
        by_cases hk : m ≤ hf n
        · rw [long_left whole hlt h2 hk]; have := ih (hf n) k1 m whole e hm (by omega); omega
        · rw [long_right whole hlt h2 hk]; have := ih (n - hf n) (by omega) (m - hf n) false e (by omega) (by omega); omega
    · rw [long_end whole (by omega)]; cases whole <;> simp
theorem long_bits (n m : Nat) (hm : 1 ≤ m) : longT n m true ≤ bitsN n + 1 := long_le n m true _ hm (Nat.le_of_lt (bits_lt n))

/-- The root of the first m, where they are more than the greater half. -/
theorem root_take {l : List Tx} {m n : Nat} (hl : l.length = n) (h2 : 2 ≤ n) (hk : hf n < m) (hm : m ≤ n) : rootT (l.take m) = node (rootT (l.take (hf n))) (rootT ((l.drop (hf n)).take (m - hf n))) := by
  obtain ⟨k0, k1, k2, f, hf'⟩ := hf_spec h2
  have e : hf m = hf n := by rw [hf'] at hk k2 ⊢; exact hf_eq hk (by omega)
  have hlen : (l.take m).length = m := by simp; omega
  rw [root_step (by omega), hlen, e, List.take_take, show min (hf n) m = hf n by omega, List.drop_take]
theorem both_link : ∀ n (l : List Tx) m whole old, l.length = n → 1 ≤ m → m ≤ n → (whole = true → old = rootT (l.take m)) → bothT n m whole old (linkT l m whole).reverse = (rootT (l.take m), rootT l) := by
  intro n
  induction n using Nat.strongRecOn with
  | ind n ih =>
    intro l m whole old hl hm hmn ho
    by_cases hlt : m < n
    · have h2 : 2 ≤ n := by omega
      obtain ⟨k0, k1, k2, _⟩ := hf_spec h2
      have hr := root_step (l := l) (by omega)
      rw [hl] at hr
      by_cases hk : m ≤ hf n
      · rw [link_left whole (by omega) (by omega) (by rw [hl]; exact hk), both_left _ _ _ hlt h2 hk, hl]
        simp only [List.reverse_append, List.reverse_cons, List.reverse_nil, List.nil_append, List.cons_append, List.tail_cons, List.headD_cons]
        have e : (l.take (hf n)).take m = l.take m := by rw [List.take_take, show min m (hf n) = m by omega]
        rw [ih (hf n) k1 (l.take (hf n)) m whole old (by simp; omega) hm hk (by rw [e]; exact ho), e, hr]
      · rw [link_right whole (by omega) (by omega) (by rw [hl]; exact hk), both_right _ _ _ hlt h2 hk, hl]
        simp only [List.reverse_append, List.reverse_cons, List.reverse_nil, List.nil_append, List.cons_append, List.tail_cons, List.headD_cons]
        rw [ih (n - hf n) (by omega) (l.drop (hf n)) (m - hf n) false old (by simp; omega) (by omega) (by omega) (by simp), hr, root_take hl h2 (by omega) hmn]
    · obtain rfl : m = n := by omega
      have e : l.take m = l := List.take_of_length_le (by omega)
      rw [link_end whole (by omega), both_end _ _ _ (Nat.le_refl _)]
      rw [e] at ho ⊢
      cases whole with
      | true => simp [ho rfl]
      | false => simp
theorem both_sm : ∀ n m whole old (q : List Tx), Sm old → (∀ t ∈ q, Sm t) → Sm (bothT n m whole old q).1 ∧ Sm (bothT n m whole old q).2 := by
  intro n
  induction n using Nat.strongRecOn with
  | ind n ih =>
    intro m whole old q so sq
    by_cases hlt : m < n
    · by_cases h2 : 2 ≤ n
      · obtain ⟨k0, k1, k2, _⟩ := hf_spec h2
        by_cases hk : m ≤ hf n
        · rw [both_left _ _ _ hlt h2 hk]; exact ⟨(ih (hf n) k1 m whole old q.tail so (sm_tail sq)).1, node_sm _ _⟩
        · rw [both_right _ _ _ hlt h2 hk]; exact ⟨node_sm _ _, node_sm _ _⟩
      · rw [bothT, if_neg (by omega), if_pos (by omega)]; exact ⟨by simp [Sm], by simp [Sm]⟩
    · rw [both_end _ _ _ (by omega)]
      cases whole with
      | true => exact ⟨so, so⟩
      | false => exact ⟨sm_headD sq, sm_headD sq⟩
theorem conts_law : ∀ n (l : List Tx) m whole old (q : List Tx), l.length = n → 1 ≤ m → m ≤ n → (∀ t ∈ l, Sm t) → (∀ t ∈ q, Sm t) → Sm old → (bothT n m whole old q).2 = rootT l →
    (bothT n m whole old q).1 = rootT (l.take m) ∨ Coll (textsT l ++ linkTexts n m whole old q) := by
  intro n
  induction n using Nat.strongRecOn with
  | ind n ih =>
    intro l m whole old q hl hm hmn sl sq so h
    by_cases hlt : m < n
    · have h2 : 2 ≤ n := by omega
      obtain ⟨k0, k1, k2, _⟩ := hf_spec h2
      have tl := texts_step (l := l) (by omega)
      have hr := root_step (l := l) (by omega)
      rw [hl] at hr tl
      by_cases hk : m ≤ hf n
      · have e : (l.take (hf n)).take m = l.take m := by rw [List.take_take, show min m (hf n) = m by omega]
        rw [both_left _ _ _ hlt h2 hk, hr] at h
        rw [both_left _ _ _ hlt h2 hk, lt_left _ _ _ hlt h2 hk]
        have sb := both_sm (hf n) m whole old q.tail so (sm_tail sq)
        rcases node_inj sb.2 (sm_headD sq) (root_sm _ (sm_take sl _)) (root_sm _ (sm_drop sl _)) h with ⟨e1, e2⟩ | ⟨e1, e2⟩
        · rcases ih (hf n) k1 (l.take (hf n)) m whole old q.tail (by simp; omega) hm hk (sm_take sl _) (sm_tail sq) so e1 with r | r
          · left; rw [← e]; exact r
          · right; exact r.mono fun t ht => by rw [tl]; simp only [List.mem_append] at ht ⊢; rcases ht with ht | ht <;> simp [ht]
        · right; exact ⟨_, by simp, _, by rw [tl]; simp, e1, e2⟩
      · rw [both_right _ _ _ hlt h2 hk, hr] at h
        rw [both_right _ _ _ hlt h2 hk, lt_right _ _ _ hlt h2 hk]
        have sb := both_sm (n - hf n) (m - hf n) false old q.tail so (sm_tail sq)
        rcases node_inj (sm_headD sq) sb.2 (root_sm _ (sm_take sl _)) (root_sm _ (sm_drop sl _)) h with ⟨e1, e2⟩ | ⟨e1, e2⟩
        · rcases ih (n - hf n) (by omega) (l.drop (hf n)) (m - hf n) false old q.tail (by simp; omega) (by omega) (by omega) (sm_drop sl _) (sm_tail sq) so e2 with r | r
          · left; rw [root_take hl h2 (by omega) hmn, r, e1]
          · right; exact r.mono fun t ht => by rw [tl]; simp only [List.mem_append] at ht ⊢; rcases ht with ht | ht <;> simp [ht]
        · right; exact ⟨_, by simp, _, by rw [tl]; simp, e1, e2⟩
    · obtain rfl : m = n := by omega
      left
      have e : l.take m = l := List.take_of_length_le (by omega)
      rw [both_end _ _ _ (Nat.le_refl _)] at h ⊢
      rw [e, ← h]
      cases whole <;> rfl

end S
end Go.Proofs.YthdjdlndfkemiaaGreatDoor
