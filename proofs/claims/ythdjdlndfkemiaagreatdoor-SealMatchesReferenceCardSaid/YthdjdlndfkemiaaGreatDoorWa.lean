/- Seals: plain laws. -/
import Derived.Test.YthdjdlndfkemiaaGreatDoorTa
set_option linter.unusedSimpArgs false
set_option linter.unusedVariables false
set_option maxRecDepth 100000
namespace Go.Proofs.YthdjdlndfkemiaaGreatDoor
namespace S

/-! The digits of a message. -/
def hxv (c : UInt8) : Nat := if c.toNat < 58 then c.toNat - 48 else c.toNat - 87
theorem hxv_hexd : ∀ d, d < 16 → hxv (hexd d) = d := by decide +kernel
theorem hexs_mem : ∀ k n, ∀ c ∈ hexs k n, ∃ d, d < 16 ∧ c = hexd d
  | 0, _, c, h => by simp [hexs] at h
  | k + 1, n, c, h => by
    simp only [hexs, List.mem_append, List.mem_singleton] at h
    rcases h with h | h
    · exact hexs_mem k _ c h
    · exact ⟨n % 16, by omega, h⟩
def dgs (m : Tx) : List Nat := (sumL m).map hxv
theorem dgs_len (m : Tx) : (dgs m).length = 16 := by unfold dgs; rw [List.length_map, sumL_len]
theorem dgs_lt (m : Tx) : ∀ d ∈ dgs m, d ≤ 15 := by
  intro d hd
  obtain ⟨c, hc, rfl⟩ := List.mem_map.1 hd
  obtain ⟨e, he, rfl⟩ := hexs_mem _ _ c hc
  rw [hxv_hexd e he]; omega
theorem hexs_dgs : ∀ k m n, (hexs k m).map hxv = (hexs k n).map hxv → hexs k m = hexs k n
  | 0, _, _, _ => rfl
  | k + 1, m, n, h => by
    simp only [hexs, List.map_append, List.map_cons, List.map_nil] at h ⊢
    obtain ⟨h1, h2⟩ := List.append_inj' h rfl
    rw [hexs_dgs k _ _ h1]
    rw [hxv_hexd _ (by omega), hxv_hexd _ (by omega)] at h2
    simp only [List.cons.injEq, and_true] at h2
    rw [h2]
theorem dgs_inj {m o : Tx} (h : dgs m = dgs o) : sumL m = sumL o := hexs_dgs _ _ _ h
def restL (l : List Nat) : Nat := (l.map fun d => 15 - d).sum
theorem restL_snoc (l : List Nat) (d : Nat) : restL (l ++ [d]) = restL l + (15 - d) := by simp [restL]
theorem restL_le (l : List Nat) : restL l ≤ 15 * l.length := by
  induction l with
  | nil => simp [restL]
  | cons d l ih =>
    have e : restL (d :: l) = (15 - d) + restL l := by simp [restL]
    rw [e, List.length_cons]; omega
def dsT (m : Tx) : List Nat := dgs m ++ [restL (dgs m) / 16, restL (dgs m) % 16]
theorem ds_len (m : Tx) : (dsT m).length = 18 := by simp [dsT, dgs_len]
theorem ds_le (m : Tx) : ∀ d ∈ dsT m, d ≤ 15 := by
  intro d hd
  have h := restL_le (dgs m)
  rw [dgs_len] at h
  unfold dsT at hd
  simp only [List.mem_append, List.mem_cons, List.not_mem_nil, or_false] at hd
  rcases hd with hd | hd | hd
  · exact dgs_lt m d hd
  · omega
  · omega
def dk (m : Tx) (k : Nat) : Nat := (dsT m)[k]?.getD 0
theorem dk_le (m : Tx) (k : Nat) : dk m k ≤ 15 := by
  unfold dk
  rcases Nat.lt_or_ge k (dsT m).length with h | h
  · rw [List.getElem?_eq_getElem h]; exact ds_le m _ (List.getElem_mem h)
  · rw [List.getElem?_eq_none h]; simp
theorem ds_differ {m o : Tx} (h : sumL m ≠ sumL o) : ∃ k, k < 18 ∧ dk m k ≠ dk o k := by
  rcases Classical.em (∃ k, k < 18 ∧ dk m k ≠ dk o k) with hh | hh
  · exact hh
  · exfalso
    apply h
    apply dgs_inj
    have e : dsT m = dsT o := by
      apply List.ext_getElem?
      intro k
      rcases Nat.lt_or_ge k 18 with hk | hk
      · have e1 : dk m k = dk o k := Classical.byContradiction fun hne => hh ⟨k, hk, hne⟩
        unfold dk at e1
        rw [List.getElem?_eq_getElem (by rw [ds_len]; exact hk), List.getElem?_eq_getElem (by rw [ds_len]; exact hk)] at e1 ⊢
        simpa using e1
      · rw [List.getElem?_eq_none (by rw [ds_len]; exact hk), List.getElem?_eq_none (by rw [ds_len]; exact hk)]
    unfold dsT at e
    exact (List.append_inj' e (by simp)).1

/-! Keys. -/
def startX (s : Tx) (i k : Nat) : Tx := joinT [s, dec i, dec k]
def startT (s : Tx) (i k : Nat) : Tx := listL [s, dec i, dec k]
theorem start_x (s : Tx) (i k : Nat) : startT s i k = sumL (startX s i k) := rfl
def endsT (s : Tx) (i : Nat) : List Tx := (List.range 18).map fun k => chn (startT s i k) 15
def keyT (s : Tx) (i : Nat) : Tx := listL (endsT s i)
def leafK (s : Tx) (i : Nat) : Tx := leaf (keyT s i)
def leavesT (s : Tx) (h : Nat) : List Tx := (List.range (2 ^ h)).map (leafK s)
def pubT (s : Tx) (h : Nat) : Tx := rootT (leavesT s h)
def sigT (s : Tx) (i : Nat) (m : Tx) : List Tx := (List.range 18).map fun k => chn (startT s i k) (dk m k)
def endsV (sig : List Tx) (m : Tx) : List Tx := (List.range 18).map fun k => chn (sig[k]?.getD []) (15 - dk m k)
theorem isD_list (l : List Tx) : isD (listL l) = true := isD_sum _
theorem isD_start (s : Tx) (i k : Nat) : isD (startT s i k) = true := isD_sum _
theorem isD_chn' {t : Tx} (h : isD t = true) : ∀ k, isD (chn t k) = true
  | 0 => h
  | k + 1 => isD_chn t k
theorem leaves_len (s : Tx) (h : Nat) : (leavesT s h).length = 2 ^ h := by simp [leavesT]
theorem leaves_dig (s : Tx) (h : Nat) : (leavesT s h).all isD = true := by
  rw [List.all_eq_true]
  intro t ht
  obtain ⟨i, _, rfl⟩ := List.mem_map.1 ht
  exact isD_sum _
theorem leaves_at (s : Tx) (h i : Nat) (hi : i < (leavesT s h).length) : (leavesT s h)[i] = leafK s i := by simp [leavesT]
theorem sig_len (s : Tx) (i : Nat) (m : Tx) : (sigT s i m).length = 18 := by simp [sigT]
theorem sig_at (s : Tx) (i : Nat) (m : Tx) (k : Nat) (hk : k < 18) : (sigT s i m)[k]?.getD [] = chn (startT s i k) (dk m k) := by
  unfold sigT
  rw [List.getElem?_map, List.getElem?_range hk]; simp only [Option.map_some, Option.getD_some]
theorem sig_dig (s : Tx) (i : Nat) (m : Tx) : (sigT s i m).all isD = true := by
  rw [List.all_eq_true]
  intro t ht
  obtain ⟨k, _, rfl⟩ := List.mem_map.1 ht
  exact isD_chn' (isD_start _ _ _) _
theorem ends_sig (s : Tx) (i : Nat) (m : Tx) : endsV (sigT s i m) m = endsT s i := by
  unfold endsV endsT
  apply List.map_congr_left
  intro k hk
  have hk := List.mem_range.1 hk
  rw [sig_at s i m k hk, chn_add, Nat.add_sub_cancel' (dk_le m k)]
theorem ends_dig (s : Tx) (i : Nat) : ∀ t ∈ endsT s i, isD t = true := by
  intro t ht
  obtain ⟨k, _, rfl⟩ := List.mem_map.1 ht
  exact isD_chn' (isD_start _ _ _) _
theorem isD_len {t : Tx} (h : isD t = true) : t.length = 16 := by unfold isD at h; simp at h; exact h.1

/-! Perfect trees. -/
theorem hf_two (h : Nat) : hf (2 ^ (h + 1)) = 2 ^ h := hf_eq (by rw [Nat.pow_succ]; have := Nat.pow_pos (n := h) (show 0 < 2 by omega); omega) (by rw [Nat.pow_succ]; omega)
theorem two_le (h : Nat) : 2 ≤ 2 ^ (h + 1) := by rw [Nat.pow_succ]; have := Nat.pow_pos (n := h) (show 0 < 2 by omega); omega
theorem len_two : ∀ h i, i < 2 ^ h → lenT (2 ^ h) i = h
  | 0, i, _ => len_one i (by simp)
  | h + 1, i, hi => by
    have e := hf_two h
    have e2 := two_le h
    have e3 : 2 ^ (h + 1) = 2 ^ h + 2 ^ h := by rw [Nat.pow_succ]; omega
    by_cases hk : i < 2 ^ h
    · rw [len_left e2 (by omega), e, len_two h i hk]; omega
    · rw [len_right e2 (by omega), e, show 2 ^ (h + 1) - 2 ^ h = 2 ^ h by omega, len_two h (i - 2 ^ h) (by omega)]; omega
/-- The root that a path leads to, in a tree of another height, perhaps. -/
theorem mixed_law : ∀ n h (l : List Tx) i (d : Tx) (q : List Tx), l.length = 2 ^ h → i < 2 ^ n → q.length = n → (∀ t ∈ l, Sm t) → (∀ t ∈ q, Sm t) → Sm d → upT (2 ^ n) i d q = rootT l →
    (n = h ∧ l[i]? = some d ∧ q = (pathT l i).reverse) ∨ (∃ x y, jn x y ∈ textsT l ∧ d = sumL (jn x y)) ∨ (∃ x y, jn x y ∈ pathTexts (2 ^ n) i d q ∧ sumL (jn x y) ∈ l) ∨ Coll (textsT l ++ pathTexts (2 ^ n) i d q) := by
  intro n
  induction n with
  | zero =>
    intro h l i d q hl hi hq sl sq sd hup
    rw [up_one _ _ _ (by simp)] at hup
    obtain rfl := List.eq_nil_of_length_eq_zero hq
    have hi0 : i = 0 := by simp at hi; exact hi
    subst hi0
    cases h with
    | zero =>
      left
      match l, hl with
      | [x], _ =>
        rw [root_one] at hup
        refine ⟨rfl, by rw [hup]; rfl, ?_⟩
        rw [path_one 0 (by simp)]; rfl
    | succ h =>
      right; left
      have h2 : 2 ≤ l.length := by rw [hl]; exact two_le h
      rw [root_step h2] at hup
      exact ⟨_, _, by rw [texts_step h2]; simp, hup⟩
  | succ n ih =>
    intro h l i d q hl hi hq sl sq sd hup
    have e := hf_two n
    have e2 := two_le n
    have e3 : 2 ^ (n + 1) = 2 ^ n + 2 ^ n := by rw [Nat.pow_succ]; omega
    cases h with
    | zero =>
      right; right; left
      match l, hl with
      | [x], _ =>
        rw [root_one] at hup
        by_cases hk : i < 2 ^ n
        · rw [up_left _ _ e2 (by omega)] at hup
          exact ⟨_, _, by rw [pt_left _ _ e2 (by omega)]; exact List.mem_append_right _ (List.mem_singleton.2 rfl), by rw [← node_jn, hup]; simp⟩
        · rw [up_right _ _ e2 (by omega)] at hup
          exact ⟨_, _, by rw [pt_right _ _ e2 (by omega)]; exact List.mem_append_right _ (List.mem_singleton.2 rfl), by rw [← node_jn, hup]; simp⟩
    | succ h =>
      have h2 : 2 ≤ l.length := by rw [hl]; exact two_le h
      have tl := texts_step h2
      have hr := root_step h2
      have eh : hf l.length = 2 ^ h := by rw [hl]; exact hf_two h
      have e4 : 2 ^ (h + 1) = 2 ^ h + 2 ^ h := by rw [Nat.pow_succ]; omega
      obtain ⟨x, q', rfl⟩ : ∃ x q', q = x :: q' := by
        match q, hq with
        | x :: q', _ => exact ⟨x, q', rfl⟩
      have hq' : q'.length = n := by simpa using hq
      have sq' : ∀ t ∈ q', Sm t := fun t ht => sq t (List.mem_cons_of_mem _ ht)
      have sx : Sm x := sq x List.mem_cons_self
      rw [eh] at hr tl
      rw [hr] at hup
      have lt : (l.take (2 ^ h)).length = 2 ^ h := by rw [List.length_take]; omega
      have ld : (l.drop (2 ^ h)).length = 2 ^ h := by rw [List.length_drop]; omega
      by_cases hk : i < 2 ^ n
      · have pt := pt_left (n := 2 ^ (n + 1)) (i := i) d (x :: q') e2 (by omega)
        rw [e] at pt
        rw [up_left _ _ e2 (by omega), e] at hup
        simp only [List.tail_cons, List.headD_cons] at hup pt
        rcases node_inj (up_sm _ _ _ _ sd) sx (root_sm _ (sm_take sl _)) (root_sm _ (sm_drop sl _)) hup with ⟨e5, e6⟩ | ⟨e5, e6⟩
        · rcases ih h (l.take (2 ^ h)) i d q' lt hk hq' (sm_take sl _) sq' sd e5 with ⟨a1, a2, a3⟩ | ⟨a, b, a1, a2⟩ | ⟨a, b, a1, a2⟩ | hc
          · left
            subst a1
            refine ⟨rfl, by rw [List.getElem?_take, if_pos hk] at a2; exact a2, ?_⟩
            rw [path_left h2 (by omega), eh, List.reverse_append, ← a3, e6]; rfl
          · right; left
            exact ⟨a, b, by rw [tl]; simp [a1], a2⟩
          · right; right; left
            exact ⟨a, b, by rw [pt]; simp [a1], List.mem_of_mem_take a2⟩
          · right; right; right
            exact hc.mono fun t ht => by rw [tl, pt]; simp only [List.mem_append] at ht ⊢; rcases ht with ht | ht <;> simp [ht]
        · right; right; right
          exact ⟨_, by rw [pt]; simp, _, by rw [tl]; simp, e5, e6⟩
      · have pt := pt_right (n := 2 ^ (n + 1)) (i := i) d (x :: q') e2 (by omega)
        have e7 : 2 ^ (n + 1) - 2 ^ n = 2 ^ n := by omega
        rw [e, e7] at pt
        rw [up_right _ _ e2 (by omega), e, e7] at hup
        simp only [List.tail_cons, List.headD_cons] at hup pt
        rcases node_inj sx (up_sm _ _ _ _ sd) (root_sm _ (sm_take sl _)) (root_sm _ (sm_drop sl _)) hup with ⟨e5, e6⟩ | ⟨e5, e6⟩
        · rcases ih h (l.drop (2 ^ h)) (i - 2 ^ n) d q' ld (by omega) hq' (sm_drop sl _) sq' sd e6 with ⟨a1, a2, a3⟩ | ⟨a, b, a1, a2⟩ | ⟨a, b, a1, a2⟩ | hc
          · left
            subst a1
            refine ⟨rfl, by rw [List.getElem?_drop, show 2 ^ n + (i - 2 ^ n) = i by omega] at a2; exact a2, ?_⟩
            rw [path_right h2 (by omega), eh, List.reverse_append, ← a3, e5]; rfl
          · right; left
            exact ⟨a, b, by rw [tl]; simp [a1], a2⟩
          · right; right; left
            exact ⟨a, b, by rw [pt]; simp [a1], List.mem_of_mem_drop a2⟩
          · right; right; right
            exact hc.mono fun t ht => by rw [tl, pt]; simp only [List.mem_append] at ht ⊢; rcases ht with ht | ht <;> simp [ht]
        · right; right; right
          exact ⟨_, by rw [pt]; simp, _, by rw [tl]; simp, e5, e6⟩

/-! Chains. -/
def chs (t : Tx) (n : Nat) : List Tx := (List.range (n + 1)).map (chn t)
theorem chs_mem {t : Tx} {n k : Nat} (h : k ≤ n) : chn t k ∈ chs t n := List.mem_map.2 ⟨k, List.mem_range.2 (by omega), rfl⟩
theorem chs_mono {t : Tx} {m n : Nat} (h : m ≤ n) : ∀ x ∈ chs t m, x ∈ chs t n := fun x hx => by
  obtain ⟨k, hk, rfl⟩ := List.mem_map.1 hx
  exact chs_mem (by have := List.mem_range.1 hk; omega)
theorem chain_inj (a b : Tx) : ∀ n, chn a n = chn b n → a = b ∨ Coll (chs a n ++ chs b n)
  | 0, h => .inl h
  | n + 1, h => by
    by_cases he : chn a n = chn b n
    · rcases chain_inj a b n he with h1 | h1
      · exact .inl h1
      · exact .inr (h1.mono fun t ht => by
          rcases List.mem_append.1 ht with ht | ht
          · exact List.mem_append_left _ (chs_mono (by omega) t ht)
          · exact List.mem_append_right _ (chs_mono (by omega) t ht))
    · exact .inr ⟨_, List.mem_append_left _ (chs_mem (k := n) (by omega)), _, List.mem_append_right _ (chs_mem (k := n) (by omega)), he, h⟩

/-! What is digested. -/
def madeK (s : Tx) (n i : Nat) : List Tx := ((List.range 18).map fun k => startX s i k :: chs (startT s i k) n).flatten ++ [joinT (endsT s i), joinT [leafT, keyT s i]]
def lvT : Nat → List Tx → List Tx
  | 0, _ => []
  | f + 1, l => if l.length ≤ 1 then [] else ((List.range (l.length / 2)).map fun j => jn (l[2 * j]?.getD []) (l[2 * j + 1]?.getD [])) ++ lvT f ((List.range (l.length / 2)).map fun j => node (l[2 * j]?.getD []) (l[2 * j + 1]?.getD []))
def madeT (s : Tx) (h n : Nat) : List Tx := ((List.range (2 ^ h)).map (madeK s n)).flatten ++ lvT (h + 1) (leavesT s h)
def checkedT (m : Tx) (sig : List Tx) (i : Nat) (p : List Tx) : List Tx :=
  ((List.range 18).map fun k => chs (sig[k]?.getD []) (15 - dk m k)).flatten ++ [joinT (endsV sig m), joinT [leafT, listL (endsV sig m)]] ++ pathTexts (2 ^ p.length) i (leaf (listL (endsV sig m))) p.reverse
theorem made_k {s : Tx} {h n i : Nat} (hi : i < 2 ^ h) : ∀ t ∈ madeK s n i, t ∈ madeT s h n := fun t ht => by
  unfold madeT
  refine List.mem_append_left _ (List.mem_flatten.2 ⟨_, List.mem_map.2 ⟨i, List.mem_range.2 hi, rfl⟩, ht⟩)
theorem made_start {s : Tx} {h n i k : Nat} (hi : i < 2 ^ h) (hk : k < 18) : startX s i k ∈ madeT s h n := made_k hi _ (by
  unfold madeK
  exact List.mem_append_left _ (List.mem_flatten.2 ⟨_, List.mem_map.2 ⟨k, List.mem_range.2 hk, rfl⟩, List.mem_cons_self⟩))
theorem made_chn {s : Tx} {h n i k : Nat} (hi : i < 2 ^ h) (hk : k < 18) : ∀ t ∈ chs (startT s i k) n, t ∈ madeT s h n := fun t ht => made_k hi _ (by
  unfold madeK
  exact List.mem_append_left _ (List.mem_flatten.2 ⟨_, List.mem_map.2 ⟨k, List.mem_range.2 hk, rfl⟩, List.mem_cons_of_mem _ ht⟩))
theorem made_key {s : Tx} {h n i : Nat} (hi : i < 2 ^ h) : joinT (endsT s i) ∈ madeT s h n := made_k hi _ (by unfold madeK; simp)
theorem made_leaf {s : Tx} {h n i : Nat} (hi : i < 2 ^ h) : joinT [leafT, keyT s i] ∈ madeT s h n := made_k hi _ (by unfold madeK; simp)
theorem lv_texts (a : List Tx) {h : Nat} (hh : h ≤ 2) (ha : a.length = 2 ^ h) : ∀ t ∈ textsT a, t ∈ lvT (h + 1) a := by
  intro t ht
  rcases (by omega : h = 0 ∨ h = 1 ∨ h = 2) with rfl | rfl | rfl
  · rw [textsT, if_pos (by rw [ha]; decide), if_neg (by rw [ha]; decide)] at ht; simp at ht
  · match a, ha with
    | [x, y], _ =>
      rw [texts_step (by simp)] at ht
      have e : hf [x, y].length = 1 := hf_two 0
      rw [e] at ht
      simp [textsT, root_one] at ht
      subst ht
      simp [lvT, List.range_succ]
  · match a, ha with
    | [x, y, z, u], _ =>
      have e : hf [x, y, z, u].length = 2 := hf_two 1
      have e1 : ∀ a b : Tx, hf [a, b].length = 1 := fun a b => hf_two 0
      have e2 : ∀ a b : Tx, textsT [a, b] = [jn a b] := fun a b => by
        rw [texts_step (by simp), e1]
        simp [textsT, root_one]
      have e3 : ∀ a b : Tx, rootT [a, b] = node a b := fun a b => by
        rw [root_step (by simp), e1]
        simp [root_one]
      rw [texts_step (by simp), e] at ht
      simp only [List.take_succ_cons, List.take_zero, List.drop_succ_cons, List.drop_zero, e2, e3] at ht
      simp only [List.mem_append, List.mem_singleton] at ht
      simp only [lvT]
      rcases ht with (rfl | rfl) | rfl <;> simp [List.range_succ]
theorem made_texts {s : Tx} {h n : Nat} (hh : h ≤ 2) : ∀ t ∈ textsT (leavesT s h), t ∈ madeT s h n := fun t ht => by
  unfold madeT
  exact List.mem_append_right _ (lv_texts _ hh (leaves_len s h) t ht)

/-! The laws. -/
theorem leaf_ne_node (k x y : Tx) (h1 : k.length ≤ 1000) (h2 : Sm x) (h3 : Sm y) : joinT [leafT, k] ≠ jn x y := by
  intro h
  unfold Sm at h2 h3
  have := joinT_inj [leafT, k] [nodeT, x, y] (by simp [leafT]; omega) (by simp [nodeT]; omega) h
  simp at this
theorem lt2 {a b : Tx} {N : Nat} (ha : a.length < N) (hb : b.length < N) : ∀ t ∈ [a, b], t.length < N := fun t ht => by
  simp only [List.mem_cons, List.not_mem_nil, or_false] at ht
  rcases ht with rfl | rfl <;> assumption
theorem leaf_lt : leafT.length < 10 ^ 20 := by decide
theorem len_of_dig {t : Tx} (h : isD t = true) : t.length < 10 ^ 20 := by rw [isD_len h]; decide
theorem key_lt (s : Tx) (i : Nat) : (keyT s i).length < 10 ^ 20 := len_of_dig (isD_list _)
theorem listl_lt (l : List Tx) : (listL l).length < 10 ^ 20 := len_of_dig (isD_list _)
theorem list_inj {a b : List Tx} (ha : ∀ t ∈ a, t.length < 10 ^ 20) (hb : ∀ t ∈ b, t.length < 10 ^ 20) (h : listL a = listL b) : a = b ∨ (joinT a ≠ joinT b ∧ sumL (joinT a) = sumL (joinT b)) := by
  by_cases he : joinT a = joinT b
  · exact .inl (joinT_inj a b ha hb he)
  · exact .inr ⟨he, h⟩
theorem texts_sm : ∀ n (l : List Tx), l.length = n → 1 ≤ n → (∀ t ∈ l, Sm t) → ∀ t ∈ textsT l, ∃ x y, Sm x ∧ Sm y ∧ t = jn x y := by
  intro n
  induction n using Nat.strongRecOn with
  | ind n ih =>
    intro l hl h1 sl t ht
    by_cases h2 : 2 ≤ n
    · obtain ⟨k0, k1, k2, _⟩ := hf_spec h2
      rw [texts_step (by omega), hl] at ht
      simp only [List.mem_append, List.mem_singleton] at ht
      rcases ht with (ht | ht) | rfl
      · exact ih (hf n) k1 (l.take (hf n)) (by simp; omega) (by omega) (sm_take sl _) t ht
      · exact ih (n - hf n) (by omega) (l.drop (hf n)) (by simp; omega) (by omega) (sm_drop sl _) t ht
      · exact ⟨_, _, root_sm _ (sm_take sl _), root_sm _ (sm_drop sl _), rfl⟩
    · rw [textsT, if_pos (by omega), if_neg (by omega)] at ht; simp at ht
theorem ptexts_sm : ∀ n i d (q : List Tx), Sm d → (∀ t ∈ q, Sm t) → ∀ t ∈ pathTexts n i d q, ∃ x y, Sm x ∧ Sm y ∧ t = jn x y := by
  intro n
  induction n using Nat.strongRecOn with
  | ind n ih =>
    intro i d q sd sq t ht
    by_cases h2 : 2 ≤ n
    · obtain ⟨k0, k1, k2, _⟩ := hf_spec h2
      by_cases hk : i < hf n
      · rw [pt_left _ _ h2 hk] at ht
        simp only [List.mem_append, List.mem_singleton] at ht
        rcases ht with ht | rfl
        · exact ih (hf n) k1 i d q.tail sd (sm_tail sq) t ht
        · exact ⟨_, _, up_sm _ _ _ _ sd, sm_headD sq, rfl⟩
      · rw [pt_right _ _ h2 hk] at ht
        simp only [List.mem_append, List.mem_singleton] at ht
        rcases ht with ht | rfl
        · exact ih (n - hf n) (by omega) (i - hf n) d q.tail sd (sm_tail sq) t ht
        · exact ⟨_, _, sm_headD sq, up_sm _ _ _ _ sd, rfl⟩
    · rw [pt_one _ _ _ (by omega)] at ht; simp at ht
theorem leafk_dig (s : Tx) (i : Nat) : isD (leafK s i) = true := isD_sum _
theorem endsV_dig {sig : List Tx} {m : Tx} (h8 : sig.length = 18) (hs : sig.all isD = true) : ∀ t ∈ endsV sig m, isD t = true := by
  intro t ht
  obtain ⟨k, hk, rfl⟩ := List.mem_map.1 ht
  have hk := List.mem_range.1 hk
  rw [List.getElem?_eq_getElem (by omega)]
  exact isD_chn' (List.all_eq_true.1 hs _ (List.getElem_mem _)) _
/-- A seal that leads to the public key of a secret. -/
theorem sound_law (s m : Tx) (h n : Nat) (hh : h ≤ 2) (hn : 15 ≤ n) (sig p : List Tx) (i : Nat) (h8 : sig.length = 18) (hs : sig.all isD = true) (hp : p.all isD = true) (hi : i < 2 ^ p.length)
    (hup : upT (2 ^ p.length) i (leaf (listL (endsV sig m))) p.reverse = pubT s h) :
    (p.length = h ∧ sig = sigT s i m ∧ p = pathT (leavesT s h) i) ∨ Coll (madeT s h n ++ checkedT m sig i p) := by
  have sl : ∀ t ∈ leavesT s h, Sm t := fun t ht => isD_sm (List.all_eq_true.1 (leaves_dig s h) t ht)
  have sq : ∀ t ∈ p.reverse, Sm t := fun t ht => isD_sm (List.all_eq_true.1 hp t (List.mem_reverse.1 ht))
  have sd : Sm (leaf (listL (endsV sig m))) := isD_sm (isD_sum _)
  have hm := made_texts (s := s) (n := n) hh
  have cl : joinT [leafT, listL (endsV sig m)] ∈ checkedT m sig i p := by unfold checkedT; simp
  have ck : joinT (endsV sig m) ∈ checkedT m sig i p := by unfold checkedT; simp
  have cp : ∀ t ∈ pathTexts (2 ^ p.length) i (leaf (listL (endsV sig m))) p.reverse, t ∈ checkedT m sig i p := fun t ht => by unfold checkedT; exact List.mem_append_right _ ht
  rcases mixed_law p.length h (leavesT s h) i _ p.reverse (leaves_len s h) hi (by simp) sl sq sd hup with ⟨a1, a2, a3⟩ | ⟨x, y, a1, a2⟩ | ⟨x, y, a1, a2⟩ | hc
  · subst a1
    have e1 : leafK s i = leaf (listL (endsV sig m)) := by
      rw [List.getElem?_eq_getElem (by rw [leaves_len]; exact hi)] at a2
      rw [← Option.some.inj a2, leaves_at]
    have a4 : p = pathT (leavesT s p.length) i := List.reverse_inj.1 a3
    rcases list_inj (a := [leafT, keyT s i]) (b := [leafT, listL (endsV sig m)]) (lt2 leaf_lt (key_lt _ _)) (lt2 leaf_lt (listl_lt _)) e1 with e2 | ⟨e2, e3⟩
    · have e2 : keyT s i = listL (endsV sig m) := by simpa using e2
      rcases list_inj (fun t ht => len_of_dig (ends_dig s i t ht)) (fun t ht => len_of_dig (endsV_dig h8 hs t ht)) e2 with e4 | ⟨e4, e5⟩
      · rcases Classical.em (Coll (madeT s p.length n ++ checkedT m sig i p)) with hc | hc
        · exact .inr hc
        · refine .inl ⟨rfl, ?_, a4⟩
          apply List.ext_getElem (by rw [h8, sig_len])
          intro k hk hk2
          have hk8 : k < 18 := by omega
          have e6 : chn (startT s i k) 15 = chn sig[k] (15 - dk m k) := by
            have := congrArg (fun l => l[k]?.getD []) e4
            simp only [endsT, endsV] at this
            rw [List.getElem?_map, List.getElem?_map, List.getElem?_range hk8] at this
            simpa [List.getElem?_eq_getElem hk] using this
          have e7 : chn (chn (startT s i k) (dk m k)) (15 - dk m k) = chn sig[k] (15 - dk m k) := by
            rw [chn_add, Nat.add_sub_cancel' (dk_le m k)]; exact e6
          rcases chain_inj _ _ _ e7 with e8 | e8
          · have := sig_at s i m k hk8
            rw [List.getElem?_eq_getElem hk2] at this
            rw [← e8]; exact this.symm
          · exfalso
            apply hc
            refine e8.mono fun t ht => ?_
            rcases List.mem_append.1 ht with ht | ht
            · refine List.mem_append_left _ (made_chn hi hk8 t ?_)
              obtain ⟨j, hj, rfl⟩ := List.mem_map.1 ht
              have hj := List.mem_range.1 hj
              rw [chn_add]
              exact chs_mem (by have := dk_le m k; omega)
            · refine List.mem_append_right _ ?_
              unfold checkedT
              refine List.mem_append_left _ (List.mem_append_left _ (List.mem_flatten.2 ⟨_, List.mem_map.2 ⟨k, List.mem_range.2 hk8, rfl⟩, ?_⟩))
              rw [List.getElem?_eq_getElem hk]; exact ht
      · exact .inr ⟨_, List.mem_append_left _ (made_key hi), _, List.mem_append_right _ ck, e4, e5⟩
    · exact .inr ⟨_, List.mem_append_left _ (made_leaf hi), _, List.mem_append_right _ cl, e2, e3⟩
  · right
    obtain ⟨u, v, su, sv, e⟩ := texts_sm _ _ rfl (by rw [leaves_len]; exact Nat.pow_pos (by omega)) sl _ a1
    exact ⟨_, List.mem_append_right _ cl, _, List.mem_append_left _ (hm _ a1), by rw [e]; exact leaf_ne_node _ _ _ (by rw [isD_len (isD_list _)]; omega) su sv, a2⟩
  · right
    obtain ⟨u, v, su, sv, e⟩ := ptexts_sm _ _ _ _ sd sq _ a1
    obtain ⟨j, hj, e2⟩ := List.mem_map.1 a2
    have hj := List.mem_range.1 hj
    exact ⟨_, List.mem_append_left _ (made_leaf hj), _, List.mem_append_right _ (cp _ a1), by rw [e]; exact leaf_ne_node _ _ _ (by unfold keyT; rw [isD_len (isD_list _)]; omega) su sv, e2⟩
  · right
    exact hc.mono fun t ht => by
      rcases List.mem_append.1 ht with ht | ht
      · exact List.mem_append_left _ (hm t ht)
      · exact List.mem_append_right _ (cp t ht)

/-- A joined text is no digest. -/
theorem join_ne_dig (t : Tx) (r : List Tx) : isD (joinT (t :: r)) = false := by
  cases h : isD (joinT (t :: r)) with
  | false => rfl
  | true =>
    exfalso
    unfold isD at h
    rw [Bool.and_eq_true, List.all_eq_true] at h
    have := h.2 58 (by simp [joinT])
    revert this; decide
/-- A chain that comes back to where it was. -/
theorem ring_law (x : Tx) (hx : isD x = false) (a : Nat) : ∀ b, a < b → chn (sumL x) a = chn (sumL x) b → Coll (x :: chs (sumL x) b) := by
  induction a with
  | zero =>
    intro b hb h
    obtain ⟨b, rfl⟩ : ∃ c, b = c + 1 := ⟨b - 1, by omega⟩
    refine ⟨x, List.mem_cons_self, chn (sumL x) b, List.mem_cons_of_mem _ (chs_mem (by omega)), fun e => ?_, h⟩
    have := isD_chn' (isD_sum x) b
    rw [← e, hx] at this; cases this
  | succ a ih =>
    intro b hb h
    obtain ⟨b, rfl⟩ : ∃ c, b = c + 1 := ⟨b - 1, by omega⟩
    by_cases he : chn (sumL x) a = chn (sumL x) b
    · exact (ih b (by omega) he).mono fun t ht => by
        rcases List.mem_cons.1 ht with ht | ht
        · rw [ht]; exact List.mem_cons_self
        · exact List.mem_cons_of_mem _ (chs_mono (by omega) t ht)
    · exact ⟨_, List.mem_cons_of_mem _ (chs_mem (k := a) (by omega)), _, List.mem_cons_of_mem _ (chs_mem (k := b) (by omega)), he, h⟩
/-- One seal does not serve two messages. -/
theorem binds_seal (s m o : Tx) (h n : Nat) (hh : h ≤ 2) (hn : 15 ≤ n) (p : List Tx) (i : Nat) (hd : sumL m ≠ sumL o) (hp : p.all isD = true) (hi : i < 2 ^ p.length)
    (hup : upT (2 ^ p.length) i (leaf (listL (endsV (sigT s i m) o))) p.reverse = pubT s h) : Coll (madeT s h n ++ checkedT o (sigT s i m) i p) := by
  rcases sound_law s o h n hh hn (sigT s i m) p i (sig_len _ _ _) (sig_dig _ _ _) hp hi hup with ⟨a1, a2, _⟩ | hc
  · subst a1
    obtain ⟨k, hk, hne⟩ := ds_differ hd
    have e := congrArg (fun l => l[k]?.getD []) a2
    rw [sig_at s i m k hk, sig_at s i o k hk, start_x] at e
    have hx : isD (startX s i k) = false := join_ne_dig _ _
    have mem : ∀ b, b ≤ 15 → ∀ t ∈ startX s i k :: chs (sumL (startX s i k)) b, t ∈ madeT s p.length n ++ checkedT o (sigT s i m) i p := fun b hb t ht => by
      refine List.mem_append_left _ ?_
      rcases List.mem_cons.1 ht with ht | ht
      · rw [ht]; exact made_start hi hk
      · exact made_chn hi hk t (chs_mono (by omega) t ht)
    rcases Nat.lt_or_gt_of_ne hne with hlt | hlt
    · exact (ring_law _ hx _ _ hlt e).mono (mem _ (dk_le o k))
    · exact (ring_law _ hx _ _ hlt e.symm).mono (mem _ (dk_le m k))
  · exact hc
/-- Starts of chains of different keys are different texts. -/
theorem dec_lt (n : Nat) : (dec n).length < 10 ^ 20 := by
  have : ∀ k n, (decs k n).length ≤ k := by
    intro k
    induction k with
    | zero => intro n; simp [decs]
    | succ k ih =>
      intro n
      simp only [decs, List.length_append, List.length_singleton]
      have := ih (n / 10)
      split <;> simp <;> omega
  exact Nat.lt_of_le_of_lt (this 20 n) (by decide)
theorem lt3 {a b c : Tx} {N : Nat} (ha : a.length < N) (hb : b.length < N) (hc : c.length < N) : ∀ t ∈ [a, b, c], t.length < N := fun t ht => by
  simp only [List.mem_cons, List.not_mem_nil, or_false] at ht
  rcases ht with rfl | rfl | rfl <;> assumption
theorem start_inj {s o : Tx} {i j k : Nat} (hs : s.length < 10 ^ 20) (ho : o.length < 10 ^ 20) (hi : i < 10 ^ 20) (hj : j < 10 ^ 20) (h : startX s i k = startX o j k) : s = o ∧ i = j := by
  have := joinT_inj [s, dec i, dec k] [o, dec j, dec k] (lt3 hs (dec_lt _) (dec_lt _)) (lt3 ho (dec_lt _) (dec_lt _)) h
  simp only [List.cons.injEq, and_true] at this
  exact ⟨this.1, dec_inj hi hj this.2⟩
/-- Equal digests in a chain at the same place, from different starts. -/
theorem starts_law (s o : Tx) (h n i j k a : Nat) (hk : k < 18) (ha : a ≤ 15) (hn : 15 ≤ n) (hi : i < 2 ^ h) (hj : j < 2 ^ h) (hne : startX s i k ≠ startX o j k) (he : chn (startT s i k) a = chn (startT o j k) a) : Coll (madeT s h n ++ madeT o h n) := by
  rcases chain_inj _ _ _ he with e | e
  · exact ⟨_, List.mem_append_left _ (made_start hi hk), _, List.mem_append_right _ (made_start hj hk), hne, e⟩
  · exact e.mono fun t ht => by
      rcases List.mem_append.1 ht with ht | ht
      · exact List.mem_append_left _ (made_chn hi hk t (chs_mono (by omega) t ht))
      · exact List.mem_append_right _ (made_chn hj hk t (chs_mono (by omega) t ht))
/-- Different secrets have different keys. -/
theorem secrets_law (s o : Tx) (h n : Nat) (hh : h ≤ 2) (hn : 15 ≤ n) (hs : s.length < 10 ^ 20) (ho : o.length < 10 ^ 20) (hne : s ≠ o) (he : pubT s h = pubT o h) : Coll (madeT s h n ++ madeT o h n) := by
  have sl : ∀ s : Tx, ∀ t ∈ leavesT s h, Sm t := fun s t ht => isD_sm (List.all_eq_true.1 (leaves_dig s h) t ht)
  have h0 : 0 < 2 ^ h := Nat.pow_pos (by omega)
  rcases roots_law _ _ _ (leaves_len s h) (leaves_len o h) (sl s) (sl o) he with e | hc
  · have e1 : leafK s 0 = leafK o 0 := by
      have := congrArg (fun l => l[0]?) e
      rw [List.getElem?_eq_getElem (by rw [leaves_len]; exact h0), List.getElem?_eq_getElem (by rw [leaves_len]; exact h0), leaves_at, leaves_at] at this
      exact Option.some.inj this
    rcases list_inj (a := [leafT, keyT s 0]) (b := [leafT, keyT o 0]) (lt2 leaf_lt (key_lt _ _)) (lt2 leaf_lt (key_lt _ _)) e1 with e2 | ⟨e2, e3⟩
    · have e2 : keyT s 0 = keyT o 0 := by simpa using e2
      rcases list_inj (fun t ht => len_of_dig (ends_dig s 0 t ht)) (fun t ht => len_of_dig (ends_dig o 0 t ht)) e2 with e4 | ⟨e4, e5⟩
      · have e6 : chn (startT s 0 0) 15 = chn (startT o 0 0) 15 := by
          have := congrArg (fun l => l[0]?.getD []) e4
          simpa [endsT, List.range_succ] using this
        exact starts_law s o h n 0 0 0 15 (by omega) (by omega) hn h0 h0 (fun hx => hne (start_inj hs ho (by decide) (by decide) hx).1) e6
      · exact ⟨_, List.mem_append_left _ (made_key h0), _, List.mem_append_right _ (made_key h0), e4, e5⟩
    · exact ⟨_, List.mem_append_left _ (made_leaf h0), _, List.mem_append_right _ (made_leaf h0), e2, e3⟩
  · exact hc.mono fun t ht => by
      rcases List.mem_append.1 ht with ht | ht
      · exact List.mem_append_left _ (made_texts hh t ht)
      · exact List.mem_append_right _ (made_texts hh t ht)
/-- Seals of one message by different keys of a secret are different. -/
theorem other_law (s m : Tx) (h n i j : Nat) (hn : 15 ≤ n) (hi : i < 2 ^ h) (hj : j < 2 ^ h) (hb : 2 ^ h < 10 ^ 20) (hs : s.length < 10 ^ 20) (hne : i ≠ j) (he : sigT s i m = sigT s j m) : Coll (madeT s h n) := by
  have e := congrArg (fun l => l[0]?.getD []) he
  rw [sig_at s i m 0 (by omega), sig_at s j m 0 (by omega)] at e
  exact (starts_law s s h n i j 0 (dk m 0) (by omega) (dk_le m 0) hn hi hj (fun hx => hne (start_inj hs hs (by omega) (by omega) hx).2) e).mono fun t ht => by
    rcases List.mem_append.1 ht with ht | ht <;> exact ht

end S
end Go.Proofs.YthdjdlndfkemiaaGreatDoor

/- Seals: the plain side of 'Checked'. -/
namespace Go.Proofs.YthdjdlndfkemiaaGreatDoor
namespace S

/-- Where the first k elements of a path lead, and the texts that are digested on the way. -/
def atK (d : Tx) (i : Nat) (p : List Tx) (k : Nat) : Tx := upT (2 ^ k) (i % 2 ^ k) d (p.take k).reverse
def txK (d : Tx) (i : Nat) (p : List Tx) (k : Nat) : List Tx := pathTexts (2 ^ k) (i % 2 ^ k) d (p.take k).reverse
theorem atK_zero (d : Tx) (i : Nat) (p : List Tx) : atK d i p 0 = d := up_one _ _ _ (by simp)
theorem txK_zero (d : Tx) (i : Nat) (p : List Tx) : txK d i p 0 = [] := pt_one _ _ _ (by simp)
theorem take_rev {p : List Tx} {k : Nat} {x : Tx} (hx : p[k]? = some x) : (p.take (k + 1)).reverse = x :: (p.take k).reverse := by
  rw [List.take_add_one, hx, List.reverse_append]; rfl
theorem atK_even (d : Tx) (i : Nat) {p : List Tx} {k : Nat} {x : Tx} (hx : p[k]? = some x) (h : i / 2 ^ k % 2 = 0) :
    atK d i p (k + 1) = node (atK d i p k) x ∧ txK d i p (k + 1) = txK d i p k ++ [jn (atK d i p k) x] := by
  have e := hf_two k
  have e2 := two_le k
  have em : i % 2 ^ (k + 1) = i % 2 ^ k := by rw [Nat.mod_pow_succ, h]; simp
  have hlt : i % 2 ^ k < 2 ^ k := Nat.mod_lt _ (Nat.pow_pos (by omega))
  unfold atK txK
  rw [take_rev hx, em, up_left _ _ e2 (by omega), pt_left _ _ e2 (by omega), e]
  simp only [List.tail_cons, List.headD_cons, and_self]
theorem atK_odd (d : Tx) (i : Nat) {p : List Tx} {k : Nat} {x : Tx} (hx : p[k]? = some x) (h : i / 2 ^ k % 2 = 1) :
    atK d i p (k + 1) = node x (atK d i p k) ∧ txK d i p (k + 1) = txK d i p k ++ [jn x (atK d i p k)] := by
  have e := hf_two k
  have e2 := two_le k
  have e3 : 2 ^ (k + 1) = 2 ^ k + 2 ^ k := by rw [Nat.pow_succ]; omega
  have em : i % 2 ^ (k + 1) = i % 2 ^ k + 2 ^ k := by rw [Nat.mod_pow_succ, h, Nat.mul_one]
  have es : i % 2 ^ k + 2 ^ k - 2 ^ k = i % 2 ^ k := by omega
  unfold atK txK
  rw [take_rev hx, em, up_right _ _ e2 (by omega), pt_right _ _ e2 (by omega), e, es, show 2 ^ (k + 1) - 2 ^ k = 2 ^ k by omega]
  simp only [List.tail_cons, List.headD_cons, and_self]
theorem atK_end (d : Tx) {i : Nat} {p : List Tx} (hi : i < 2 ^ p.length) : atK d i p p.length = upT (2 ^ p.length) i d p.reverse ∧ txK d i p p.length = pathTexts (2 ^ p.length) i d p.reverse := by
  unfold atK txK
  rw [List.take_length, Nat.mod_eq_of_lt hi]
  exact ⟨rfl, rfl⟩
theorem atK_dig (d : Tx) (i : Nat) (p : List Tx) (hd : isD d = true) : ∀ k, k ≤ p.length → isD (atK d i p k) = true
  | 0, _ => by rw [atK_zero]; exact hd
  | k + 1, hk => by
    have hx : p[k]? = some p[k] := List.getElem?_eq_getElem (by omega)
    rcases Nat.mod_two_eq_zero_or_one (i / 2 ^ k) with h | h
    · rw [(atK_even d i hx h).1]; exact isD_sum _
    · rw [(atK_odd d i hx h).1]; exact isD_sum _
theorem txK_len (d : Tx) (i : Nat) (p : List Tx) : ∀ k, k ≤ p.length → (txK d i p k).length = k
  | 0, _ => by rw [txK_zero]; rfl
  | k + 1, hk => by
    have hx : p[k]? = some p[k] := List.getElem?_eq_getElem (by omega)
    rcases Nat.mod_two_eq_zero_or_one (i / 2 ^ k) with h | h
    · rw [(atK_even d i hx h).2, List.length_append, txK_len d i p k (by omega)]; rfl
    · rw [(atK_odd d i hx h).2, List.length_append, txK_len d i p k (by omega)]; rfl

/-! The chains of a seal. -/
def chK (m : Tx) (sig : List Tx) (k : Nat) : List Tx := ((List.range k).map fun k => chs (sig[k]?.getD []) (15 - dk m k)).flatten
def enK (m : Tx) (sig : List Tx) (k : Nat) : List Tx := (List.range k).map fun k => chn (sig[k]?.getD []) (15 - dk m k)
theorem chK_succ (m : Tx) (sig : List Tx) (k : Nat) : chK m sig (k + 1) = chK m sig k ++ chs (sig[k]?.getD []) (15 - dk m k) := by
  unfold chK
  rw [List.range_succ, List.map_append, List.flatten_append, List.map_singleton, List.flatten_singleton]
theorem enK_succ (m : Tx) (sig : List Tx) (k : Nat) : enK m sig (k + 1) = enK m sig k ++ [chn (sig[k]?.getD []) (15 - dk m k)] := by
  unfold enK
  rw [List.range_succ, List.map_append, List.map_singleton]
theorem enK_len (m : Tx) (sig : List Tx) (k : Nat) : (enK m sig k).length = k := by unfold enK; rw [List.length_map, List.length_range]
theorem chK_len (m : Tx) (sig : List Tx) : ∀ k, (chK m sig k).length ≤ 16 * k
  | 0 => by unfold chK; simp
  | k + 1 => by
    rw [chK_succ, List.length_append]
    have h := chK_len m sig k
    have h2 : (chs (sig[k]?.getD []) (15 - dk m k)).length = 15 - dk m k + 1 := by simp [chs]
    omega
theorem checked_eq (m : Tx) (sig : List Tx) (i : Nat) (p : List Tx) : checkedT m sig i p = chK m sig 18 ++ [joinT (enK m sig 18), joinT [leafT, listL (enK m sig 18)]] ++ pathTexts (2 ^ p.length) i (leaf (listL (enK m sig 18))) p.reverse := rfl
theorem endsV_eq (m : Tx) (sig : List Tx) : endsV sig m = enK m sig 18 := rfl

end S
end Go.Proofs.YthdjdlndfkemiaaGreatDoor
