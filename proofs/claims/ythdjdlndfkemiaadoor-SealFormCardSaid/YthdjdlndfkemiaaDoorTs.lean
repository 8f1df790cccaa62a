/- Trees: the reference's 'Shown'. -/
import Derived.Test.YthdjdlndfkemiaaDoorTq
set_option linter.unusedSimpArgs false
set_option linter.unusedVariables false
set_option maxRecDepth 100000
namespace Go.Proofs.YthdjdlndfkemiaaDoor
open Go.RowKit
namespace S

/-- No two different strings with one digest at these places. -/
def NoP (l : List Tx) (i k : Nat) : Prop := ∀ a b, l[i]? = some a → l[k]? = some b → sumL a = sumL b → a = b
theorem shown_true {l : List Tx} {i k : Nat} (hi : i < l.length) (hk : k < l.length) (h : sumL l[i] = sumL l[k]) (hne : l[i] ≠ l[k]) : shownB l = true :=
  (shown_iff l).2 ⟨_, List.getElem_mem hi, _, List.getElem_mem hk, hne, h⟩
theorem shown_false {l : List Tx} (h : ∀ i k, i < l.length → k < i → NoP l i k) : shownB l = false := by
  cases hs : shownB l with
  | false => rfl
  | true =>
    obtain ⟨a, ha, b, hb, hne, he⟩ := (shown_iff l).1 hs
    obtain ⟨i, hi, rfl⟩ := List.getElem_of_mem ha
    obtain ⟨k, hk, rfl⟩ := List.getElem_of_mem hb
    exfalso
    rcases Nat.lt_trichotomy i k with h1 | h1 | h1
    · exact hne (h k i hk h1 _ _ (List.getElem?_eq_getElem hk) (List.getElem?_eq_getElem hi) he.symm).symm
    · subst h1; exact hne rfl
    · exact hne (h i k hi h1 _ _ (List.getElem?_eq_getElem hi) (List.getElem?_eq_getElem hk) he)

end S
end Go.Proofs.YthdjdlndfkemiaaDoor

/- Trees: the law's 'rooted', 'few', 'good'. -/
namespace Go.Proofs.YthdjdlndfkemiaaDoor
open Go.RowKit
namespace S

def rootedT (l : List Tx) : Tx := if l.all isD then rootT l else []
def fewT (l : List Tx) : Bool := decide (l.length ≤ 20) && fewB l 100
def goodB (l : List Tx) : Bool := l.all isD && fewT l
end S
end Go.Proofs.YthdjdlndfkemiaaDoor

/- Trees: the contracts over lists in memory. -/
namespace Go.Proofs.YthdjdlndfkemiaaDoor
open Go.RowKit
namespace S

/-- A list of strings in memory, by its address, its length and its capacity. -/
structure Lst (w : World) (A : Option Addr) (n c : Nat) (l : List Tx) : Prop where
  at_ : StrsAt w A l
  len : l.length = n
  cap : n ≤ c
  max : c ≤ 9223372036854775807
  nil : A = none → c = 0
theorem Lst.below {w w' : World} {A : Option Addr} {n c : Nat} {l : List Tx} (h : Lst w A n c l) (hb : Below w.heap.size w w') : Lst w' A n c l := ⟨h.at_.below hb, h.len, h.cap, h.max, h.nil⟩
theorem Lst.alloc {w : World} {A : Option Addr} {n c : Nat} {l : List Tx} (h : Lst w A n c l) (o : Obj) : Lst (w.alloc o) A n c l := h.below ((Below.refl _ _).alloc (Nat.le_refl _) _)
theorem Own.lst {B : Nat} {w : World} {v : Value} {l : List Tx} (h : Own B w v l) : ∃ A c, v = .slice A l.length c ∧ Lst w A l.length c l := by
  obtain ⟨A, c, e, h1, h2, h3, h4, _⟩ := h.parts
  exact ⟨A, c, e, h1, rfl, h2, h3, h4⟩
theorem Lst.lit {w : World} (l : List Tx) {n : Nat} (hn : l.length = n) (h9 : n ≤ 9223372036854775807) {g : Nat} {T : TypeId} (hg : Reg.Blk g (l.map fun t => Value.string (str t)).toArray T w) : Lst w (some ⟨g, 0, none⟩) n n l :=
  ⟨strs_lit l hg, hn, Nat.le_refl _, h9, fun e => by cases e⟩
theorem Lst.empty (w : World) : Lst w none 0 0 [] := ⟨fun i hi => by simp at hi, rfl, Nat.le_refl _, by omega, fun _ => rfl⟩
/-- What a call gives that returns a list. -/
def LstR (w w' : World) (e : Ending) (l : List Tx) : Prop := ∃ A c, e = .returned (.slice A l.length c) ∧ Lst w' A l.length c l
def LstT (w w' : World) (e : Ending) (l : List Tx) : Prop := ∃ A c, e = .returned (.tuple #[.slice A l.length c, .int .i64 0]) ∧ Lst w' A l.length c l
def TxB (l : List Tx) : Prop := ∀ t ∈ l, t.length ≤ 9223372036854775807

theorem path_L {W : World} {A : Option Addr} {n c : Nat} {l : List Tx} (i : Nat) (h : Lst W A n c l) (hn : n ≤ 100000) (ht : Tabs W) (hok : l.all isD = true) (hi : i < n) :
    Calls Tryd.prog 26 #[.slice A n c, .int .i64 i] W fun e w' => LstT W w' e (pathT l i) ∧ Below W.heap.size W w' := by
  obtain ⟨h1, rfl, h3, h4, h5⟩ := h
  refine (path_yes l i A c W hn ht h1 h3 h4 h5 hok hi).mono ?_
  rintro e w' ⟨⟨v, rfl, ho⟩, hb⟩
  obtain ⟨A', c', rfl, hl⟩ := ho.lst
  exact ⟨⟨A', c', rfl, hl⟩, hb⟩
theorem pathno_L {W : World} {A : Option Addr} {n c : Nat} {l : List Tx} (i : Int) (h : Lst W A n c l) (hn : n ≤ 100000) (hs : TxB l) (hok : pathOk l i = false) :
    Calls Tryd.prog 26 #[.slice A n c, .int .i64 i] W fun e w' => e = .returned (.tuple #[.slice none 0 0, .int .i64 1]) ∧ Below W.heap.size W w' := by
  obtain ⟨h1, rfl, h3, h4, h5⟩ := h
  exact path_no l i A c W (by omega) h1 hs hok
theorem root_L {W : World} {A : Option Addr} {n c : Nat} {l : List Tx} (h : Lst W A n c l) (hn : n ≤ 100000) (ht : Tabs W) (hs : TxB l) :
    Calls Tryd.prog 23 #[.slice A n c] W fun e w' => e = .returned (if l.all isD then .tuple #[.string (str (rootT l)), .int .i64 0] else .tuple #[.string (str []), .int .i64 1]) ∧ Below W.heap.size W w' := by
  obtain ⟨h1, rfl, h3, h4, h5⟩ := h
  exact root_any l A c W (by omega) ht h1 h3 h4 h5 hs
theorem check_L {W : World} {A : Option Addr} {n c : Nat} {l : List Tx} (root : Tx) (m i : Int) (d : Tx) (h : Lst W A n c l) (hn : n ≤ 100000) (ht : Tabs W) (hs : TxB l) (hd : d.length ≤ 9223372036854775807) :
    Calls Tryd.prog 19 #[.string (str root), .int .i64 m, .int .i64 i, .string (str d), .slice A n c] W fun e w' => e = .returned (.bool (checkB root m i d l)) ∧ Below W.heap.size W w' := by
  obtain ⟨h1, rfl, h3, h4, h5⟩ := h
  exact treecheck_any root m i d l A c W (by omega) ht h1 h3 h4 h5 hs hd
theorem same_L {W : World} {A B : Option Addr} {n c m d : Nat} {a b : List Tx} (h : Lst W A n c a) (k : Lst W B m d b) :
    Calls Tryd.prog 13 #[.slice A n c, .slice B m d] W fun e w' => e = .returned (.bool (decide (a = b))) ∧ Below W.heap.size W w' := by
  obtain ⟨h1, rfl, h3, h4, h5⟩ := h
  obtain ⟨k1, rfl, k3, k4, k5⟩ := k
  exact same_any A c a B d b W h1 k1 (by omega) (by omega)
/-! The texts that are digested are short. -/
theorem jn_len {a b : Tx} (ha : Sh a) (hb : Sh b) : (jn a b).length ≤ 140737488351232 := few_join (few_node ha hb)
theorem texts_b : ∀ n (l : List Tx), l.length = n → (∀ t ∈ l, Sh t) → ∀ t ∈ textsT l, t.length ≤ 140737488351232 := by
  intro n
  induction n using Nat.strongRecOn with
  | ind n ih =>
    intro l hl hs t ht
    by_cases h2 : 2 ≤ n
    · obtain ⟨k0, k1, k2, _⟩ := hf_spec h2
      rw [texts_step (by omega), hl] at ht
      rcases List.mem_append.1 ht with ht | ht
      · rcases List.mem_append.1 ht with ht | ht
        · exact ih (hf n) k1 _ (by simp; omega) (sh_take hs _) t ht
        · exact ih (n - hf n) (by omega) _ (by simp; omega) (sh_drop hs _) t ht
      · obtain rfl := List.mem_singleton.1 ht
        exact jn_len (root_sh _ (sh_take hs _)) (root_sh _ (sh_drop hs _))
    · rw [textsT, if_pos (by omega)] at ht
      split at ht
      · obtain rfl := List.mem_singleton.1 ht
        exact few_join (by decide)
      · simp at ht
theorem sh_tail {q : List Tx} (h : ∀ t ∈ q, Sh t) : ∀ t ∈ q.tail, Sh t := fun t ht => h t (List.mem_of_mem_tail ht)
theorem sh_headD {q : List Tx} (h : ∀ t ∈ q, Sh t) : Sh (q.headD []) := by
  cases q with
  | nil => simp [Sh]
  | cons x q => exact h x List.mem_cons_self
theorem ptexts_b : ∀ n i d (q : List Tx), Sh d → (∀ t ∈ q, Sh t) → ∀ t ∈ pathTexts n i d q, t.length ≤ 140737488351232 := by
  intro n
  induction n using Nat.strongRecOn with
  | ind n ih =>
    intro i d q hd hq t ht
    by_cases h2 : 2 ≤ n
    · obtain ⟨k0, k1, k2, _⟩ := hf_spec h2
      by_cases hk : i < hf n
      · rw [pt_left _ _ h2 hk] at ht
        rcases List.mem_append.1 ht with ht | ht
        · exact ih (hf n) k1 _ _ _ hd (sh_tail hq) t ht
        · obtain rfl := List.mem_singleton.1 ht
          exact jn_len (up_sh _ _ _ _ hd) (sh_headD hq)
      · rw [pt_right _ _ h2 hk] at ht
        rcases List.mem_append.1 ht with ht | ht
        · exact ih (n - hf n) (by omega) _ _ _ hd (sh_tail hq) t ht
        · obtain rfl := List.mem_singleton.1 ht
          exact jn_len (sh_headD hq) (up_sh _ _ _ _ hd)
    · rw [pt_one _ _ _ (by omega)] at ht; simp at ht
theorem ltexts_b : ∀ n m whole d (q : List Tx), Sh d → (∀ t ∈ q, Sh t) → ∀ t ∈ linkTexts n m whole d q, t.length ≤ 140737488351232 := by
  intro n
  induction n using Nat.strongRecOn with
  | ind n ih =>
    intro m whole d q hd hq t ht
    by_cases hlt : m < n
    · by_cases h2 : 2 ≤ n
      · obtain ⟨k0, k1, k2, _⟩ := hf_spec h2
        by_cases hk : m ≤ hf n
        · rw [lt_left _ _ _ hlt h2 hk] at ht
          rcases List.mem_append.1 ht with ht | ht
          · exact ih (hf n) k1 _ _ _ _ hd (sh_tail hq) t ht
          · obtain rfl := List.mem_singleton.1 ht
            exact jn_len (both_sh _ _ _ _ _ hd (sh_tail hq)).2 (sh_headD hq)
        · rw [lt_right _ _ _ hlt h2 hk] at ht
          rcases List.mem_append.1 ht with ht | ht
          · rcases List.mem_append.1 ht with ht | ht
            · exact ih (n - hf n) (by omega) _ _ _ _ hd (sh_tail hq) t ht
            · obtain rfl := List.mem_singleton.1 ht
              exact jn_len (sh_headD hq) (both_sh _ _ _ _ _ hd (sh_tail hq)).1
          · obtain rfl := List.mem_singleton.1 ht
            exact jn_len (sh_headD hq) (both_sh _ _ _ _ _ hd (sh_tail hq)).2
      · rw [linkTexts, if_neg (by omega), if_pos (by omega)] at ht; simp at ht
    · rw [lt_end _ _ _ (by omega)] at ht; simp at ht

end S
end Go.Proofs.YthdjdlndfkemiaaDoor
