/- Digests: the walk of 'DigestForm'. -/
import Derived.Test.YthdjdlndfkemiaaDoorSp
set_option linter.unusedSimpArgs false
set_option linter.unusedVariables false
set_option maxRecDepth 100000
namespace Go.Proofs.YthdjdlndfkemiaaDoor
open Go.RowKit
namespace S

theorem decs_le : ∀ k n, (decs k n).length ≤ k
  | 0, _ => by simp [decs]
  | k + 1, n => by
    have := decs_le k (n / 10)
    unfold decs
    split <;> simp <;> omega
theorem dec_le (n : Nat) : (dec n).length ≤ 20 := decs_le 20 n
theorem joinT_le : ∀ l : List Tx, (∀ t ∈ l, t.length ≤ 200) → (joinT l).length ≤ 221 * l.length
  | [], _ => by simp [joinT]
  | t :: l, h => by
    have h1 := joinT_le l fun t ht => h t (List.mem_cons_of_mem _ ht)
    have h2 := h t List.mem_cons_self
    have h3 : (dec t.length).length ≤ 20 := dec_le _
    simp only [joinT, List.length_append, List.length_cons, List.length_nil]; omega
theorem few_join {l : List Tx} (h : fewB l 200 = true) : (joinT l).length ≤ 140737488351232 := by
  have := joinT_le l fun t ht => by have := fewB_all h t ht; omega
  have := fewB_len h
  omega
theorem few_small {l : List Tx} (h : fewB l 200 = true) : ∀ t ∈ l, t.length ≤ 1000000 := fun t ht => by have := fewB_all h t ht; omega
theorem list_few {A : Option Addr} {c : Nat} {l : List Tx} {w : World} (hl : StrsAt w A l) (h : fewB l 200 = true) (ht : Tabs w) :
    Calls Tryd.prog 38 #[.slice A l.length c] w fun e w' => e = .returned (.string (str (listL l))) ∧ Below w.heap.size w w' :=
  list_any A c l w hl (by have := fewB_len h; omega) (few_small h) (few_join h) ht
theorem isT (t : Tx) (w : World) (hn : t.length ≤ 140737488351232) (h : isD t = true) : Calls Tryd.prog 9 #[.string (str t)] w fun e w' => e = .returned (.bool true) ∧ Below w.heap.size w w' := isC t true w hn h

end S
end Go.Proofs.YthdjdlndfkemiaaDoor
