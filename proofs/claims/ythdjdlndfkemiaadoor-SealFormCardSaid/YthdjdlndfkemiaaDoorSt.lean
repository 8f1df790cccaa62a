/- Digests: the reference's 'Joined', 'List'. -/
import Derived.Test.YthdjdlndfkemiaaDoorSs
set_option linter.unusedSimpArgs false
set_option linter.unusedVariables false
set_option maxRecDepth 100000
namespace Go.Proofs.YthdjdlndfkemiaaDoor
open Go.RowKit
namespace S

def szs (l : List Tx) : Nat := (l.map fun t => t.length + 21).sum
theorem szs_snoc (l : List Tx) (t : Tx) : szs (l ++ [t]) = szs l + (t.length + 21) := by simp [szs]
theorem szs_take (l : List Tx) (k : Nat) (hk : k < l.length) : szs (l.take (k + 1)) = szs (l.take k) + (l[k].length + 21) := by
  rw [← List.take_append_getElem hk, szs_snoc]
theorem szs_le : ∀ l : List Tx, (∀ t ∈ l, t.length ≤ 1000) → szs l ≤ 1021 * l.length
  | [], _ => by simp [szs]
  | t :: l, h => by
    have h1 := szs_le l fun t ht => h t (List.mem_cons_of_mem _ ht)
    have h2 := h t List.mem_cons_self
    simp only [szs, List.map_cons, List.sum_cons, List.length_cons] at h1 ⊢; omega

theorem run_own_string {w : World} {B n : Nat} {v : Value} {t : Tx} (h : w.ownsRow B 5 1 v n (Lib.byteCells t)) :
    (convert 83 9 v).run Tryd.prog w = .ok (.string (str t)) w := by
  obtain ⟨h0, h1⟩ := h
  rw [bytes_len] at h0
  rcases h1 with ⟨rfl, rfl⟩ | ⟨g, cap, cur, rfl, hb, hg, hn, hc, hs, ht⟩
  · obtain rfl : t = [] := List.eq_nil_of_length_eq_zero (by omega)
    rw [run_convert_bytes_string w 83 9 5 none 0 0 Tryd.underlying83 Tryd.underlying5 Tryd.underlying9]
    simp [Conv.bytesToString]
    rfl
  · obtain rfl : n = t.length := by omega
    refine (run_convert_bytes_back (P := Tryd.prog) w 83 9 5 ⟨g, 0, none⟩ cap t Tryd.underlying83 Tryd.underlying5 Tryd.underlying9 (fun j hj => ?_))
    rw [show (⟨g, 0, none⟩ : Addr).add j = ⟨g, j, none⟩ by simp [Addr.add, eq_comm], Lib.cell_of_heap hg]
    have e : cur.toList[j]? = (Lib.byteCells t)[j]? := by
      rw [← ht, List.getElem?_take_of_lt (by omega)]
    rw [Array.getElem?_toList] at e
    rw [e]
    simp [Lib.byteCells, hj]

theorem joinT_leK (l : List Tx) (h : ∀ t ∈ l, t.length ≤ 1000) : (joinT l).length ≤ 1021 * l.length := by
  induction l with
  | nil => simp [joinT]
  | cons t l ih =>
    have q1 := ih fun t ht => h t (List.mem_cons_of_mem _ ht)
    have q2 := h t List.mem_cons_self
    have q3 := dec_le t.length
    simp only [joinT, List.length_append, List.length_cons, List.length_nil]; omega
theorem fewB_mono {l : List Tx} (h : fewB l 200 = true) : fewB l 1000 = true := by
  have h1 := fewB_all h
  have h2 := fewB_len h
  unfold fewB
  simp only [Bool.and_eq_true, List.all_eq_true, decide_eq_true_eq]
  exact ⟨fun t ht => by have := h1 t ht; omega, h2⟩
end S
end Go.Proofs.YthdjdlndfkemiaaDoor
