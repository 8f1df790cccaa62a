/- Trees: the reference's 'Half', 'node', 'Empty', 'root', 'up'. -/
import Derived.Test.YthdjdlndfkemiaaDoorTm
import Derived.Test.YthdjdlndfkemiaaDoorSs
set_option linter.unusedSimpArgs false
set_option linter.unusedVariables false
set_option maxRecDepth 100000
namespace Go.Proofs.YthdjdlndfkemiaaDoor
open Go.RowKit
namespace S

def Sh (t : Tx) : Prop := t.length ≤ 100
theorem Sh.sm {t : Tx} (h : Sh t) : Sm t := by unfold Sh at h; unfold Sm; omega
theorem isD_sh {t : Tx} (h : isD t = true) : Sh t := by unfold isD at h; simp at h; unfold Sh; omega
theorem node_sh (a b : Tx) : Sh (node a b) := by unfold Sh; rw [node_len]; omega
theorem emp_sh : Sh empT := by unfold Sh empT listL; rw [sumL_len]; omega
theorem root_sh (l : List Tx) (h : ∀ t ∈ l, Sh t) : Sh (rootT l) := by
  by_cases h2 : 2 ≤ l.length
  · rw [root_step h2]; exact node_sh _ _
  · match l, h2, h with
    | [], _, _ => rw [root_nil]; exact emp_sh
    | [x], _, h => rw [root_one]; exact h x List.mem_cons_self
    | _ :: _ :: _, h2, _ => simp at h2
theorem sh_take {l : List Tx} (h : ∀ t ∈ l, Sh t) (k : Nat) : ∀ t ∈ l.take k, Sh t := fun t ht => h t (List.mem_of_mem_take ht)
theorem sh_drop {l : List Tx} (h : ∀ t ∈ l, Sh t) (k : Nat) : ∀ t ∈ l.drop k, Sh t := fun t ht => h t (List.mem_of_mem_drop ht)

theorem few_node {a b : Tx} (ha : Sh a) (hb : Sh b) : fewB [nodeT, a, b] 200 = true := by
  unfold Sh at ha hb
  unfold fewB
  simp [nodeT]; omega
end S
end Go.Proofs.YthdjdlndfkemiaaDoor

/- Trees: the reference's 'up', 'both'. -/
namespace Go.Proofs.YthdjdlndfkemiaaDoor
open Go.RowKit
namespace S

theorem up_sh (n i : Nat) (d : Tx) (q : List Tx) (hd : Sh d) : Sh (upT n i d q) := by
  by_cases h2 : 2 ≤ n
  · by_cases hk : i < hf n
    · rw [up_left _ _ h2 hk]; exact node_sh _ _
    · rw [up_right _ _ h2 hk]; exact node_sh _ _
  · rw [up_one _ _ _ (by omega)]; exact hd
theorem both_sh : ∀ n m whole old (q : List Tx), Sh old → (∀ t ∈ q, Sh t) → Sh (bothT n m whole old q).1 ∧ Sh (bothT n m whole old q).2 := by
  intro n
  induction n using Nat.strongRecOn with
  | ind n ih =>
    intro m whole old q so sq
    have st : ∀ t ∈ q.tail, Sh t := fun t ht => sq t (List.mem_of_mem_tail ht)
    by_cases hlt : m < n
    · by_cases h2 : 2 ≤ n
      · obtain ⟨k0, k1, k2, _⟩ := hf_spec h2
        by_cases hk : m ≤ hf n
        · rw [both_left _ _ _ hlt h2 hk]; exact ⟨(ih (hf n) k1 m whole old q.tail so st).1, node_sh _ _⟩
        · rw [both_right _ _ _ hlt h2 hk]; exact ⟨node_sh _ _, node_sh _ _⟩
      · rw [bothT, if_neg (by omega), if_pos (by omega)]; exact ⟨by simp [Sh], by simp [Sh]⟩
    · rw [both_end _ _ _ (by omega)]
      have sh : Sh (q.headD []) := by
        cases q with
        | nil => simp [Sh]
        | cons x q => exact sq x List.mem_cons_self
      cases whole with
      | true => exact ⟨so, so⟩
      | false => exact ⟨sh, sh⟩
/-- A list that is not empty: its last element, the others, and where they lie. -/
theorem last_of {p : List Tx} {n : Nat} (h : p.length = n + 1) : ∃ r x, p = r ++ [x] ∧ r.length = n := by
  rcases List.eq_nil_or_concat p with e | ⟨r, x, e⟩
  · rw [e] at h; simp at h
  · refine ⟨r, x, by rw [e, List.concat_eq_append], ?_⟩
    rw [e] at h; simpa using h
theorem last_at {w : World} {A : Option Addr} {r : List Tx} {x : Tx} (h : StrsAt w A (r ++ [x])) : ∃ b off, A = some ⟨b, off, none⟩ ∧ b < w.heap.size ∧ w.cell? ⟨b, off + r.length, none⟩ = some (.string (str x)) := by
  obtain ⟨b, off, e1, hlt, hc⟩ := h r.length (by simp)
  refine ⟨b, off, e1, hlt, ?_⟩
  rw [hc]; simp
theorem sub1 {n : Nat} (hn : n ≤ 1000000) : IntKind.i64.wrap (((n + 1 : Nat) : Int) - 1) = (n : Int) := by
  rw [IntWalk.i64_left, IntWalk.wrap64_in _ (by omega)]; omega
theorem sub2 {n k : Nat} (hn : n ≤ 1000000) (hk : k ≤ n) : IntKind.i64.wrap ((n : Int) - (k : Int)) = ((n - k : Nat) : Int) := by
  rw [IntWalk.i64_left, IntWalk.wrap64_in _ (by omega)]; omega
theorem init_to {b off : Nat} {c n : Nat} {r : List Tx} {x : Tx} (hr : r.length = n) (hc : n + 1 ≤ c) :
    ∃ A', (A' = none → c = 0) ∧ (∀ w, (Instr.slice 22 (.slice (some ⟨b, off, none⟩) (n + 1) c) none (some (.int .i64 (n : Int))) none).run Tryd.prog w = .ok (.slice A' n c) w) ∧ ∀ w, StrsAt w (some ⟨b, off, none⟩) (r ++ [x]) → StrsAt w A' r := by
  obtain ⟨A', h1, h2, h3⟩ := strs_to (l := r ++ [x]) (A := some ⟨b, off, none⟩) (c := c) (k := n) (fun e => by cases e) (by simp; omega) (by simp; omega)
  have e1 : (r ++ [x]).length = n + 1 := by simp [hr]
  rw [e1] at h2
  refine ⟨A', h1, h2, fun w hs => ?_⟩
  have := h3 w hs
  rwa [List.take_append_of_le_length (by omega), List.take_of_length_le (by omega)] at this

end S
end Go.Proofs.YthdjdlndfkemiaaDoor
