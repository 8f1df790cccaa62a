/- Trees: 'Extends$1'. -/
import Derived.Test.YthdjdlndfkemiaaGreatDoorTi
set_option linter.unusedSimpArgs false
set_option linter.unusedVariables false
set_option maxRecDepth 100000
namespace Go.Proofs.YthdjdlndfkemiaaGreatDoor
open Go.RowKit
namespace S

end S
end Go.Proofs.YthdjdlndfkemiaaGreatDoor

/- Trees: 'Extends'. -/
namespace Go.Proofs.YthdjdlndfkemiaaGreatDoor
open Go.RowKit
namespace S

/-- What 'Extends' answers. -/
def extB (old : Tx) (m : Int) (root : Tx) (n : Int) (p : List Tx) : Bool :=
  decide (0 ≤ m) && decide (m ≤ n) && decide (n ≤ 1000000) && p.all isD && (isD old && isD root) &&
    (if m = 0 then p.length == 0 && (old == empT && (decide (0 < n) || root == old))
     else (bothT n.toNat m.toNat true old p.reverse).1 == old && ((bothT n.toNat m.toNat true old p.reverse).2 == root && p.length == longT n.toNat m.toNat true))
theorem ext_done {n m : Nat} {q : List Tx} (h : ∀ t ∈ q, isD t = true) : (!popsS (longT n m true) q false && (q.drop (longT n m true)).isEmpty) = (q.length == longT n m true) := by
  rw [pops_spec _ _ _ (fun t ht => isD_ne (h t ht))]
  simp only [Bool.false_or]
  rw [Bool.eq_iff_iff]
  simp
  omega
theorem total_nil (w : World) (ht : Tabs w) : Calls Tryz.prog 53 #[.slice none 0 0] w fun e w' => e = .returned (.string (str empT)) ∧ Below w.heap.size w w' := by
  have h := total_any [] none 0 w (by simp) ht (fun i hi => by simp at hi) (by simp) (by omega) (fun _ => rfl) (by simp)
  rw [root_nil] at h
  exact h

end S
end Go.Proofs.YthdjdlndfkemiaaGreatDoor
