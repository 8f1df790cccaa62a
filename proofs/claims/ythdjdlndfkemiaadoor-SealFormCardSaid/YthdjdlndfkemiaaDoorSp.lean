/- Digests: the reference's 'Few', 'Chain'; the walk of 'DigestLong'. -/
import Derived.Test.YthdjdlndfkemiaaDoorSm
import Derived.Test.YthdjdlndfkemiaaDoorSo
set_option linter.unusedSimpArgs false
set_option linter.unusedVariables false
set_option maxRecDepth 100000
namespace Go.Proofs.YthdjdlndfkemiaaDoor
open Go.RowKit
namespace S

def fewB (l : List Tx) (m : Int) : Bool := l.all (fun t => decide ((t.length : Int) ≤ m)) && decide (l.length ≤ 30)
theorem fewB_len {l : List Tx} {m : Int} (h : fewB l m = true) : l.length ≤ 30 := by unfold fewB at h; simp at h; omega
theorem fewB_all {l : List Tx} {m : Int} (h : fewB l m = true) : ∀ t ∈ l, (t.length : Int) ≤ m := by unfold fewB at h; simp at h; exact h.1
end S
end Go.Proofs.YthdjdlndfkemiaaDoor
