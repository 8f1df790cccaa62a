/- Digests: the walk of 'DigestChains'. -/
import Derived.Test.YthdjdlndfkemiaaDoorSg
set_option linter.unusedSimpArgs false
set_option linter.unusedVariables false
set_option maxRecDepth 100000
namespace Go.Proofs.YthdjdlndfkemiaaDoor
open Go.RowKit
namespace S

theorem chainK (s : ByteArray) (k : Nat) (w : World) (hs : s.size ≤ 140737488351232) (hk : k ≤ 1000) (ht : Tabs w) : Calls Tryd.prog 18 #[.string s, .int .i64 (k : Int)] w fun e w' => e = .returned (.string (str (chn s.data.toList k))) ∧ Below w.heap.size w w' := by
  have h := chain_any s (k : Int) w hs ht
  rw [show chainN (k : Int) = k by unfold chainN; omega] at h
  exact h
theorem chainK2 (s : ByteArray) (a b : Nat) (w : World) (hs : s.size ≤ 140737488351232) (hk : a + b ≤ 1000) (ht : Tabs w) : Calls Tryd.prog 18 #[.string s, .int .i64 ((a : Int) + (b : Int))] w fun e w' => e = .returned (.string (str (chn s.data.toList (a + b)))) ∧ Below w.heap.size w w' := by
  have h := chainK s (a + b) w hs hk ht
  rw [Int.natCast_add] at h
  exact h

end S
end Go.Proofs.YthdjdlndfkemiaaDoor
