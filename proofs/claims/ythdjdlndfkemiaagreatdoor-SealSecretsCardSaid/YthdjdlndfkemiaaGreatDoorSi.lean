/- Digests: 'head'. -/
import Derived.Test.YthdjdlndfkemiaaGreatDoorSh
set_option linter.unusedSimpArgs false
set_option linter.unusedVariables false
set_option maxRecDepth 100000
namespace Go.Proofs.YthdjdlndfkemiaaGreatDoor
open Go.RowKit
namespace S

theorem str_toList (l : Tx) : (str l).toList = l := by rw [toList_data, str_data]
theorem sumC (t : Tx) (w : World) (hn : t.length ≤ 140737488351232) (ht : Tabs w) : Calls Tryz.prog 56 #[.string (ByteArray.mk (List.toArray t))] w fun e w' => e = .returned (.string (str (sumL t))) ∧ Below w.heap.size w w' := by
  have h := sum_any (str t) w (by rw [str_size]; exact hn) ht
  rw [str_data] at h
  exact h
theorem sumT (t : Tx) (w : World) (hn : t.length ≤ 140737488351232) (ht : Tabs w) : Calls Tryz.prog 56 #[.string (str t)] w fun e w' => e = .returned (.string (str (sumL t))) ∧ Below w.heap.size w w' := sumC t w hn ht
theorem isC (t : Tx) (b : Bool) (w : World) (hn : t.length ≤ 140737488351232) (h : isD t = b) : Calls Tryz.prog 31 #[.string (ByteArray.mk (List.toArray t))] w fun e w' => e = .returned (.bool b) ∧ Below w.heap.size w w' := by
  have k := is_any (str t) w (by rw [str_size]; omega)
  rw [str_data, h] at k
  exact k
theorem chainC (t : Tx) (n : Int) (w : World) (hn : t.length ≤ 140737488351232) (ht : Tabs w) : Calls Tryz.prog 25 #[.string (ByteArray.mk (List.toArray t)), .int .i64 n] w fun e w' => e = .returned (.string (str (chn t (chainN n)))) ∧ Below w.heap.size w w' := by
  have h := chain_any (str t) n w (by rw [str_size]; exact hn) ht
  rw [str_data] at h
  exact h
theorem chain0 (w : World) (ht : Tabs w) : Calls Tryz.prog 25 #[.string (ByteArray.mk (List.toArray [120])), .int .i64 0] w fun e w' => e = .returned (.string (str [120])) ∧ Below w.heap.size w w' := chainC [120] 0 w (by decide) ht
theorem chain2 (w : World) (ht : Tabs w) : Calls Tryz.prog 25 #[.string (ByteArray.mk (List.toArray [120])), .int .i64 2] w fun e w' => e = .returned (.string (str (sumL (sumL [120])))) ∧ Below w.heap.size w w' := chainC [120] 2 w (by decide) ht
theorem list2 (w : World) (ht : Tabs w) : Calls Tryz.prog 68 #[.slice (some ⟨w.heap.size, 0, none⟩) 2 2] (w.alloc (.cells #[.string { data := #[97] }, .string { data := #[98, 99] }] 9)) fun e w' => e = .returned (.string (str (sumL [49, 58, 97, 50, 58, 98, 99]))) ∧ Below w.heap.size w w' := by
  have hb : Below w.heap.size w (w.alloc (.cells #[.string { data := #[97] }, .string { data := #[98, 99] }] 9)) := (Below.refl _ _).alloc (Nat.le_refl _) _
  have h := list_any (some ⟨w.heap.size, 0, none⟩) 2 [[97], [98, 99]] (w.alloc (.cells #[.string { data := #[97] }, .string { data := #[98, 99] }] 9)) (fun i hi => by
    obtain ⟨c, _⟩ := Reg.cells_at (Reg.heap_new w (.cells #[.string { data := #[97] }, .string { data := #[98, 99] }] 9))
    refine ⟨_, 0, rfl, by simp, ?_⟩
    rw [c]
    match i, hi with
    | 0, _ => rfl
    | 1, _ => rfl) (by decide) (by decide) (by decide +kernel) (ht.below hb)
  refine h.mono ?_
  rintro e w' ⟨rfl, hb2⟩
  refine ⟨?_, hb.trans (hb2.mono hb.size)⟩
  have e : joinT [[97], [98, 99]] = [49, 58, 97, 50, 58, 98, 99] := by decide +kernel
  unfold listL
  rw [e]

end S
end Go.Proofs.YthdjdlndfkemiaaGreatDoor
