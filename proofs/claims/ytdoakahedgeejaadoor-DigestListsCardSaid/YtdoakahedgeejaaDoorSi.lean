/- Digests: 'head'. -/
import Derived.Test.YtdoakahedgeejaaDoorSh
set_option linter.unusedSimpArgs false
set_option linter.unusedVariables false
set_option maxRecDepth 100000
namespace Go.Proofs.YtdoakahedgeejaaDoor
open Go.RowKit
namespace S

theorem str_toList (l : Tx) : (str l).toList = l := by rw [toList_data, str_data]
theorem sumC (t : Tx) (w : World) (hn : t.length ≤ 140737488351232) (ht : Tabs w) : Calls Tryd.prog 12 #[.string (ByteArray.mk (List.toArray t))] w fun e w' => e = .returned (.string (str (sumL t))) ∧ Below w.heap.size w w' := by
  have h := sum_any (str t) w (by rw [str_size]; exact hn) ht
  rw [str_data] at h
  exact h
theorem sumT (t : Tx) (w : World) (hn : t.length ≤ 140737488351232) (ht : Tabs w) : Calls Tryd.prog 12 #[.string (str t)] w fun e w' => e = .returned (.string (str (sumL t))) ∧ Below w.heap.size w w' := sumC t w hn ht
theorem isC (t : Tx) (b : Bool) (w : World) (hn : t.length ≤ 140737488351232) (h : isD t = b) : Calls Tryd.prog 18 #[.string (ByteArray.mk (List.toArray t))] w fun e w' => e = .returned (.bool b) ∧ Below w.heap.size w w' := by
  have k := is_any (str t) w (by rw [str_size]; exact hn)
  rw [str_data, h] at k
  exact k
theorem chainC (t : Tx) (n : Int) (w : World) (hn : t.length ≤ 140737488351232) (ht : Tabs w) : Calls Tryd.prog 16 #[.string (ByteArray.mk (List.toArray t)), .int .i64 n] w fun e w' => e = .returned (.string (str (chn t (chainN n)))) ∧ Below w.heap.size w w' := by
  have h := chain_any (str t) n w (by rw [str_size]; exact hn) ht
  rw [str_data] at h
  exact h
theorem chain0 (w : World) (ht : Tabs w) : Calls Tryd.prog 16 #[.string (ByteArray.mk (List.toArray [120])), .int .i64 0] w fun e w' => e = .returned (.string (str [120])) ∧ Below w.heap.size w w' := chainC [120] 0 w (by decide) ht
theorem chain2 (w : World) (ht : Tabs w) : Calls Tryd.prog 16 #[.string (ByteArray.mk (List.toArray [120])), .int .i64 2] w fun e w' => e = .returned (.string (str (sumL (sumL [120])))) ∧ Below w.heap.size w w' := chainC [120] 2 w (by decide) ht
theorem list2 (w : World) (ht : Tabs w) : Calls Tryd.prog 14 #[.slice (some ⟨w.heap.size, 0, none⟩) 2 2] (w.alloc (.cells #[.string { data := #[97] }, .string { data := #[98, 99] }] 9)) fun e w' => e = .returned (.string (str (sumL [49, 58, 97, 50, 58, 98, 99]))) ∧ Below w.heap.size w w' := by
  have hb : Below w.heap.size w (w.alloc (.cells #[.string { data := #[97] }, .string { data := #[98, 99] }] 9)) := (Below.refl _ _).alloc (Nat.le_refl _) _
  have h := list_any (some ⟨w.heap.size, 0, none⟩) 2 [[97], [98, 99]] (w.alloc (.cells #[.string { data := #[97] }, .string { data := #[98, 99] }] 9)) (fun i hi => by
    obtain ⟨c, _⟩ := Reg.cells_at (Reg.heap_new w (.cells #[.string { data := #[97] }, .string { data := #[98, 99] }] 9))
    refine ⟨_, 0, rfl, by simp, ?_⟩
    rw [c]
    match i, hi with
    | 0, _ => rfl
    | 1, _ => rfl) (by decide) (by decide) (by decide +kernel) (ht.below hb)
  refine h.mono ?_
  rintro e w' ⟨rfl, hb2⟩
  refine ⟨?_, hb.trans (hb2.mono hb.size)⟩
  have e : joinT [[97], [98, 99]] = [49, 58, 97, 50, 58, 98, 99] := by decide +kernel
  unfold listL
  rw [e]

set_option maxHeartbeats 2000000 in
theorem head_any (w : World) (ht : Tabs w) : Calls Tryd.prog 10 #[] w fun e w' => e = .returned (.bool true) ∧ Below w.heap.size w w' := by
  obtain ⟨p1, p2, p3, p4, p5, p6⟩ := head_plain
  have HT := Lib.hid ht
  have I1 := Lib.hid (fun W => isC _ true W (by decide) p1)
  have I2 := Lib.hid (fun W => isC _ false W (by decide) p2)
  have I3 := Lib.hid (fun W => isC _ false W (by decide) p3)
  clear p1 p2 p3 p4 ht
  have hstl := str_toList
  go_enter Tryd.func10, Tryd.ntmps10
  go_wp2_with fail
  (with_reducible refine (I1.out _).mono ?_); rintro e w1 ⟨rfl, hb1⟩
  go_wp2_with fail
  (with_reducible refine (I2.out _).mono ?_); rintro e w2 ⟨rfl, hb2⟩
  go_wp2_with fail
  (with_reducible refine (I3.out _).mono ?_); rintro e w3 ⟨rfl, hb3⟩
  have HB := Lib.hid ((hb1.trans (hb2.mono hb1.size)).trans (hb3.mono (Nat.le_trans hb1.size hb2.size)))
  clear hb1 hb2 hb3 I1 I2 I3
  go_wp2_with fail
  (with_reducible refine (list2 _ (HT.out.below HB.out)).mono ?_); rintro e w4 ⟨rfl, hb4⟩
  replace HB := Lib.hid (HB.out.trans (hb4.mono HB.out.size))
  clear hb4
  go_wp2_with fail
  (with_reducible refine (sumC _ _ (by decide) (HT.out.below HB.out)).mono ?_); rintro e w5 ⟨rfl, hb4⟩
  replace HB := Lib.hid (HB.out.trans (hb4.mono HB.out.size))
  clear hb4
  go_wp2_with fail
  (with_reducible refine (chain0 _ (HT.out.below HB.out)).mono ?_); rintro e w6 ⟨rfl, hb4⟩
  replace HB := Lib.hid (HB.out.trans (hb4.mono HB.out.size))
  clear hb4
  go_wp2_with fail
  (with_reducible refine (chain2 _ (HT.out.below HB.out)).mono ?_); rintro e w7 ⟨rfl, hb4⟩
  replace HB := Lib.hid (HB.out.trans (hb4.mono HB.out.size))
  clear hb4
  go_wp2_with fail
  (with_reducible refine (sumC _ _ (by decide) (HT.out.below HB.out)).mono ?_); rintro e w8 ⟨rfl, hb4⟩
  replace HB := Lib.hid (HB.out.trans (hb4.mono HB.out.size))
  clear hb4
  go_wp2_with fail
  (with_reducible refine (sumT _ _ (by rw [sumL_len]; decide) (HT.out.below HB.out)).mono ?_); rintro e w9 ⟨rfl, hb4⟩
  replace HB := Lib.hid (HB.out.trans (hb4.mono HB.out.size))
  clear hb4
  go_wp2_with fail
  (with_reducible refine (sumC _ _ (by decide) (HT.out.below HB.out)).mono ?_); rintro e w10 ⟨rfl, hb4⟩
  replace HB := Lib.hid (HB.out.trans (hb4.mono HB.out.size))
  clear hb4
  go_wp2_with fail
  (with_reducible refine (sumC _ _ (by decide) (HT.out.below HB.out)).mono ?_); rintro e w11 ⟨rfl, hb4⟩
  replace HB := Lib.hid (HB.out.trans (hb4.mono HB.out.size))
  clear hb4
  go_wp2_with fail
  (with_reducible refine (sumC _ _ (by decide) (HT.out.below HB.out)).mono ?_); rintro e w12 ⟨rfl, hb4⟩
  replace HB := Lib.hid (HB.out.trans (hb4.mono HB.out.size))
  clear hb4
  go_wp2_with fail
  (with_reducible refine (sumC _ _ (by decide) (HT.out.below HB.out)).mono ?_); rintro e w13 ⟨rfl, hb4⟩
  replace HB := Lib.hid (HB.out.trans (hb4.mono HB.out.size))
  clear hb4
  go_wp2_with fail
  go_ret
  exact ⟨rfl, HB.out⟩

end S
end Go.Proofs.YtdoakahedgeejaaDoor
