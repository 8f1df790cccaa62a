/- Digests: the walk of 'DigestChains'. -/
import Derived.Test.YtdoakahedgeejaaDoorSi
set_option linter.unusedSimpArgs false
set_option linter.unusedVariables false
set_option maxRecDepth 100000
namespace Go.Proofs.YtdoakahedgeejaaDoor
open Go.RowKit
namespace S

theorem chainK (s : ByteArray) (k : Nat) (w : World) (hs : s.size ≤ 140737488351232) (hk : k ≤ 1000) (ht : Tabs w) : Calls Tryd.prog 16 #[.string s, .int .i64 (k : Int)] w fun e w' => e = .returned (.string (str (chn s.data.toList k))) ∧ Below w.heap.size w w' := by
  have h := chain_any s (k : Int) w hs ht
  rw [show chainN (k : Int) = k by unfold chainN; omega] at h
  exact h
theorem chainK2 (s : ByteArray) (a b : Nat) (w : World) (hs : s.size ≤ 140737488351232) (hk : a + b ≤ 1000) (ht : Tabs w) : Calls Tryd.prog 16 #[.string s, .int .i64 ((a : Int) + (b : Int))] w fun e w' => e = .returned (.string (str (chn s.data.toList (a + b)))) ∧ Below w.heap.size w w' := by
  have h := chainK s (a + b) w hs hk ht
  rw [Int.natCast_add] at h
  exact h

set_option maxHeartbeats 2000000 in
theorem chains_walk (s : ByteArray) (n1 n2 : Int) (w : World) (hs : s.size ≤ maxLen) (b1 : 0 ≤ n1 ∧ n1 ≤ 255) (b2 : 0 ≤ n2 ∧ n2 ≤ 255) (hta : Tabs w) :
    Calls Tryd.prog 8 #[.string s, .int .u8 n1, .int .u8 n2] w fun e w' => e = .returned (.bool true) ∧ Below w.heap.size w w' := by
  unfold maxLen at hs
  have HT := Lib.hid hta
  have HH := Lib.hid (head_any w hta)
  clear hta
  obtain ⟨a, ha⟩ : ∃ a : Nat, n1 % 51 = (a : Int) := Int.eq_ofNat_of_zero_le (by omega)
  obtain ⟨b, hb⟩ : ∃ b : Nat, n2 % 51 = (b : Int) := Int.eq_ofNat_of_zero_le (by omega)
  have ha5 : a ≤ 50 := by omega
  have hb5 : b ≤ 50 := by omega
  obtain ⟨b1, b1'⟩ := b1
  obtain ⟨b2, b2'⟩ := b2
  by_cases h2 : (2000 : Int) < (s.size : Int)
  · go_enter Tryd.func8, Tryd.ntmps8
    go_wp2_with fail
    (with_reducible refine HH.out.mono ?_); rintro e w1 ⟨rfl, hb1⟩
    have HB := Lib.hid hb1
    clear hb1 HH
    go_wp2_with fail
    go_ret
    exact ⟨rfl, HB.out⟩
  · go_enter Tryd.func8, Tryd.ntmps8
    go_wp2_with fail
    (with_reducible refine HH.out.mono ?_); rintro e w1 ⟨rfl, hb1⟩
    have HB := Lib.hid hb1
    have HC := Lib.hid (chainK s a w1 (by omega) (by omega) (HT.out.below hb1))
    clear hb1 HH
    go_wp2_with fail
    (with_reducible refine HC.out.mono ?_); rintro e w2 ⟨rfl, hb2⟩
    replace HB := Lib.hid (HB.out.trans (hb2.mono HB.out.size))
    have hq := chainK (str (chn s.data.toList a)) b w2 (by rw [str_size]; exact chn_len _ (by rw [← Lib.size_eq]; omega) _) (by omega) (HT.out.below HB.out)
    rw [str_data, chn_add] at hq
    have HQ := Lib.hid hq
    clear hb2 hq HC
    go_wp2_with fail
    (with_reducible refine HQ.out.mono ?_); rintro e w3 ⟨rfl, hb3⟩
    replace HB := Lib.hid (HB.out.trans (hb3.mono HB.out.size))
    have HQ2 := Lib.hid (chainK2 s a b w3 (by omega) (by omega) (HT.out.below HB.out))
    clear hb3 HQ
    go_wp2_with fail
    (with_reducible refine HQ2.out.mono ?_); rintro e w4 ⟨rfl, hb4⟩
    replace HB := Lib.hid (HB.out.trans (hb4.mono HB.out.size))
    clear hb4 HQ2
    go_wp2_with fail
    go_ret
    exact ⟨ret_bool (by simp), HB.out⟩

end S
end Go.Proofs.YtdoakahedgeejaaDoor
