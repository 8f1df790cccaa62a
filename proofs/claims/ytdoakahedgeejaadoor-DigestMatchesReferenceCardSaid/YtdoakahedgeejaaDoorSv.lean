/- Digests: the walk of 'DigestMatchesReference'. -/
import Derived.Test.YtdoakahedgeejaaDoorSu
set_option linter.unusedSimpArgs false
set_option linter.unusedVariables false
set_option maxRecDepth 100000
namespace Go.Proofs.YtdoakahedgeejaaDoor
open Go.RowKit
namespace S

set_option maxHeartbeats 4000000 in
theorem matches_walk (s : ByteArray) (A : Option Addr) (c : Nat) (l : List Tx) (n : Int) (w : World) (hs : s.size ≤ maxLen) (hl : StrsAt w A l) (hn : (l.length ≤ c ∧ c ≤ maxLen) ∧ (A = none → c = 0)) (hb : ∀ t ∈ l, t.length ≤ maxLen) (b1 : -9223372036854775808 ≤ n ∧ n ≤ 9223372036854775807) (hta : Tabs w) :
    Calls Tryd.prog 3 #[.string s, .slice A l.length c, .int .i64 n] w fun e w' => e = .returned (.bool true) ∧ Below w.heap.size w w' := by
  unfold maxLen at hs hn
  have HT := Lib.hid hta
  have HSL := Lib.hid hl
  have HH := Lib.hid (head_any w hta)
  have hlen : l.length ≤ 9223372036854775807 := by omega
  obtain ⟨b1, b1'⟩ := b1
  obtain ⟨m, hm⟩ : ∃ m, Int.tmod n 40 = m := ⟨_, rfl⟩
  have hstl := str_toList
  clear hta hl hn hb
  by_cases h2 : (2000 : Int) < (s.size : Int)
  · go_enter Tryd.func3, Tryd.ntmps3
    go_wp2_with fail
    (with_reducible refine HH.out.mono ?_); rintro e w1 ⟨rfl, hb1⟩
    have HB := Lib.hid hb1
    clear hb1 HH
    go_wp2_with fail
    go_ret
    exact ⟨rfl, HB.out⟩
  · go_enter Tryd.func3, Tryd.ntmps3
    go_wp2_with fail
    (with_reducible refine HH.out.mono ?_); rintro e w1 ⟨rfl, hb1⟩
    have HB := Lib.hid hb1
    have HF := Lib.hid (few_any A c l 200 w1 (HSL.out.below hb1) hlen)
    clear hb1 HH
    go_wp2_with fail
    (with_reducible refine HF.out.mono ?_); rintro e w1 ⟨rfl, rfl⟩
    clear HF
    by_cases hf : fewB l 200 = true
    · have HFB := Lib.hid hf
      rw [hf]
      have HQ := Lib.hid (sum_any s w1 (by omega) (HT.out.below HB.out))
      clear hf
      go_wp2_with fail
      (with_reducible refine HQ.out.mono ?_); rintro e w2 ⟨rfl, hb2⟩
      replace HB := Lib.hid (HB.out.trans (hb2.mono HB.out.size))
      have HQ2 := Lib.hid (rsum_any s w2 (by omega))
      clear hb2 HQ
      go_wp2_with fail
      (with_reducible refine HQ2.out.mono ?_); rintro e w3 ⟨rfl, rfl⟩
      have HQ3 := Lib.hid (list_few (c := c) (HSL.out.below HB.out) HFB.out (HT.out.below HB.out))
      clear HQ2
      go_wp2_with fail
      (with_reducible refine HQ3.out.mono ?_); rintro e w4 ⟨rfl, hb4⟩
      replace HB := Lib.hid (HB.out.trans (hb4.mono HB.out.size))
      have HQ4 := Lib.hid (rlist_any A c l w4 (HSL.out.below HB.out) HFB.out)
      clear hb4 HQ3
      go_wp2_with fail
      (with_reducible refine HQ4.out.mono ?_); rintro e w5 ⟨rfl, hb5⟩
      replace HB := Lib.hid (HB.out.trans (hb5.mono HB.out.size))
      have HQ5 := Lib.hid (chain_any s m w5 (by omega) (HT.out.below HB.out))
      clear hb5 HQ4
      go_wp2_with fail
      (with_reducible refine HQ5.out.mono ?_); rintro e w6 ⟨rfl, hb6⟩
      replace HB := Lib.hid (HB.out.trans (hb6.mono HB.out.size))
      have HQ6 := Lib.hid (rchain_any s m w6 (by omega))
      clear hb6 HQ5
      go_wp2_with fail
      (with_reducible refine HQ6.out.mono ?_); rintro e w7 ⟨rfl, rfl⟩
      have HQ7 := Lib.hid (is_any s w7 (by omega))
      clear HQ6
      go_wp2_with fail
      (with_reducible refine HQ7.out.mono ?_); rintro e w8 ⟨rfl, hb8⟩
      replace HB := Lib.hid (HB.out.trans (hb8.mono HB.out.size))
      have HQ8 := Lib.hid (ris_any s w8 (by omega))
      clear hb8 HQ7
      go_wp2_with fail
      (with_reducible refine HQ8.out.mono ?_); rintro e w9 ⟨rfl, rfl⟩
      go_wp2_with fail
      go_ret
      exact ⟨by simp, HB.out⟩
    · rw [Bool.not_eq_true] at hf
      rw [hf]
      clear hf
      go_wp2_with fail
      go_ret
      exact ⟨rfl, HB.out⟩

end S
end Go.Proofs.YtdoakahedgeejaaDoor
