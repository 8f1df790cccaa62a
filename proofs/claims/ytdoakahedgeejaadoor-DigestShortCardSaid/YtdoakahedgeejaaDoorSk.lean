/- Digests: the walk of 'DigestShort'. -/
import Derived.Test.YtdoakahedgeejaaDoorSi
import Derived.Test.YtdoakahedgeejaaDoorSj
set_option linter.unusedSimpArgs false
set_option linter.unusedVariables false
set_option maxRecDepth 100000
namespace Go.Proofs.YtdoakahedgeejaaDoor
open Go.RowKit
namespace S

set_option maxHeartbeats 2000000 in
theorem short_walk (s t : ByteArray) (w : World) (hs : s.size ≤ maxLen) (ht : t.size ≤ maxLen) (hta : Tabs w) :
    Calls Tryd.prog 6 #[.string s, .string t] w fun e w' => e = .returned (.bool true) ∧ Below w.heap.size w w' := by
  unfold maxLen at hs ht
  have HT := Lib.hid hta
  have HH := Lib.hid (head_any w hta)
  clear hta
  obtain ⟨m, hm⟩ : ∃ m : Nat, min (s.size : Int) 7 = (m : Int) := Int.eq_ofNat_of_zero_le (by omega)
  obtain ⟨n, hn⟩ : ∃ n : Nat, min (t.size : Int) 7 = (n : Int) := Int.eq_ofNat_of_zero_le (by omega)
  have hm1 : (m : Int) ≤ (s.size : Int) := by omega
  have hn1 : (n : Int) ≤ (t.size : Int) := by omega
  have hm0 : (0 : Int) ≤ (m : Int) := by omega
  have hn0 : (0 : Int) ≤ (n : Int) := by omega
  have HM : Hid (m ≤ 7 ∧ n ≤ 7) := by unfold Hid; omega
  go_enter Tryd.func6, Tryd.ntmps6
  go_wp2_with fail
  (with_reducible refine HH.out.mono ?_); rintro e w1 ⟨rfl, hb1⟩
  have HB := Lib.hid hb1
  clear hb1 HH
  go_wp2_with fail
  have hz1 : (s.extract 0 m).data.toList.length ≤ 7 := by rw [← Lib.size_eq, ByteArray.size_extract]; have := HM.out; omega
  have hz2 : (t.extract 0 n).data.toList.length ≤ 7 := by rw [← Lib.size_eq, ByteArray.size_extract]; have := HM.out; omega
  obtain ⟨a, ha, ha7⟩ : ∃ a, s.extract 0 m = str a ∧ a.length ≤ 7 := ⟨_, (str_of _).symm, hz1⟩
  obtain ⟨b, hb, hb7⟩ : ∃ b, t.extract 0 n = str b ∧ b.length ≤ 7 := ⟨_, (str_of _).symm, hz2⟩
  rw [ha, hb]
  have HLW := Lib.hid (short_law a b ha7 hb7)
  clear ha hb hz1 hz2 hm hn hm1 hn1 hm0 hn0
  (with_reducible refine (sumT a _ (by omega) (HT.out.below HB.out)).mono ?_); rintro e w2 ⟨rfl, hb2⟩
  replace HB := Lib.hid (HB.out.trans (hb2.mono HB.out.size))
  clear hb2
  go_wp2_with fail
  (with_reducible refine (sumT b _ (by omega) (HT.out.below HB.out)).mono ?_); rintro e w3 ⟨rfl, hb3⟩
  replace HB := Lib.hid (HB.out.trans (hb3.mono HB.out.size))
  have hstl := str_toList
  have hlaw := HLW.out
  clear hb3
  go_wp2_with fail
  go_ret
  exact ⟨ret_bool (by simp), HB.out⟩

end S
end Go.Proofs.YtdoakahedgeejaaDoor
