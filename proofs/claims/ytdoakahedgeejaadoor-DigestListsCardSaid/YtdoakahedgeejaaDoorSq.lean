/- Digests: the walk of 'DigestForm'. -/
import Derived.Test.YtdoakahedgeejaaDoorSp
set_option linter.unusedSimpArgs false
set_option linter.unusedVariables false
set_option maxRecDepth 100000
namespace Go.Proofs.YtdoakahedgeejaaDoor
open Go.RowKit
namespace S

theorem decs_le : ∀ k n, (decs k n).length ≤ k
  | 0, _ => by simp [decs]
  | k + 1, n => by
    have := decs_le k (n / 10)
    unfold decs
    split <;> simp <;> omega
theorem dec_le (n : Nat) : (dec n).length ≤ 20 := decs_le 20 n
theorem joinT_le : ∀ l : List Tx, (∀ t ∈ l, t.length ≤ 200) → (joinT l).length ≤ 221 * l.length
  | [], _ => by simp [joinT]
  | t :: l, h => by
    have h1 := joinT_le l fun t ht => h t (List.mem_cons_of_mem _ ht)
    have h2 := h t List.mem_cons_self
    have h3 : (dec t.length).length ≤ 20 := dec_le _
    simp only [joinT, List.length_append, List.length_cons, List.length_nil]; omega
theorem few_join {l : List Tx} (h : fewB l 200 = true) : (joinT l).length ≤ 140737488351232 := by
  have := joinT_le l fun t ht => by have := fewB_all h t ht; omega
  have := fewB_len h
  omega
theorem few_small {l : List Tx} (h : fewB l 200 = true) : ∀ t ∈ l, t.length ≤ 1000000 := fun t ht => by have := fewB_all h t ht; omega
theorem list_few {A : Option Addr} {c : Nat} {l : List Tx} {w : World} (hl : StrsAt w A l) (h : fewB l 200 = true) (ht : Tabs w) :
    Calls Tryd.prog 14 #[.slice A l.length c] w fun e w' => e = .returned (.string (str (listL l))) ∧ Below w.heap.size w w' :=
  list_any A c l w hl (by have := fewB_len h; omega) (few_small h) (few_join h) ht
theorem isT (t : Tx) (w : World) (hn : t.length ≤ 140737488351232) (h : isD t = true) : Calls Tryd.prog 18 #[.string (str t)] w fun e w' => e = .returned (.bool true) ∧ Below w.heap.size w w' := isC t true w hn h

set_option maxHeartbeats 2000000 in
theorem form_walk (s : ByteArray) (A : Option Addr) (c : Nat) (l : List Tx) (n : Int) (w : World) (hs : s.size ≤ maxLen) (hl : StrsAt w A l) (hn : (l.length ≤ c ∧ c ≤ maxLen) ∧ (A = none → c = 0)) (hb : ∀ t ∈ l, t.length ≤ maxLen) (b1 : 0 ≤ n ∧ n ≤ 255) (hta : Tabs w) :
    Calls Tryd.prog 5 #[.string s, .slice A l.length c, .int .u8 n] w fun e w' => e = .returned (.bool true) ∧ Below w.heap.size w w' := by
  unfold maxLen at hs hn
  have HT := Lib.hid hta
  have HSL := Lib.hid hl
  have HH := Lib.hid (head_any w hta)
  have hlen : l.length ≤ 9223372036854775807 := by omega
  obtain ⟨k, hk⟩ : ∃ k : Nat, n % 30 = (k : Int) := Int.eq_ofNat_of_zero_le (by omega)
  have hk5 : k ≤ 30 := by omega
  obtain ⟨b1, b1'⟩ := b1
  clear hta hl hn hb
  by_cases h2 : (2000 : Int) < (s.size : Int)
  · go_enter Tryd.func5, Tryd.ntmps5
    go_wp2_with fail
    (with_reducible refine HH.out.mono ?_); rintro e w1 ⟨rfl, hb1⟩
    have HB := Lib.hid hb1
    clear hb1 HH
    go_wp2_with fail
    go_ret
    exact ⟨rfl, HB.out⟩
  · go_enter Tryd.func5, Tryd.ntmps5
    go_wp2_with fail
    (with_reducible refine HH.out.mono ?_); rintro e w1 ⟨rfl, hb1⟩
    have HB := Lib.hid hb1
    have HF := Lib.hid (few_any A c l 200 w1 (HSL.out.below hb1) hlen)
    clear hb1 HH
    go_wp2_with fail
    (with_reducible refine HF.out.mono ?_); rintro e w1 ⟨rfl, rfl⟩
    clear HF
    by_cases hf : fewB l 200 = true
    · have HFB := Lib.hid hf
      rw [hf]
      have HQ := Lib.hid (sum_any s w1 (by omega) (HT.out.below HB.out))
      clear hf
      go_wp2_with fail
      (with_reducible refine HQ.out.mono ?_); rintro e w2 ⟨rfl, hb2⟩
      replace HB := Lib.hid (HB.out.trans (hb2.mono HB.out.size))
      have HQ2 := Lib.hid (isT (sumL s.data.toList) w2 (by rw [sumL_len]; omega) (isD_sum _))
      clear hb2 HQ
      go_wp2_with fail
      (with_reducible refine HQ2.out.mono ?_); rintro e w3 ⟨rfl, hb3⟩
      replace HB := Lib.hid (HB.out.trans (hb3.mono HB.out.size))
      have HQ3 := Lib.hid (list_few (c := c) (HSL.out.below HB.out) HFB.out (HT.out.below HB.out))
      clear hb3 HQ2
      go_wp2_with fail
      (with_reducible refine HQ3.out.mono ?_); rintro e w4 ⟨rfl, hb4⟩
      replace HB := Lib.hid (HB.out.trans (hb4.mono HB.out.size))
      have HQ4 := Lib.hid (isT (listL l) w4 (by unfold listL; rw [sumL_len]; omega) (isD_sum _))
      clear hb4 HQ3
      go_wp2_with fail
      (with_reducible refine HQ4.out.mono ?_); rintro e w5 ⟨rfl, hb5⟩
      replace HB := Lib.hid (HB.out.trans (hb5.mono HB.out.size))
      have hq := chainK s (k + 1) w5 (by omega) (by omega) (HT.out.below HB.out)
      rw [show ((k + 1 : Nat) : Int) = 1 + (k : Int) by omega] at hq
      have HQ5 := Lib.hid hq
      clear hb5 hq HQ4
      go_wp2_with fail
      (with_reducible refine HQ5.out.mono ?_); rintro e w6 ⟨rfl, hb6⟩
      replace HB := Lib.hid (HB.out.trans (hb6.mono HB.out.size))
      have HQ6 := Lib.hid (isT (chn s.data.toList (k + 1)) w6 (by rw [show chn s.data.toList (k + 1) = sumL (chn s.data.toList k) from rfl, sumL_len]; omega) (isD_chn _ _))
      clear hb6 HQ5
      go_wp2_with fail
      (with_reducible refine HQ6.out.mono ?_); rintro e w7 ⟨rfl, hb7⟩
      replace HB := Lib.hid (HB.out.trans (hb7.mono HB.out.size))
      clear hb7 HQ6
      go_wp2_with fail
      go_ret
      exact ⟨rfl, HB.out⟩
    · rw [Bool.not_eq_true] at hf
      rw [hf]
      clear hf
      go_wp2_with fail
      go_ret
      exact ⟨rfl, HB.out⟩

end S
end Go.Proofs.YtdoakahedgeejaaDoor
