/- Digests: the reference's 'Few', 'Chain'; the walk of 'DigestLong'. -/
import Derived.Test.YtdoakahedgeejaaDoorSm
import Derived.Test.YtdoakahedgeejaaDoorSo
set_option linter.unusedSimpArgs false
set_option linter.unusedVariables false
set_option maxRecDepth 100000
namespace Go.Proofs.YtdoakahedgeejaaDoor
open Go.RowKit
namespace S

def fewB (l : List Tx) (m : Int) : Bool := l.all (fun t => decide ((t.length : Int) ≤ m)) && decide (l.length ≤ 30)
theorem fewB_len {l : List Tx} {m : Int} (h : fewB l m = true) : l.length ≤ 30 := by unfold fewB at h; simp at h; omega
theorem fewB_all {l : List Tx} {m : Int} (h : fewB l m = true) : ∀ t ∈ l, (t.length : Int) ≤ m := by unfold fewB at h; simp at h; exact h.1
theorem few_any (A : Option Addr) (c : Nat) (l : List Tx) (m : Int) (w : World) (hl : StrsAt w A l) (hn : l.length ≤ 9223372036854775807) :
    Calls Tryd.prog 11 #[.slice A l.length c, .int .i64 m] w fun e w' => e = .returned (.bool (fewB l m)) ∧ w' = w := by
  have HL := Lib.hid hl
  have HN := Lib.hid hn
  clear hl
  go_enter Tryd.func11, Tryd.ntmps11
  go_wp2_with fail
  go_loop [5] (fun i => ∃ k : Nat, k ≤ l.length ∧ i = .int .i64 k ∧ ∀ t ∈ l.take k, (t.length : Int) ≤ m) (fun i => l.length - (intOf i).toNat)
  case atStart => exact ⟨0, Nat.zero_le _, rfl, by simp⟩
  case round =>
    obtain ⟨k, hk, rfl, hall⟩ := hrel
    have HA := Lib.hid hall
    clear hall
    by_cases hlt : k < l.length
    · obtain ⟨bs, off, hA, hbs, c0⟩ := HL.out k hlt
      subst hA
      have hki : (k : Int) < (l.length : Int) := by omega
      have hk0 : (0 : Int) ≤ (k : Int) := by omega
      have HT : Hid (l.take (k + 1) = l.take k ++ [l[k]]) := (List.take_append_getElem hlt).symm
      have HM : Hid (l[k] ∈ l) := List.getElem_mem hlt
      obtain ⟨x, hx⟩ : ∃ x, x = l[k] := ⟨_, rfl⟩
      rw [← hx] at c0 HT HM
      clear hx
      have hsz := str_size x
      by_cases hm : m < (x.length : Int)
      · have hm' : m < ((str x).size : Int) := by rw [str_size]; exact hm
        clear hsz
        go_wp2_with fail
        go_ret
        refine ⟨?_, rfl⟩
        rw [show fewB l m = false by
          unfold fewB
          rw [Bool.and_eq_false_iff]; left
          rw [List.all_eq_false]
          exact ⟨x, HM.out, by simp; omega⟩]
        rfl
      · have hm' : ¬ m < ((str x).size : Int) := by rw [str_size]; exact hm
        clear hsz
        go_wp2_with fail
        refine ⟨⟨k + 1, by omega, by go_num, ?_⟩, by simp [intOf]; omega⟩
        intro t ht
        rw [HT.out, List.mem_append] at ht
        rcases ht with ht | ht
        · exact HA.out t ht
        · rw [List.mem_singleton.1 ht]; omega
    · obtain rfl : k = l.length := by omega
      have ha := HA.out
      rw [List.take_length] at ha
      have HF : Hid (fewB l m = decide ((l.length : Int) ≤ 30)) := by
        unfold Hid fewB
        rw [show l.all (fun t => decide ((t.length : Int) ≤ m)) = true from List.all_eq_true.2 fun t ht => by simpa using ha t ht]
        simp only [Bool.true_and]
        exact decide_eq_decide.2 (by omega)
      clear ha
      go_wp2_with fail
      go_ret
      exact ⟨by rw [HF.out]; rfl, rfl⟩

theorem rchain_any (s : ByteArray) (n : Int) (w : World) (hs : s.size ≤ 140737488351232) :
    Calls Tryd.prog 17 #[.string s, .int .i64 n] w fun e w' => e = .returned (.string (str (chn s.data.toList (chainN n)))) ∧ w' = w := by
  obtain ⟨N, hN⟩ : ∃ N : Nat, max 0 (min n 1000) = (N : Int) := Int.eq_ofNat_of_zero_le (by omega)
  have hN1 : N ≤ 1000 := by omega
  have HN := Lib.hid (show chainN n = N by unfold chainN; rw [hN]; rfl)
  have HS : Hid (s.data.toList.length ≤ 140737488351232) := by rw [← Lib.size_eq]; exact hs
  have hnk : ∀ k : Nat, k < N → (k : Int) < min n 1000 := by omega
  have hnn : ¬ (N : Int) < min n 1000 := by omega
  clear hN
  go_enter Tryd.func17, Tryd.ntmps17
  go_wp2_with fail
  go_loop [0, 5] (fun x i => ∃ k : Nat, k ≤ N ∧ i = .int .i64 k ∧ x = .string (str (chn s.data.toList k))) (fun _ i => N - (intOf i).toNat)
  case atStart => exact ⟨0, by omega, rfl, by rw [show chn s.data.toList 0 = s.data.toList from rfl, str_of]⟩
  case round =>
    obtain ⟨k, hk, rfl, rfl⟩ := hrel
    by_cases hlt : k < N
    · have hq := rsum_any (str (chn s.data.toList k)) w (by rw [str_size]; exact chn_len _ HS.out k)
      rw [str_data] at hq
      have HQ := Lib.hid hq
      have hk0 : (0 : Int) ≤ (k : Int) := by omega
      have hk4 := hnk k hlt
      clear hq hnk hnn
      go_wp2_with fail
      (with_reducible refine HQ.out.mono ?_); rintro e w2 ⟨rfl, rfl⟩
      go_wp2_with fail
      exact ⟨⟨k + 1, by omega, by go_num, rfl⟩, by simp [intOf]; omega⟩
    · obtain rfl : k = N := by omega
      clear hnk
      go_wp2_with fail
      go_ret
      exact ⟨by rw [HN.out]; rfl, rfl⟩

set_option maxHeartbeats 2000000 in
theorem long_walk (s : ByteArray) (n : Int) (w : World) (hs : s.size ≤ maxLen) (b1 : -9223372036854775808 ≤ n ∧ n ≤ 9223372036854775807) (hta : Tabs w) :
    Calls Tryd.prog 4 #[.string s, .int .i64 n] w fun e w' => e = .returned (.bool true) ∧ Below w.heap.size w w' := by
  unfold maxLen at hs
  have HT := Lib.hid hta
  have HH := Lib.hid (head_any w hta)
  clear hta
  by_cases h2 : (200 : Int) < (s.size : Int)
  · go_enter Tryd.func4, Tryd.ntmps4
    go_wp2_with fail
    (with_reducible refine HH.out.mono ?_); rintro e w1 ⟨rfl, hb1⟩
    have HB := Lib.hid hb1
    clear hb1 HH
    go_wp2_with fail
    go_ret
    exact ⟨rfl, HB.out⟩
  · by_cases h3 : n ≤ 1000
    · go_enter Tryd.func4, Tryd.ntmps4
      go_wp2_with fail
      (with_reducible refine HH.out.mono ?_); rintro e w1 ⟨rfl, hb1⟩
      have HB := Lib.hid hb1
      clear hb1 HH
      go_wp2_with fail
      go_ret
      exact ⟨rfl, HB.out⟩
    · go_enter Tryd.func4, Tryd.ntmps4
      go_wp2_with fail
      (with_reducible refine HH.out.mono ?_); rintro e w1 ⟨rfl, hb1⟩
      have HB := Lib.hid hb1
      have hq := chain_any s n w1 (by omega) (HT.out.below hb1)
      rw [show chainN n = 1000 by unfold chainN; omega] at hq
      have HQ := Lib.hid hq
      clear hb1 HH hq
      go_wp2_with fail
      (with_reducible refine HQ.out.mono ?_); rintro e w2 ⟨rfl, hb2⟩
      have HB2 := Lib.hid (HB.out.trans (hb2.mono HB.out.size))
      have hq := rchain_any s 1000 w2 (by omega)
      rw [show chainN 1000 = 1000 from rfl] at hq
      have HR := Lib.hid hq
      clear hb2 hq HQ HB
      go_wp2_with fail
      (with_reducible refine HR.out.mono ?_); rintro e w3 ⟨rfl, rfl⟩
      go_wp2_with fail
      go_ret
      exact ⟨ret_bool (by simp), HB2.out⟩

end S
end Go.Proofs.YtdoakahedgeejaaDoor
