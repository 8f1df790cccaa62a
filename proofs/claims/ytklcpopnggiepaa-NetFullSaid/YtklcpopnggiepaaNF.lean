/- Law 'NetFull': the walk. -/
import Derived.Test.YtklcpopnggiepaaNt
set_option linter.unusedSimpArgs false
set_option linter.unusedVariables false
set_option maxRecDepth 100000
namespace Go.Proofs.Ytklcpopnggiepaa
open Go.RowKit
namespace N

def fullD (i : Nat) (t : Tx) : Nt := { newN 2 with q := at2 (fun _ _ => []) 1 0 (List.replicate (min i 100) t) }
theorem full_send (i : Nat) (t : Tx) (ht : t.length ≤ 100) : send (fullD i t) 1 0 t = (if i < 100 then 0 else 22, fullD (i + 1) t) := by
  unfold send
  rw [if_neg (by simp [fullD, newN, okP]), if_neg (by omega), if_neg (by simp [fullD, newN])]
  have e : (fullD i t).q 1 0 = List.replicate (min i 100) t := by simp [fullD, at2]
  rw [e]
  by_cases h : i < 100
  · rw [if_neg (by simp; omega), if_pos h]
    have : at2 (fullD i t).q 1 0 (List.replicate (min i 100) t ++ [t]) = (fullD (i + 1) t).q := by
      funext x y
      simp only [fullD, at2]
      split
      · rw [show min (i + 1) 100 = min i 100 + 1 from by omega, List.replicate_succ']
      · rfl
    rw [this]; rfl
  · rw [if_pos (by simp; omega), if_neg h]
    have : fullD (i + 1) t = fullD i t := by unfold fullD; rw [show min (i + 1) 100 = min i 100 from by omega]
    rw [this]
theorem full_wait (i : Nat) (t : Tx) : waiting (fullD i t) 1 0 = List.replicate (min i 100) t := by simp [waiting, fullD, newN, okP, at2]
theorem full_back (i : Nat) (t : Tx) (ht : t.length ≤ 100) : (send (fullD i t) 0 1 t).1 = 0 := by
  unfold send
  rw [if_neg (by simp [fullD, newN, okP]), if_neg (by omega), if_neg (by simp [fullD, newN]), if_neg (by simp [fullD, newN, at2])]
theorem full_0 (t : Tx) : fullD 0 t = newN 2 := by
  have e : at2 (fun _ _ => ([] : List Tx)) 1 0 (List.replicate (min 0 100) t) = fun _ _ => [] := funext fun x => funext fun y => by simp [at2]
  show (⟨2, at2 (fun _ _ => ([] : List Tx)) 1 0 (List.replicate (min 0 100) t), fun _ _ => false⟩ : Nt) = ⟨2, fun _ _ => [], fun _ _ => false⟩
  rw [e]

set_option maxHeartbeats 4000000 in
theorem full_walk (raw : Int) (s : ByteArray) (w : World) (h0 : 0 ≤ raw ∧ raw ≤ 255) (hs : s.size ≤ maxLen) :
    Calls Try.prog 5 #[.int .u8 raw, .string s] w fun e w' => e = .returned (.bool true) ∧ Below w.heap.size w w' := by
  obtain ⟨h0, h1⟩ := h0
  obtain ⟨K, hK, hK2⟩ : ∃ K : Nat, raw % 130 = (K : Int) ∧ K < 130 := ⟨(raw % 130).toNat, by omega, by omega⟩
  obtain ⟨t, rfl⟩ : ∃ t, s = str t := ⟨_, str_of s⟩
  have hsz := str_size t
  have HH := Lib.hid (head_any w)
  by_cases ht : t.length ≤ 100
  · have c1 : ¬ 100 < (str t).size := by rw [hsz]; omega
    have c2 : ¬ (100 : Int) < ((str t).size : Int) := by omega
    have Ht := Lib.hid ht
    clear hsz ht
    go_enter Try.func5, Try.ntmps5
    go_wp2_with fail
    (with_reducible refine HH.out.mono ?_); rintro e w1 ⟨rfl, hb1⟩
    have hnew := Lib.hid (tr_new (w0 := w) (W := w1) 2 (by omega) (by omega) hb1)
    clear hb1 HH
    go_wp2_with fail
    refine hnew.out.mono ?_
    rintro e W0 ⟨g, M0, rfl, ht0, _, _⟩
    rw [← full_0 t] at ht0
    have HT0 := Lib.hid ht0
    clear hnew ht0
    go_wp2_with fail
    rw [hK]
    have HK := Lib.hid hK
    clear hK
    go_loopw [9] (fun i wr => ∃ (k : Nat) (M : Nat → Prop), k ≤ K ∧ i = .int .i64 k ∧ Tr w g (fullD k t) M wr) (fun i _ => K - (intOf i).toNat)
    case atStart => exact ⟨0, M0, Nat.zero_le _, rfl, HT0.out⟩
    case round =>
      obtain ⟨k, M, hk, rfl, htr⟩ := hrel
      by_cases hlt : k < K
      · have q := tr_send 1 0 t b1 b0 htr
        rw [full_send k t Ht.out] at q
        by_cases hl : k < 100
        · rw [if_pos hl] at q
          have d1 : decide ((k : Int) < 100) = true := by simp; omega
          have d2 : decide (k < 100) = true := by simp; omega
          have Q := Lib.hid q
          clear q htr
          go_wp2_with fail
          refine Q.out.mono ?_
          rintro e W2 ⟨rfl, M2, ht2, _⟩
          have HT2 := Lib.hid ht2
          clear ht2 Q
          go_wp2_with fail
          exact ⟨⟨k + 1, M2, by omega, by go_num, HT2.out⟩, by simp [intOf]; omega⟩
        · rw [if_neg hl] at q
          have Q := Lib.hid q
          clear q htr
          go_wp2_with fail
          refine Q.out.mono ?_
          rintro e W2 ⟨rfl, M2, ht2, _⟩
          have HT2 := Lib.hid ht2
          clear ht2 Q
          go_wp2_with fail
          exact ⟨⟨k + 1, M2, by omega, by go_num, HT2.out⟩, by simp [intOf]; omega⟩
      · obtain rfl : k = K := by omega
        have q := tr_waiting 1 0 b1 b0 htr
        rw [full_wait] at q
        rw [List.length_replicate] at q
        have Q := Lib.hid q
        have HTr := Lib.hid htr
        clear q htr
        go_wp2_with fail
        refine Q.out.mono ?_
        rintro e W2 ⟨A, c, rfl, _, hb2⟩
        have q := tr_send 0 1 t b0 b1 (HTr.out.below hb2)
        rw [full_back k t Ht.out] at q
        have Q2 := Lib.hid q
        have e1 : (((min k 100 : Nat) : Int) == min (k : Int) 100) = true := by rw [beq_iff_eq]; omega
        clear q hb2 Q
        go_wp2_with fail
        refine Q2.out.mono ?_
        rintro e W3 ⟨rfl, M3, ht3, _⟩
        have HT3 := Lib.hid ht3.low
        clear ht3 Q2
        go_wp2_with fail
        go_ret
        exact ⟨rfl, HT3.out⟩
  · have c1 : 100 < (str t).size := by rw [hsz]; omega
    have c2 : (100 : Int) < ((str t).size : Int) := by omega
    clear hsz ht
    go_enter Try.func5, Try.ntmps5
    go_wp2_with fail
    (with_reducible refine HH.out.mono ?_); rintro e w1 ⟨rfl, hb1⟩
    have hnew := Lib.hid (tr_new (w0 := w) (W := w1) 2 (by omega) (by omega) hb1)
    clear hb1 HH
    go_wp2_with fail
    refine hnew.out.mono ?_
    rintro e W0 ⟨g, M0, rfl, ht0, _, _⟩
    have HT0 := Lib.hid ht0.low
    clear hnew ht0
    go_wp2_with fail
    go_ret
    exact ⟨rfl, HT0.out⟩

end N
end Go.Proofs.Ytklcpopnggiepaa
