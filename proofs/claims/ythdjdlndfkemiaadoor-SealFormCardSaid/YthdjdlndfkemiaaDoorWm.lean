/- Seals: the walk of 'SealVerifies'. -/
import Derived.Test.YthdjdlndfkemiaaDoorWj
set_option linter.unusedSimpArgs false
set_option linter.unusedVariables false
set_option maxRecDepth 100000
namespace Go.Proofs.YthdjdlndfkemiaaDoor
open Go.RowKit
namespace S

theorem short2 (a b : Tx) : shortB [a, b] = (decide (a.length ≤ 300) && decide (b.length ≤ 300)) := by simp [shortB]
theorem is_yes (t : Tx) (w : World) (h : isD t = true) : Calls Tryd.prog 9 #[.string (str t)] w fun e w' => e = .returned (.bool true) ∧ Below w.heap.size w w' := by
  have k := is_str t w (by have := isD_len h; omega)
  rw [h] at k
  exact k
theorem rem_nat {n : Int} {N : Nat} (h : 0 ≤ n) (hN : 0 < N) : ∃ i : Nat, i < N ∧ Int.tmod n (N : Int) = (i : Int) := by
  have h0 := Int.emod_nonneg n (b := (N : Int)) (by omega)
  have h1 := Int.emod_lt_of_pos n (b := (N : Int)) (by omega)
  exact ⟨(n % (N : Int)).toNat, by omega, by rw [Int.tmod_eq_emod_of_nonneg h]; omega⟩
set_option maxHeartbeats 8000000 in
theorem verifies_walk (s0 : ByteArray) (n1 n2 : Int) (s3 : ByteArray) (w : World) (ws0 : s0.size ≤ maxLen) (hn1 : 0 ≤ n1 ∧ n1 ≤ 255) (hn2 : 0 ≤ n2 ∧ n2 ≤ 255) (ws3 : s3.size ≤ maxLen) (ht : Tabs w) :
    Calls Tryd.prog 4 #[.string s0, .int .u8 n1, .int .u8 n2, .string s3] w fun e w' => e = .returned (.bool true) ∧ Below w.heap.size w w' := by
  have HT := Lib.hid ht
  clear ht ws0 ws3
  obtain ⟨s, rfl⟩ : ∃ s : Tx, s0 = str s := ⟨_, (str_of _).symm⟩
  obtain ⟨m, rfl⟩ : ∃ m : Tx, s3 = str m := ⟨_, (str_of _).symm⟩
  go_enter Tryd.func4, Tryd.ntmps4
  go_wp2_with fail
  (with_reducible refine (head_any _ HT.out).mono ?_); rintro e w1 ⟨rfl, hb1⟩
  go_wp2_with fail
  have hal : Below w1.heap.size w1 (w1.alloc (.cells #[.string (str s), .string (str m)] 9)) := (Below.refl _ _).alloc (Nat.le_refl _) _
  have hl : Lst (w1.alloc (.cells #[.string (str s), .string (str m)] 9)) (some ⟨w1.heap.size, 0, none⟩) 2 2 [s, m] := Lst.lit (n := 2) [s, m] rfl (by decide) (Reg.Blk.new w1 #[.string (str s), .string (str m)] 9)
  have HB := Lib.hid (hb1.trans (hal.mono hb1.size))
  have hq := short_any [s, m] 2 _ 2 _ hl.at_ rfl (by decide)
  rw [short2] at hq
  clear hb1 hal hl
  (with_reducible refine hq.mono ?_); clear hq; rintro e w2 ⟨rfl, hb⟩
  replace HB := Lib.hid (HB.out.trans (hb.mono HB.out.size))
  clear hb
  by_cases h3 : s.length ≤ 300 ∧ m.length ≤ 300
  rotate_left
  · have hf : (decide (s.length ≤ 300) && decide (m.length ≤ 300)) = false := by
      rw [Bool.and_eq_false_iff, decide_eq_false_iff_not, decide_eq_false_iff_not]; omega
    rw [hf]
    go_wp2_with fail
    go_ret
    exact ⟨rfl, HB.out⟩
  obtain ⟨hs3, hm3⟩ := h3
  rw [decide_eq_true hs3, decide_eq_true hm3]
  obtain ⟨h, hh⟩ : ∃ h : Nat, h = (n1 % 4).toNat := ⟨_, rfl⟩
  have hh4 : h < 4 := by omega
  have hr1 : Int.tmod n1 4 = (h : Int) := by rw [Int.tmod_eq_emod_of_nonneg hn1.1]; omega
  have hpw := pow_le (show h ≤ 8 by omega)
  have hpos : 0 < 2 ^ h := Nat.pow_pos (by omega)
  obtain ⟨i, hiN, hr2⟩ := rem_nat hn2.1 hpos
  have hh8 : h ≤ 8 := by omega
  have hshl := wrap_pow h hh8
  have hi2 : i < 2 ^ (h + 1) := Nat.lt_of_lt_of_le hiN (Nat.pow_le_pow_right (by decide) (Nat.le_succ _))
  have hs6 : s.length ≤ 1000000 := by omega
  have hm6 : m.length ≤ 140737488351232 := by omega
  have HM := Lib.hid hm6
  have hh9 : h + 1 ≤ 8 := by omega
  have HP : Hid (∀ W, Below w.heap.size w W → Calls Tryd.prog 10 #[.string (str s), .int .i64 h] W fun e w' => e = .returned (.tuple #[.string (str (pubT s h)), .int .i64 0]) ∧ Below W.heap.size W w') := fun W hb => public_yes s h W hs6 hh8 (HT.out.below hb)
  have HS : Hid (∀ W, Below w.heap.size w W → Calls Tryd.prog 11 #[.string (str s), .int .i64 h, .int .i64 i, .string (str m)] W fun e w' =>
      (∃ A c B d, e = .returned (.tuple #[.agg #[.int .i64 i, .slice A 18 c, .slice B h d], .int .i64 0]) ∧ Lst w' A 18 c (sigT s i m) ∧ Lst w' B h d (pathT (leavesT s h) i)) ∧ Below W.heap.size W w') := fun W hb => sign_ok s m h i W hs6 hm6 hh8 hiN (HT.out.below hb)
  have HS1 : Hid (∀ W, Below w.heap.size w W → Calls Tryd.prog 11 #[.string (str s), .int .i64 ((h : Int) + 1), .int .i64 i, .string (str m)] W fun e w' =>
      (∃ A c B d, e = .returned (.tuple #[.agg #[.int .i64 i, .slice A 18 c, .slice B (h + 1) d], .int .i64 0]) ∧ Lst w' A 18 c (sigT s i m) ∧ Lst w' B (h + 1) d (pathT (leavesT s (h + 1)) i)) ∧ Below W.heap.size W w') := fun W hb => by
    have h1' := sign_ok s m (h + 1) i W hs6 hm6 hh9 hi2 (HT.out.below hb)
    rwa [show ((h + 1 : Nat) : Int) = (h : Int) + 1 from rfl] at h1'
  have hv := ver_sign s m h i hh8 hiN
  have hdS := sig_dig s i m
  have hlS := sig_len s i m
  have hdP := path_dig _ (leavesT s h) i rfl (leaves_dig s h)
  have hlP := path_two s h i hiN
  have hdp := pub_dig s h
  have HV := Lib.hid (And.intro hv (And.intro hdS (And.intro hlS (And.intro hdP (And.intro hlP hdp)))))
  have hNi : (2 ^ h : Nat) ≠ 0 := Nat.pos_iff_ne_zero.1 hpos
  clear hv hdS hlS hdP hlP hdp hh hi2 hs3 hm3 hs6 hm6 hh9 hh4
  generalize pubT s h = P at *
  generalize sigT s i m = Sg at *
  generalize pathT (leavesT s h) i = Pa at *
  generalize pathT (leavesT s (h + 1)) i = Pb at *
  generalize 2 ^ h = N at *
  have hN0 : ¬ (N : Int) = 0 := by omega
  go_wp2_with fail
  (with_reducible refine (HP.out _ HB.out).mono ?_); rintro e w3 ⟨rfl, hb⟩
  replace HB := Lib.hid (HB.out.trans (hb.mono HB.out.size))
  clear hb HP hshl
  go_wp2_with fail
  (with_reducible refine (HS.out _ HB.out).mono ?_); rintro e w4 ⟨⟨A, c, B, d, rfl, l1, l2⟩, hb⟩
  have HL4 := Lib.hid (And.intro l1 l2)
  replace HB := Lib.hid (HB.out.trans (hb.mono HB.out.size))
  clear hb l1 l2 
  have k4 := Lib.hid (Reg.Blk.new w4 #[.int .i64 i, .slice A 18 c, .slice B h d] 24)
  go_wp2_with fail
  have hal : Below w4.heap.size w4 (w4.alloc (.cells #[.int .i64 i, .slice A 18 c, .slice B h d] 24)) := (Below.refl _ _).alloc (Nat.le_refl _) _
  replace HB := Lib.hid (HB.out.trans (hal.mono HB.out.size))
  replace HL4 := Lib.hid (And.intro (HL4.out.1.below hal) (HL4.out.2.below hal))
  generalize w4.alloc (.cells #[.int .i64 i, .slice A 18 c, .slice B h d] 24) = v4 at *
  clear hal
  have hg4 : w4.heap.size = w4.heap.size := rfl
  generalize w4.heap.size = g4 at k4 ⊢
  clear hg4
  (with_reducible refine (HS.out _ HB.out).mono ?_); rintro e w6 ⟨⟨A', c', B', d', rfl, l1, l2⟩, hb⟩
  have HL6 := Lib.hid (And.intro l1 l2)
  replace HB := Lib.hid (HB.out.trans (hb.mono HB.out.size))
  replace HL4 := Lib.hid (And.intro (HL4.out.1.below hb) (HL4.out.2.below hb))
  replace k4 := Lib.hid (k4.out.keep hb)
  clear hb l1 l2 
  have k6 := Lib.hid (Reg.Blk.new w6 #[.int .i64 i, .slice A' 18 c', .slice B' h d'] 24)
  go_wp2_with fail
  have hal : Below w6.heap.size w6 (w6.alloc (.cells #[.int .i64 i, .slice A' 18 c', .slice B' h d'] 24)) := (Below.refl _ _).alloc (Nat.le_refl _) _
  replace HB := Lib.hid (HB.out.trans (hal.mono HB.out.size))
  replace HL4 := Lib.hid (And.intro (HL4.out.1.below hal) (HL4.out.2.below hal))
  replace k4 := Lib.hid (k4.out.keep hal)
  replace HL6 := Lib.hid (And.intro (HL6.out.1.below hal) (HL6.out.2.below hal))
  generalize w6.alloc (.cells #[.int .i64 i, .slice A' 18 c', .slice B' h d'] 24) = v6 at *
  clear hal
  have hg6 : w6.heap.size = w6.heap.size := rfl
  generalize w6.heap.size = g6 at k6 ⊢
  clear hg6
  (with_reducible refine (HS1.out _ HB.out).mono ?_); rintro e w8 ⟨⟨A2, c2, B2, d2, rfl, l1, l2⟩, hb⟩
  have HL8 := Lib.hid (And.intro l1 l2)
  replace HB := Lib.hid (HB.out.trans (hb.mono HB.out.size))
  replace HL4 := Lib.hid (And.intro (HL4.out.1.below hb) (HL4.out.2.below hb))
  replace k4 := Lib.hid (k4.out.keep hb)
  replace HL6 := Lib.hid (And.intro (HL6.out.1.below hb) (HL6.out.2.below hb))
  replace k6 := Lib.hid (k6.out.keep hb)
  clear hb l1 l2 HS1
  have k8 := Lib.hid (Reg.Blk.new w8 #[.int .i64 i, .slice A2 18 c2, .slice B2 (h + 1) d2] 24)
  obtain ⟨c4, f4, z4⟩ := k4.out.facts
  obtain ⟨c6, f6, z6⟩ := k6.out.facts
  have d1 : ¬ w8.heap.size = g4 := by omega
  have d2 : ¬ g4 = w8.heap.size := by omega
  have d3 : ¬ w8.heap.size = g6 := by omega
  have d4 : ¬ g6 = w8.heap.size := by omega
  go_wp2_with fail
  clear c4 f4 z4 c6 f6 z6 d1 d2 d3 d4
  have hal : Below w8.heap.size w8 (w8.alloc (.cells #[.int .i64 i, .slice A2 18 c2, .slice B2 (h + 1) d2] 24)) := (Below.refl _ _).alloc (Nat.le_refl _) _
  replace HB := Lib.hid (HB.out.trans (hal.mono HB.out.size))
  replace HL4 := Lib.hid (And.intro (HL4.out.1.below hal) (HL4.out.2.below hal))
  replace k4 := Lib.hid (k4.out.keep hal)
  replace HL6 := Lib.hid (And.intro (HL6.out.1.below hal) (HL6.out.2.below hal))
  replace k6 := Lib.hid (k6.out.keep hal)
  replace HL8 := Lib.hid (And.intro (HL8.out.1.below hal) (HL8.out.2.below hal))
  generalize w8.alloc (.cells #[.int .i64 i, .slice A2 18 c2, .slice B2 (h + 1) d2] 24) = v8 at *
  clear hal
  have hg8 : w8.heap.size = w8.heap.size := rfl
  generalize w8.heap.size = g8 at k8 ⊢
  clear hg8
  (with_reducible refine (rsame_any _ _ _ _ _ _ _ _ _ _ _ _ _ _ _ _ _ _ _ HL4.out.1 HL4.out.2 HL6.out.1 HL6.out.2).mono ?_); rintro e w9 ⟨he, hb⟩
  rw [decide_eq_true (show (i : Int) = i ∧ Sg = Sg ∧ Pa = Pa from ⟨rfl, rfl, rfl⟩)] at he
  subst he
  replace HB := Lib.hid (HB.out.trans (hb.mono HB.out.size))
  replace HL4 := Lib.hid (And.intro (HL4.out.1.below hb) (HL4.out.2.below hb))
  replace HL8 := Lib.hid (And.intro (HL8.out.1.below hb) (HL8.out.2.below hb))
  replace k4 := Lib.hid (k4.out.keep hb)
  replace k8 := Lib.hid (k8.out.keep hb)
  clear hb HL6 k6
  go_wp2_with fail
  rename World => w0
  go_loopw [20] (fun x wr => ∃ j : Nat, j ≤ 18 ∧ x = .int .i64 j ∧ Below w0.heap.size w0 wr) (fun x _ => 18 - (intOf x).toNat)
  case atStart => exact ⟨0, Nat.zero_le _, rfl, Below.refl _ _⟩
  case round =>
    obtain ⟨j, hj, rfl, hbw⟩ := hrel
    obtain ⟨c4, f4, z4⟩ := (k4.out.keep hbw).facts
    by_cases hlt : j < 18
    · have hji : decide ((j : Int) < (18 : Int)) = true := decide_eq_true (by omega)
      obtain ⟨b, off, hA, hb, c0⟩ := (HL4.out.1.below hbw).at_ j (by rw [HL4.out.1.len]; exact hlt)
      subst hA
      have hki : (j : Int) < (18 : Int) := by omega
      have hk0 : (0 : Int) ≤ (j : Int) := by omega
      have hkl : j < Sg.length := by rw [HL4.out.1.len]; exact hlt
      have hD : isD Sg[j] = true := List.all_eq_true.1 HV.out.2.1 _ (List.getElem_mem hkl)
      have HQ := Lib.hid (is_yes Sg[j] wr hD)
      have HR := Lib.hid hbw
      clear hD hbw
      generalize Sg[j] = t at *
      go_wp2_with fail
      (with_reducible refine HQ.out.mono ?_); rintro e wq ⟨rfl, hbq⟩
      have HR2 := Lib.hid (HR.out.trans (hbq.mono HR.out.size))
      clear hbq HR c4 f4 z4
      go_wp2_with fail
      refine ⟨⟨j + 1, by omega, by go_num, HR2.out⟩, by simp [intOf]; omega⟩
    · obtain ⟨j0, hj0⟩ : ∃ j0, j0 = j := ⟨_, rfl⟩
      have hji : decide ((j : Int) < (18 : Int)) = false := decide_eq_false (by omega)
      have HR0 := Lib.hid hbw
      clear hbw
      go_wp2_with fail
      clear c4 f4 z4 hj0
      go_loopw [21] (fun x wr => ∃ j : Nat, j ≤ h ∧ x = .int .i64 j ∧ Below w0.heap.size w0 wr) (fun x _ => h - (intOf x).toNat)
      case atStart => exact ⟨0, Nat.zero_le _, rfl, HR0.out⟩
      case round =>
        obtain ⟨j, hj, rfl, hbw⟩ := hrel
        obtain ⟨c4, f4, z4⟩ := (k4.out.keep hbw).facts
        by_cases hlt : j < h
        · have hji : decide ((j : Int) < (h : Int)) = true := decide_eq_true (by omega)
          obtain ⟨b, off, hA, hb, c0⟩ := (HL4.out.2.below hbw).at_ j (by rw [HL4.out.2.len]; exact hlt)
          subst hA
          have hki : (j : Int) < (h : Int) := by omega
          have hk0 : (0 : Int) ≤ (j : Int) := by omega
          have hkl : j < Pa.length := by rw [HL4.out.2.len]; exact hlt
          have hD : isD Pa[j] = true := List.all_eq_true.1 HV.out.2.2.2.1 _ (List.getElem_mem hkl)
          have HQ := Lib.hid (is_yes Pa[j] wr hD)
          have HR := Lib.hid hbw
          clear hD hbw
          generalize Pa[j] = t at *
          go_wp2_with fail
          (with_reducible refine HQ.out.mono ?_); rintro e wq ⟨rfl, hbq⟩
          have HR2 := Lib.hid (HR.out.trans (hbq.mono HR.out.size))
          clear hbq HR c4 f4 z4
          go_wp2_with fail
          refine ⟨⟨j + 1, by omega, by go_num, HR2.out⟩, by simp [intOf]; omega⟩
        · obtain ⟨j0, hj0⟩ : ∃ j0, j0 = j := ⟨_, rfl⟩
          have hji : decide ((j : Int) < (h : Int)) = false := decide_eq_false (by omega)
          have HR0 := Lib.hid hbw
          clear hbw
          go_wp2_with fail
          (with_reducible refine (is_yes P wr HV.out.2.2.2.2.2).mono ?_); rintro e wq ⟨rfl, hb⟩
          have HR2 := Lib.hid (HR0.out.trans (hb.mono HR0.out.size))
          clear hb HR0 c4 f4 z4
          obtain ⟨c4, f4, z4⟩ := (k4.out.keep HR2.out).facts
          obtain ⟨c8, f8, z8⟩ := (k8.out.keep HR2.out).facts
          go_wp2_with fail
          (with_reducible refine (same_L (HL8.out.1.below HR2.out) (HL4.out.1.below HR2.out)).mono ?_); rintro e wp ⟨he, hb⟩
          rw [decide_eq_true rfl] at he
          subst he
          have HR3 := Lib.hid (HR2.out.trans (hb.mono HR2.out.size))
          clear hb HR2 c4 f4 z4 c8 f8 z8
          obtain ⟨c4, f4, z4⟩ := (k4.out.keep HR3.out).facts
          go_wp2_with fail
          have hq := ver_agg P m i A B 18 c h d Sg Pa _ (HL4.out.1.below HR3.out) (HL4.out.2.below HR3.out) (txb_dig HV.out.2.1) (txb_dig HV.out.2.2.2.1) HM.out (HT.out.below (HB.out.trans (HR3.out.mono HB.out.size)))
          rw [HV.out.1] at hq
          (with_reducible refine hq.mono ?_); clear hq; rintro e wz ⟨rfl, hb⟩
          replace HB := Lib.hid (HB.out.trans ((HR3.out.trans (hb.mono HR3.out.size)).mono HB.out.size))
          clear hb HR3 c4 f4 z4
          go_wp2_with fail
          go_ret
          exact ⟨rfl, HB.out⟩

end S
end Go.Proofs.YthdjdlndfkemiaaDoor

