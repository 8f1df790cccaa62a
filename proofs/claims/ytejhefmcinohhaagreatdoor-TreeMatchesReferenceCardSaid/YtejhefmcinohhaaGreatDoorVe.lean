/- Trees: the walk of 'TreeMatchesReference'. -/
import Derived.Test.YtejhefmcinohhaaGreatDoorVa
set_option linter.unusedSimpArgs false
set_option linter.unusedVariables false
set_option maxRecDepth 100000
namespace Go.Proofs.YtejhefmcinohhaaGreatDoor
open Go.RowKit
namespace S

set_option maxHeartbeats 16000000 in
theorem matches_walk (A : Option Addr) (c : Nat) (l : List Tx) (i m n : Int) (root0 old0 s0 : ByteArray) (B : Option Addr) (d : Nat) (p : List Tx) (w : World)
    (hl : StrsAt w A l) (hn : (l.length ≤ c ∧ c ≤ maxLen) ∧ (A = none → c = 0)) (hb : ∀ t ∈ l, t.length ≤ maxLen) (b1 : -9223372036854775808 ≤ i ∧ i ≤ 9223372036854775807) (b2 : -9223372036854775808 ≤ m ∧ m ≤ 9223372036854775807) (b3 : -9223372036854775808 ≤ n ∧ n ≤ 9223372036854775807)
    (hs1 : root0.size ≤ maxLen) (hs2 : old0.size ≤ maxLen) (hs3 : s0.size ≤ maxLen)
    (hl2 : StrsAt w B p) (hn2 : (p.length ≤ d ∧ d ≤ maxLen) ∧ (B = none → d = 0)) (hb2 : ∀ t ∈ p, t.length ≤ maxLen) (hta : Tabs w) :
    Calls Tryz.prog 3 #[.slice A l.length c, .int .i64 i, .int .i64 m, .int .i64 n, .string root0, .string old0, .string s0, .slice B p.length d] w fun e w' => e = .returned (.bool true) ∧ Below w.heap.size w w' := by
  obtain ⟨root, rfl⟩ : ∃ t, root0 = str t := ⟨root0.data.toList, (str_of root0).symm⟩
  obtain ⟨old, rfl⟩ : ∃ t, old0 = str t := ⟨old0.data.toList, (str_of old0).symm⟩
  obtain ⟨s, rfl⟩ : ∃ t, s0 = str t := ⟨s0.data.toList, (str_of s0).symm⟩
  have HT := Lib.hid hta
  have HL := Lib.hid (lst_of hl hn)
  have HM := Lib.hid (lst_of hl2 hn2)
  have TL := Lib.hid (txb_of hb)
  have TM := Lib.hid (txb_of hb2)
  have HH := Lib.hid (head_any w hta)
  have hstl := str_toList
  have z1 := str_size root
  have z2 := str_size old
  have z3 := str_size s
  rw [z1] at hs1
  rw [z2] at hs2
  rw [z3] at hs3
  unfold maxLen at hs1 hs2 hs3
  clear hta hl hn hb hl2 hn2 hb2 b1 b2 b3
  obtain ⟨nl, hln⟩ : ∃ n, n = l.length := ⟨_, rfl⟩
  obtain ⟨np, hpm⟩ : ∃ m, m = p.length := ⟨_, rfl⟩
  have HN := Lib.hid hln
  have HP := Lib.hid hpm
  rw [← hln] at HL ⊢
  rw [← hpm] at HM ⊢
  have hnl : nl ≤ 9223372036854775807 := by have := HL.out.cap; have := HL.out.max; omega
  have hnm : np ≤ 9223372036854775807 := by have := HM.out.cap; have := HM.out.max; omega
  clear hln hpm
  go_enter Tryz.func3, Tryz.ntmps3
  go_wp2_with fail
  (with_reducible refine HH.out.mono ?_); rintro e w1 ⟨rfl, hb1⟩
  have HB := Lib.hid hb1
  replace HT := Lib.hid (HT.out.below hb1)
  replace HL := Lib.hid (HL.out.below hb1)
  replace HM := Lib.hid (HM.out.below hb1)
  clear hb1 HH
  have HF := Lib.hid (few_L HL.out)
  have HF2 := Lib.hid (few_L HM.out)
  go_wp2_with fail
  (with_reducible refine HF.out.mono ?_); rintro e w1 ⟨rfl, rfl⟩
  clear HF
  cases hf : fewT l with
  | false =>
    go_wp2_with fail
    go_ret
    exact ⟨rfl, HB.out⟩
  | true =>
  have FL := Lib.hid hf
  clear hf
  go_wp2_with fail
  (with_reducible refine HF2.out.mono ?_); rintro e w1 ⟨rfl, rfl⟩
  clear HF2
  cases hf : fewT p with
  | false =>
    go_wp2_with fail
    go_ret
    exact ⟨rfl, HB.out⟩
  | true =>
  have FM := Lib.hid hf
  clear hf
  by_cases h1 : root.length ≤ 100
  rotate_left
  · have h1' : (root.length : Int) > 100 := by omega
    go_wp2_with fail
    go_ret
    exact ⟨rfl, HB.out⟩
  have h1' : ¬ (root.length : Int) > 100 := by omega
  by_cases h2 : old.length ≤ 100
  rotate_left
  · have h2' : (old.length : Int) > 100 := by omega
    go_wp2_with fail
    go_ret
    exact ⟨rfl, HB.out⟩
  have h2' : ¬ (old.length : Int) > 100 := by omega
  by_cases h3 : s.length ≤ 100
  rotate_left
  · have h3' : (s.length : Int) > 100 := by omega
    go_wp2_with fail
    go_ret
    exact ⟨rfl, HB.out⟩
  have h3' : ¬ (s.length : Int) > 100 := by omega
  have S1 : Hid (Sh root) := h1
  have S2 : Hid (Sh old) := h2
  have S3 : Hid (Sh s) := h3
  have hl20 : nl ≤ 20 := by have := few_n FL.out; have := HN.out; omega
  have hp20 : np ≤ 20 := by have := few_n FM.out; have := HP.out; omega
  have SR : Hid (Sh (rootedT l)) := by
    unfold Hid rootedT
    split
    · rename_i h; exact root_sh l (dig_sh h)
    · simp [Sh]
  have SM9 : Hid (∀ t : Tx, Sh t → t.length ≤ 9223372036854775807) := fun t h => by unfold Sh at h; omega
  clear h1 h2 h3
  obtain ⟨r, hr⟩ : ∃ r, r = rootedT l := ⟨_, rfl⟩
  obtain ⟨er, her⟩ : ∃ x, x = rootE l := ⟨_, rfl⟩
  obtain ⟨pr, hpr⟩ : ∃ x, x = pathR l i := ⟨_, rfl⟩
  obtain ⟨pe, hpe⟩ : ∃ x, x = pathE l i := ⟨_, rfl⟩
  obtain ⟨lr, hlr⟩ : ∃ x, x = linkR l m := ⟨_, rfl⟩
  obtain ⟨le, hle⟩ : ∃ x, x = linkE l m := ⟨_, rfl⟩
  obtain ⟨pk, hpk⟩ : ∃ x, x = pr.length := ⟨_, rfl⟩
  obtain ⟨lk, hlk⟩ : ∃ x, x = lr.length := ⟨_, rfl⟩
  have RR := Lib.hid (And.intro hr (And.intro her (And.intro hpr (And.intro hpe (And.intro hlr (And.intro hle (And.intro hpk hlk)))))))
  rw [← hr] at SR
  clear hr her hpr hpe hlr hle hpk hlk
  obtain ⟨sl, hsl⟩ : ∃ x, x = leaf s := ⟨_, rfl⟩
  have HSL := Lib.hid hsl
  clear hsl

  have HQ : Hid (Calls Tryz.prog 6 #[.slice A nl c] w1 fun e w' => (e = .returned (.tuple #[.string (str r), .int .i64 er])) ∧ Below w1.heap.size w1 w') := Lib.hid (by have h := rootG HL.out (by omega) HT.out TL.out; rw [← RR.out.1, ← RR.out.2.1] at h; exact h)
  go_wp2_with fail
  (with_reducible refine HQ.out.mono ?_); rintro e w2 ⟨rfl, hb⟩
  replace HB := Lib.hid (HB.out.trans (hb.mono HB.out.size))
  replace HT := Lib.hid (HT.out.below hb)
  replace HL := Lib.hid (HL.out.below hb)
  replace HM := Lib.hid (HM.out.below hb)
  clear hb HQ
  have HQ : Hid (Calls Tryz.prog 7 #[.slice A nl c] w2 fun e w' => (e = .returned (.tuple #[.string (str r), .int .i64 er])) ∧ Below w2.heap.size w2 w') := Lib.hid (by have h := rrootG HL.out (by omega) (few_sh FL.out); rw [← RR.out.1, ← RR.out.2.1] at h; exact h)
  go_wp2_with fail
  (with_reducible refine HQ.out.mono ?_); rintro e w3 ⟨rfl, hb⟩
  replace HB := Lib.hid (HB.out.trans (hb.mono HB.out.size))
  replace HT := Lib.hid (HT.out.below hb)
  replace HL := Lib.hid (HL.out.below hb)
  replace HM := Lib.hid (HM.out.below hb)
  clear hb HQ
  have HQ : Hid (Calls Tryz.prog 8 #[.slice A nl c, .int .i64 i] w3 fun e w' => (GotL w' e pk pr pe) ∧ Below w3.heap.size w3 w') := Lib.hid (by have h := pathG i HL.out (by omega) HT.out TL.out; rw [← RR.out.2.2.1, ← RR.out.2.2.2.1, ← RR.out.2.2.2.2.2.2.1] at h; exact h)
  go_wp2_with fail
  (with_reducible refine HQ.out.mono ?_); rintro e w4 ⟨⟨A1, c1, rfl, hx⟩, hb⟩
  replace HB := Lib.hid (HB.out.trans (hb.mono HB.out.size))
  replace HT := Lib.hid (HT.out.below hb)
  replace HL := Lib.hid (HL.out.below hb)
  replace HM := Lib.hid (HM.out.below hb)
  have HX1 := Lib.hid hx
  clear hx
  clear hb HQ
  have HQ : Hid (Calls Tryz.prog 9 #[.slice A nl c, .int .i64 i] w4 fun e w' => (GotL w' e pk pr pe) ∧ Below w4.heap.size w4 w') := Lib.hid (by have h := rpathG i HL.out (by omega) (few_sh FL.out); rw [← RR.out.2.2.1, ← RR.out.2.2.2.1, ← RR.out.2.2.2.2.2.2.1] at h; exact h)
  go_wp2_with fail
  (with_reducible refine HQ.out.mono ?_); rintro e w5 ⟨⟨A2, c2, rfl, hx⟩, hb⟩
  replace HB := Lib.hid (HB.out.trans (hb.mono HB.out.size))
  replace HT := Lib.hid (HT.out.below hb)
  replace HL := Lib.hid (HL.out.below hb)
  replace HM := Lib.hid (HM.out.below hb)
  replace HX1 := Lib.hid (HX1.out.below hb)
  have HX2 := Lib.hid hx
  clear hx
  clear hb HQ
  have HQ : Hid (Calls Tryz.prog 10 #[.slice A nl c, .int .i64 m] w5 fun e w' => (GotL w' e lk lr le) ∧ Below w5.heap.size w5 w') := Lib.hid (by have h := linkG m HL.out (by omega) HT.out TL.out; rw [← RR.out.2.2.2.2.1, ← RR.out.2.2.2.2.2.1, ← RR.out.2.2.2.2.2.2.2] at h; exact h)
  go_wp2_with fail
  (with_reducible refine HQ.out.mono ?_); rintro e w6 ⟨⟨A3, c3, rfl, hx⟩, hb⟩
  replace HB := Lib.hid (HB.out.trans (hb.mono HB.out.size))
  replace HT := Lib.hid (HT.out.below hb)
  replace HL := Lib.hid (HL.out.below hb)
  replace HM := Lib.hid (HM.out.below hb)
  replace HX1 := Lib.hid (HX1.out.below hb)
  replace HX2 := Lib.hid (HX2.out.below hb)
  have HX3 := Lib.hid hx
  clear hx
  clear hb HQ
  have HQ : Hid (Calls Tryz.prog 11 #[.slice A nl c, .int .i64 m] w6 fun e w' => (GotL w' e lk lr le) ∧ Below w6.heap.size w6 w') := Lib.hid (by have h := rlinkG m HL.out (by omega) (few_sh FL.out); rw [← RR.out.2.2.2.2.1, ← RR.out.2.2.2.2.2.1, ← RR.out.2.2.2.2.2.2.2] at h; exact h)
  go_wp2_with fail
  (with_reducible refine HQ.out.mono ?_); rintro e w7 ⟨⟨A4, c4, rfl, hx⟩, hb⟩
  replace HB := Lib.hid (HB.out.trans (hb.mono HB.out.size))
  replace HT := Lib.hid (HT.out.below hb)
  replace HL := Lib.hid (HL.out.below hb)
  replace HM := Lib.hid (HM.out.below hb)
  replace HX1 := Lib.hid (HX1.out.below hb)
  replace HX2 := Lib.hid (HX2.out.below hb)
  replace HX3 := Lib.hid (HX3.out.below hb)
  have HX4 := Lib.hid hx
  clear hx
  clear hb HQ
  have HQ : Hid (Calls Tryz.prog 12 #[.string (str s)] w7 fun e w' => (e = .returned (.string (str sl))) ∧ Below w7.heap.size w7 w') := Lib.hid (by have h := leaf_any s _ HT.out (by have := S3.out; unfold Sh at this; omega); rw [← HSL.out] at h; exact h)
  go_wp2_with fail
  (with_reducible refine HQ.out.mono ?_); rintro e w8 ⟨rfl, hb⟩
  replace HB := Lib.hid (HB.out.trans (hb.mono HB.out.size))
  replace HT := Lib.hid (HT.out.below hb)
  replace HL := Lib.hid (HL.out.below hb)
  replace HM := Lib.hid (HM.out.below hb)
  replace HX1 := Lib.hid (HX1.out.below hb)
  replace HX2 := Lib.hid (HX2.out.below hb)
  replace HX3 := Lib.hid (HX3.out.below hb)
  replace HX4 := Lib.hid (HX4.out.below hb)
  clear hb HQ
  have HQ : Hid (Calls Tryz.prog 13 #[.string (str s)] w8 fun e w' => (e = .returned (.string (str sl))) ∧ Below w8.heap.size w8 w') := Lib.hid (by have h := rleaf_any s w8 S3.out; rw [← HSL.out] at h; exact h)
  go_wp2_with fail
  (with_reducible refine HQ.out.mono ?_); rintro e w9 ⟨rfl, hb⟩
  replace HB := Lib.hid (HB.out.trans (hb.mono HB.out.size))
  replace HT := Lib.hid (HT.out.below hb)
  replace HL := Lib.hid (HL.out.below hb)
  replace HM := Lib.hid (HM.out.below hb)
  replace HX1 := Lib.hid (HX1.out.below hb)
  replace HX2 := Lib.hid (HX2.out.below hb)
  replace HX3 := Lib.hid (HX3.out.below hb)
  replace HX4 := Lib.hid (HX4.out.below hb)
  clear hb HQ
  have HQ : Hid (Calls Tryz.prog 14 #[.slice A1 pk c1, .slice A2 pk c2] w9 fun e w' => (e = .returned (.bool true)) ∧ Below w9.heap.size w9 w') := Lib.hid (by have h := same_L HX1.out HX2.out; rw [decide_eq_true rfl] at h; exact h)
  go_wp2_with fail
  (with_reducible refine HQ.out.mono ?_); rintro e w10 ⟨rfl, hb⟩
  replace HB := Lib.hid (HB.out.trans (hb.mono HB.out.size))
  replace HT := Lib.hid (HT.out.below hb)
  replace HL := Lib.hid (HL.out.below hb)
  replace HM := Lib.hid (HM.out.below hb)
  replace HX1 := Lib.hid (HX1.out.below hb)
  replace HX2 := Lib.hid (HX2.out.below hb)
  replace HX3 := Lib.hid (HX3.out.below hb)
  replace HX4 := Lib.hid (HX4.out.below hb)
  clear hb HQ
  have HQ : Hid (Calls Tryz.prog 14 #[.slice A3 lk c3, .slice A4 lk c4] w10 fun e w' => (e = .returned (.bool true)) ∧ Below w10.heap.size w10 w') := Lib.hid (by have h := same_L HX3.out HX4.out; rw [decide_eq_true rfl] at h; exact h)
  go_wp2_with fail
  (with_reducible refine HQ.out.mono ?_); rintro e w11 ⟨rfl, hb⟩
  replace HB := Lib.hid (HB.out.trans (hb.mono HB.out.size))
  replace HT := Lib.hid (HT.out.below hb)
  replace HL := Lib.hid (HL.out.below hb)
  replace HM := Lib.hid (HM.out.below hb)
  replace HX1 := Lib.hid (HX1.out.below hb)
  replace HX2 := Lib.hid (HX2.out.below hb)
  replace HX3 := Lib.hid (HX3.out.below hb)
  replace HX4 := Lib.hid (HX4.out.below hb)
  clear hb HQ
  obtain ⟨q1, hq1⟩ : ∃ x, x = checkB root n i s p := ⟨_, rfl⟩
  have Hq1 := Lib.hid hq1
  clear hq1
  have HQ : Hid (Calls Tryz.prog 15 #[.string (str root), .int .i64 n, .int .i64 i, .string (str s), .slice B np d] w11 fun e w' => (e = .returned (.bool q1)) ∧ Below w11.heap.size w11 w') := Lib.hid (by have h := check_L root n i s HM.out (by omega) HT.out TM.out (SM9.out _ S3.out); rw [← Hq1.out] at h; exact h)
  go_wp2_with fail
  (with_reducible refine HQ.out.mono ?_); rintro e w12 ⟨rfl, hb⟩
  replace HB := Lib.hid (HB.out.trans (hb.mono HB.out.size))
  replace HT := Lib.hid (HT.out.below hb)
  replace HL := Lib.hid (HL.out.below hb)
  replace HM := Lib.hid (HM.out.below hb)
  replace HX1 := Lib.hid (HX1.out.below hb)
  replace HX2 := Lib.hid (HX2.out.below hb)
  replace HX3 := Lib.hid (HX3.out.below hb)
  replace HX4 := Lib.hid (HX4.out.below hb)
  clear hb HQ
  have HQ : Hid (Calls Tryz.prog 16 #[.string (str root), .int .i64 n, .int .i64 i, .string (str s), .slice B np d] w12 fun e w' => (e = .returned (.bool q1)) ∧ Below w12.heap.size w12 w') := Lib.hid (by have h := rcheck_L root n i s HM.out (by omega) (few_sh FM.out) S3.out; rw [← Hq1.out] at h; exact h)
  go_wp2_with fail
  (with_reducible refine HQ.out.mono ?_); rintro e w13 ⟨rfl, hb⟩
  replace HB := Lib.hid (HB.out.trans (hb.mono HB.out.size))
  replace HT := Lib.hid (HT.out.below hb)
  replace HL := Lib.hid (HL.out.below hb)
  replace HM := Lib.hid (HM.out.below hb)
  replace HX1 := Lib.hid (HX1.out.below hb)
  replace HX2 := Lib.hid (HX2.out.below hb)
  replace HX3 := Lib.hid (HX3.out.below hb)
  replace HX4 := Lib.hid (HX4.out.below hb)
  clear hb HQ
  obtain ⟨q2, hq2⟩ : ∃ x, x = checkB r nl i s p := ⟨_, rfl⟩
  have Hq2 := Lib.hid hq2
  clear hq2
  have HQ : Hid (Calls Tryz.prog 15 #[.string (str r), .int .i64 nl, .int .i64 i, .string (str s), .slice B np d] w13 fun e w' => (e = .returned (.bool q2)) ∧ Below w13.heap.size w13 w') := Lib.hid (by have h := check_L r nl i s HM.out (by omega) HT.out TM.out (SM9.out _ S3.out); rw [← Hq2.out] at h; exact h)
  go_wp2_with fail
  (with_reducible refine HQ.out.mono ?_); rintro e w14 ⟨rfl, hb⟩
  replace HB := Lib.hid (HB.out.trans (hb.mono HB.out.size))
  replace HT := Lib.hid (HT.out.below hb)
  replace HL := Lib.hid (HL.out.below hb)
  replace HM := Lib.hid (HM.out.below hb)
  replace HX1 := Lib.hid (HX1.out.below hb)
  replace HX2 := Lib.hid (HX2.out.below hb)
  replace HX3 := Lib.hid (HX3.out.below hb)
  replace HX4 := Lib.hid (HX4.out.below hb)
  clear hb HQ
  have HQ : Hid (Calls Tryz.prog 16 #[.string (str r), .int .i64 nl, .int .i64 i, .string (str s), .slice B np d] w14 fun e w' => (e = .returned (.bool q2)) ∧ Below w14.heap.size w14 w') := Lib.hid (by have h := rcheck_L r nl i s HM.out (by omega) (few_sh FM.out) S3.out; rw [← Hq2.out] at h; exact h)
  go_wp2_with fail
  (with_reducible refine HQ.out.mono ?_); rintro e w15 ⟨rfl, hb⟩
  replace HB := Lib.hid (HB.out.trans (hb.mono HB.out.size))
  replace HT := Lib.hid (HT.out.below hb)
  replace HL := Lib.hid (HL.out.below hb)
  replace HM := Lib.hid (HM.out.below hb)
  replace HX1 := Lib.hid (HX1.out.below hb)
  replace HX2 := Lib.hid (HX2.out.below hb)
  replace HX3 := Lib.hid (HX3.out.below hb)
  replace HX4 := Lib.hid (HX4.out.below hb)
  clear hb HQ
  obtain ⟨q3, hq3⟩ : ∃ x, x = extB old m root n p := ⟨_, rfl⟩
  have Hq3 := Lib.hid hq3
  clear hq3
  have HQ : Hid (Calls Tryz.prog 17 #[.string (str old), .int .i64 m, .string (str root), .int .i64 n, .slice B np d] w15 fun e w' => (e = .returned (.bool q3)) ∧ Below w15.heap.size w15 w') := Lib.hid (by have h := extends_L old m root n HM.out (by omega) HT.out TM.out (SM9.out _ S2.out) (SM9.out _ S1.out); rw [← Hq3.out] at h; exact h)
  go_wp2_with fail
  (with_reducible refine HQ.out.mono ?_); rintro e w16 ⟨rfl, hb⟩
  replace HB := Lib.hid (HB.out.trans (hb.mono HB.out.size))
  replace HT := Lib.hid (HT.out.below hb)
  replace HL := Lib.hid (HL.out.below hb)
  replace HM := Lib.hid (HM.out.below hb)
  replace HX1 := Lib.hid (HX1.out.below hb)
  replace HX2 := Lib.hid (HX2.out.below hb)
  replace HX3 := Lib.hid (HX3.out.below hb)
  replace HX4 := Lib.hid (HX4.out.below hb)
  clear hb HQ
  have HQ : Hid (Calls Tryz.prog 18 #[.string (str old), .int .i64 m, .string (str root), .int .i64 n, .slice B np d] w16 fun e w' => (e = .returned (.bool q3)) ∧ Below w16.heap.size w16 w') := Lib.hid (by have h := rextends_L old m root n HM.out (by omega) (few_sh FM.out) S2.out S1.out; rw [← Hq3.out] at h; exact h)
  go_wp2_with fail
  (with_reducible refine HQ.out.mono ?_); rintro e w17 ⟨rfl, hb⟩
  replace HB := Lib.hid (HB.out.trans (hb.mono HB.out.size))
  replace HT := Lib.hid (HT.out.below hb)
  replace HL := Lib.hid (HL.out.below hb)
  replace HM := Lib.hid (HM.out.below hb)
  replace HX1 := Lib.hid (HX1.out.below hb)
  replace HX2 := Lib.hid (HX2.out.below hb)
  replace HX3 := Lib.hid (HX3.out.below hb)
  replace HX4 := Lib.hid (HX4.out.below hb)
  clear hb HQ
  obtain ⟨q4, hq4⟩ : ∃ x, x = extB old m r nl p := ⟨_, rfl⟩
  have Hq4 := Lib.hid hq4
  clear hq4
  have HQ : Hid (Calls Tryz.prog 17 #[.string (str old), .int .i64 m, .string (str r), .int .i64 nl, .slice B np d] w17 fun e w' => (e = .returned (.bool q4)) ∧ Below w17.heap.size w17 w') := Lib.hid (by have h := extends_L old m r nl HM.out (by omega) HT.out TM.out (SM9.out _ S2.out) (SM9.out _ SR.out); rw [← Hq4.out] at h; exact h)
  go_wp2_with fail
  (with_reducible refine HQ.out.mono ?_); rintro e w18 ⟨rfl, hb⟩
  replace HB := Lib.hid (HB.out.trans (hb.mono HB.out.size))
  replace HT := Lib.hid (HT.out.below hb)
  replace HL := Lib.hid (HL.out.below hb)
  replace HM := Lib.hid (HM.out.below hb)
  replace HX1 := Lib.hid (HX1.out.below hb)
  replace HX2 := Lib.hid (HX2.out.below hb)
  replace HX3 := Lib.hid (HX3.out.below hb)
  replace HX4 := Lib.hid (HX4.out.below hb)
  clear hb HQ
  have HQ : Hid (Calls Tryz.prog 18 #[.string (str old), .int .i64 m, .string (str r), .int .i64 nl, .slice B np d] w18 fun e w' => (e = .returned (.bool q4)) ∧ Below w18.heap.size w18 w') := Lib.hid (by have h := rextends_L old m r nl HM.out (by omega) (few_sh FM.out) S2.out SR.out; rw [← Hq4.out] at h; exact h)
  go_wp2_with fail
  (with_reducible refine HQ.out.mono ?_); rintro e w19 ⟨rfl, hb⟩
  replace HB := Lib.hid (HB.out.trans (hb.mono HB.out.size))
  replace HT := Lib.hid (HT.out.below hb)
  replace HL := Lib.hid (HL.out.below hb)
  replace HM := Lib.hid (HM.out.below hb)
  replace HX1 := Lib.hid (HX1.out.below hb)
  replace HX2 := Lib.hid (HX2.out.below hb)
  replace HX3 := Lib.hid (HX3.out.below hb)
  replace HX4 := Lib.hid (HX4.out.below hb)
  clear hb HQ
  go_wp2_with fail
  go_ret
  exact ⟨by simp, HB.out⟩

end S
end Go.Proofs.YtejhefmcinohhaaGreatDoor
