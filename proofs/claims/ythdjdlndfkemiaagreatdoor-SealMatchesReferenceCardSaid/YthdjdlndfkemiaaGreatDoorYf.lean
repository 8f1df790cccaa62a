/- Seals: the walk of 'SealMatchesReference'. Printed by mkYf.py. -/
import Derived.Test.YthdjdlndfkemiaaGreatDoorYe
set_option linter.unusedSimpArgs false
set_option linter.unusedVariables false
set_option maxRecDepth 100000
namespace Go.Proofs.YthdjdlndfkemiaaGreatDoor
open Go.RowKit
namespace S

theorem fewL_sh {l : List Tx} (h : fewL l = true) : ∀ t ∈ l, Sh t := fun t ht => by
  have := List.all_eq_true.1 h t ht
  simpa [Sh] using this
theorem sh_txb {l : List Tx} (h : ∀ t ∈ l, Sh t) : TxB l := fun t ht => by have := h t ht; unfold Sh at this; omega
theorem short3y (a b c : Tx) : shortB [a, b, c] = (decide (a.length ≤ 300) && (decide (b.length ≤ 300) && decide (c.length ≤ 300))) := by simp [shortB]

set_option maxHeartbeats 32000000 in
theorem smatches_walk (s0 : ByteArray) (h ix : Int) (s3 s4 : ByteArray) (i : Int) (A B : Option Addr) (n c k d : Nat) (sig p : List Tx) (w : World) (ws0 : s0.size ≤ maxLen) (bh : -9223372036854775808 ≤ h ∧ h ≤ 9223372036854775807) (bx : -9223372036854775808 ≤ ix ∧ ix ≤ 9223372036854775807) (ws3 : s3.size ≤ maxLen) (ws4 : s4.size ≤ maxLen) (h1 : Lst w A n c sig) (h2 : Lst w B k d p) (ht : Tabs w) :
    Calls Tryz.prog 4 #[.string s0, .int .i64 h, .int .i64 ix, .string s3, .string s4, .agg #[.int .i64 i, .slice A n c, .slice B k d]] w fun e w' => e = .returned (.bool true) ∧ Below w.heap.size w w' := by
  have HT := Lib.hid ht
  have HL := Lib.hid (And.intro h1 h2)
  clear ht ws0 ws3 ws4 h1 h2 bh bx
  obtain ⟨s, rfl⟩ : ∃ s : Tx, s0 = str s := ⟨_, (str_of _).symm⟩
  obtain ⟨m, rfl⟩ : ∃ m : Tx, s3 = str m := ⟨_, (str_of _).symm⟩
  obtain ⟨pub, rfl⟩ : ∃ s : Tx, s4 = str s := ⟨_, (str_of _).symm⟩
  have k11 := Lib.hid (Reg.Blk.new w #[.int .i64 i, .slice A n c, .slice B k d] 29)
  have hal : Below w.heap.size w (w.alloc (.cells #[.int .i64 i, .slice A n c, .slice B k d] 29)) := (Below.refl _ _).alloc (Nat.le_refl _) _
  have HB := Lib.hid hal
  clear hal
  go_enter Tryz.func4, Tryz.ntmps4
  go_wp2_with fail
  generalize w.alloc (.cells #[.int .i64 i, .slice A n c, .slice B k d] 29) = w0 at *
  (with_reducible refine (head_any _ (HT.out.below HB.out)).mono ?_); rintro e w1 ⟨rfl, hb1⟩
  replace HB := Lib.hid (HB.out.trans (hb1.mono HB.out.size))
  replace k11 := Lib.hid (k11.out.keep hb1)
  clear hb1
  go_wp2_with fail
  have hal : Below w1.heap.size w1 (w1.alloc (.cells #[.string (str s), .string (str m), .string (str pub)] 9)) := (Below.refl _ _).alloc (Nat.le_refl _) _
  have hl : Lst (w1.alloc (.cells #[.string (str s), .string (str m), .string (str pub)] 9)) (some ⟨w1.heap.size, 0, none⟩) 3 3 [s, m, pub] := Lst.lit (n := 3) [s, m, pub] rfl (by decide) (Reg.Blk.new w1 #[.string (str s), .string (str m), .string (str pub)] 9)
  replace HB := Lib.hid (HB.out.trans (hal.mono HB.out.size))
  replace k11 := Lib.hid (k11.out.keep hal)
  have hq := short_any [s, m, pub] 3 _ 3 _ hl.at_ rfl (by decide)
  rw [short3y] at hq
  clear hal hl
  (with_reducible refine hq.mono ?_); clear hq; rintro e w2 ⟨rfl, hb⟩
  replace HB := Lib.hid (HB.out.trans (hb.mono HB.out.size))
  replace k11 := Lib.hid (k11.out.keep hb)
  clear hb
  by_cases h3 : s.length ≤ 300 ∧ m.length ≤ 300 ∧ pub.length ≤ 300
  rotate_left
  · have hf : (decide (s.length ≤ 300) && (decide (m.length ≤ 300) && decide (pub.length ≤ 300))) = false := by
      rw [Bool.and_eq_false_iff, Bool.and_eq_false_iff, decide_eq_false_iff_not, decide_eq_false_iff_not, decide_eq_false_iff_not]; omega
    rw [hf]
    go_wp2_with fail
    go_ret
    exact ⟨rfl, HB.out⟩
  obtain ⟨hs3, hm3, hp3⟩ := h3
  rw [decide_eq_true hs3, decide_eq_true hm3, decide_eq_true hp3]
  have HM := Lib.hid (show m.length ≤ 140737488351232 by omega)
  have HS3 := Lib.hid hs3
  clear hs3 hm3 hp3
  obtain ⟨c11, f11, z11⟩ := k11.out.facts
  go_wp2_with fail
  (with_reducible refine (few_any _ i A B n c k d sig p (HL.out.1.below HB.out) (HL.out.2.below HB.out)).mono ?_); rintro e w3 ⟨⟨b, rfl, hbt⟩, hb⟩
  replace HB := Lib.hid (HB.out.trans (hb.mono HB.out.size))
  replace k11 := Lib.hid (k11.out.keep hb)
  clear hb c11 f11 z11
  cases b with
  | false =>
    clear hbt
    go_wp2_with fail
    go_ret
    exact ⟨rfl, HB.out⟩
  | true =>
  have hf1 := fewL_sh (hbt rfl).2.2.1
  have hf2 := fewL_sh (hbt rfl).2.2.2
  have HF := Lib.hid (And.intro (sh_txb hf1) (And.intro (sh_txb hf2) (And.intro hf1 hf2)))
  clear hbt hf1 hf2
  have HPu := Lib.hid (fun W (hb : Below w.heap.size w W) => public_any s h W (Nat.le_trans HS3.out (by omega)) (HT.out.below hb))
  have HPr := Lib.hid (fun W => rpublic_any s h W HS3.out)
  have HSi := Lib.hid (fun W (hb : Below w.heap.size w W) => sign_any s m h ix W (Nat.le_trans HS3.out (by omega)) HM.out (HT.out.below hb))
  have HSr := Lib.hid (fun W => rsign_any s m h ix W HS3.out HM.out)
  generalize pubS s h = P at *
  generalize hE h = E0 at *
  generalize sgnE h ix = E1 at *
  generalize sgnI h ix = I1 at *
  generalize sgnS s h ix m = S1 at *
  generalize sgnP s h ix = P1 at *
  have hstl := str_toList
  by_cases h83 : h ≤ 3
  · have g1 : decide ((3 : Int) < h) = false := decide_eq_false (by omega)
    go_wp2_with fail
    (with_reducible refine (HPu.out _ HB.out).mono ?_); rintro e w4 ⟨rfl, hb⟩
    replace HB := Lib.hid (HB.out.trans (hb.mono HB.out.size))
    replace k11 := Lib.hid (k11.out.keep hb)
    clear hb HPu
    go_wp2_with fail
    (with_reducible refine (HPr.out _).mono ?_); rintro e w5 ⟨rfl, hb⟩
    replace HB := Lib.hid (HB.out.trans (hb.mono HB.out.size))
    replace k11 := Lib.hid (k11.out.keep hb)
    clear hb HPr
    go_wp2_with fail
    (with_reducible refine (HSi.out _ HB.out).mono ?_); rintro e w6 ⟨⟨v, rfl, hsa⟩, hb⟩
    obtain ⟨A6, n6, c6, B6, k6, d6, rfl, l1, l2⟩ := hsa.parts
    replace HB := Lib.hid (HB.out.trans (hb.mono HB.out.size))
    replace k11 := Lib.hid (k11.out.keep hb)
    have HL6 := Lib.hid (And.intro l1 l2)
    have k18 := Lib.hid (Reg.Blk.new w6 #[.int .i64 I1, .slice A6 n6 c6, .slice B6 k6 d6] 29)
    have hal : Below w6.heap.size w6 (w6.alloc (.cells #[.int .i64 I1, .slice A6 n6 c6, .slice B6 k6 d6] 29)) := (Below.refl _ _).alloc (Nat.le_refl _) _
    clear hb l1 l2 hsa HSi
    go_wp2_with fail
    replace HB := Lib.hid (HB.out.trans (hal.mono HB.out.size))
    replace k11 := Lib.hid (k11.out.keep hal)
    replace HL6 := Lib.hid (And.intro (HL6.out.1.below hal) (HL6.out.2.below hal))
    generalize w6.alloc (.cells #[.int .i64 I1, .slice A6 n6 c6, .slice B6 k6 d6] 29) = w7 at *
    clear hal
    generalize w6.heap.size = g18 at *
    (with_reducible refine (HSr.out _).mono ?_); rintro e w8 ⟨⟨v, rfl, hsa⟩, hb⟩
    obtain ⟨A8, n8, c8, B8, k8, d8, rfl, l1, l2⟩ := hsa.parts
    replace HB := Lib.hid (HB.out.trans (hb.mono HB.out.size))
    replace k11 := Lib.hid (k11.out.keep hb)
    replace k18 := Lib.hid (k18.out.keep hb)
    replace HL6 := Lib.hid (And.intro (HL6.out.1.below hb) (HL6.out.2.below hb))
    have HL8 := Lib.hid (And.intro l1 l2)
    have k20 := Lib.hid (Reg.Blk.new w8 #[.int .i64 I1, .slice A8 n8 c8, .slice B8 k8 d8] 29)
    have hal : Below w8.heap.size w8 (w8.alloc (.cells #[.int .i64 I1, .slice A8 n8 c8, .slice B8 k8 d8] 29)) := (Below.refl _ _).alloc (Nat.le_refl _) _
    clear hb l1 l2 hsa HSr
    obtain ⟨c18, f18, z18⟩ := k18.out.facts
    have d1 : ¬ w8.heap.size = g18 := by omega
    have d2 : ¬ g18 = w8.heap.size := by omega
    go_wp2_with fail
    clear c18 f18 z18 d1 d2
    replace HB := Lib.hid (HB.out.trans (hal.mono HB.out.size))
    replace k11 := Lib.hid (k11.out.keep hal)
    replace HL6 := Lib.hid (And.intro (HL6.out.1.below hal) (HL6.out.2.below hal))
    replace HL8 := Lib.hid (And.intro (HL8.out.1.below hal) (HL8.out.2.below hal))
    generalize w8.alloc (.cells #[.int .i64 I1, .slice A8 n8 c8, .slice B8 k8 d8] 29) = w9 at *
    clear hal
    generalize w8.heap.size = g20 at *
    (with_reducible refine (rsame_any _ _ _ _ _ _ _ _ _ _ _ _ _ _ _ _ _ _ _ HL6.out.1 HL6.out.2 HL8.out.1 HL8.out.2).mono ?_); rintro e w10 ⟨he, hb⟩
    rw [decide_eq_true (show I1 = I1 ∧ S1 = S1 ∧ P1 = P1 from ⟨rfl, rfl, rfl⟩)] at he
    subst he
    replace HB := Lib.hid (HB.out.trans (hb.mono HB.out.size))
    replace k11 := Lib.hid (k11.out.keep hb)
    clear hb k18 k20 HL6 HL8
    have HT10 := Lib.hid (HT.out.below HB.out)
    have HL10 := Lib.hid (And.intro (HL.out.1.below HB.out) (HL.out.2.below HB.out))
    have V1 := Lib.hid (fun W (hb : Below w10.heap.size w10 W) => ver_agg pub m i A B n c k d sig p W (HL10.out.1.below hb) (HL10.out.2.below hb) HF.out.1 HF.out.2.1 HM.out (HT10.out.below hb))
    have V2 := Lib.hid (fun W (hb : Below w10.heap.size w10 W) => ver_agg P m i A B n c k d sig p W (HL10.out.1.below hb) (HL10.out.2.below hb) HF.out.1 HF.out.2.1 HM.out (HT10.out.below hb))
    have R1 := Lib.hid (fun W (hb : Below w10.heap.size w10 W) => rver_agg pub m i A B n c k d sig p W (HL10.out.1.below hb) (HL10.out.2.below hb) HF.out.2.2.1 HF.out.2.2.2 HM.out)
    have R2 := Lib.hid (fun W (hb : Below w10.heap.size w10 W) => rver_agg P m i A B n c k d sig p W (HL10.out.1.below hb) (HL10.out.2.below hb) HF.out.2.2.1 HF.out.2.2.2 HM.out)
    generalize verB pub m i sig p = b1 at *
    generalize verB P m i sig p = b2 at *
    obtain ⟨c11, f11, z11⟩ := k11.out.facts
    go_wp2_with fail
    refine Reg.wp_region_seq (by kernel_rfl) (by kernel_rfl) ?_
    simp only
    iterate 27
      apply Reg.SeqOK.val
      · intro γ W hW K hK
        obtain ⟨hc, hf, _⟩ := bcell hW
        simp only [Act.put, List.setIfInBounds_toArray, List.set_cons_zero, List.set_cons_succ] at hK
        unfold Reg.Does
        go_simp
        try simp only [IntWalk.i64_left]
        first
          | exact hK _ (Below.refl _ _)
          | (go_at_call 12; (with_reducible refine (V1.out _ hW).mono ?_); rintro e w' ⟨rfl, hb⟩; exact hK _ hb)
          | (go_at_call 12; (with_reducible refine (V2.out _ hW).mono ?_); rintro e w' ⟨rfl, hb⟩; exact hK _ hb)
          | (go_at_call 19; (with_reducible refine (R1.out _ hW).mono ?_); rintro e w' ⟨rfl, hb⟩; exact hK _ hb)
          | (go_at_call 19; (with_reducible refine (R2.out _ hW).mono ?_); rintro e w' ⟨rfl, hb⟩; exact hK _ hb)
          | (trace_state; fail)
      simp only [Act.put, List.setIfInBounds_toArray, List.set_cons_zero, List.set_cons_succ, List.nil_append, List.cons_append, Nat.reduceAdd, Nat.zero_add]
    refine Reg.SeqOK.nil (by kernel_rfl) (fun γ W9 hW9 _ _ _ => ?_)
    have HW9 := Lib.hid (HB.out.trans (hW9.mono HB.out.size))
    clear hW9 c11 f11 z11
    go_wp2_with fail
    go_ret
    exact ⟨rfl, HW9.out⟩
  by_cases h88 : h ≤ 8
  · have g1 : decide ((3 : Int) < h) = true := decide_eq_true (by omega)
    have g2 : decide (h ≤ 8) = true := decide_eq_true h88
    go_wp2_with fail
    go_ret
    exact ⟨rfl, HB.out⟩
  · have g1 : decide ((3 : Int) < h) = true := decide_eq_true (by omega)
    have g2 : decide (h ≤ 8) = false := decide_eq_false h88
    go_wp2_with fail
    (with_reducible refine (HPu.out _ HB.out).mono ?_); rintro e w4 ⟨rfl, hb⟩
    replace HB := Lib.hid (HB.out.trans (hb.mono HB.out.size))
    replace k11 := Lib.hid (k11.out.keep hb)
    clear hb HPu
    go_wp2_with fail
    (with_reducible refine (HPr.out _).mono ?_); rintro e w5 ⟨rfl, hb⟩
    replace HB := Lib.hid (HB.out.trans (hb.mono HB.out.size))
    replace k11 := Lib.hid (k11.out.keep hb)
    clear hb HPr
    go_wp2_with fail
    (with_reducible refine (HSi.out _ HB.out).mono ?_); rintro e w6 ⟨⟨v, rfl, hsa⟩, hb⟩
    obtain ⟨A6, n6, c6, B6, k6, d6, rfl, l1, l2⟩ := hsa.parts
    replace HB := Lib.hid (HB.out.trans (hb.mono HB.out.size))
    replace k11 := Lib.hid (k11.out.keep hb)
    have HL6 := Lib.hid (And.intro l1 l2)
    have k18 := Lib.hid (Reg.Blk.new w6 #[.int .i64 I1, .slice A6 n6 c6, .slice B6 k6 d6] 29)
    have hal : Below w6.heap.size w6 (w6.alloc (.cells #[.int .i64 I1, .slice A6 n6 c6, .slice B6 k6 d6] 29)) := (Below.refl _ _).alloc (Nat.le_refl _) _
    clear hb l1 l2 hsa HSi
    go_wp2_with fail
    replace HB := Lib.hid (HB.out.trans (hal.mono HB.out.size))
    replace k11 := Lib.hid (k11.out.keep hal)
    replace HL6 := Lib.hid (And.intro (HL6.out.1.below hal) (HL6.out.2.below hal))
    generalize w6.alloc (.cells #[.int .i64 I1, .slice A6 n6 c6, .slice B6 k6 d6] 29) = w7 at *
    clear hal
    generalize w6.heap.size = g18 at *
    (with_reducible refine (HSr.out _).mono ?_); rintro e w8 ⟨⟨v, rfl, hsa⟩, hb⟩
    obtain ⟨A8, n8, c8, B8, k8, d8, rfl, l1, l2⟩ := hsa.parts
    replace HB := Lib.hid (HB.out.trans (hb.mono HB.out.size))
    replace k11 := Lib.hid (k11.out.keep hb)
    replace k18 := Lib.hid (k18.out.keep hb)
    replace HL6 := Lib.hid (And.intro (HL6.out.1.below hb) (HL6.out.2.below hb))
    have HL8 := Lib.hid (And.intro l1 l2)
    have k20 := Lib.hid (Reg.Blk.new w8 #[.int .i64 I1, .slice A8 n8 c8, .slice B8 k8 d8] 29)
    have hal : Below w8.heap.size w8 (w8.alloc (.cells #[.int .i64 I1, .slice A8 n8 c8, .slice B8 k8 d8] 29)) := (Below.refl _ _).alloc (Nat.le_refl _) _
    clear hb l1 l2 hsa HSr
    obtain ⟨c18, f18, z18⟩ := k18.out.facts
    have d1 : ¬ w8.heap.size = g18 := by omega
    have d2 : ¬ g18 = w8.heap.size := by omega
    go_wp2_with fail
    clear c18 f18 z18 d1 d2
    replace HB := Lib.hid (HB.out.trans (hal.mono HB.out.size))
    replace k11 := Lib.hid (k11.out.keep hal)
    replace HL6 := Lib.hid (And.intro (HL6.out.1.below hal) (HL6.out.2.below hal))
    replace HL8 := Lib.hid (And.intro (HL8.out.1.below hal) (HL8.out.2.below hal))
    generalize w8.alloc (.cells #[.int .i64 I1, .slice A8 n8 c8, .slice B8 k8 d8] 29) = w9 at *
    clear hal
    generalize w8.heap.size = g20 at *
    (with_reducible refine (rsame_any _ _ _ _ _ _ _ _ _ _ _ _ _ _ _ _ _ _ _ HL6.out.1 HL6.out.2 HL8.out.1 HL8.out.2).mono ?_); rintro e w10 ⟨he, hb⟩
    rw [decide_eq_true (show I1 = I1 ∧ S1 = S1 ∧ P1 = P1 from ⟨rfl, rfl, rfl⟩)] at he
    subst he
    replace HB := Lib.hid (HB.out.trans (hb.mono HB.out.size))
    replace k11 := Lib.hid (k11.out.keep hb)
    clear hb k18 k20 HL6 HL8
    have HT10 := Lib.hid (HT.out.below HB.out)
    have HL10 := Lib.hid (And.intro (HL.out.1.below HB.out) (HL.out.2.below HB.out))
    have V1 := Lib.hid (fun W (hb : Below w10.heap.size w10 W) => ver_agg pub m i A B n c k d sig p W (HL10.out.1.below hb) (HL10.out.2.below hb) HF.out.1 HF.out.2.1 HM.out (HT10.out.below hb))
    have V2 := Lib.hid (fun W (hb : Below w10.heap.size w10 W) => ver_agg P m i A B n c k d sig p W (HL10.out.1.below hb) (HL10.out.2.below hb) HF.out.1 HF.out.2.1 HM.out (HT10.out.below hb))
    have R1 := Lib.hid (fun W (hb : Below w10.heap.size w10 W) => rver_agg pub m i A B n c k d sig p W (HL10.out.1.below hb) (HL10.out.2.below hb) HF.out.2.2.1 HF.out.2.2.2 HM.out)
    have R2 := Lib.hid (fun W (hb : Below w10.heap.size w10 W) => rver_agg P m i A B n c k d sig p W (HL10.out.1.below hb) (HL10.out.2.below hb) HF.out.2.2.1 HF.out.2.2.2 HM.out)
    generalize verB pub m i sig p = b1 at *
    generalize verB P m i sig p = b2 at *
    obtain ⟨c11, f11, z11⟩ := k11.out.facts
    go_wp2_with fail
    refine Reg.wp_region_seq (by kernel_rfl) (by kernel_rfl) ?_
    simp only
    iterate 27
      apply Reg.SeqOK.val
      · intro γ W hW K hK
        obtain ⟨hc, hf, _⟩ := bcell hW
        simp only [Act.put, List.setIfInBounds_toArray, List.set_cons_zero, List.set_cons_succ] at hK
        unfold Reg.Does
        go_simp
        try simp only [IntWalk.i64_left]
        first
          | exact hK _ (Below.refl _ _)
          | (go_at_call 12; (with_reducible refine (V1.out _ hW).mono ?_); rintro e w' ⟨rfl, hb⟩; exact hK _ hb)
          | (go_at_call 12; (with_reducible refine (V2.out _ hW).mono ?_); rintro e w' ⟨rfl, hb⟩; exact hK _ hb)
          | (go_at_call 19; (with_reducible refine (R1.out _ hW).mono ?_); rintro e w' ⟨rfl, hb⟩; exact hK _ hb)
          | (go_at_call 19; (with_reducible refine (R2.out _ hW).mono ?_); rintro e w' ⟨rfl, hb⟩; exact hK _ hb)
          | (trace_state; fail)
      simp only [Act.put, List.setIfInBounds_toArray, List.set_cons_zero, List.set_cons_succ, List.nil_append, List.cons_append, Nat.reduceAdd, Nat.zero_add]
    refine Reg.SeqOK.nil (by kernel_rfl) (fun γ W9 hW9 _ _ _ => ?_)
    have HW9 := Lib.hid (HB.out.trans (hW9.mono HB.out.size))
    clear hW9 c11 f11 z11
    go_wp2_with fail
    go_ret
    exact ⟨rfl, HW9.out⟩

end S
end Go.Proofs.YthdjdlndfkemiaaGreatDoor
