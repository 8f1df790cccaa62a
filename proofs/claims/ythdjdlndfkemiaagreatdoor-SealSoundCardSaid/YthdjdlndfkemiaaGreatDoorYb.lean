/- Seals: the walk of 'SealSound'. Printed by mkYb.py. -/
import Derived.Test.YthdjdlndfkemiaaGreatDoorWw
set_option linter.unusedSimpArgs false
set_option linter.unusedVariables false
set_option maxRecDepth 100000
namespace Go.Proofs.YthdjdlndfkemiaaGreatDoor
open Go.RowKit
namespace S

theorem fewL_txb {l : List Tx} (h : fewL l = true) : TxB l := fun t ht => by
  have := List.all_eq_true.1 h t ht
  simp at this
  omega
theorem last_sound {s m : Tx} {h : Nat} (hh : h ≤ 2) (hs : s.length ≤ 300) (hm : m.length ≤ 140737488351232) {j : Nat} {sig p : List Tx} (hv : verB (pubT s h) m j sig p = true) (hne : ¬ (j < 2 ^ h ∧ sigT s j m = sig ∧ pathT (leavesT s h) j = p)) : Last s m h 15 j sig p := by
  obtain ⟨j', e, hj, h8, hp8, hd1, hd2, hup⟩ := ver_true hv
  obtain rfl : j = j' := by omega
  refine ⟨hh, hs, hm, by omega, by omega, h8, hd1, hd2, hp8, hj, (shown_iff _).2 ?_⟩
  rcases sound_law s m h 15 hh (Nat.le_refl _) sig p j h8 hd1 hd2 hj hup with ⟨a1, a2, a3⟩ | hc
  · exact absurd ⟨a1 ▸ hj, a2.symm, a3.symm⟩ hne
  · exact hc

set_option maxHeartbeats 16000000 in
attribute [local go_sem ↓ high] Ap.builtin_appA in
theorem sound_walk (s0 : ByteArray) (n1 : Int) (s2 : ByteArray) (i : Int) (A B : Option Addr) (n c k d : Nat) (sig p : List Tx) (w : World) (ws0 : s0.size ≤ maxLen) (hn1 : 0 ≤ n1 ∧ n1 ≤ 255) (ws2 : s2.size ≤ maxLen) (h1 : Lst w A n c sig) (h2 : Lst w B k d p) (ht : Tabs w) :
    Calls Tryz.prog 5 #[.string s0, .int .u8 n1, .string s2, .agg #[.int .i64 i, .slice A n c, .slice B k d]] w fun e w' => e = .returned (.bool true) ∧ Below w.heap.size w w' := by
  have HT := Lib.hid ht
  have HL := Lib.hid (And.intro h1 h2)
  clear ht ws0 ws2 h1 h2
  obtain ⟨s, rfl⟩ : ∃ s : Tx, s0 = str s := ⟨_, (str_of _).symm⟩
  obtain ⟨m, rfl⟩ : ∃ m : Tx, s2 = str m := ⟨_, (str_of _).symm⟩
  obtain ⟨h, hh⟩ : ∃ h : Nat, h = (n1 % 3).toNat := ⟨_, rfl⟩
  have hh3 : h ≤ 2 := by omega
  have hr1 : Int.tmod n1 3 = (h : Int) := by rw [Int.tmod_eq_emod_of_nonneg hn1.1]; omega
  have hh8 : h ≤ 8 := by omega
  have HH3 := Lib.hid hh3
  clear hh hh3
  have k5 := Lib.hid (Reg.Blk.new w #[.int .i64 i, .slice A n c, .slice B k d] 29)
  have hal : Below w.heap.size w (w.alloc (.cells #[.int .i64 i, .slice A n c, .slice B k d] 29)) := (Below.refl _ _).alloc (Nat.le_refl _) _
  have HB := Lib.hid hal
  clear hal
  go_enter Tryz.func5, Tryz.ntmps5
  go_wp2_with fail
  generalize w.alloc (.cells #[.int .i64 i, .slice A n c, .slice B k d] 29) = w0 at *
  (with_reducible refine (head_any _ (HT.out.below HB.out)).mono ?_); rintro e w1 ⟨rfl, hb1⟩
  replace HB := Lib.hid (HB.out.trans (hb1.mono HB.out.size))
  replace k5 := Lib.hid (k5.out.keep hb1)
  clear hb1
  go_wp2_with fail
  have hal : Below w1.heap.size w1 (w1.alloc (.cells #[.string (str s), .string (str m)] 9)) := (Below.refl _ _).alloc (Nat.le_refl _) _
  have hl : Lst (w1.alloc (.cells #[.string (str s), .string (str m)] 9)) (some ⟨w1.heap.size, 0, none⟩) 2 2 [s, m] := Lst.lit (n := 2) [s, m] rfl (by decide) (Reg.Blk.new w1 #[.string (str s), .string (str m)] 9)
  replace HB := Lib.hid (HB.out.trans (hal.mono HB.out.size))
  replace k5 := Lib.hid (k5.out.keep hal)
  have hq := short_any [s, m] 2 _ 2 _ hl.at_ rfl (by decide)
  rw [short2] at hq
  clear hal hl
  (with_reducible refine hq.mono ?_); clear hq; rintro e w2 ⟨rfl, hb⟩
  replace HB := Lib.hid (HB.out.trans (hb.mono HB.out.size))
  replace k5 := Lib.hid (k5.out.keep hb)
  clear hb
  by_cases h3 : s.length ≤ 300 ∧ m.length ≤ 300
  rotate_left
  · have hf : (decide (s.length ≤ 300) && decide (m.length ≤ 300)) = false := by
      rw [Bool.and_eq_false_iff, decide_eq_false_iff_not, decide_eq_false_iff_not]; omega
    rw [hf]
    go_wp2_with fail
    go_ret
    exact ⟨rfl, HB.out⟩
  obtain ⟨hs3, hm3⟩ := h3
  rw [decide_eq_true hs3, decide_eq_true hm3]
  have HM := Lib.hid (show m.length ≤ 140737488351232 by omega)
  have HS3 := Lib.hid hs3
  clear hs3 hm3
  obtain ⟨c5, f5, z5⟩ := k5.out.facts
  go_wp2_with fail
  (with_reducible refine (few_any _ i A B n c k d sig p (HL.out.1.below HB.out) (HL.out.2.below HB.out)).mono ?_); rintro e w3 ⟨⟨b, rfl, hbt⟩, hb⟩
  replace HB := Lib.hid (HB.out.trans (hb.mono HB.out.size))
  replace k5 := Lib.hid (k5.out.keep hb)
  clear hb c5 f5 z5
  cases b with
  | false =>
    clear hbt
    go_wp2_with fail
    go_ret
    exact ⟨rfl, HB.out⟩
  | true =>
  have HF := Lib.hid (hbt rfl)
  clear hbt
  go_wp2_with fail
  (with_reducible refine (public_yes s h _ (Nat.le_trans HS3.out (by omega)) hh8 (HT.out.below HB.out)).mono ?_); rintro e w4 ⟨rfl, hb⟩
  replace HB := Lib.hid (HB.out.trans (hb.mono HB.out.size))
  replace k5 := Lib.hid (k5.out.keep hb)
  clear hb
  obtain ⟨c5, f5, z5⟩ := k5.out.facts
  have HPb : Hid (∃ P, P = pubT s h) := ⟨_, rfl⟩
  obtain ⟨P, hP⟩ := HPb.out
  rw [← hP]
  have HPe := Lib.hid hP
  clear HPb hP
  go_wp2_with fail
  (with_reducible refine (ver_agg P m i A B n c k d sig p _ (HL.out.1.below HB.out) (HL.out.2.below HB.out) (fewL_txb HF.out.2.2.1) (fewL_txb HF.out.2.2.2) HM.out (HT.out.below HB.out)).mono ?_); rintro e w5 ⟨rfl, hb⟩
  replace HB := Lib.hid (HB.out.trans (hb.mono HB.out.size))
  replace k5 := Lib.hid (k5.out.keep hb)
  clear hb c5 f5 z5
  cases hv : verB P m i sig p with
  | false =>
    clear hv
    go_wp2_with fail
    go_ret
    exact ⟨rfl, HB.out⟩
  | true =>
  obtain ⟨j, rfl, hj, hs18, hp8, hd1, hd2, hup⟩ := ver_true hv
  rw [HPe.out] at hv
  have HLs : Hid (¬ (j < 2 ^ h ∧ sigT s j m = sig ∧ pathT (leavesT s h) j = p) → Last s m h 15 j sig p) := fun hne => last_sound HH3.out HS3.out HM.out hv hne
  have hsn := HL.out.1.len
  have hpk := HL.out.2.len
  obtain rfl : n = 18 := by omega
  have hj256 : j < 256 := by rw [hpk] at hj hp8; have := Nat.pow_le_pow_right (n := 2) (by decide) hp8; omega
  clear hv hj hs18 hp8 hd1 hd2 hup hsn hpk HPe HF
  obtain ⟨c5, f5, z5⟩ := k5.out.facts
  by_cases hjh : j < 2 ^ h
  · have HS := Lib.hid (sign_ok s m h j w5 (Nat.le_trans HS3.out (by omega)) (Nat.le_trans HM.out (by omega)) hh8 hjh (HT.out.below HB.out))
    have HSe : Hid (∃ Sg Pa, Sg = sigT s j m ∧ Pa = pathT (leavesT s h) j) := ⟨_, _, rfl, rfl⟩
    obtain ⟨Sg, Pa, hSg, hPa⟩ := HSe.out
    rw [← hSg, ← hPa] at HS HLs
    have HLs2 : Hid (¬ (Sg = sig ∧ Pa = p) → Last s m h 15 j sig p) := fun hne => HLs.out fun hh => hne hh.2
    clear HSe hSg hPa HLs hjh
    go_wp2_with fail
    (with_reducible refine HS.out.mono ?_); rintro e w6 ⟨⟨A6, c6, B6, d6, rfl, l1, l2⟩, hb⟩
    replace HB := Lib.hid (HB.out.trans (hb.mono HB.out.size))
    replace k5 := Lib.hid (k5.out.keep hb)
    have HL6 := Lib.hid (And.intro l1 l2)
    have hal : Below w6.heap.size w6 (w6.alloc (.cells #[.int .i64 j, .slice A6 18 c6, .slice B6 h d6] 29)) := (Below.refl _ _).alloc (Nat.le_refl _) _
    have k6 := Lib.hid (Reg.Blk.new w6 #[.int .i64 j, .slice A6 18 c6, .slice B6 h d6] 29)
    clear hb l1 l2 c5 f5 z5 HS
    obtain ⟨c5, f5, z5⟩ := k5.out.facts
    have d1 : ¬ w6.heap.size = w.heap.size := by omega
    have d2 : ¬ w.heap.size = w6.heap.size := by omega
    go_wp2_with fail
    clear c5 f5 z5 d1 d2
    replace HB := Lib.hid (HB.out.trans (hal.mono HB.out.size))
    replace k5 := Lib.hid (k5.out.keep hal)
    replace HL6 := Lib.hid (And.intro (HL6.out.1.below hal) (HL6.out.2.below hal))
    generalize w6.alloc (.cells #[.int .i64 j, .slice A6 18 c6, .slice B6 h d6] 29) = w7 at *
    clear hal
    generalize w6.heap.size = g6 at *
    (with_reducible refine (rsame_any _ _ _ _ _ _ _ _ _ _ _ _ _ _ _ _ _ _ _ HL6.out.1 HL6.out.2 (HL.out.1.below HB.out) (HL.out.2.below HB.out)).mono ?_); rintro e w8 ⟨he, hb⟩
    subst he
    replace HB := Lib.hid (HB.out.trans (hb.mono HB.out.size))
    replace k5 := Lib.hid (k5.out.keep hb)
    clear hb k6 HL6
    by_cases hsame : Sg = sig ∧ Pa = p
    · rw [decide_eq_true (show (j : Int) = j ∧ Sg = sig ∧ Pa = p from ⟨rfl, hsame⟩)]
      clear hsame
      go_wp2_with fail
      go_ret
      exact ⟨rfl, HB.out⟩
    · rw [decide_eq_false (show ¬ ((j : Int) = j ∧ Sg = sig ∧ Pa = p) from fun hh => hsame hh.2)]
      have HLt := Lib.hid (HLs2.out hsame)
      replace HT := Lib.hid (HT.out.below HB.out)
      replace HL := Lib.hid (And.intro (HL.out.1.below HB.out) (HL.out.2.below HB.out))
      clear hsame HLs2 HM HS3 HH3
      have HMd := Lib.hid (fun W (hb : Below w8.heap.size w8 W) => HLt.out.made15 W (HT.out.below hb))
      have HCk := Lib.hid (fun W (hb : Below w8.heap.size w8 W) => HLt.out.checked (HL.out.1.below hb) (HL.out.2.below hb))
      have HSh := Lib.hid (fun W A k c (hl : Lst W A k c _) => HLt.out.shown hl)
      have HLen := Lib.hid HLt.out.len
      obtain ⟨c5, f5, z5⟩ := k5.out.facts
      generalize checkedT _ _ _ _ = C at HCk HSh HLen
      generalize madeT _ _ _ = M at HMd HSh HLen
      go_wp2_with fail
      refine Reg.wp_region_tail (fun _ => False) (mcF w8.heap.size M.length C.length M C) (fun _ _ => True) (by kernel_rfl) (by kernel_rfl) mcF_s (fun _ _ _ _ _ => trivial) trivial ?_
      simp only
      iterate 4
        apply Reg.SeqT.val
        rotate_left 2
        · intro δ W hW hkn K hK
          obtain ⟨hc, hf, _⟩ := Reg.kcell hW
          simp only [Act.put, List.setIfInBounds_toArray, List.set_cons_zero, List.set_cons_succ] at hK
          unfold Reg.Does
          go_simp
          try simp only [IntWalk.i64_left]
          first
            | exact hK _ (Below.refl _ _)
            | (trace_state; fail)
        rotate_left 1
        · intro δ δ' hd; first | rfl | (simp only [hd _ (show Reg.reach _ 12 _ _ = true by kernel_rfl)])
        · intro x w; first | exact trivial | (intro e; exact absurd e (by decide)) | exact ⟨fun e => absurd e (by decide), fun e => absurd e (by decide)⟩
        simp only [Act.put, List.setIfInBounds_toArray, List.set_cons_zero, List.set_cons_succ, List.nil_append, List.cons_append, Nat.reduceAdd, Nat.zero_add]
      refine Reg.SeqT.new (fun δ W2 hW hkn K hK => ?_) ?_
      · simp only [Act.put, List.setIfInBounds_toArray, List.set_cons_zero, List.set_cons_succ] at hK
        unfold Reg.Does
        go_simp
        (with_reducible refine (HMd.out W2 (below_no hW)).mono ?_); rintro e w' ⟨⟨Ax, cx, rfl, ho⟩, hb⟩
        exact hK _ _ hb ⟨fun _ => ⟨Ax, cx, rfl, Ap.own_base ho hW.size⟩, fun e => absurd e (by decide)⟩
      simp only [Act.put, List.setIfInBounds_toArray, List.set_cons_zero, List.set_cons_succ, List.nil_append, List.cons_append, Nat.reduceAdd, Nat.zero_add]
      iterate 2
        apply Reg.SeqT.val
        rotate_left 2
        · intro δ W hW hkn K hK
          obtain ⟨hc, hf, _⟩ := Reg.kcell hW
          simp only [Act.put, List.setIfInBounds_toArray, List.set_cons_zero, List.set_cons_succ] at hK
          unfold Reg.Does
          go_simp
          try simp only [IntWalk.i64_left]
          first
            | exact hK _ (Below.refl _ _)
            | (trace_state; fail)
        rotate_left 1
        · intro δ δ' hd; first | rfl | (simp only [hd _ (show Reg.reach _ 12 _ _ = true by kernel_rfl)])
        · intro x w; first | exact trivial | (intro e; exact absurd e (by decide)) | exact ⟨fun e => absurd e (by decide), fun e => absurd e (by decide)⟩
        simp only [Act.put, List.setIfInBounds_toArray, List.set_cons_zero, List.set_cons_succ, List.nil_append, List.cons_append, Nat.reduceAdd, Nat.zero_add]
      refine Reg.SeqT.new (fun δ W2 hW hkn K hK => ?_) ?_
      · simp only [Act.put, List.setIfInBounds_toArray, List.set_cons_zero, List.set_cons_succ] at hK
        unfold Reg.Does
        go_simp
        (with_reducible refine (HCk.out W2 (below_no hW)).mono ?_); rintro e w' ⟨⟨Ax, cx, rfl, ho⟩, hb⟩
        exact hK _ _ hb ⟨fun e => absurd e (by decide), fun _ => ⟨Ax, cx, rfl, Ap.own_base ho hW.size⟩⟩
      simp only [Act.put, List.setIfInBounds_toArray, List.set_cons_zero, List.set_cons_succ, List.nil_append, List.cons_append, Nat.reduceAdd, Nat.zero_add]
      refine Reg.SeqT.tail (by kernel_rfl) (fun δ W2 hW hkn _ => ?_)
      obtain ⟨A4, c4, e4, o4⟩ := (hkn 4 (by omega)).1 rfl
      obtain ⟨A7, c7, e7, o7⟩ := (hkn 7 (by omega)).2 rfl
      rw [e4, e7]
      refine Reg.tail_cons ?_
      refine does_app2 (by rfl) _ _ rfl rfl rfl rfl o4 (o7.lst' rfl) (by have := HLen.out; omega) (below_no hW) hW.size ?_
      intro A9 c9 w9 o9 hb9
      have HB9 := Lib.hid hb9
      rw [List.length_append] at o9
      have HS9 := Lib.hid (HSh.out w9 A9 _ c9 (o9.lst' List.length_append))
      clear o4 o7 e4 e7 hkn hW o9 hb9 c5 f5 z5
      simp only [Act.put, List.setIfInBounds_toArray, List.set_cons_zero, List.set_cons_succ, List.nil_append, List.cons_append, Nat.reduceAdd, Nat.zero_add]
      refine Reg.tail_cons ?_
      unfold Reg.Does
      go_simp
      (with_reducible refine HS9.out.mono ?_); rintro e w10 ⟨rfl, hb⟩
      have HB10 := Lib.hid (HB.out.trans ((HB9.out.trans (hb.mono HB9.out.size)).mono HB.out.size))
      clear hb
      simp only [Act.put, List.setIfInBounds_toArray, List.set_cons_zero, List.set_cons_succ, List.nil_append, List.cons_append, Nat.reduceAdd, Nat.zero_add]
      refine Reg.tail_cons ?_
      unfold Reg.Does
      go_simp
      refine Reg.tail_cons ?_
      unfold Reg.Does
      go_simp
      refine Reg.tail_nil ?_
      go_wp2_with fail
      go_ret
      exact ⟨rfl, HB10.out⟩
  · have HLt := Lib.hid (HLs.out fun hh => hjh hh.1)
    have HS := Lib.hid (sign_no4 (str s) (str m) h j w5 hh8 (by omega) (Int.ofNat_le.2 (Nat.le_of_not_lt hjh)))
    clear HLs hjh
    go_wp2_with fail
    (with_reducible refine HS.out.mono ?_); rintro e w6 ⟨rfl, hb⟩
    replace HB := Lib.hid (HB.out.trans (hb.mono HB.out.size))
    replace k5 := Lib.hid (k5.out.keep hb)
    have hal : Below w6.heap.size w6 (w6.alloc (.cells #[.int .i64 0, .slice none 0 0, .slice none 0 0] 29)) := (Below.refl _ _).alloc (Nat.le_refl _) _
    clear hb c5 f5 z5 HS
    go_wp2_with fail
    replace HB := Lib.hid (HB.out.trans (hal.mono HB.out.size))
    replace k5 := Lib.hid (k5.out.keep hal)
    generalize w6.alloc (.cells #[.int .i64 0, .slice none 0 0, .slice none 0 0] 29) = w7 at *
    clear hal
    generalize w6.heap.size = g6 at *
    replace HT := Lib.hid (HT.out.below HB.out)
    replace HL := Lib.hid (And.intro (HL.out.1.below HB.out) (HL.out.2.below HB.out))
    clear HM HS3 HH3
    have HMd := Lib.hid (fun W (hb : Below w7.heap.size w7 W) => HLt.out.made15 W (HT.out.below hb))
    have HCk := Lib.hid (fun W (hb : Below w7.heap.size w7 W) => HLt.out.checked (HL.out.1.below hb) (HL.out.2.below hb))
    have HSh := Lib.hid (fun W A k c (hl : Lst W A k c _) => HLt.out.shown hl)
    have HLen := Lib.hid HLt.out.len
    obtain ⟨c5, f5, z5⟩ := k5.out.facts
    generalize checkedT _ _ _ _ = C at HCk HSh HLen
    generalize madeT _ _ _ = M at HMd HSh HLen
    go_wp2_with fail
    refine Reg.wp_region_tail (fun _ => False) (mcF w7.heap.size M.length C.length M C) (fun _ _ => True) (by kernel_rfl) (by kernel_rfl) mcF_s (fun _ _ _ _ _ => trivial) trivial ?_
    simp only
    iterate 4
      apply Reg.SeqT.val
      rotate_left 2
      · intro δ W hW hkn K hK
        obtain ⟨hc, hf, _⟩ := Reg.kcell hW
        simp only [Act.put, List.setIfInBounds_toArray, List.set_cons_zero, List.set_cons_succ] at hK
        unfold Reg.Does
        go_simp
        try simp only [IntWalk.i64_left]
        first
          | exact hK _ (Below.refl _ _)
          | (trace_state; fail)
      rotate_left 1
      · intro δ δ' hd; first | rfl | (simp only [hd _ (show Reg.reach _ 12 _ _ = true by kernel_rfl)])
      · intro x w; first | exact trivial | (intro e; exact absurd e (by decide)) | exact ⟨fun e => absurd e (by decide), fun e => absurd e (by decide)⟩
      simp only [Act.put, List.setIfInBounds_toArray, List.set_cons_zero, List.set_cons_succ, List.nil_append, List.cons_append, Nat.reduceAdd, Nat.zero_add]
    refine Reg.SeqT.new (fun δ W2 hW hkn K hK => ?_) ?_
    · simp only [Act.put, List.setIfInBounds_toArray, List.set_cons_zero, List.set_cons_succ] at hK
      unfold Reg.Does
      go_simp
      (with_reducible refine (HMd.out W2 (below_no hW)).mono ?_); rintro e w' ⟨⟨Ax, cx, rfl, ho⟩, hb⟩
      exact hK _ _ hb ⟨fun _ => ⟨Ax, cx, rfl, Ap.own_base ho hW.size⟩, fun e => absurd e (by decide)⟩
    simp only [Act.put, List.setIfInBounds_toArray, List.set_cons_zero, List.set_cons_succ, List.nil_append, List.cons_append, Nat.reduceAdd, Nat.zero_add]
    iterate 2
      apply Reg.SeqT.val
      rotate_left 2
      · intro δ W hW hkn K hK
        obtain ⟨hc, hf, _⟩ := Reg.kcell hW
        simp only [Act.put, List.setIfInBounds_toArray, List.set_cons_zero, List.set_cons_succ] at hK
        unfold Reg.Does
        go_simp
        try simp only [IntWalk.i64_left]
        first
          | exact hK _ (Below.refl _ _)
          | (trace_state; fail)
      rotate_left 1
      · intro δ δ' hd; first | rfl | (simp only [hd _ (show Reg.reach _ 12 _ _ = true by kernel_rfl)])
      · intro x w; first | exact trivial | (intro e; exact absurd e (by decide)) | exact ⟨fun e => absurd e (by decide), fun e => absurd e (by decide)⟩
      simp only [Act.put, List.setIfInBounds_toArray, List.set_cons_zero, List.set_cons_succ, List.nil_append, List.cons_append, Nat.reduceAdd, Nat.zero_add]
    refine Reg.SeqT.new (fun δ W2 hW hkn K hK => ?_) ?_
    · simp only [Act.put, List.setIfInBounds_toArray, List.set_cons_zero, List.set_cons_succ] at hK
      unfold Reg.Does
      go_simp
      (with_reducible refine (HCk.out W2 (below_no hW)).mono ?_); rintro e w' ⟨⟨Ax, cx, rfl, ho⟩, hb⟩
      exact hK _ _ hb ⟨fun e => absurd e (by decide), fun _ => ⟨Ax, cx, rfl, Ap.own_base ho hW.size⟩⟩
    simp only [Act.put, List.setIfInBounds_toArray, List.set_cons_zero, List.set_cons_succ, List.nil_append, List.cons_append, Nat.reduceAdd, Nat.zero_add]
    refine Reg.SeqT.tail (by kernel_rfl) (fun δ W2 hW hkn _ => ?_)
    obtain ⟨A4, c4, e4, o4⟩ := (hkn 4 (by omega)).1 rfl
    obtain ⟨A7, c7, e7, o7⟩ := (hkn 7 (by omega)).2 rfl
    rw [e4, e7]
    refine Reg.tail_cons ?_
    refine does_app2 (by rfl) _ _ rfl rfl rfl rfl o4 (o7.lst' rfl) (by have := HLen.out; omega) (below_no hW) hW.size ?_
    intro A9 c9 w9 o9 hb9
    have HB9 := Lib.hid hb9
    rw [List.length_append] at o9
    have HS9 := Lib.hid (HSh.out w9 A9 _ c9 (o9.lst' List.length_append))
    clear o4 o7 e4 e7 hkn hW o9 hb9 c5 f5 z5
    simp only [Act.put, List.setIfInBounds_toArray, List.set_cons_zero, List.set_cons_succ, List.nil_append, List.cons_append, Nat.reduceAdd, Nat.zero_add]
    refine Reg.tail_cons ?_
    unfold Reg.Does
    go_simp
    (with_reducible refine HS9.out.mono ?_); rintro e w10 ⟨rfl, hb⟩
    have HB10 := Lib.hid (HB.out.trans ((HB9.out.trans (hb.mono HB9.out.size)).mono HB.out.size))
    clear hb
    simp only [Act.put, List.setIfInBounds_toArray, List.set_cons_zero, List.set_cons_succ, List.nil_append, List.cons_append, Nat.reduceAdd, Nat.zero_add]
    refine Reg.tail_cons ?_
    unfold Reg.Does
    go_simp
    refine Reg.tail_cons ?_
    unfold Reg.Does
    go_simp
    refine Reg.tail_nil ?_
    go_wp2_with fail
    go_ret
    exact ⟨rfl, HB10.out⟩

end S
end Go.Proofs.YthdjdlndfkemiaaGreatDoor
