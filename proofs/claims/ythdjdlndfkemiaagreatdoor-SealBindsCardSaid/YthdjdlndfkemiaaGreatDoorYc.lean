/- Seals: the walk of 'SealBinds'. Printed by mkYb.py. -/
import Derived.Test.YthdjdlndfkemiaaGreatDoorWw
set_option linter.unusedSimpArgs false
set_option linter.unusedVariables false
set_option maxRecDepth 100000
namespace Go.Proofs.YthdjdlndfkemiaaGreatDoor
open Go.RowKit
namespace S

theorem last_binds {s m o : Tx} {h i : Nat} (hh : h ≤ 2) (hi : i < 2 ^ h) (hs : s.length ≤ 300) (ho : o.length ≤ 140737488351232) (hd : sumL m ≠ sumL o) (hv : verB (pubT s h) o i (sigT s i m) (pathT (leavesT s h) i) = true) : Last s o h 30 i (sigT s i m) (pathT (leavesT s h) i) := by
  obtain ⟨j', e, hj, h8, hp8, hd1, hd2, hup⟩ := ver_true hv
  obtain rfl : i = j' := by omega
  exact ⟨hh, hs, ho, by omega, by omega, h8, hd1, hd2, hp8, hj, (shown_iff _).2 (binds_seal s m o h 30 hh (by omega) _ i hd hd2 hj hup)⟩

set_option maxHeartbeats 16000000 in
attribute [local go_sem ↓ high] Ap.builtin_appA in
theorem binds_walk (s0 : ByteArray) (n1 n2 : Int) (s3 s4 : ByteArray) (w : World) (ws0 : s0.size ≤ maxLen) (hn1 : 0 ≤ n1 ∧ n1 ≤ 255) (hn2 : 0 ≤ n2 ∧ n2 ≤ 255) (ws3 : s3.size ≤ maxLen) (ws4 : s4.size ≤ maxLen) (ht : Tabs w) :
    Calls Tryz.prog 6 #[.string s0, .int .u8 n1, .int .u8 n2, .string s3, .string s4] w fun e w' => e = .returned (.bool true) ∧ Below w.heap.size w w' := by
  have HT := Lib.hid ht
  clear ht ws0 ws3 ws4
  obtain ⟨s, rfl⟩ : ∃ s : Tx, s0 = str s := ⟨_, (str_of _).symm⟩
  obtain ⟨m, rfl⟩ : ∃ s : Tx, s3 = str s := ⟨_, (str_of _).symm⟩
  obtain ⟨o, rfl⟩ : ∃ m : Tx, s4 = str m := ⟨_, (str_of _).symm⟩
  obtain ⟨h, hh⟩ : ∃ h : Nat, h = (n1 % 3).toNat := ⟨_, rfl⟩
  have hh3 : h ≤ 2 := by omega
  have hr1 : Int.tmod n1 3 = (h : Int) := by rw [Int.tmod_eq_emod_of_nonneg hn1.1]; omega
  have hpos : 0 < 2 ^ h := Nat.pow_pos (by omega)
  have hp4 := pow4 hh3
  obtain ⟨i, hiN, hr2⟩ := rem_nat hn2.1 hpos
  have hh8 : h ≤ 8 := by omega
  have hshl := wrap_pow h hh8
  have HP : Hid (s.length ≤ 300 → ∀ W, Below w.heap.size w W → Calls Tryz.prog 10 #[.string (str s), .int .i64 h] W fun e w' => e = .returned (.tuple #[.string (str (pubT s h)), .int .i64 0]) ∧ Below W.heap.size W w') := fun ho W hb => public_yes s h W (by omega) hh8 (HT.out.below hb)
  have HS : Hid (s.length ≤ 300 → m.length ≤ 300 → ∀ W, Below w.heap.size w W → Calls Tryz.prog 11 #[.string (str s), .int .i64 h, .int .i64 i, .string (str m)] W fun e w' =>
      (∃ A c B d, e = .returned (.tuple #[.agg #[.int .i64 i, .slice A 18 c, .slice B h d], .int .i64 0]) ∧ Lst w' A 18 c (sigT s i m) ∧ Lst w' B h d (pathT (leavesT s h) i)) ∧ Below W.heap.size W w') := fun hs hm W hb => sign_ok s m h i W (by omega) (by omega) hh8 hiN (HT.out.below hb)
  have HS1 : Hid (m.length ≤ 300 → ∀ W, Calls Tryz.prog 21 #[.string (str m)] W fun e w' => e = .returned (.string (str (sumL m))) ∧ w' = W) := fun hm W => rsumS m W (by omega)
  have HS2 : Hid (o.length ≤ 300 → ∀ W, Calls Tryz.prog 21 #[.string (str o)] W fun e w' => e = .returned (.string (str (sumL o))) ∧ w' = W) := fun hm W => rsumS o W (by omega)
  have HL : Hid (s.length ≤ 300 → o.length ≤ 300 → sumL m ≠ sumL o → verB (pubT s h) o i (sigT s i m) (pathT (leavesT s h) i) = true → Last s o h 30 i (sigT s i m) (pathT (leavesT s h) i)) := fun h1 h2 h3 h4 => last_binds hh3 hiN h1 (by omega) h3 h4
  have HD := Lib.hid (And.intro (sig_dig s i m) (path_dig _ (leavesT s h) i rfl (leaves_dig s h)))
  have hNi : (2 ^ h : Nat) ≠ 0 := Nat.pos_iff_ne_zero.1 hpos
  generalize pubT s h = P at *
  generalize sigT s i m = Sg at *
  generalize pathT (leavesT s h) i = Pa at *
  generalize sumL m = D1 at *
  generalize sumL o = D2 at *
  generalize 2 ^ h = N at *
  have hN0 : ¬ (N : Int) = 0 := by omega
  clear hh hh3
  go_enter Tryz.func6, Tryz.ntmps6
  go_wp2_with fail
  (with_reducible refine (head_any _ HT.out).mono ?_); rintro e w1 ⟨rfl, hb1⟩
  go_wp2_with fail
  have hal : Below w1.heap.size w1 (w1.alloc (.cells #[.string (str s), .string (str m), .string (str o)] 9)) := (Below.refl _ _).alloc (Nat.le_refl _) _
  have hl : Lst (w1.alloc (.cells #[.string (str s), .string (str m), .string (str o)] 9)) (some ⟨w1.heap.size, 0, none⟩) 3 3 [s, m, o] := Lst.lit (n := 3) [s, m, o] rfl (by decide) (Reg.Blk.new w1 #[.string (str s), .string (str m), .string (str o)] 9)
  have HB := Lib.hid (hb1.trans (hal.mono hb1.size))
  have hq := short_any [s, m, o] 3 _ 3 _ hl.at_ rfl (by decide)
  rw [short3] at hq
  clear hb1 hal hl
  (with_reducible refine hq.mono ?_); clear hq; rintro e w2 ⟨rfl, hb⟩
  replace HB := Lib.hid (HB.out.trans (hb.mono HB.out.size))
  clear hb
  by_cases h3 : s.length ≤ 300 ∧ m.length ≤ 300 ∧ o.length ≤ 300
  rotate_left
  · have hf : (decide (s.length ≤ 300) && (decide (m.length ≤ 300) && decide (o.length ≤ 300))) = false := by
      rw [Bool.and_eq_false_iff, Bool.and_eq_false_iff, decide_eq_false_iff_not, decide_eq_false_iff_not, decide_eq_false_iff_not]; omega
    rw [hf]
    go_wp2_with fail
    go_ret
    exact ⟨rfl, HB.out⟩
  obtain ⟨hs3, hm3, ho3⟩ := h3
  rw [decide_eq_true hs3, decide_eq_true hm3, decide_eq_true ho3]
  replace HP := Lib.hid (HP.out hs3)
  replace HS := Lib.hid (HS.out hs3 hm3)
  replace HS1 := Lib.hid (HS1.out hm3)
  replace HS2 := Lib.hid (HS2.out ho3)
  replace HL := Lib.hid (HL.out hs3 ho3)
  have HMl : Hid (o.length ≤ 140737488351232) := by unfold Hid; omega
  clear hs3 hm3 ho3
  have hstl := str_toList
  go_wp2_with fail
  (with_reducible refine (HS1.out _).mono ?_); rintro e w3 ⟨rfl, rfl⟩
  go_wp2_with fail
  (with_reducible refine (HS2.out _).mono ?_); rintro e w3 ⟨rfl, rfl⟩
  by_cases hdd : D1 = D2
  · have hq : (D1 == D2) = true := by rw [hdd]; exact beq_self_eq_true _
    clear hdd
    go_wp2_with fail
    go_ret
    exact ⟨rfl, HB.out⟩
  have hq : (D1 == D2) = false := beq_eq_false_iff_ne.2 hdd
  replace HL := Lib.hid (HL.out hdd)
  clear hdd HS1 HS2
  go_wp2_with fail
  (with_reducible refine (HP.out _ HB.out).mono ?_); rintro e w4 ⟨rfl, hb⟩
  replace HB := Lib.hid (HB.out.trans (hb.mono HB.out.size))
  clear hb HP hq hstl
  go_wp2_with fail
  (with_reducible refine (HS.out _ HB.out).mono ?_); rintro e w5 ⟨⟨A, c, B, d, rfl, l1, l2⟩, hb⟩
  have HL4 := Lib.hid (And.intro l1 l2)
  replace HB := Lib.hid (HB.out.trans (hb.mono HB.out.size))
  have K4 := Lib.hid (Reg.Blk.new w5 #[.int .i64 i, .slice A 18 c, .slice B h d] 29)
  clear hb l1 l2 HS
  go_wp2_with fail
  have hal : Below w5.heap.size w5 (w5.alloc (.cells #[.int .i64 i, .slice A 18 c, .slice B h d] 29)) := (Below.refl _ _).alloc (Nat.le_refl _) _
  replace HB := Lib.hid (HB.out.trans (hal.mono HB.out.size))
  replace HL4 := Lib.hid (And.intro (HL4.out.1.below hal) (HL4.out.2.below hal))
  generalize w5.alloc (.cells #[.int .i64 i, .slice A 18 c, .slice B h d] 29) = v5 at *
  clear hal
  generalize w5.heap.size = g5 at K4 ⊢
  obtain ⟨c4, f4, z4⟩ := K4.out.facts
  have hq := ver_agg P o i A B 18 c h d Sg Pa v5 HL4.out.1 HL4.out.2 (txb_dig HD.out.1) (txb_dig HD.out.2) HMl.out (HT.out.below HB.out)
  go_wp2_with fail
  cases hv : verB P o i Sg Pa with
  | false =>
    rw [hv] at hq
    clear hv
    (with_reducible refine hq.mono ?_); clear hq; rintro e w6 ⟨rfl, hb⟩
    replace HB := Lib.hid (HB.out.trans (hb.mono HB.out.size))
    clear hb c4 f4 z4
    go_wp2_with fail
    go_ret
    exact ⟨rfl, HB.out⟩
  | true =>
    rw [hv] at hq
    have HLt := Lib.hid (HL.out hv)
    clear hv
    (with_reducible refine hq.mono ?_); clear hq; rintro e w6 ⟨rfl, hb⟩
    replace HB := Lib.hid (HB.out.trans (hb.mono HB.out.size))
    replace HL := Lib.hid (And.intro (HL4.out.1.below hb) (HL4.out.2.below hb))
    have k5 := Lib.hid (K4.out.keep hb)
    replace HT := Lib.hid (HT.out.below HB.out)
    clear hb c4 f4 z4 K4 HL4 HD HMl
    have HMd := Lib.hid (fun W (hb : Below w6.heap.size w6 W) => HLt.out.made30 W (HT.out.below hb))
    have HCk := Lib.hid (fun W (hb : Below w6.heap.size w6 W) => HLt.out.checked (HL.out.1.below hb) (HL.out.2.below hb))
    have HSh := Lib.hid (fun W A k c (hl : Lst W A k c _) => HLt.out.shown hl)
    have HLen := Lib.hid HLt.out.len
    obtain ⟨c5, f5, z5⟩ := k5.out.facts
    generalize checkedT _ _ _ _ = C at HCk HSh HLen
    generalize madeT _ _ _ = M at HMd HSh HLen
    go_wp2_with fail
    refine Reg.wp_region_tail (fun _ => False) (mcF w6.heap.size M.length C.length M C) (fun _ _ => True) (by kernel_rfl) (by kernel_rfl) mcF_s (fun _ _ _ _ _ => trivial) trivial ?_
    simp only
    iterate 4
      apply Reg.SeqT.val
      rotate_left 2
      · intro δ W hW hkn K hK
        obtain ⟨hc, hf, _⟩ := Reg.kcell hW
        simp only [Act.put, List.setIfInBounds_toArray, List.set_cons_zero, List.set_cons_succ] at hK
        unfold Reg.Does
        go_simp
        try simp only [IntWalk.i64_left]
        first
          | exact hK _ (Below.refl _ _)
          | (trace_state; fail)
      rotate_left 1
      · intro δ δ' hd; first | rfl | (simp only [hd _ (show Reg.reach _ 12 _ _ = true by kernel_rfl)])
      · intro x w; first | exact trivial | (intro e; exact absurd e (by decide)) | exact ⟨fun e => absurd e (by decide), fun e => absurd e (by decide)⟩
      simp only [Act.put, List.setIfInBounds_toArray, List.set_cons_zero, List.set_cons_succ, List.nil_append, List.cons_append, Nat.reduceAdd, Nat.zero_add]
    refine Reg.SeqT.new (fun δ W2 hW hkn K hK => ?_) ?_
    · simp only [Act.put, List.setIfInBounds_toArray, List.set_cons_zero, List.set_cons_succ] at hK
      unfold Reg.Does
      go_simp
      (with_reducible refine (HMd.out W2 (below_no hW)).mono ?_); rintro e w' ⟨⟨Ax, cx, rfl, ho⟩, hb⟩
      exact hK _ _ hb ⟨fun _ => ⟨Ax, cx, rfl, Ap.own_base ho hW.size⟩, fun e => absurd e (by decide)⟩
    simp only [Act.put, List.setIfInBounds_toArray, List.set_cons_zero, List.set_cons_succ, List.nil_append, List.cons_append, Nat.reduceAdd, Nat.zero_add]
    iterate 2
      apply Reg.SeqT.val
      rotate_left 2
      · intro δ W hW hkn K hK
        obtain ⟨hc, hf, _⟩ := Reg.kcell hW
        simp only [Act.put, List.setIfInBounds_toArray, List.set_cons_zero, List.set_cons_succ] at hK
        unfold Reg.Does
        go_simp
        try simp only [IntWalk.i64_left]
        first
          | exact hK _ (Below.refl _ _)
          | (trace_state; fail)
      rotate_left 1
      · intro δ δ' hd; first | rfl | (simp only [hd _ (show Reg.reach _ 12 _ _ = true by kernel_rfl)])
      · intro x w; first | exact trivial | (intro e; exact absurd e (by decide)) | exact ⟨fun e => absurd e (by decide), fun e => absurd e (by decide)⟩
      simp only [Act.put, List.setIfInBounds_toArray, List.set_cons_zero, List.set_cons_succ, List.nil_append, List.cons_append, Nat.reduceAdd, Nat.zero_add]
    refine Reg.SeqT.new (fun δ W2 hW hkn K hK => ?_) ?_
    · simp only [Act.put, List.setIfInBounds_toArray, List.set_cons_zero, List.set_cons_succ] at hK
      unfold Reg.Does
      go_simp
      (with_reducible refine (HCk.out W2 (below_no hW)).mono ?_); rintro e w' ⟨⟨Ax, cx, rfl, ho⟩, hb⟩
      exact hK _ _ hb ⟨fun e => absurd e (by decide), fun _ => ⟨Ax, cx, rfl, Ap.own_base ho hW.size⟩⟩
    simp only [Act.put, List.setIfInBounds_toArray, List.set_cons_zero, List.set_cons_succ, List.nil_append, List.cons_append, Nat.reduceAdd, Nat.zero_add]
    refine Reg.SeqT.tail (by kernel_rfl) (fun δ W2 hW hkn _ => ?_)
    obtain ⟨A4, c4, e4, o4⟩ := (hkn 4 (by omega)).1 rfl
    obtain ⟨A7, c7, e7, o7⟩ := (hkn 7 (by omega)).2 rfl
    rw [e4, e7]
    refine Reg.tail_cons ?_
    refine does_app2 (by rfl) _ _ rfl rfl rfl rfl o4 (o7.lst' rfl) (by have := HLen.out; omega) (below_no hW) hW.size ?_
    intro A9 c9 w9 o9 hb9
    have HB9 := Lib.hid hb9
    rw [List.length_append] at o9
    have HS9 := Lib.hid (HSh.out w9 A9 _ c9 (o9.lst' List.length_append))
    clear o4 o7 e4 e7 hkn hW o9 hb9 c5 f5 z5
    simp only [Act.put, List.setIfInBounds_toArray, List.set_cons_zero, List.set_cons_succ, List.nil_append, List.cons_append, Nat.reduceAdd, Nat.zero_add]
    refine Reg.tail_cons ?_
    unfold Reg.Does
    go_simp
    (with_reducible refine HS9.out.mono ?_); rintro e w10 ⟨rfl, hb⟩
    have HB10 := Lib.hid (HB.out.trans ((HB9.out.trans (hb.mono HB9.out.size)).mono HB.out.size))
    clear hb
    simp only [Act.put, List.setIfInBounds_toArray, List.set_cons_zero, List.set_cons_succ, List.nil_append, List.cons_append, Nat.reduceAdd, Nat.zero_add]
    refine Reg.tail_cons ?_
    unfold Reg.Does
    go_simp
    refine Reg.tail_cons ?_
    unfold Reg.Does
    go_simp
    refine Reg.tail_nil ?_
    go_wp2_with fail
    go_ret
    exact ⟨rfl, HB10.out⟩

end S
end Go.Proofs.YthdjdlndfkemiaaGreatDoor
