/- Seals: the walk of 'SealSecrets'. -/
import Derived.Test.YthdjdlndfkemiaaGreatDoorWs
set_option linter.unusedSimpArgs false
set_option linter.unusedVariables false
set_option maxRecDepth 100000
namespace Go.Proofs.YthdjdlndfkemiaaGreatDoor
open Go.RowKit
namespace S

theorem secrets_shown (s o m : Tx) (h i : Nat) (hh : h ≤ 2) (hi : i < 2 ^ h) (hne : s ≠ o) (hs : s.length ≤ 300) (ho : o.length ≤ 300) (hv : verB (pubT o h) m i (sigT s i m) (pathT (leavesT s h) i) = true) : shownB (madeT s h 15 ++ madeT o h 15) = true := by
  have h1 := ver_sign s m h i (by omega) hi
  have h2 : pubT s h = pubT o h := Classical.byContradiction fun hp => by
    have h3 := ver_pub h1 (pubT o h) (fun e => hp e.symm)
    rw [h3] at hv; cases hv
  exact (shown_iff _).2 (secrets_law s o h 15 hh (Nat.le_refl _) (lt20 hs) (lt20 ho) hne h2)

set_option maxHeartbeats 8000000 in
attribute [local go_sem ↓ high] Ap.builtin_appA in
theorem secrets_walk (s0 s1 : ByteArray) (n1 n2 : Int) (s4 : ByteArray) (w : World) (ws0 : s0.size ≤ maxLen) (ws1 : s1.size ≤ maxLen) (hn1 : 0 ≤ n1 ∧ n1 ≤ 255) (hn2 : 0 ≤ n2 ∧ n2 ≤ 255) (ws4 : s4.size ≤ maxLen) (ht : Tabs w) :
    Calls Tryz.prog 3 #[.string s0, .string s1, .int .u8 n1, .int .u8 n2, .string s4] w fun e w' => e = .returned (.bool true) ∧ Below w.heap.size w w' := by
  have HT := Lib.hid ht
  clear ht ws0 ws1 ws4
  obtain ⟨s, rfl⟩ : ∃ s : Tx, s0 = str s := ⟨_, (str_of _).symm⟩
  obtain ⟨o, rfl⟩ : ∃ s : Tx, s1 = str s := ⟨_, (str_of _).symm⟩
  obtain ⟨m, rfl⟩ : ∃ m : Tx, s4 = str m := ⟨_, (str_of _).symm⟩
  obtain ⟨h, hh⟩ : ∃ h : Nat, h = (n1 % 3).toNat := ⟨_, rfl⟩
  have hh3 : h ≤ 2 := by omega
  have hr1 : Int.tmod n1 3 = (h : Int) := by rw [Int.tmod_eq_emod_of_nonneg hn1.1]; omega
  have hpos : 0 < 2 ^ h := Nat.pow_pos (by omega)
  have hp4 := pow4 hh3
  obtain ⟨i, hiN, hr2⟩ := rem_nat hn2.1 hpos
  have hh8 : h ≤ 8 := by omega
  have hshl := wrap_pow h hh8
  have HP : Hid (o.length ≤ 300 → ∀ W, Below w.heap.size w W → Calls Tryz.prog 10 #[.string (str o), .int .i64 h] W fun e w' => e = .returned (.tuple #[.string (str (pubT o h)), .int .i64 0]) ∧ Below W.heap.size W w') := fun ho W hb => public_yes o h W (by omega) hh8 (HT.out.below hb)
  have HS : Hid (s.length ≤ 300 → m.length ≤ 300 → ∀ W, Below w.heap.size w W → Calls Tryz.prog 11 #[.string (str s), .int .i64 h, .int .i64 i, .string (str m)] W fun e w' =>
      (∃ A c B d, e = .returned (.tuple #[.agg #[.int .i64 i, .slice A 18 c, .slice B h d], .int .i64 0]) ∧ Lst w' A 18 c (sigT s i m) ∧ Lst w' B h d (pathT (leavesT s h) i)) ∧ Below W.heap.size W w') := fun hs hm W hb => sign_ok s m h i W (by omega) (by omega) hh8 hiN (HT.out.below hb)
  have HM1 : Hid (s.length ≤ 300 → ∀ W, Below w.heap.size w W → Calls Tryz.prog 14 #[.string (str s), .int .i64 h, .int .i64 15] W fun e w' => (∃ A c, e = .returned (.slice A (madeT s h 15).length c) ∧ Own W.heap.size w' (.slice A (madeT s h 15).length c) (madeT s h 15)) ∧ Below W.heap.size W w') := fun hs W hb => made_any s h 15 W hh3 hs (by decide) (by decide) (HT.out.below hb)
  have HM2 : Hid (o.length ≤ 300 → ∀ W, Below w.heap.size w W → Calls Tryz.prog 14 #[.string (str o), .int .i64 h, .int .i64 15] W fun e w' => (∃ A c, e = .returned (.slice A (madeT o h 15).length c) ∧ Own W.heap.size w' (.slice A (madeT o h 15).length c) (madeT o h 15)) ∧ Below W.heap.size W w') := fun ho W hb => made_any o h 15 W hh3 ho (by decide) (by decide) (HT.out.below hb)
  have HL : Hid (s ≠ o → s.length ≤ 300 → o.length ≤ 300 → verB (pubT o h) m i (sigT s i m) (pathT (leavesT s h) i) = true → shownB (madeT s h 15 ++ madeT o h 15) = true) := fun h1 h2 h3 h4 => secrets_shown s o m h i hh3 hiN h1 h2 h3 h4
  have HD := Lib.hid (And.intro (sig_dig s i m) (path_dig _ (leavesT s h) i rfl (leaves_dig s h)))
  have HLn := Lib.hid (And.intro (made_len s hh3 (show 15 ≤ 30 by decide)) (made_len o hh3 (show 15 ≤ 30 by decide)))
  have HBd : Hid ((s.length ≤ 300 → ∀ t ∈ madeT s h 15, t.length ≤ 140737488351232) ∧ (o.length ≤ 300 → ∀ t ∈ madeT o h 15, t.length ≤ 140737488351232)) := ⟨made_b s h 15, made_b o h 15⟩
  have hNi : (2 ^ h : Nat) ≠ 0 := Nat.pos_iff_ne_zero.1 hpos
  generalize pubT o h = P at *
  generalize sigT s i m = Sg at *
  generalize pathT (leavesT s h) i = Pa at *
  generalize madeT s h 15 = M1 at *
  generalize madeT o h 15 = M2 at *
  generalize 2 ^ h = N at *
  have hN0 : ¬ (N : Int) = 0 := by omega
  clear hh hh3
  go_enter Tryz.func3, Tryz.ntmps3
  go_wp2_with fail
  (with_reducible refine (head_any _ HT.out).mono ?_); rintro e w1 ⟨rfl, hb1⟩
  go_wp2_with fail
  have hal : Below w1.heap.size w1 (w1.alloc (.cells #[.string (str s), .string (str o), .string (str m)] 9)) := (Below.refl _ _).alloc (Nat.le_refl _) _
  have hl : Lst (w1.alloc (.cells #[.string (str s), .string (str o), .string (str m)] 9)) (some ⟨w1.heap.size, 0, none⟩) 3 3 [s, o, m] := Lst.lit (n := 3) [s, o, m] rfl (by decide) (Reg.Blk.new w1 #[.string (str s), .string (str o), .string (str m)] 9)
  have HB := Lib.hid (hb1.trans (hal.mono hb1.size))
  have hq := short_any [s, o, m] 3 _ 3 _ hl.at_ rfl (by decide)
  rw [short3] at hq
  clear hb1 hal hl
  (with_reducible refine hq.mono ?_); clear hq; rintro e w2 ⟨rfl, hb⟩
  replace HB := Lib.hid (HB.out.trans (hb.mono HB.out.size))
  clear hb
  by_cases h3 : s.length ≤ 300 ∧ o.length ≤ 300 ∧ m.length ≤ 300
  rotate_left
  · have hf : (decide (s.length ≤ 300) && (decide (o.length ≤ 300) && decide (m.length ≤ 300))) = false := by
      rw [Bool.and_eq_false_iff, Bool.and_eq_false_iff, decide_eq_false_iff_not, decide_eq_false_iff_not, decide_eq_false_iff_not]; omega
    rw [hf]
    go_wp2_with fail
    go_ret
    exact ⟨rfl, HB.out⟩
  obtain ⟨hs3, ho3, hm3⟩ := h3
  rw [decide_eq_true hs3, decide_eq_true ho3, decide_eq_true hm3]
  have hstl := str_toList
  by_cases hso : s = o
  · have hq : (s == o) = true := by rw [hso]; exact beq_self_eq_true o
    clear hso
    go_wp2_with fail
    go_ret
    exact ⟨rfl, HB.out⟩
  have hq : (s == o) = false := beq_eq_false_iff_ne.2 hso
  replace HP := Lib.hid (HP.out ho3)
  replace HS := Lib.hid (HS.out hs3 hm3)
  replace HM1 := Lib.hid (HM1.out hs3)
  replace HM2 := Lib.hid (HM2.out ho3)
  replace HL := Lib.hid (HL.out hso hs3 ho3)
  replace HBd := Lib.hid (And.intro (HBd.out.1 hs3) (HBd.out.2 ho3))
  have HMl : Hid (m.length ≤ 140737488351232) := by unfold Hid; omega
  clear hso hs3 ho3 hm3
  go_wp2_with fail
  (with_reducible refine (HP.out _ HB.out).mono ?_); rintro e w3 ⟨rfl, hb⟩
  replace HB := Lib.hid (HB.out.trans (hb.mono HB.out.size))
  clear hb HP
  go_wp2_with fail
  (with_reducible refine (HS.out _ HB.out).mono ?_); rintro e w4 ⟨⟨A, c, B, d, rfl, l1, l2⟩, hb⟩
  have HL4 := Lib.hid (And.intro l1 l2)
  replace HB := Lib.hid (HB.out.trans (hb.mono HB.out.size))
  have K4 := Lib.hid (Reg.Blk.new w4 #[.int .i64 i, .slice A 18 c, .slice B h d] 29)
  clear hb l1 l2 HS
  go_wp2_with fail
  have hal : Below w4.heap.size w4 (w4.alloc (.cells #[.int .i64 i, .slice A 18 c, .slice B h d] 29)) := (Below.refl _ _).alloc (Nat.le_refl _) _
  replace HB := Lib.hid (HB.out.trans (hal.mono HB.out.size))
  replace HL4 := Lib.hid (And.intro (HL4.out.1.below hal) (HL4.out.2.below hal))
  generalize w4.alloc (.cells #[.int .i64 i, .slice A 18 c, .slice B h d] 29) = v4 at *
  clear hal
  generalize w4.heap.size = g4 at K4 ⊢
  obtain ⟨c4, f4, z4⟩ := K4.out.facts
  have hq := ver_agg P m i A B 18 c h d Sg Pa v4 HL4.out.1 HL4.out.2 (txb_dig HD.out.1) (txb_dig HD.out.2) HMl.out (HT.out.below HB.out)
  cases hv : verB P m i Sg Pa with
  | false =>
    rw [hv] at hq
    clear hv
    (with_reducible refine hq.mono ?_); clear hq; rintro e w5 ⟨rfl, hb⟩
    replace HB := Lib.hid (HB.out.trans (hb.mono HB.out.size))
    clear hb c4 f4 z4
    go_wp2_with fail
    go_ret
    exact ⟨rfl, HB.out⟩
  | true =>
    rw [hv] at hq
    replace HL := Lib.hid (HL.out hv)
    clear hv
    (with_reducible refine hq.mono ?_); clear hq; rintro e w5 ⟨rfl, hb⟩
    replace HB := Lib.hid (HB.out.trans (hb.mono HB.out.size))
    have HB5 := Lib.hid HB.out
    clear hb c4 f4 z4 K4 HL4
    go_wp2_with fail
    (with_reducible refine (HM1.out _ HB.out).mono ?_); rintro e w6 ⟨⟨A6, c6, rfl, ho6⟩, hb⟩
    replace HB := Lib.hid (HB.out.trans (hb.mono HB.out.size))
    have HO6 := Lib.hid ho6
    have HB6 := Lib.hid hb
    clear hb ho6 HM1
    go_wp2_with fail
    (with_reducible refine (HM2.out _ HB.out).mono ?_); rintro e w7 ⟨⟨A7, c7, rfl, ho7⟩, hb⟩
    have hb57 := HB6.out.trans (hb.mono HB6.out.size)
    obtain ⟨A9, c9, w9, hrun, ho9, hb9⟩ := app2 (HO6.out.below hb) (ho7.lst' rfl) (by have := HLn.out; omega) hb57 hb57.size
    have HSW := Lib.hid (shown_L (ho9.lst' rfl) (by rw [List.length_append]; have := HLn.out; omega) (app_b HBd.out.1 HBd.out.2))
    rw [HL.out] at HSW
    rw [List.length_append] at hrun HSW
    have HB9 := Lib.hid (HB5.out.trans (hb9.mono HB5.out.size))
    clear ho7 hb57 ho9 hb9 hb HB HB5 HB6 HO6
    go_wp2_with fail
    (with_reducible refine HSW.out.mono ?_); rintro e w10 ⟨rfl, hb10⟩
    replace HB9 := Lib.hid (HB9.out.trans (hb10.mono HB9.out.size))
    clear hb10
    go_wp2_with fail
    go_ret
    exact ⟨rfl, HB9.out⟩

end S
end Go.Proofs.YthdjdlndfkemiaaGreatDoor
