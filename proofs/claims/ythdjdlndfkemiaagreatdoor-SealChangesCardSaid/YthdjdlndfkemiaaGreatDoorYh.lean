/- Seals: the walk of 'SealChanges'. Printed by mkYh.py. -/
import Derived.Test.YthdjdlndfkemiaaGreatDoorYg
set_option linter.unusedSimpArgs false
set_option linter.unusedVariables false
set_option maxRecDepth 100000
namespace Go.Proofs.YthdjdlndfkemiaaGreatDoor
open Go.RowKit
namespace S

set_option maxHeartbeats 32000000 in
attribute [local go_sem ↓ high] Ap.builtin_appA in
theorem changes_walk (s0 : ByteArray) (n1 n2 : Int) (s3 : ByteArray) (n4 : Int) (s5 : ByteArray) (w : World) (ws0 : s0.size ≤ maxLen) (hn1 : 0 ≤ n1 ∧ n1 ≤ 255) (hn2 : 0 ≤ n2 ∧ n2 ≤ 255) (ws3 : s3.size ≤ maxLen) (hn4 : 0 ≤ n4 ∧ n4 ≤ 255) (ws5 : s5.size ≤ maxLen) (ht : Tabs w) :
    Calls Tryz.prog 7 #[.string s0, .int .u8 n1, .int .u8 n2, .string s3, .int .u8 n4, .string s5] w fun e w' => e = .returned (.bool true) ∧ Below w.heap.size w w' := by
  have HT := Lib.hid ht
  clear ht ws0 ws3 ws5
  obtain ⟨s, rfl⟩ : ∃ s : Tx, s0 = str s := ⟨_, (str_of _).symm⟩
  obtain ⟨m, rfl⟩ : ∃ s : Tx, s3 = str s := ⟨_, (str_of _).symm⟩
  obtain ⟨x, rfl⟩ : ∃ m : Tx, s5 = str m := ⟨_, (str_of _).symm⟩
  obtain ⟨h, hh⟩ : ∃ h : Nat, h = (n1 % 3).toNat := ⟨_, rfl⟩
  have hh3 : h ≤ 2 := by omega
  have hr1 : Int.tmod n1 3 = (h : Int) := by rw [Int.tmod_eq_emod_of_nonneg hn1.1]; omega
  have hpos : 0 < 2 ^ h := Nat.pow_pos (by omega)
  have hp4 := pow4 hh3
  obtain ⟨i, hiN, hr2⟩ := rem_nat hn2.1 hpos
  obtain ⟨k, hk19, hr4⟩ := rem_nat hn4.1 (show 0 < 19 + h by omega)
  have hr4 : Int.tmod n4 (19 + (h : Int)) = (k : Int) := hr4
  have hh8 : h ≤ 8 := by omega
  have hshl := wrap_pow h hh8
  have HP : Hid (s.length ≤ 300 → ∀ W, Below w.heap.size w W → Calls Tryz.prog 10 #[.string (str s), .int .i64 h] W fun e w' => e = .returned (.tuple #[.string (str (pubT s h)), .int .i64 0]) ∧ Below W.heap.size W w') := fun ho W hb => public_yes s h W (by omega) hh8 (HT.out.below hb)
  have HS : Hid (s.length ≤ 300 → m.length ≤ 300 → ∀ W, Below w.heap.size w W → Calls Tryz.prog 11 #[.string (str s), .int .i64 h, .int .i64 i, .string (str m)] W fun e w' =>
      (∃ A c B d, e = .returned (.tuple #[.agg #[.int .i64 i, .slice A 18 c, .slice B h d], .int .i64 0]) ∧ Lst w' A 18 c (sigT s i m) ∧ Lst w' B h d (pathT (leavesT s h) i)) ∧ Below W.heap.size W w') := fun hs hm W hb => sign_ok s m h i W (by omega) (by omega) hh8 hiN (HT.out.below hb)
  have HLa : Hid (s.length ≤ 300 → m.length ≤ 300 → ∀ (i' : Nat) (sg p : List Tx), verB (pubT s h) m i' sg p = true → ¬ ((i' : Int) = i ∧ sg = sigT s i m ∧ p = pathT (leavesT s h) i) → (i' = i ∨ sg = sigT s i m) → Last s m h 15 i' sg p) := fun h1 h2 i' sg p h3 h4 h5 => last_changes hh3 hiN h1 (by omega) h3 h4 h5
  have hD1 := sig_dig s i m
  have hD2 := path_dig _ (leavesT s h) i rfl (leaves_dig s h)
  have HD := Lib.hid (And.intro (txb_dig hD1) (txb_dig hD2))
  have HLn := Lib.hid (And.intro (sig_len s i m) (path_two s h i hiN))
  have hNi : (2 ^ h : Nat) ≠ 0 := Nat.pos_iff_ne_zero.1 hpos
  obtain ⟨i2, hi2, hr3⟩ := rem_nat (n := (i : Int) + 1) (by omega) hpos
  have HRm := Lib.hid (And.intro hr3 (And.intro hr4 hk19))
  clear hD1 hD2 hi2 hr3 hr4 hk19
  generalize pubT s h = P at *
  generalize sigT s i m = Sg at *
  generalize pathT (leavesT s h) i = Pa at *
  generalize 2 ^ h = N at *
  have hN0 : ¬ (N : Int) = 0 := mt Int.ofNat_eq_zero.1 hNi
  clear hh
  go_enter Tryz.func7, Tryz.ntmps7
  go_wp2_with fail
  (with_reducible refine (head_any _ HT.out).mono ?_); rintro e w1 ⟨rfl, hb1⟩
  go_wp2_with fail
  have hal : Below w1.heap.size w1 (w1.alloc (.cells #[.string (str s), .string (str m), .string (str x)] 9)) := (Below.refl _ _).alloc (Nat.le_refl _) _
  have hl : Lst (w1.alloc (.cells #[.string (str s), .string (str m), .string (str x)] 9)) (some ⟨w1.heap.size, 0, none⟩) 3 3 [s, m, x] := Lst.lit (n := 3) [s, m, x] rfl (by decide) (Reg.Blk.new w1 #[.string (str s), .string (str m), .string (str x)] 9)
  have HB := Lib.hid (hb1.trans (hal.mono hb1.size))
  have hq := short_any [s, m, x] 3 _ 3 _ hl.at_ rfl (by decide)
  rw [short3] at hq
  clear hb1 hal hl
  (with_reducible refine hq.mono ?_); clear hq; rintro e w2 ⟨rfl, hb⟩
  replace HB := Lib.hid (HB.out.trans (hb.mono HB.out.size))
  clear hb
  by_cases h3 : s.length ≤ 300 ∧ m.length ≤ 300 ∧ x.length ≤ 300
  rotate_left
  · have hf : (decide (s.length ≤ 300) && (decide (m.length ≤ 300) && decide (x.length ≤ 300))) = false := by
      rw [Bool.and_eq_false_iff, Bool.and_eq_false_iff, decide_eq_false_iff_not, decide_eq_false_iff_not, decide_eq_false_iff_not]; omega
    rw [hf]
    go_wp2_with fail
    go_ret
    exact ⟨rfl, HB.out⟩
  obtain ⟨hs3, hm3, hx3⟩ := h3
  rw [decide_eq_true hs3, decide_eq_true hm3, decide_eq_true hx3]
  replace HP := Lib.hid (HP.out hs3)
  replace HS := Lib.hid (HS.out hs3 hm3)
  replace HLa := Lib.hid (HLa.out hs3 hm3)
  have HMl : Hid (m.length ≤ 140737488351232) := by unfold Hid; omega
  have HX3 : Hid (x.length ≤ 9223372036854775807) := by unfold Hid; omega
  clear hs3 hm3 hx3
  go_wp2_with fail
  (with_reducible refine (HP.out _ HB.out).mono ?_); rintro e w4 ⟨rfl, hb⟩
  replace HB := Lib.hid (HB.out.trans (hb.mono HB.out.size))
  clear hb HP
  go_wp2_with fail
  (with_reducible refine (HS.out _ HB.out).mono ?_); rintro e w5 ⟨⟨A, c, B, d, rfl, l1, l2⟩, hb⟩
  have HLs := Lib.hid (And.intro l1 l2)
  replace HB := Lib.hid (HB.out.trans (hb.mono HB.out.size))
  have k18 := Lib.hid (Reg.Blk.new w5 #[.int .i64 i, .slice A 18 c, .slice B h d] 29)
  clear hb l1 l2 HS
  go_wp2_with fail
  have hal : Below w5.heap.size w5 (w5.alloc (.cells #[.int .i64 i, .slice A 18 c, .slice B h d] 29)) := (Below.refl _ _).alloc (Nat.le_refl _) _
  replace HB := Lib.hid (HB.out.trans (hal.mono HB.out.size))
  replace HLs := Lib.hid (And.intro (HLs.out.1.below hal) (HLs.out.2.below hal))
  generalize w5.alloc (.cells #[.int .i64 i, .slice A 18 c, .slice B h d] 29) = v5 at *
  clear hal
  generalize w5.heap.size = g18 at k18 ⊢
  obtain ⟨c18, f18, z18⟩ := k18.out.facts
  go_wp2_with fail
  have HiN : Hid (i ≤ 4) := Nat.le_trans (Nat.le_of_lt hiN) hp4
  clear hn1 hn2 hr1 hr2 hpos hiN
  have HT5 := Lib.hid (HT.out.below HB.out)
  refine Reg.wp_region_apart (fun _ => False) (chB h) (chF v5.heap.size h Sg Pa) (fun _ _ => True) (by kernel_rfl) (by kernel_rfl) chF_s (fun _ _ _ _ _ => trivial) trivial ?_
  simp only
  iterate 2
    apply Reg.SeqA.val
    rotate_left 3
    · intro δ W hW hkn K hK
      obtain ⟨hc, hf, _⟩ := Reg.kcell hW
      simp only [Act.put, List.setIfInBounds_toArray, List.set_cons_zero, List.set_cons_succ] at hK
      unfold Reg.Does
      go_simp
      try simp only [IntWalk.i64_left]
      first
        | exact hK _ (Below.refl _ _)
        | (trace_state; fail)
    rotate_left 1
    · intro δ δ' hd; first | rfl | (simp only [hd _ (show Reg.reach _ 12 _ _ = true by kernel_rfl)])
    · intro x w; first | exact trivial | exact apF_no (by decide) _ _ | (intro e; exact absurd e (by decide)) | exact ⟨fun e => absurd e (by decide), fun e => absurd e (by decide)⟩
    · intro x; rfl
    simp only [Act.put, List.setIfInBounds_toArray, List.set_cons_zero, List.set_cons_succ, List.nil_append, List.cons_append, Nat.reduceAdd, Nat.zero_add]
  refine Reg.SeqA.new (fun δ W2 hW hkn K hK => ?_) ?_
  · simp only [Act.put, List.setIfInBounds_toArray, List.set_cons_zero, List.set_cons_succ] at hK
    unfold Reg.Does
    go_simp
    exact hK _ _ ((Below.refl _ _).alloc (Nat.le_refl _) _) (fun g e => by cases e) ⟨fun _ => emp_new _ _ hW.size, fun e => absurd e (by decide), fun e => absurd e (by decide), fun e => absurd e (by decide)⟩
  simp only [Act.put, List.setIfInBounds_toArray, List.set_cons_zero, List.set_cons_succ, List.nil_append, List.cons_append, Nat.reduceAdd, Nat.zero_add]
  iterate 2
    apply Reg.SeqA.val
    rotate_left 3
    · intro δ W hW hkn K hK
      obtain ⟨hc, hf, _⟩ := Reg.kcell hW
      simp only [Act.put, List.setIfInBounds_toArray, List.set_cons_zero, List.set_cons_succ] at hK
      unfold Reg.Does
      go_simp
      try simp only [IntWalk.i64_left]
      first
        | exact hK _ (Below.refl _ _)
        | (trace_state; fail)
    rotate_left 1
    · intro δ δ' hd; first | rfl | (simp only [hd _ (show Reg.reach _ 12 _ _ = true by kernel_rfl)])
    · intro x w; first | exact trivial | exact apF_no (by decide) _ _ | (intro e; exact absurd e (by decide)) | exact ⟨fun e => absurd e (by decide), fun e => absurd e (by decide)⟩
    · intro x; rfl
    simp only [Act.put, List.setIfInBounds_toArray, List.set_cons_zero, List.set_cons_succ, List.nil_append, List.cons_append, Nat.reduceAdd, Nat.zero_add]
  refine Reg.SeqA.new (fun δ W2 hW hkn K hK => ?_) ?_
  · obtain ⟨ge, e2, ho2⟩ := (hkn 2 (by kernel_rfl)).1 (.inl rfl)
    rw [e2] at ho2
    refine does_emp (by rfl) _ _ rfl rfl e2 rfl ho2 (HLs.out.1.below (below_no hW)) (by omega) hW.size ?_
    intro A' c' w' ho hb hfr
    exact hK _ _ hb (hfr (by omega)) ⟨fun e => by rcases e with e | e <;> exact absurd e (by decide), fun _ => ⟨A', c', rfl, ho⟩, fun e => absurd e (by decide), fun e => absurd e (by decide)⟩
  simp only [Act.put, List.setIfInBounds_toArray, List.set_cons_zero, List.set_cons_succ, List.nil_append, List.cons_append, Nat.reduceAdd, Nat.zero_add]
  refine Reg.SeqA.new (fun δ W2 hW hkn K hK => ?_) ?_
  · simp only [Act.put, List.setIfInBounds_toArray, List.set_cons_zero, List.set_cons_succ] at hK
    unfold Reg.Does
    go_simp
    exact hK _ _ ((Below.refl _ _).alloc (Nat.le_refl _) _) (fun g e => by cases e) ⟨fun _ => emp_new _ _ hW.size, fun e => absurd e (by decide), fun e => absurd e (by decide), fun e => absurd e (by decide)⟩
  simp only [Act.put, List.setIfInBounds_toArray, List.set_cons_zero, List.set_cons_succ, List.nil_append, List.cons_append, Nat.reduceAdd, Nat.zero_add]
  iterate 2
    apply Reg.SeqA.val
    rotate_left 3
    · intro δ W hW hkn K hK
      obtain ⟨hc, hf, _⟩ := Reg.kcell hW
      simp only [Act.put, List.setIfInBounds_toArray, List.set_cons_zero, List.set_cons_succ] at hK
      unfold Reg.Does
      go_simp
      try simp only [IntWalk.i64_left]
      first
        | exact hK _ (Below.refl _ _)
        | (trace_state; fail)
    rotate_left 1
    · intro δ δ' hd; first | rfl | (simp only [hd _ (show Reg.reach _ 12 _ _ = true by kernel_rfl)])
    · intro x w; first | exact trivial | exact apF_no (by decide) _ _ | (intro e; exact absurd e (by decide)) | exact ⟨fun e => absurd e (by decide), fun e => absurd e (by decide)⟩
    · intro x; rfl
    simp only [Act.put, List.setIfInBounds_toArray, List.set_cons_zero, List.set_cons_succ, List.nil_append, List.cons_append, Nat.reduceAdd, Nat.zero_add]
  refine Reg.SeqA.new (fun δ W2 hW hkn K hK => ?_) ?_
  · obtain ⟨ge, e6, ho6⟩ := (hkn 6 (by kernel_rfl)).1 (.inr rfl)
    rw [e6] at ho6
    refine does_emp (by rfl) _ _ rfl rfl e6 rfl ho6 (HLs.out.2.below (below_no hW)) (by omega) hW.size ?_
    intro A' c' w' ho hb hfr
    refine hK _ _ hb (fun g e => ?_) ⟨fun e => by rcases e with e | e <;> exact absurd e (by decide), fun e => absurd e (by decide), fun _ => ⟨A', c', rfl, ho⟩, fun e => absurd e (by decide)⟩
    have e : (if h = 0 then none else (Value.slice A' h c').ownBlock) = some g := e
    by_cases h0 : h = 0
    · rw [if_pos h0] at e; cases e
    · rw [if_neg h0] at e; exact hfr h0 g e
  simp only [Act.put, List.setIfInBounds_toArray, List.set_cons_zero, List.set_cons_succ, List.nil_append, List.cons_append, Nat.reduceAdd, Nat.zero_add]
  refine Reg.SeqA.val (fun δ => .agg #[.int .i64 i, δ 5, δ 9]) (fun δ δ' hd => by simp only [hd 5 (by kernel_rfl), hd 9 (by kernel_rfl)]) (fun _ _ => apF_no (by decide) _ _) (fun _ => rfl) (fun δ W2 hW hkn K hK => ?_) ?_
  · obtain ⟨A5, c5, e5, _⟩ := (hkn 5 (by kernel_rfl)).2.1 rfl
    obtain ⟨A9, c9, e9, _⟩ := (hkn 9 (by kernel_rfl)).2.2.1 rfl
    simp only [Act.put, List.setIfInBounds_toArray, List.set_cons_zero, List.set_cons_succ] at hK
    rw [e5, e9] at hK
    unfold Reg.Does
    rw [e5, e9]
    go_simp
    exact hK _ (Below.refl _ _)
  simp only [Act.put, List.setIfInBounds_toArray, List.set_cons_zero, List.set_cons_succ, List.nil_append, List.cons_append, Nat.reduceAdd, Nat.zero_add]
  refine Reg.SeqA.new (fun δ W2 hW hkn K hK => ?_) ?_
  · simp only [Act.put, List.setIfInBounds_toArray, List.set_cons_zero, List.set_cons_succ] at hK
    unfold Reg.Does
    go_simp
    refine hK _ _ ((Below.refl _ _).alloc (Nat.le_refl _) _) (fun g e => ?_) ⟨fun e => by rcases e with e | e <;> exact absurd e (by decide), fun e => absurd e (by decide), fun e => absurd e (by decide), fun _ => ⟨W2.heap.size, rfl, hW.size, Reg.Blk.new _ _ _⟩⟩
    have e : some W2.heap.size = some g := e
    injection e with e
    subst e
    exact ⟨Nat.le_refl _, by simp⟩
  simp only [Act.put, List.setIfInBounds_toArray, List.set_cons_zero, List.set_cons_succ, List.nil_append, List.cons_append, Nat.reduceAdd, Nat.zero_add]
  refine Reg.SeqA.tail (by kernel_rfl) (fun δ W2 hW hkn hap _ => ?_)
  obtain ⟨A5, c5, e5, o5⟩ := (hkn 5 (by omega)).2.1 rfl
  obtain ⟨A9, c9, e9, o9⟩ := (hkn 9 (by omega)).2.2.1 rfl
  obtain ⟨g, e11, hBg, hb11⟩ := (hkn 11 (by omega)).2.2.2 rfl
  have a511 : (Value.slice A5 18 c5).ownBlock ≠ some g := fun e => hap 5 11 (by omega) (by omega) (by omega) g (by rw [e5]; exact e) (by rw [e11]; rfl)
  have a911 : h ≠ 0 → (Value.slice A9 h c9).ownBlock ≠ some g := fun h0 e => hap 9 11 (by omega) (by omega) (by omega) g (by rw [e9]; show (if h = 0 then none else _) = _; rw [if_neg h0]; exact e) (by rw [e11]; rfl)
  have a59 : h ≠ 0 → ∀ b, (Value.slice A5 18 c5).ownBlock = some b → (Value.slice A9 h c9).ownBlock ≠ some b := fun h0 b e e' => hap 5 9 (by omega) (by omega) (by omega) b (by rw [e5]; exact e) (by rw [e9]; show (if h = 0 then none else _) = _; rw [if_neg h0]; exact e')
  rw [e5, e9, e11]
  have HW := Lib.hid (below_no hW)
  have HAp := Lib.hid (And.intro a511 (And.intro a911 a59))
  have HO := Lib.hid (And.intro o5 o9)
  have HBx := Lib.hid (And.intro hBg hb11)
  obtain ⟨c20, f20, z20⟩ := hb11.facts
  clear hap hkn hW e5 e9 e11 o5 o9 hBg hb11 a511 a911 a59 c18 f18 z18
  refine Reg.tail_cons ?_
  unfold Reg.Does
  go_simp
  refine Reg.tail_nil ?_
  have hu := (((Reg.Upd.refl HBx.out.2).set 0 (.int .i64 i)).set 1 (.slice A5 18 c5)).set 2 (.slice A9 h c9)
  have hkb : Reg.Blk g #[.int .i64 i, .slice A5 18 c5, .slice A9 h c9] 29 (((W2.setCell ⟨g, 0, none⟩ (.int .i64 i)).setCell ⟨g, 1, none⟩ (.slice A5 18 c5)).setCell ⟨g, 2, none⟩ (.slice A9 h c9)) := hu.at_
  have kU : Reg.Keep (fun q => q = g) W2 (((W2.setCell ⟨g, 0, none⟩ (.int .i64 i)).setCell ⟨g, 1, none⟩ (.slice A5 18 c5)).setCell ⟨g, 2, none⟩ (.slice A9 h c9)) := Reg.updK (M := fun q => q = g) (g := g) rfl _ _ _ _ (keep_refl _ _) hu
  have h5 := own_far HO.out.1 hu HAp.out.1
  have h9 : h ≠ 0 → Own v5.heap.size _ (.slice A9 h c9) Pa := fun h0 => own_far HO.out.2 hu (HAp.out.2.1 h0)
  have h9v := HO.out.2.lst' HLn.out.2
  clear c20 f20 z20 hu
  generalize ((W2.setCell ⟨g, 0, none⟩ (.int .i64 i)).setCell ⟨g, 1, none⟩ (.slice A5 18 c5)).setCell ⟨g, 2, none⟩ (.slice A9 h c9) = W3 at *
  have hB5 : Below v5.heap.size v5 W3 := HW.out.trans (kU.below fun q hq => ⟨by have := HW.out.size; omega, by have := HBx.out.1; omega⟩)
  have hl9 : Lst W3 A9 h c9 Pa := by
    by_cases h0 : h = 0
    · exact lst_vac h9v h0
    · exact (h9 h0).lst' HLn.out.2
  have hgv := k18.out.lt
  have hgs : g18 < g := by have := HBx.out.1; omega
  have k20 := Lib.hid hkb
  have HB5 := Lib.hid hB5
  have H59 := Lib.hid (And.intro h5 (And.intro h9 hl9))
  replace k18 := Lib.hid (k18.out.keep hB5)
  have HGs := Lib.hid (And.intro hgs (And.intro HBx.out.1 hgv))
  clear hkb kU h5 h9 h9v hB5 hl9 hgs hgv HW HO HBx
  obtain ⟨c20, f20, z20⟩ := k20.out.facts
  obtain ⟨c18, f18, z18⟩ := k18.out.facts
  have hN19 : ¬ (19 + (h : Int)) = 0 := by omega
  by_cases hk : k < 18
  · have hr4 := HRm.out.2.1
    have hji : decide ((k : Int) < 18) = true := decide_eq_true (by omega)
    have hk0 : (0 : Int) ≤ (k : Int) := by omega
    have hk18 : (k : Int) < 18 := by omega
    obtain ⟨b5, eA, hBb, hzb, ⟨u5, cu5⟩, fu5, hl5, kk⟩ := row_set H59.out.1 HLn.out.1 hk x
    have e59 := HAp.out.2.2
    have e511 := HAp.out.1
    subst eA
    have n1 : ¬ b5 = g := fun e => e511 (by rw [e]; rfl)
    have HLo : Hid (Lst (W3.setCell ⟨b5, k, none⟩ (.string (str x))) A9 h c9 Pa) := by
      by_cases h0 : h = 0
      · exact lst_vac H59.out.2.2 h0
      · exact H59.out.2.2.keep kk fun b off e e' => e59 h0 b5 rfl (by rw [e, e']; rfl)
    have n2 : ¬ g = b5 := fun e => n1 e.symm
    have n3 : ¬ g18 = b5 := by have := HGs.out.2.2; omega
    have n4 : ¬ b5 = g18 := fun e => n3 e.symm
    have hb9 := HB5.out.trans (kk.below (B := v5.heap.size) fun q hq => ⟨by have := HB5.out.size; omega, by omega⟩)
    have HBn := Lib.hid (And.intro hb9 (And.intro (keep_blk kk k20.out n2) (keep_blk kk k18.out n3)))
    have HL5 := Lib.hid hl5
    have HX : Hid (TxB (Sg.set k x) ∧ TxB Pa) := ⟨txb_set HD.out.1 HX3.out, HD.out.2⟩
    clear e511 e59 kk hl5 hb9
    go_wp2_with fail
    have HLb := Lib.hid (And.intro HL5.out HLo.out)
    replace HLs := Lib.hid (And.intro (HLs.out.1.below HBn.out.1) (HLs.out.2.below HBn.out.1))
    replace k20 := Lib.hid HBn.out.2.1
    replace k18 := Lib.hid HBn.out.2.2
    replace HB := Lib.hid (HB.out.trans (HBn.out.1.mono HB.out.size))
    replace HT := Lib.hid (HT5.out.below HBn.out.1)
    have HOr : Hid (i = i ∨ (Sg.set k x) = Sg) := .inl rfl
    clear HBn HL5 HLo HT5 c20 f20 z20 c18 f18 z18 n1 n2 n3 n4 cu5 fu5 hzb hBb HAp H59 HB5 HGs hji
    generalize W3.setCell ⟨b5, k, none⟩ (.string (str x)) = w9 at *
    (with_reducible refine (rsame_any _ _ _ _ _ _ _ _ _ _ _ _ _ _ _ _ _ _ _ HLb.out.1 HLb.out.2 HLs.out.1 HLs.out.2).mono ?_); rintro e w10 ⟨he, hb⟩
    subst he
    replace HB := Lib.hid (HB.out.trans (hb.mono HB.out.size))
    replace HT := Lib.hid (HT.out.below hb)
    replace k20 := Lib.hid (k20.out.keep hb)
    have HL := Lib.hid (And.intro (HLb.out.1.below hb) (HLb.out.2.below hb))
    clear hb k18 HLs HLb
    by_cases hsame : (i : Int) = i ∧ (Sg.set k x) = Sg ∧ Pa = Pa
    · rw [decide_eq_true hsame]
      clear hsame
      go_wp2_with fail
      go_ret
      exact ⟨rfl, HB.out⟩
    · rw [decide_eq_false hsame]
      obtain ⟨c20, f20, z20⟩ := k20.out.facts
      have hq := ver_agg P m i _ _ 18 c5 h c9 (Sg.set k x) Pa w10 HL.out.1 HL.out.2 HX.out.1 HX.out.2 HMl.out HT.out
      cases hv : verB P m i (Sg.set k x) Pa with
      | false =>
        rw [hv] at hq
        clear hv hsame
        go_wp2_with fail
        (with_reducible refine hq.mono ?_); clear hq; rintro e w11 ⟨rfl, hb⟩
        replace HB := Lib.hid (HB.out.trans (hb.mono HB.out.size))
        clear hb c20 f20 z20
        go_wp2_with fail
        go_ret
        exact ⟨rfl, HB.out⟩
      | true =>
        rw [hv] at hq
        have HLt := Lib.hid (HLa.out _ _ _ hv hsame (.inl rfl))
        clear hv hsame
        go_wp2_with fail
        (with_reducible refine hq.mono ?_); clear hq; rintro e w11 ⟨rfl, hb⟩
        replace HB := Lib.hid (HB.out.trans (hb.mono HB.out.size))
        replace HT := Lib.hid (HT.out.below hb)
        replace k20 := Lib.hid (k20.out.keep hb)
        replace HL := Lib.hid (And.intro (HL.out.1.below hb) (HL.out.2.below hb))
        clear hb c20 f20 z20 HLa HMl HX
        have HMd := Lib.hid (fun W (hb : Below w11.heap.size w11 W) => HLt.out.made15 W (HT.out.below hb))
        have HCk := Lib.hid (fun W (hb : Below w11.heap.size w11 W) => HLt.out.checked (HL.out.1.below hb) (HL.out.2.below hb))
        have HSh := Lib.hid (fun W A k c (hl : Lst W A k c _) => HLt.out.shown hl)
        have HLen := Lib.hid HLt.out.len
        obtain ⟨c5, f5, z5⟩ := k20.out.facts
        generalize checkedT _ _ _ _ = C at HCk HSh HLen
        generalize madeT _ _ _ = M at HMd HSh HLen
        go_wp2_with fail
        refine Reg.wp_region_tail (fun _ => False) (mcF w11.heap.size M.length C.length M C) (fun _ _ => True) (by kernel_rfl) (by kernel_rfl) mcF_s (fun _ _ _ _ _ => trivial) trivial ?_
        simp only
        iterate 4
          apply Reg.SeqT.val
          rotate_left 2
          · intro δ W hW hkn K hK
            obtain ⟨hc, hf, _⟩ := Reg.kcell hW
            simp only [Act.put, List.setIfInBounds_toArray, List.set_cons_zero, List.set_cons_succ] at hK
            unfold Reg.Does
            go_simp
            try simp only [IntWalk.i64_left]
            first
              | exact hK _ (Below.refl _ _)
              | (trace_state; fail)
          rotate_left 1
          · intro δ δ' hd; first | rfl | (simp only [hd _ (show Reg.reach _ 12 _ _ = true by kernel_rfl)])
          · intro x w; first | exact trivial | (intro e; exact absurd e (by decide)) | exact ⟨fun e => absurd e (by decide), fun e => absurd e (by decide)⟩
          simp only [Act.put, List.setIfInBounds_toArray, List.set_cons_zero, List.set_cons_succ, List.nil_append, List.cons_append, Nat.reduceAdd, Nat.zero_add]
        refine Reg.SeqT.new (fun δ W2 hW hkn K hK => ?_) ?_
        · simp only [Act.put, List.setIfInBounds_toArray, List.set_cons_zero, List.set_cons_succ] at hK
          unfold Reg.Does
          go_simp
          (with_reducible refine (HMd.out W2 (below_no hW)).mono ?_); rintro e w' ⟨⟨Ax, cx, rfl, ho⟩, hb⟩
          exact hK _ _ hb ⟨fun _ => ⟨Ax, cx, rfl, Ap.own_base ho hW.size⟩, fun e => absurd e (by decide)⟩
        simp only [Act.put, List.setIfInBounds_toArray, List.set_cons_zero, List.set_cons_succ, List.nil_append, List.cons_append, Nat.reduceAdd, Nat.zero_add]
        iterate 2
          apply Reg.SeqT.val
          rotate_left 2
          · intro δ W hW hkn K hK
            obtain ⟨hc, hf, _⟩ := Reg.kcell hW
            simp only [Act.put, List.setIfInBounds_toArray, List.set_cons_zero, List.set_cons_succ] at hK
            unfold Reg.Does
            go_simp
            try simp only [IntWalk.i64_left]
            first
              | exact hK _ (Below.refl _ _)
              | (trace_state; fail)
          rotate_left 1
          · intro δ δ' hd; first | rfl | (simp only [hd _ (show Reg.reach _ 12 _ _ = true by kernel_rfl)])
          · intro x w; first | exact trivial | (intro e; exact absurd e (by decide)) | exact ⟨fun e => absurd e (by decide), fun e => absurd e (by decide)⟩
          simp only [Act.put, List.setIfInBounds_toArray, List.set_cons_zero, List.set_cons_succ, List.nil_append, List.cons_append, Nat.reduceAdd, Nat.zero_add]
        refine Reg.SeqT.new (fun δ W2 hW hkn K hK => ?_) ?_
        · simp only [Act.put, List.setIfInBounds_toArray, List.set_cons_zero, List.set_cons_succ] at hK
          unfold Reg.Does
          go_simp
          (with_reducible refine (HCk.out W2 (below_no hW)).mono ?_); rintro e w' ⟨⟨Ax, cx, rfl, ho⟩, hb⟩
          exact hK _ _ hb ⟨fun e => absurd e (by decide), fun _ => ⟨Ax, cx, rfl, Ap.own_base ho hW.size⟩⟩
        simp only [Act.put, List.setIfInBounds_toArray, List.set_cons_zero, List.set_cons_succ, List.nil_append, List.cons_append, Nat.reduceAdd, Nat.zero_add]
        refine Reg.SeqT.tail (by kernel_rfl) (fun δ W2 hW hkn _ => ?_)
        obtain ⟨A4, c4, e4, o4⟩ := (hkn 4 (by omega)).1 rfl
        obtain ⟨A7, c7, e7, o7⟩ := (hkn 7 (by omega)).2 rfl
        rw [e4, e7]
        refine Reg.tail_cons ?_
        refine does_app2 (by rfl) _ _ rfl rfl rfl rfl o4 (o7.lst' rfl) (by have := HLen.out; omega) (below_no hW) hW.size ?_
        intro A9 c9 w9 o9 hb9
        have HB9 := Lib.hid hb9
        rw [List.length_append] at o9
        have HS9 := Lib.hid (HSh.out w9 A9 _ c9 (o9.lst' List.length_append))
        clear o4 o7 e4 e7 hkn hW o9 hb9 c5 f5 z5
        simp only [Act.put, List.setIfInBounds_toArray, List.set_cons_zero, List.set_cons_succ, List.nil_append, List.cons_append, Nat.reduceAdd, Nat.zero_add]
        refine Reg.tail_cons ?_
        unfold Reg.Does
        go_simp
        (with_reducible refine HS9.out.mono ?_); rintro e w10 ⟨rfl, hb⟩
        have HB10 := Lib.hid (HB.out.trans ((HB9.out.trans (hb.mono HB9.out.size)).mono HB.out.size))
        clear hb
        simp only [Act.put, List.setIfInBounds_toArray, List.set_cons_zero, List.set_cons_succ, List.nil_append, List.cons_append, Nat.reduceAdd, Nat.zero_add]
        refine Reg.tail_cons ?_
        unfold Reg.Does
        go_simp
        refine Reg.tail_cons ?_
        unfold Reg.Does
        go_simp
        refine Reg.tail_nil ?_
        go_wp2_with fail
        go_ret
        exact ⟨rfl, HB10.out⟩
  by_cases hkh : k < 18 + h
  · obtain ⟨j, rfl⟩ : ∃ j, k = 18 + j := ⟨k - 18, by omega⟩
    have hr4 : Int.tmod n4 (19 + (h : Int)) = 18 + (j : Int) := HRm.out.2.1
    clear HRm
    have hk : j < h := by omega
    have hji : decide ((18 : Int) + (j : Int) < 18) = false := decide_eq_false (by omega)
    have hjn : ¬ ((j : Int) < 0) := by omega
    have hji2 : decide ((18 : Int) + (j : Int) < 18 + (h : Int)) = true := decide_eq_true (by omega)
    have hj0 : (0 : Int) ≤ (j : Int) := by omega
    have hjh : (j : Int) < (h : Int) := by omega
    have hks : IntKind.i64.wrap ((18 : Int) + (j : Int) - 18) = (j : Int) := by rw [IntWalk.i64_left, IntWalk.wrap64_in _ (by omega)]; omega
    obtain ⟨b5, eA, hBb, hzb, ⟨u5, cu5⟩, fu5, hl5, kk⟩ := row_set (H59.out.2.1 (by omega)) HLn.out.2 hk x
    have e59 := HAp.out.2.2 (by omega)
    have e511 := HAp.out.2.1 (by omega)
    subst eA
    have n1 : ¬ b5 = g := fun e => e511 (by rw [e]; rfl)
    have HLo : Hid (Lst (W3.setCell ⟨b5, j, none⟩ (.string (str x))) A5 18 c5 Sg) := (H59.out.1.lst' HLn.out.1).keep kk fun b off e e' => e59 b5 (by rw [e, e']; rfl) rfl
    have n2 : ¬ g = b5 := fun e => n1 e.symm
    have n3 : ¬ g18 = b5 := by have := HGs.out.2.2; omega
    have n4 : ¬ b5 = g18 := fun e => n3 e.symm
    have hb9 := HB5.out.trans (kk.below (B := v5.heap.size) fun q hq => ⟨by have := HB5.out.size; omega, by omega⟩)
    have HBn := Lib.hid (And.intro hb9 (And.intro (keep_blk kk k20.out n2) (keep_blk kk k18.out n3)))
    have HL5 := Lib.hid hl5
    have HX : Hid (TxB Sg ∧ TxB (Pa.set j x)) := ⟨HD.out.1, txb_set HD.out.2 HX3.out⟩
    clear e511 e59 kk hl5 hb9
    go_wp2_with fail
    have HLb := Lib.hid (And.intro HLo.out HL5.out)
    replace HLs := Lib.hid (And.intro (HLs.out.1.below HBn.out.1) (HLs.out.2.below HBn.out.1))
    replace k20 := Lib.hid HBn.out.2.1
    replace k18 := Lib.hid HBn.out.2.2
    replace HB := Lib.hid (HB.out.trans (HBn.out.1.mono HB.out.size))
    replace HT := Lib.hid (HT5.out.below HBn.out.1)
    have HOr : Hid (i = i ∨ Sg = Sg) := .inl rfl
    clear HBn HL5 HLo HT5 c20 f20 z20 c18 f18 z18 n1 n2 n3 n4 cu5 fu5 hzb hBb HAp H59 HB5 HGs hji
    generalize W3.setCell ⟨b5, j, none⟩ (.string (str x)) = w9 at *
    (with_reducible refine (rsame_any _ _ _ _ _ _ _ _ _ _ _ _ _ _ _ _ _ _ _ HLb.out.1 HLb.out.2 HLs.out.1 HLs.out.2).mono ?_); rintro e w10 ⟨he, hb⟩
    subst he
    replace HB := Lib.hid (HB.out.trans (hb.mono HB.out.size))
    replace HT := Lib.hid (HT.out.below hb)
    replace k20 := Lib.hid (k20.out.keep hb)
    have HL := Lib.hid (And.intro (HLb.out.1.below hb) (HLb.out.2.below hb))
    clear hb k18 HLs HLb
    by_cases hsame : (i : Int) = i ∧ Sg = Sg ∧ (Pa.set j x) = Pa
    · rw [decide_eq_true hsame]
      clear hsame
      go_wp2_with fail
      go_ret
      exact ⟨rfl, HB.out⟩
    · rw [decide_eq_false hsame]
      obtain ⟨c20, f20, z20⟩ := k20.out.facts
      have hq := ver_agg P m i _ _ 18 c5 h c9 Sg (Pa.set j x) w10 HL.out.1 HL.out.2 HX.out.1 HX.out.2 HMl.out HT.out
      cases hv : verB P m i Sg (Pa.set j x) with
      | false =>
        rw [hv] at hq
        clear hv hsame
        go_wp2_with fail
        (with_reducible refine hq.mono ?_); clear hq; rintro e w11 ⟨rfl, hb⟩
        replace HB := Lib.hid (HB.out.trans (hb.mono HB.out.size))
        clear hb c20 f20 z20
        go_wp2_with fail
        go_ret
        exact ⟨rfl, HB.out⟩
      | true =>
        rw [hv] at hq
        have HLt := Lib.hid (HLa.out _ _ _ hv hsame (.inl rfl))
        clear hv hsame
        go_wp2_with fail
        (with_reducible refine hq.mono ?_); clear hq; rintro e w11 ⟨rfl, hb⟩
        replace HB := Lib.hid (HB.out.trans (hb.mono HB.out.size))
        replace HT := Lib.hid (HT.out.below hb)
        replace k20 := Lib.hid (k20.out.keep hb)
        replace HL := Lib.hid (And.intro (HL.out.1.below hb) (HL.out.2.below hb))
        clear hb c20 f20 z20 HLa HMl HX
        have HMd := Lib.hid (fun W (hb : Below w11.heap.size w11 W) => HLt.out.made15 W (HT.out.below hb))
        have HCk := Lib.hid (fun W (hb : Below w11.heap.size w11 W) => HLt.out.checked (HL.out.1.below hb) (HL.out.2.below hb))
        have HSh := Lib.hid (fun W A k c (hl : Lst W A k c _) => HLt.out.shown hl)
        have HLen := Lib.hid HLt.out.len
        obtain ⟨c5, f5, z5⟩ := k20.out.facts
        generalize checkedT _ _ _ _ = C at HCk HSh HLen
        generalize madeT _ _ _ = M at HMd HSh HLen
        go_wp2_with fail
        refine Reg.wp_region_tail (fun _ => False) (mcF w11.heap.size M.length C.length M C) (fun _ _ => True) (by kernel_rfl) (by kernel_rfl) mcF_s (fun _ _ _ _ _ => trivial) trivial ?_
        simp only
        iterate 4
          apply Reg.SeqT.val
          rotate_left 2
          · intro δ W hW hkn K hK
            obtain ⟨hc, hf, _⟩ := Reg.kcell hW
            simp only [Act.put, List.setIfInBounds_toArray, List.set_cons_zero, List.set_cons_succ] at hK
            unfold Reg.Does
            go_simp
            try simp only [IntWalk.i64_left]
            first
              | exact hK _ (Below.refl _ _)
              | (trace_state; fail)
          rotate_left 1
          · intro δ δ' hd; first | rfl | (simp only [hd _ (show Reg.reach _ 12 _ _ = true by kernel_rfl)])
          · intro x w; first | exact trivial | (intro e; exact absurd e (by decide)) | exact ⟨fun e => absurd e (by decide), fun e => absurd e (by decide)⟩
          simp only [Act.put, List.setIfInBounds_toArray, List.set_cons_zero, List.set_cons_succ, List.nil_append, List.cons_append, Nat.reduceAdd, Nat.zero_add]
        refine Reg.SeqT.new (fun δ W2 hW hkn K hK => ?_) ?_
        · simp only [Act.put, List.setIfInBounds_toArray, List.set_cons_zero, List.set_cons_succ] at hK
          unfold Reg.Does
          go_simp
          (with_reducible refine (HMd.out W2 (below_no hW)).mono ?_); rintro e w' ⟨⟨Ax, cx, rfl, ho⟩, hb⟩
          exact hK _ _ hb ⟨fun _ => ⟨Ax, cx, rfl, Ap.own_base ho hW.size⟩, fun e => absurd e (by decide)⟩
        simp only [Act.put, List.setIfInBounds_toArray, List.set_cons_zero, List.set_cons_succ, List.nil_append, List.cons_append, Nat.reduceAdd, Nat.zero_add]
        iterate 2
          apply Reg.SeqT.val
          rotate_left 2
          · intro δ W hW hkn K hK
            obtain ⟨hc, hf, _⟩ := Reg.kcell hW
            simp only [Act.put, List.setIfInBounds_toArray, List.set_cons_zero, List.set_cons_succ] at hK
            unfold Reg.Does
            go_simp
            try simp only [IntWalk.i64_left]
            first
              | exact hK _ (Below.refl _ _)
              | (trace_state; fail)
          rotate_left 1
          · intro δ δ' hd; first | rfl | (simp only [hd _ (show Reg.reach _ 12 _ _ = true by kernel_rfl)])
          · intro x w; first | exact trivial | (intro e; exact absurd e (by decide)) | exact ⟨fun e => absurd e (by decide), fun e => absurd e (by decide)⟩
          simp only [Act.put, List.setIfInBounds_toArray, List.set_cons_zero, List.set_cons_succ, List.nil_append, List.cons_append, Nat.reduceAdd, Nat.zero_add]
        refine Reg.SeqT.new (fun δ W2 hW hkn K hK => ?_) ?_
        · simp only [Act.put, List.setIfInBounds_toArray, List.set_cons_zero, List.set_cons_succ] at hK
          unfold Reg.Does
          go_simp
          (with_reducible refine (HCk.out W2 (below_no hW)).mono ?_); rintro e w' ⟨⟨Ax, cx, rfl, ho⟩, hb⟩
          exact hK _ _ hb ⟨fun e => absurd e (by decide), fun _ => ⟨Ax, cx, rfl, Ap.own_base ho hW.size⟩⟩
        simp only [Act.put, List.setIfInBounds_toArray, List.set_cons_zero, List.set_cons_succ, List.nil_append, List.cons_append, Nat.reduceAdd, Nat.zero_add]
        refine Reg.SeqT.tail (by kernel_rfl) (fun δ W2 hW hkn _ => ?_)
        obtain ⟨A4, c4, e4, o4⟩ := (hkn 4 (by omega)).1 rfl
        obtain ⟨A7, c7, e7, o7⟩ := (hkn 7 (by omega)).2 rfl
        rw [e4, e7]
        refine Reg.tail_cons ?_
        refine does_app2 (by rfl) _ _ rfl rfl rfl rfl o4 (o7.lst' rfl) (by have := HLen.out; omega) (below_no hW) hW.size ?_
        intro A9 c9 w9 o9 hb9
        have HB9 := Lib.hid hb9
        rw [List.length_append] at o9
        have HS9 := Lib.hid (HSh.out w9 A9 _ c9 (o9.lst' List.length_append))
        clear o4 o7 e4 e7 hkn hW o9 hb9 c5 f5 z5
        simp only [Act.put, List.setIfInBounds_toArray, List.set_cons_zero, List.set_cons_succ, List.nil_append, List.cons_append, Nat.reduceAdd, Nat.zero_add]
        refine Reg.tail_cons ?_
        unfold Reg.Does
        go_simp
        (with_reducible refine HS9.out.mono ?_); rintro e w10 ⟨rfl, hb⟩
        have HB10 := Lib.hid (HB.out.trans ((HB9.out.trans (hb.mono HB9.out.size)).mono HB.out.size))
        clear hb
        simp only [Act.put, List.setIfInBounds_toArray, List.set_cons_zero, List.set_cons_succ, List.nil_append, List.cons_append, Nat.reduceAdd, Nat.zero_add]
        refine Reg.tail_cons ?_
        unfold Reg.Does
        go_simp
        refine Reg.tail_cons ?_
        unfold Reg.Does
        go_simp
        refine Reg.tail_nil ?_
        go_wp2_with fail
        go_ret
        exact ⟨rfl, HB10.out⟩
  · obtain rfl : k = 18 + h := by have := HRm.out.2.2; omega
    have hr4 : Int.tmod n4 (19 + (h : Int)) = 18 + (h : Int) := HRm.out.2.1
    have hji : decide ((18 : Int) + (h : Int) < 18) = false := decide_eq_false (by omega)
    have hji2 : decide ((18 : Int) + (h : Int) < 18 + (h : Int)) = false := decide_eq_false (by omega)
    have hr3 := HRm.out.1
    go_wp2_with fail
    have hN0' : ((N : Int) == 0) = false := beq_eq_false_iff_ne.2 hN0
    have hw3 : Int.tmod (wrap64 ((i : Int) + 1)) (N : Int) = (i2 : Int) := by rw [IntWalk.wrap64_in _ ⟨by have := HiN.out; omega, by have := HiN.out; omega⟩]; exact hr3
    refine Reg.wp_region_seq (by kernel_rfl) (by kernel_rfl) ?_
    simp only
    iterate 4
      apply Reg.SeqOK.val
      · intro γ W hW K hK
        obtain ⟨hc, hf, _⟩ := bcell hW
        simp only [Act.put, List.setIfInBounds_toArray, List.set_cons_zero, List.set_cons_succ] at hK
        unfold Reg.Does
        go_simp
        try simp only [IntWalk.i64_left]
        first
          | exact hK _ (Below.refl _ _)
          | (trace_state; fail)
      simp only [Act.put, List.setIfInBounds_toArray, List.set_cons_zero, List.set_cons_succ, List.nil_append, List.cons_append, Nat.reduceAdd, Nat.zero_add]
    refine Reg.SeqOK.val (.int .i64 (N : Int)) (fun γ W hW K hK => ?_) ?_
    · simp only [Act.put, List.setIfInBounds_toArray, List.set_cons_zero, List.set_cons_succ] at hK
      unfold Reg.Does
      go_simp
      try simp only [IntWalk.i64_left]
      try simp only [hshl]
      exact hK _ (Below.refl _ _)
    simp only [Act.put, List.setIfInBounds_toArray, List.set_cons_zero, List.set_cons_succ, List.nil_append, List.cons_append, Nat.reduceAdd, Nat.zero_add]
    refine Reg.SeqOK.val (.int .i64 (i2 : Int)) (fun γ W hW K hK => ?_) ?_
    · simp only [Act.put, List.setIfInBounds_toArray, List.set_cons_zero, List.set_cons_succ] at hK
      unfold Reg.Does
      go_simp
      try simp only [IntWalk.i64_left]
      try simp only [hw3]
      exact hK _ (Below.refl _ _)
    simp only [Act.put, List.setIfInBounds_toArray, List.set_cons_zero, List.set_cons_succ, List.nil_append, List.cons_append, Nat.reduceAdd, Nat.zero_add]
    iterate 1
      apply Reg.SeqOK.val
      · intro γ W hW K hK
        obtain ⟨hc, hf, _⟩ := bcell hW
        simp only [Act.put, List.setIfInBounds_toArray, List.set_cons_zero, List.set_cons_succ] at hK
        unfold Reg.Does
        go_simp
        try simp only [IntWalk.i64_left]
        first
          | exact hK _ (Below.refl _ _)
          | (trace_state; fail)
      simp only [Act.put, List.setIfInBounds_toArray, List.set_cons_zero, List.set_cons_succ, List.nil_append, List.cons_append, Nat.reduceAdd, Nat.zero_add]
    refine Reg.SeqOK.last (by kernel_rfl) (by kernel_rfl) (fun γ W9 hW9 _ _ _ => ?_)
    have HW9 := Lib.hid hW9
    have hk9 := k20.out.keep hW9
    clear c20 f20 z20 c18 f18 z18 hW9
    obtain ⟨c20, f20, z20⟩ := hk9.facts
    unfold Reg.Does
    go_simp
    have hu := Reg.upd3a' (x := .int .i64 i2) hk9
    have kU : Reg.Keep (fun q => q = g) W9 (W9.setCell ⟨g, 0, none⟩ (.int .i64 i2)) := Reg.updK (M := fun q => q = g) (g := g) rfl _ _ _ _ (keep_refl _ _) hu
    have o5 := own_far (H59.out.1.below HW9.out) hu HAp.out.1
    have hl5 := o5.lst' HLn.out.1
    have hl9 : Lst (W9.setCell ⟨g, 0, none⟩ (.int .i64 i2)) A9 h c9 Pa := by
      by_cases h0 : h = 0
      · exact lst_vac H59.out.2.2 h0
      · exact (own_far ((H59.out.2.1 h0).below HW9.out) hu (HAp.out.2.1 h0)).lst' HLn.out.2
    have hb9 := (HB5.out.trans (HW9.out.mono HB5.out.size)).trans (kU.below (B := v5.heap.size) fun q hq => ⟨by have := HB5.out.size; have := HW9.out.size; omega, by have := HGs.out.2.1; omega⟩)
    have hkb : Reg.Blk g #[.int .i64 i2, .slice A5 18 c5, .slice A9 h c9] 29 (W9.setCell ⟨g, 0, none⟩ (.int .i64 i2)) := hu.at_
    have HLb := Lib.hid (And.intro hl5 hl9)
    replace HLs := Lib.hid (And.intro (HLs.out.1.below hb9) (HLs.out.2.below hb9))
    replace k18 := Lib.hid (keep_blk kU (k18.out.keep HW9.out) (by have := HGs.out.1; omega))
    replace k20 := Lib.hid hkb
    replace HB := Lib.hid (HB.out.trans (hb9.mono HB.out.size))
    replace HT := Lib.hid (HT5.out.below hb9)
    have HX := HD
    clear hu kU o5 hl5 hl9 hb9 hkb hk9 HW9 HT5 c20 f20 z20 HAp H59 HB5 HGs hji hji2 hr3 hr4 HRm hN0' hw3
    generalize W9.setCell ⟨g, 0, none⟩ (.int .i64 i2) = w9 at *
    obtain ⟨c20, f20, z20⟩ := k20.out.facts
    obtain ⟨c18, f18, z18⟩ := k18.out.facts
    go_wp2_with fail
    clear c20 f20 z20 c18 f18 z18
    (with_reducible refine (rsame_any _ _ _ _ _ _ _ _ _ _ _ _ _ _ _ _ _ _ _ HLb.out.1 HLb.out.2 HLs.out.1 HLs.out.2).mono ?_); rintro e w10 ⟨he, hb⟩
    subst he
    replace HB := Lib.hid (HB.out.trans (hb.mono HB.out.size))
    replace HT := Lib.hid (HT.out.below hb)
    replace k20 := Lib.hid (k20.out.keep hb)
    have HL := Lib.hid (And.intro (HLb.out.1.below hb) (HLb.out.2.below hb))
    clear hb k18 HLs HLb
    by_cases hsame : (i2 : Int) = i ∧ Sg = Sg ∧ Pa = Pa
    · rw [decide_eq_true hsame]
      clear hsame
      go_wp2_with fail
      go_ret
      exact ⟨rfl, HB.out⟩
    · rw [decide_eq_false hsame]
      obtain ⟨c20, f20, z20⟩ := k20.out.facts
      have hq := ver_agg P m i2 _ _ 18 c5 h c9 Sg Pa w10 HL.out.1 HL.out.2 HX.out.1 HX.out.2 HMl.out HT.out
      cases hv : verB P m i2 Sg Pa with
      | false =>
        rw [hv] at hq
        clear hv hsame
        go_wp2_with fail
        (with_reducible refine hq.mono ?_); clear hq; rintro e w11 ⟨rfl, hb⟩
        replace HB := Lib.hid (HB.out.trans (hb.mono HB.out.size))
        clear hb c20 f20 z20
        go_wp2_with fail
        go_ret
        exact ⟨rfl, HB.out⟩
      | true =>
        rw [hv] at hq
        have HLt := Lib.hid (HLa.out _ _ _ hv hsame (.inr rfl))
        clear hv hsame
        go_wp2_with fail
        (with_reducible refine hq.mono ?_); clear hq; rintro e w11 ⟨rfl, hb⟩
        replace HB := Lib.hid (HB.out.trans (hb.mono HB.out.size))
        replace HT := Lib.hid (HT.out.below hb)
        replace k20 := Lib.hid (k20.out.keep hb)
        replace HL := Lib.hid (And.intro (HL.out.1.below hb) (HL.out.2.below hb))
        clear hb c20 f20 z20 HLa HMl HX
        have HMd := Lib.hid (fun W (hb : Below w11.heap.size w11 W) => HLt.out.made15 W (HT.out.below hb))
        have HCk := Lib.hid (fun W (hb : Below w11.heap.size w11 W) => HLt.out.checked (HL.out.1.below hb) (HL.out.2.below hb))
        have HSh := Lib.hid (fun W A k c (hl : Lst W A k c _) => HLt.out.shown hl)
        have HLen := Lib.hid HLt.out.len
        obtain ⟨c5, f5, z5⟩ := k20.out.facts
        generalize checkedT _ _ _ _ = C at HCk HSh HLen
        generalize madeT _ _ _ = M at HMd HSh HLen
        go_wp2_with fail
        refine Reg.wp_region_tail (fun _ => False) (mcF w11.heap.size M.length C.length M C) (fun _ _ => True) (by kernel_rfl) (by kernel_rfl) mcF_s (fun _ _ _ _ _ => trivial) trivial ?_
        simp only
        iterate 4
          apply Reg.SeqT.val
          rotate_left 2
          · intro δ W hW hkn K hK
            obtain ⟨hc, hf, _⟩ := Reg.kcell hW
            simp only [Act.put, List.setIfInBounds_toArray, List.set_cons_zero, List.set_cons_succ] at hK
            unfold Reg.Does
            go_simp
            try simp only [IntWalk.i64_left]
            first
              | exact hK _ (Below.refl _ _)
              | (trace_state; fail)
          rotate_left 1
          · intro δ δ' hd; first | rfl | (simp only [hd _ (show Reg.reach _ 12 _ _ = true by kernel_rfl)])
          · intro x w; first | exact trivial | (intro e; exact absurd e (by decide)) | exact ⟨fun e => absurd e (by decide), fun e => absurd e (by decide)⟩
          simp only [Act.put, List.setIfInBounds_toArray, List.set_cons_zero, List.set_cons_succ, List.nil_append, List.cons_append, Nat.reduceAdd, Nat.zero_add]
        refine Reg.SeqT.new (fun δ W2 hW hkn K hK => ?_) ?_
        · simp only [Act.put, List.setIfInBounds_toArray, List.set_cons_zero, List.set_cons_succ] at hK
          unfold Reg.Does
          go_simp
          (with_reducible refine (HMd.out W2 (below_no hW)).mono ?_); rintro e w' ⟨⟨Ax, cx, rfl, ho⟩, hb⟩
          exact hK _ _ hb ⟨fun _ => ⟨Ax, cx, rfl, Ap.own_base ho hW.size⟩, fun e => absurd e (by decide)⟩
        simp only [Act.put, List.setIfInBounds_toArray, List.set_cons_zero, List.set_cons_succ, List.nil_append, List.cons_append, Nat.reduceAdd, Nat.zero_add]
        iterate 2
          apply Reg.SeqT.val
          rotate_left 2
          · intro δ W hW hkn K hK
            obtain ⟨hc, hf, _⟩ := Reg.kcell hW
            simp only [Act.put, List.setIfInBounds_toArray, List.set_cons_zero, List.set_cons_succ] at hK
            unfold Reg.Does
            go_simp
            try simp only [IntWalk.i64_left]
            first
              | exact hK _ (Below.refl _ _)
              | (trace_state; fail)
          rotate_left 1
          · intro δ δ' hd; first | rfl | (simp only [hd _ (show Reg.reach _ 12 _ _ = true by kernel_rfl)])
          · intro x w; first | exact trivial | (intro e; exact absurd e (by decide)) | exact ⟨fun e => absurd e (by decide), fun e => absurd e (by decide)⟩
          simp only [Act.put, List.setIfInBounds_toArray, List.set_cons_zero, List.set_cons_succ, List.nil_append, List.cons_append, Nat.reduceAdd, Nat.zero_add]
        refine Reg.SeqT.new (fun δ W2 hW hkn K hK => ?_) ?_
        · simp only [Act.put, List.setIfInBounds_toArray, List.set_cons_zero, List.set_cons_succ] at hK
          unfold Reg.Does
          go_simp
          (with_reducible refine (HCk.out W2 (below_no hW)).mono ?_); rintro e w' ⟨⟨Ax, cx, rfl, ho⟩, hb⟩
          exact hK _ _ hb ⟨fun e => absurd e (by decide), fun _ => ⟨Ax, cx, rfl, Ap.own_base ho hW.size⟩⟩
        simp only [Act.put, List.setIfInBounds_toArray, List.set_cons_zero, List.set_cons_succ, List.nil_append, List.cons_append, Nat.reduceAdd, Nat.zero_add]
        refine Reg.SeqT.tail (by kernel_rfl) (fun δ W2 hW hkn _ => ?_)
        obtain ⟨A4, c4, e4, o4⟩ := (hkn 4 (by omega)).1 rfl
        obtain ⟨A7, c7, e7, o7⟩ := (hkn 7 (by omega)).2 rfl
        rw [e4, e7]
        refine Reg.tail_cons ?_
        refine does_app2 (by rfl) _ _ rfl rfl rfl rfl o4 (o7.lst' rfl) (by have := HLen.out; omega) (below_no hW) hW.size ?_
        intro A9 c9 w9 o9 hb9
        have HB9 := Lib.hid hb9
        rw [List.length_append] at o9
        have HS9 := Lib.hid (HSh.out w9 A9 _ c9 (o9.lst' List.length_append))
        clear o4 o7 e4 e7 hkn hW o9 hb9 c5 f5 z5
        simp only [Act.put, List.setIfInBounds_toArray, List.set_cons_zero, List.set_cons_succ, List.nil_append, List.cons_append, Nat.reduceAdd, Nat.zero_add]
        refine Reg.tail_cons ?_
        unfold Reg.Does
        go_simp
        (with_reducible refine HS9.out.mono ?_); rintro e w10 ⟨rfl, hb⟩
        have HB10 := Lib.hid (HB.out.trans ((HB9.out.trans (hb.mono HB9.out.size)).mono HB.out.size))
        clear hb
        simp only [Act.put, List.setIfInBounds_toArray, List.set_cons_zero, List.set_cons_succ, List.nil_append, List.cons_append, Nat.reduceAdd, Nat.zero_add]
        refine Reg.tail_cons ?_
        unfold Reg.Does
        go_simp
        refine Reg.tail_cons ?_
        unfold Reg.Does
        go_simp
        refine Reg.tail_nil ?_
        go_wp2_with fail
        go_ret
        exact ⟨rfl, HB10.out⟩

end S
end Go.Proofs.YthdjdlndfkemiaaGreatDoor
