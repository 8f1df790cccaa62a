/- Seals: the walk of 'SealForm'. -/
import Derived.Test.YthdjdlndfkemiaaDoorWm
set_option linter.unusedSimpArgs false
set_option linter.unusedVariables false
set_option maxRecDepth 100000
namespace Go.Proofs.YthdjdlndfkemiaaDoor
open Go.RowKit
namespace S

theorem up_isD {d : Tx} (hd : isD d = true) (n i : Nat) (q : List Tx) : isD (upT n i d q) = true := by
  by_cases h : n ≤ 1
  · rw [up_one i d q h]; exact hd
  · by_cases hi : i < hf n
    · rw [up_left d q (by omega) hi]; exact isD_node _ _
    · rw [up_right d q (by omega) hi]; exact isD_node _ _
theorem Reg.upd3a {w : World} {g : Nat} {T : TypeId} {a b c x : Value} (h : w.heap[g]? = some (.cells #[a, b, c] T (0, 0))) : Reg.Upd g #[x, b, c] T w (w.setCell ⟨g, 0, none⟩ x) := (Reg.Upd.refl h).set 0 x
theorem Reg.upd3b {w : World} {g : Nat} {T : TypeId} {a b c x : Value} (h : w.heap[g]? = some (.cells #[a, b, c] T (0, 0))) : Reg.Upd g #[a, x, c] T w (w.setCell ⟨g, 1, none⟩ x) := (Reg.Upd.refl h).set 1 x
theorem fewL_txb {l : List Tx} (h : fewL l = true) : TxB l := fun t ht => by
  have := List.all_eq_true.1 h t ht
  simp at this
  omega
theorem sub_wrap {j N : Nat} (h1 : j ≤ 256) (h2 : N ≤ 256) : wrap64 ((j : Int) - (N : Int)) = (j : Int) - (N : Int) := IntWalk.wrap64_in _ (by omega)
theorem add_wrap {j N : Nat} (h1 : j ≤ 256) (h2 : N ≤ 256) : wrap64 ((j : Int) + (N : Int)) = (j : Int) + (N : Int) := IntWalk.wrap64_in _ (by omega)
set_option maxHeartbeats 16000000 in
theorem form_walk (s0 s1 : ByteArray) (i : Int) (A B : Option Addr) (n c k d : Nat) (sig p : List Tx) (w : World) (ws0 : s0.size ≤ maxLen) (ws1 : s1.size ≤ maxLen) (h1 : Lst w A n c sig) (h2 : Lst w B k d p) (ht : Tabs w) :
    Calls Tryd.prog 3 #[.string s0, .string s1, .agg #[.int .i64 i, .slice A n c, .slice B k d]] w fun e w' => e = .returned (.bool true) ∧ Below w.heap.size w w' := by
  have HT := Lib.hid ht
  have HL := Lib.hid (And.intro h1 h2)
  clear ht ws0 ws1 h1 h2
  obtain ⟨pub, rfl⟩ : ∃ s : Tx, s0 = str s := ⟨_, (str_of _).symm⟩
  obtain ⟨m, rfl⟩ : ∃ m : Tx, s1 = str m := ⟨_, (str_of _).symm⟩
  have k5 := Lib.hid (Reg.Blk.new w #[.int .i64 i, .slice A n c, .slice B k d] 24)
  have hal : Below w.heap.size w (w.alloc (.cells #[.int .i64 i, .slice A n c, .slice B k d] 24)) := (Below.refl _ _).alloc (Nat.le_refl _) _
  have HB := Lib.hid hal
  clear hal
  go_enter Tryd.func3, Tryd.ntmps3
  go_wp2_with fail
  generalize w.alloc (.cells #[.int .i64 i, .slice A n c, .slice B k d] 24) = w0 at *
  have hg5 : Hid (w.heap.size ≤ w.heap.size) := Nat.le_refl _
  (with_reducible refine (head_any _ (HT.out.below HB.out)).mono ?_); rintro e w1 ⟨rfl, hb1⟩
  replace HB := Lib.hid (HB.out.trans (hb1.mono HB.out.size))
  replace k5 := Lib.hid (k5.out.keep hb1)
  clear hb1
  go_wp2_with fail
  have hal : Below w1.heap.size w1 (w1.alloc (.cells #[.string (str pub), .string (str m)] 9)) := (Below.refl _ _).alloc (Nat.le_refl _) _
  have hl : Lst (w1.alloc (.cells #[.string (str pub), .string (str m)] 9)) (some ⟨w1.heap.size, 0, none⟩) 2 2 [pub, m] := Lst.lit (n := 2) [pub, m] rfl (by decide) (Reg.Blk.new w1 #[.string (str pub), .string (str m)] 9)
  replace HB := Lib.hid (HB.out.trans (hal.mono HB.out.size))
  replace k5 := Lib.hid (k5.out.keep hal)
  have hq := short_any [pub, m] 2 _ 2 _ hl.at_ rfl (by decide)
  rw [short2] at hq
  clear hal hl
  (with_reducible refine hq.mono ?_); clear hq; rintro e w2 ⟨rfl, hb⟩
  replace HB := Lib.hid (HB.out.trans (hb.mono HB.out.size))
  replace k5 := Lib.hid (k5.out.keep hb)
  clear hb
  by_cases h3 : pub.length ≤ 300 ∧ m.length ≤ 300
  rotate_left
  · have hf : (decide (pub.length ≤ 300) && decide (m.length ≤ 300)) = false := by
      rw [Bool.and_eq_false_iff, decide_eq_false_iff_not, decide_eq_false_iff_not]; omega
    rw [hf]
    go_wp2_with fail
    go_ret
    exact ⟨rfl, HB.out⟩
  obtain ⟨hs3, hm3⟩ := h3
  rw [decide_eq_true hs3, decide_eq_true hm3]
  have HM := Lib.hid (show m.length ≤ 140737488351232 by omega)
  clear hs3 hm3
  obtain ⟨c5, f5, z5⟩ := k5.out.facts
  go_wp2_with fail
  (with_reducible refine (few_any _ i A B n c k d sig p (HL.out.1.below HB.out) (HL.out.2.below HB.out)).mono ?_); rintro e w3 ⟨⟨b, rfl, hbt⟩, hb⟩
  replace HB := Lib.hid (HB.out.trans (hb.mono HB.out.size))
  replace k5 := Lib.hid (k5.out.keep hb)
  clear hb c5 f5 z5
  obtain ⟨c5, f5, z5⟩ := k5.out.facts
  cases b with
  | false =>
    clear hbt
    go_wp2_with fail
    go_ret
    exact ⟨rfl, HB.out⟩
  | true =>
  have HF := Lib.hid (hbt rfl)
  clear hbt
  go_wp2_with fail
  (with_reducible refine (ver_agg pub m i A B n c k d sig p _ (HL.out.1.below HB.out) (HL.out.2.below HB.out) (fewL_txb HF.out.2.2.1) (fewL_txb HF.out.2.2.2) HM.out (HT.out.below HB.out)).mono ?_); rintro e w4 ⟨rfl, hb⟩
  replace HB := Lib.hid (HB.out.trans (hb.mono HB.out.size))
  replace k5 := Lib.hid (k5.out.keep hb)
  clear hb c5 f5 z5
  obtain ⟨c5, f5, z5⟩ := k5.out.facts
  cases hv : verB pub m i sig p with
  | false =>
    clear hv
    go_wp2_with fail
    go_ret
    exact ⟨rfl, HB.out⟩
  | true =>
  obtain ⟨j, rfl, hj, hs18, hp8, hd1, hd2, hup⟩ := ver_true hv
  have hsn := HL.out.1.len
  have hpk := HL.out.2.len
  obtain rfl : n = 18 := by omega
  obtain rfl : k = p.length := hpk.symm
  have hpub : isD pub = true := by rw [← hup]; exact up_isD (isD_list _) _ _ _
  have v1 : ∀ l : List Tx, l.length ≠ 18 → verB pub m (j : Int) l p = false := fun l hl => ver_len hl
  have v2 : verB pub m ((j : Int) + ((2 ^ p.length : Nat) : Int)) sig p = false := ver_far (by omega)
  have v3 : verB pub m ((j : Int) - ((2 ^ p.length : Nat) : Int)) sig p = false := ver_neg (by omega)
  have hpw := pow_le hp8
  have hshl := wrap_pow p.length hp8
  have hwa := add_wrap (j := j) (N := 2 ^ p.length) (by omega) hpw
  have hws := sub_wrap (j := j) (N := 2 ^ p.length) (by omega) hpw
  have HV := Lib.hid (And.intro v1 (And.intro v2 (And.intro v3 (And.intro hpub (And.intro hd1 hd2)))))
  have e8 : decide ((8 : Int) < (p.length : Int)) = false := decide_eq_false (by omega)
  have ei : decide ((j : Int) < 0) = false := decide_eq_false (by omega)
  have hin : decide (2 ^ p.length ≤ j) = false := decide_eq_false (by omega)
  clear v1 v2 v3 hpub hd1 hd2 hup hv hs18 hj hpw HF hsn
  have HIs : Hid (∀ W, Below w4.heap.size w4 W → Calls Tryd.prog 9 #[.string (str pub)] W fun e w' => e = .returned (.bool true) ∧ Below W.heap.size W w') := fun W _ => is_yes pub W HV.out.2.2.2.1
  generalize 2 ^ p.length = N at *
  go_wp2_with fail
  refine Reg.wp_region_seq (by kernel_rfl) (by kernel_rfl) ?_
  simp only
  iterate 21
    apply Reg.SeqOK.val
    · intro γ W hW K hK
      obtain ⟨hc, hf, _⟩ := bcell hW
      simp only [Act.put, List.setIfInBounds_toArray, List.set_cons_zero, List.set_cons_succ] at hK
      unfold Reg.Does
      go_simp
      try simp only [IntWalk.i64_left]
      first
        | exact hK _ (Below.refl _ _)
        | (trace_state; fail)
    simp only [Act.put, List.setIfInBounds_toArray, List.set_cons_zero, List.set_cons_succ, List.nil_append, List.cons_append, Nat.reduceAdd, Nat.zero_add]
  refine Reg.SeqOK.val (.int .i64 (N : Int)) (fun γ W hW K hK => ?_) ?_
  · simp only [Act.put, List.setIfInBounds_toArray, List.set_cons_zero, List.set_cons_succ] at hK
    unfold Reg.Does
    go_simp
    try simp only [IntWalk.i64_left]
    try simp only [hshl]
    exact hK _ (Below.refl _ _)
  simp only [Act.put, List.setIfInBounds_toArray, List.set_cons_zero, List.set_cons_succ, List.nil_append, List.cons_append, Nat.reduceAdd, Nat.zero_add]
  iterate 7
    apply Reg.SeqOK.val
    · intro γ W hW K hK
      obtain ⟨hc, hf, _⟩ := bcell hW
      simp only [Act.put, List.setIfInBounds_toArray, List.set_cons_zero, List.set_cons_succ] at hK
      unfold Reg.Does
      go_simp
      try simp only [IntWalk.i64_left]
      first
        | exact hK _ (Below.refl _ _)
        | (go_at_call 9; (with_reducible refine (HIs.out _ hW).mono ?_); rintro e w' ⟨rfl, hb⟩; exact hK _ hb)
        | (trace_state; fail)
    simp only [Act.put, List.setIfInBounds_toArray, List.set_cons_zero, List.set_cons_succ, List.nil_append, List.cons_append, Nat.reduceAdd, Nat.zero_add]
  refine Reg.SeqOK.nil (by kernel_rfl) (fun γ W1 hW _ _ _ => ?_)
  replace HB := Lib.hid (HB.out.trans (hW.mono HB.out.size))
  replace k5 := Lib.hid (k5.out.keep hW)
  clear hW c5 f5 z5 HIs e8 ei hin
  go_wp2_with fail
  generalize W1 = w5 at *
  go_loopw [8] (fun x wr => ∃ j : Nat, j ≤ 18 ∧ x = .int .i64 j ∧ Below w5.heap.size w5 wr) (fun x _ => 18 - (intOf x).toNat)
  case atStart => exact ⟨0, Nat.zero_le _, rfl, Below.refl _ _⟩
  case round =>
    obtain ⟨q, hq, rfl, hbw⟩ := hrel
    obtain ⟨c4, f4, z4⟩ := (k5.out.keep hbw).facts
    by_cases hlt : q < 18
    · have hji : decide ((q : Int) < (18 : Int)) = true := decide_eq_true (by omega)
      obtain ⟨b, off, hA, hb, c0⟩ := (HL.out.1.below (HB.out.trans (hbw.mono HB.out.size))).at_ q (by rw [HL.out.1.len]; exact hlt)
      subst hA
      have hki : (q : Int) < (18 : Int) := by omega
      have hk0 : (0 : Int) ≤ (q : Int) := by omega
      have hkl : q < sig.length := by rw [HL.out.1.len]; exact hlt
      have hD : isD sig[q] = true := List.all_eq_true.1 HV.out.2.2.2.2.1 _ (List.getElem_mem hkl)
      have HQ := Lib.hid (is_yes sig[q] wr hD)
      have HR := Lib.hid hbw
      clear hD hbw
      generalize sig[q] = t at *
      go_wp2_with fail
      (with_reducible refine HQ.out.mono ?_); rintro e wq ⟨rfl, hbq⟩
      have HR2 := Lib.hid (HR.out.trans (hbq.mono HR.out.size))
      clear hbq HR c4 f4 z4
      go_wp2_with fail
      refine ⟨⟨q + 1, by omega, by go_num, HR2.out⟩, by simp [intOf]; omega⟩
    · have hji : decide ((q : Int) < (18 : Int)) = false := decide_eq_false (by omega)
      have HR0 := Lib.hid hbw
      clear hbw
      go_wp2_with fail
      clear c4 f4 z4
      go_loopw [9] (fun x wr => ∃ j : Nat, j ≤ p.length ∧ x = .int .i64 j ∧ Below w5.heap.size w5 wr) (fun x _ => p.length - (intOf x).toNat)
      case atStart => exact ⟨0, Nat.zero_le _, rfl, HR0.out⟩
      case round =>
        obtain ⟨q, hq, rfl, hbw⟩ := hrel
        obtain ⟨c4, f4, z4⟩ := (k5.out.keep hbw).facts
        by_cases hlt : q < p.length
        · have hji : decide ((q : Int) < (p.length : Int)) = true := decide_eq_true (by omega)
          obtain ⟨b, off, hA, hb, c0⟩ := (HL.out.2.below (HB.out.trans (hbw.mono HB.out.size))).at_ q (by rw [HL.out.2.len]; exact hlt)
          subst hA
          have hki : (q : Int) < (p.length : Int) := by omega
          have hk0 : (0 : Int) ≤ (q : Int) := by omega
          have hkl : q < p.length := by rw [HL.out.2.len]; exact hlt
          have hD : isD p[q] = true := List.all_eq_true.1 HV.out.2.2.2.2.2 _ (List.getElem_mem hkl)
          have HQ := Lib.hid (is_yes p[q] wr hD)
          have HR := Lib.hid hbw
          clear hD hbw
          generalize p[q] = t at *
          go_wp2_with fail
          (with_reducible refine HQ.out.mono ?_); rintro e wq ⟨rfl, hbq⟩
          have HR2 := Lib.hid (HR.out.trans (hbq.mono HR.out.size))
          clear hbq HR c4 f4 z4
          go_wp2_with fail
          refine ⟨⟨q + 1, by omega, by go_num, HR2.out⟩, by simp [intOf]; omega⟩
        · have hji : decide ((q : Int) < (p.length : Int)) = false := decide_eq_false (by omega)
          have HR0 := Lib.hid hbw
          clear hbw
          obtain ⟨A1, r1, m1⟩ := to_L (k := 17) HL.out.1 (by omega)
          have r1' : ∀ w, (Instr.slice 22 (.slice A 18 c) none (some (.int .i64 17)) none).run Tryd.prog w = .ok (.slice A1 17 c) w := r1
          have d1 : ¬ wr.heap.size = w.heap.size := by have := z4; omega
          have d2 : ¬ w.heap.size = wr.heap.size := by have := z4; omega
          have d3 : ¬ wr.heap.size + 1 = w.heap.size := by have := z4; omega
          have d4 : ¬ w.heap.size = wr.heap.size + 1 := by have := z4; omega
          have M1 := Lib.hid m1
          clear r1 m1
          go_wp2_with fail
          obtain ⟨n10, n11⟩ := Reg.Blk.new2 (w := wr) (C := #[.int .i64 j, .slice A1 17 c, .slice B p.length d]) (T := 24) (C' := #[.int .i64 j, .slice A 18 c, .slice B p.length d]) (T' := 24) (Below.refl _ _)
          have hal : Below wr.heap.size wr ((wr.alloc (.cells #[.int .i64 j, .slice A1 17 c, .slice B p.length d] 24)).alloc (.cells #[.int .i64 j, .slice A 18 c, .slice B p.length d] 24)) := ((Below.refl _ _).alloc (Nat.le_refl _) _).alloc (by simp) _
          have hsz : ((wr.alloc (.cells #[.int .i64 j, .slice A1 17 c, .slice B p.length d] 24)).alloc (.cells #[.int .i64 j, .slice A 18 c, .slice B p.length d] 24)).heap.size = wr.heap.size + 2 := by simp
          generalize (wr.alloc (.cells #[.int .i64 j, .slice A1 17 c, .slice B p.length d] 24)).alloc (.cells #[.int .i64 j, .slice A 18 c, .slice B p.length d] 24) = w6 at *
          have hlt := z4
          have HWA := Lib.hid hwa
          have HWS := Lib.hid hws
          clear hwa hws
          have HB6 := Lib.hid (HB.out.trans ((HR0.out.trans (hal.mono HR0.out.size)).mono HB.out.size))
          have K5 := Lib.hid ((k5.out.keep HR0.out).keep hal)
          have k10 := Lib.hid n10
          have k11 := Lib.hid n11
          clear hal c4 f4 z4 d1 d2 d3 d4 hji r1' n10
          generalize wr.heap.size = g at *
          obtain ⟨c4, f4, z4⟩ := K5.out.facts
          have d1 : ¬ w.heap.size = g + 1 := by omega
          have d2 : ¬ g + 1 = w.heap.size := by omega
          have HZ := Lib.hid (And.intro hsz hlt)
          clear hsz hlt
          refine Reg.wp_region_seqK (fun k => k = g + 1) (by kernel_rfl) (by kernel_rfl) ?_
          simp only
          iterate 5
            apply Reg.SeqOK.val
            · intro γ W hW K hK
              obtain ⟨hc, hf, _⟩ := Reg.kcell hW
              simp only [Act.put, List.setIfInBounds_toArray, List.set_cons_zero, List.set_cons_succ] at hK
              unfold Reg.Does
              go_simp
              try simp only [IntWalk.i64_left]
              first
                | exact hK _ (Below.refl _ _)
                | (trace_state; fail)
            simp only [Act.put, List.setIfInBounds_toArray, List.set_cons_zero, List.set_cons_succ, List.nil_append, List.cons_append, Nat.reduceAdd, Nat.zero_add]
          refine Reg.SeqOK.val (.int .i64 (N : Int)) (fun γ W hW K hK => ?_) ?_
          · simp only [Act.put, List.setIfInBounds_toArray, List.set_cons_zero, List.set_cons_succ] at hK
            unfold Reg.Does
            go_simp
            try simp only [IntWalk.i64_left]
            try simp only [hshl]
            exact hK _ (Below.refl _ _)
          simp only [Act.put, List.setIfInBounds_toArray, List.set_cons_zero, List.set_cons_succ, List.nil_append, List.cons_append, Nat.reduceAdd, Nat.zero_add]
          refine Reg.SeqOK.val (.int .i64 ((j : Int) + (N : Int))) (fun γ W hW K hK => ?_) ?_
          · simp only [Act.put, List.setIfInBounds_toArray, List.set_cons_zero, List.set_cons_succ] at hK
            unfold Reg.Does
            go_simp
            try simp only [IntWalk.i64_left]
            try simp only [HWA.out]
            exact hK _ (Below.refl _ _)
          simp only [Act.put, List.setIfInBounds_toArray, List.set_cons_zero, List.set_cons_succ, List.nil_append, List.cons_append, Nat.reduceAdd, Nat.zero_add]
          iterate 1
            apply Reg.SeqOK.val
            · intro γ W hW K hK
              obtain ⟨hc, hf, _⟩ := Reg.kcell hW
              simp only [Act.put, List.setIfInBounds_toArray, List.set_cons_zero, List.set_cons_succ] at hK
              unfold Reg.Does
              go_simp
              try simp only [IntWalk.i64_left]
              first
                | exact hK _ (Below.refl _ _)
                | (trace_state; fail)
            simp only [Act.put, List.setIfInBounds_toArray, List.set_cons_zero, List.set_cons_succ, List.nil_append, List.cons_append, Nat.reduceAdd, Nat.zero_add]
          apply Reg.SeqOK.old (g := g + 1) (hB := (Reg.updK (M := fun k => k = g + 1) rfl)) (hg := n11) (hne := by simp [Reg.NotOld])
          · intro γ W hW hat K hK
            obtain ⟨hcl, hfr⟩ := Reg.cells_at hat
            simp only [Act.put, List.setIfInBounds_toArray, List.set_cons_zero, List.set_cons_succ] at hK
            unfold Reg.Does
            go_simp
            exact hK _ (Reg.upd3a hat)
          simp only [Act.put, List.setIfInBounds_toArray, List.set_cons_zero, List.set_cons_succ, List.nil_append, List.cons_append, Nat.reduceAdd, Nat.zero_add]
          refine Reg.SeqOK.nil (by kernel_rfl) (fun γ w7 hW hx1 hx2 hO => ?_)
          clear hx1 hx2
          simp only [Reg.Olds, and_true] at hO
          have b11 : Reg.Blk (g + 1) #[.int .i64 ((j : Int) + (N : Int)), .slice A 18 c, .slice B p.length d] 24 w7 := hO
          have hsz := HZ.out.1
          have hlt := HZ.out.2
          have hb7 : Below w.heap.size w6 w7 := hW.below fun k hk => ⟨by omega, by omega⟩
          have HB7 := Lib.hid (HB6.out.trans hb7)
          replace K5 := Lib.hid (keep_blk hW K5.out (by omega))
          replace k10 := Lib.hid (keep_blk hW k10.out (by omega))
          have hs7 := hW.size
          clear hW hO n11 k11 c4 f4 z4 hb7
          have k11 := Lib.hid b11
          obtain ⟨c4, f4, z4⟩ := K5.out.facts
          have d3 : ¬ w7.heap.size = w.heap.size := by omega
          have d4 : ¬ w.heap.size = w7.heap.size := by omega
          clear b11
          go_wp2_with fail
          have n12 := Reg.Blk.new w7 #[.int .i64 j, .slice A 18 c, .slice B p.length d] 24
          have hal : Below w7.heap.size w7 (w7.alloc (.cells #[.int .i64 j, .slice A 18 c, .slice B p.length d] 24)) := (Below.refl _ _).alloc (Nat.le_refl _) _
          have hsz8 : (w7.alloc (.cells #[.int .i64 j, .slice A 18 c, .slice B p.length d] 24)).heap.size = w7.heap.size + 1 := by simp
          generalize w7.alloc (.cells #[.int .i64 j, .slice A 18 c, .slice B p.length d] 24) = w8 at *
          have HB8 := Lib.hid (HB7.out.trans (hal.mono HB7.out.size))
          replace K5 := Lib.hid (K5.out.keep hal)
          replace k10 := Lib.hid (k10.out.keep hal)
          replace k11 := Lib.hid (k11.out.keep hal)
          clear hal c4 f4 z4 d1 d2
          have hg7 : g + 2 ≤ w7.heap.size := by omega
          generalize w7.heap.size = g7 at *
          obtain ⟨c4, f4, z4⟩ := K5.out.facts
          have HZ8 := Lib.hid (And.intro hsz (And.intro hsz8 (And.intro hg7 (And.intro hlt hs7))))
          clear hsz hsz8 hg7 hlt hs7
          refine Reg.wp_region_seqK (fun k => k = g7) (by kernel_rfl) (by kernel_rfl) ?_
          simp only
          iterate 5
            apply Reg.SeqOK.val
            · intro γ W hW K hK
              obtain ⟨hc, hf, _⟩ := Reg.kcell hW
              simp only [Act.put, List.setIfInBounds_toArray, List.set_cons_zero, List.set_cons_succ] at hK
              unfold Reg.Does
              go_simp
              try simp only [IntWalk.i64_left]
              first
                | exact hK _ (Below.refl _ _)
                | (trace_state; fail)
            simp only [Act.put, List.setIfInBounds_toArray, List.set_cons_zero, List.set_cons_succ, List.nil_append, List.cons_append, Nat.reduceAdd, Nat.zero_add]
          refine Reg.SeqOK.val (.int .i64 (N : Int)) (fun γ W hW K hK => ?_) ?_
          · simp only [Act.put, List.setIfInBounds_toArray, List.set_cons_zero, List.set_cons_succ] at hK
            unfold Reg.Does
            go_simp
            try simp only [IntWalk.i64_left]
            try simp only [hshl]
            exact hK _ (Below.refl _ _)
          simp only [Act.put, List.setIfInBounds_toArray, List.set_cons_zero, List.set_cons_succ, List.nil_append, List.cons_append, Nat.reduceAdd, Nat.zero_add]
          refine Reg.SeqOK.val (.int .i64 ((j : Int) - (N : Int))) (fun γ W hW K hK => ?_) ?_
          · simp only [Act.put, List.setIfInBounds_toArray, List.set_cons_zero, List.set_cons_succ] at hK
            unfold Reg.Does
            go_simp
            try simp only [IntWalk.i64_left]
            try simp only [HWS.out]
            exact hK _ (Below.refl _ _)
          simp only [Act.put, List.setIfInBounds_toArray, List.set_cons_zero, List.set_cons_succ, List.nil_append, List.cons_append, Nat.reduceAdd, Nat.zero_add]
          iterate 1
            apply Reg.SeqOK.val
            · intro γ W hW K hK
              obtain ⟨hc, hf, _⟩ := Reg.kcell hW
              simp only [Act.put, List.setIfInBounds_toArray, List.set_cons_zero, List.set_cons_succ] at hK
              unfold Reg.Does
              go_simp
              try simp only [IntWalk.i64_left]
              first
                | exact hK _ (Below.refl _ _)
                | (trace_state; fail)
            simp only [Act.put, List.setIfInBounds_toArray, List.set_cons_zero, List.set_cons_succ, List.nil_append, List.cons_append, Nat.reduceAdd, Nat.zero_add]
          apply Reg.SeqOK.old (g := g7) (hB := (Reg.updK (M := fun k => k = g7) rfl)) (hg := n12) (hne := by simp [Reg.NotOld])
          · intro γ W hW hat K hK
            obtain ⟨hcl, hfr⟩ := Reg.cells_at hat
            simp only [Act.put, List.setIfInBounds_toArray, List.set_cons_zero, List.set_cons_succ] at hK
            unfold Reg.Does
            go_simp
            exact hK _ (Reg.upd3a hat)
          simp only [Act.put, List.setIfInBounds_toArray, List.set_cons_zero, List.set_cons_succ, List.nil_append, List.cons_append, Nat.reduceAdd, Nat.zero_add]
          refine Reg.SeqOK.nil (by kernel_rfl) (fun γ w9 hW hx1 hx2 hO => ?_)
          clear hx1 hx2
          simp only [Reg.Olds, and_true] at hO
          have b12 : Reg.Blk g7 #[.int .i64 ((j : Int) - (N : Int)), .slice A 18 c, .slice B p.length d] 24 w9 := hO
          obtain ⟨hsz, hsz8, hg7, hlt, hs7⟩ := HZ8.out
          have hb9 : Below w.heap.size w8 w9 := hW.below fun k hk => ⟨by omega, by omega⟩
          have HB9 := Lib.hid (HB8.out.trans hb9)
          replace K5 := Lib.hid (keep_blk hW K5.out (by omega))
          replace k10 := Lib.hid (keep_blk hW k10.out (by omega))
          replace k11 := Lib.hid (keep_blk hW k11.out (by omega))
          clear hW hO n12 c4 f4 z4 hb9 hshl HWA HWS
          have k12 := Lib.hid b12
          clear b12 d3 d4 hsz hsz8 hg7 hlt hs7
          obtain ⟨c10, f10, z10⟩ := k10.out.facts
          go_wp2_with fail
          have hq := ver_agg pub m j A1 B 17 c p.length d (sig.take 17) p _ (M1.out.below HB9.out) (HL.out.2.below HB9.out) (txb_take (txb_dig HV.out.2.2.2.2.1) 17) (txb_dig HV.out.2.2.2.2.2) HM.out (HT.out.below HB9.out)
          rw [HV.out.1 _ (by rw [List.length_take]; omega)] at hq
          (with_reducible refine hq.mono ?_); clear hq; rintro e wa ⟨rfl, hb⟩
          have HBa := Lib.hid (HB9.out.trans (hb.mono HB9.out.size))
          replace k11 := Lib.hid (k11.out.keep hb)
          replace k12 := Lib.hid (k12.out.keep hb)
          clear hb c10 f10 z10 k10
          obtain ⟨c11, f11, z11⟩ := k11.out.facts
          go_wp2_with fail
          have hq := ver_agg pub m ((j : Int) + (N : Int)) A B 18 c p.length d sig p _ (HL.out.1.below HBa.out) (HL.out.2.below HBa.out) (txb_dig HV.out.2.2.2.2.1) (txb_dig HV.out.2.2.2.2.2) HM.out (HT.out.below HBa.out)
          rw [HV.out.2.1] at hq
          (with_reducible refine hq.mono ?_); clear hq; rintro e wb ⟨rfl, hb⟩
          have HBb := Lib.hid (HBa.out.trans (hb.mono HBa.out.size))
          replace k12 := Lib.hid (k12.out.keep hb)
          clear hb c11 f11 z11 k11
          obtain ⟨c12, f12, z12⟩ := k12.out.facts
          go_wp2_with fail
          have hq := ver_agg pub m ((j : Int) - (N : Int)) A B 18 c p.length d sig p _ (HL.out.1.below HBb.out) (HL.out.2.below HBb.out) (txb_dig HV.out.2.2.2.2.1) (txb_dig HV.out.2.2.2.2.2) HM.out (HT.out.below HBb.out)
          rw [HV.out.2.2.1] at hq
          (with_reducible refine hq.mono ?_); clear hq; rintro e wc ⟨rfl, hb⟩
          have HBc := Lib.hid (HBb.out.trans (hb.mono HBb.out.size))
          clear hb c12 f12 z12 k12
          go_wp2_with fail
          go_ret
          exact ⟨rfl, HBc.out⟩

end S
end Go.Proofs.YthdjdlndfkemiaaDoor

