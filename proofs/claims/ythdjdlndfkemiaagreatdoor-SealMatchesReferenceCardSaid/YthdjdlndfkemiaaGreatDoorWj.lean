/- Seals: plain laws of 'Verify'; the law's 'short'. -/
import Derived.Test.YthdjdlndfkemiaaGreatDoorWi
import Derived.Test.YthdjdlndfkemiaaGreatDoorTx
set_option linter.unusedSimpArgs false
set_option linter.unusedVariables false
set_option maxRecDepth 100000
namespace Go.Proofs.YthdjdlndfkemiaaGreatDoor
open Go.RowKit
namespace S

theorem ver_true {pub m : Tx} {i : Int} {sig p : List Tx} (h : verB pub m i sig p = true) : ∃ j : Nat, i = j ∧ j < 2 ^ p.length ∧ sig.length = 18 ∧ p.length ≤ 8 ∧ sig.all isD = true ∧ p.all isD = true ∧ upT (2 ^ p.length) j (leaf (listL (endsV sig m))) p.reverse = pub := by
  unfold verB at h
  simp only [Bool.and_eq_true, decide_eq_true_eq] at h
  obtain ⟨h1, h2, h3, h4, h5, h6, h7⟩ := h
  obtain ⟨j, rfl⟩ := Int.eq_ofNat_of_zero_le h5
  obtain ⟨_, _, h8, _⟩ := check_true h7
  exact ⟨j, rfl, by omega, h1, h2, h3, h4, h8⟩
theorem path_two (s : Tx) (h i : Nat) (hi : i < 2 ^ h) : (pathT (leavesT s h) i).length = h := by rw [path_len _ _ i rfl, leaves_len, len_two h i hi]
/-- A seal is accepted for its public key. -/
theorem ver_sign (s m : Tx) (h i : Nat) (hh : h ≤ 8) (hi : i < 2 ^ h) : verB (pubT s h) m i (sigT s i m) (pathT (leavesT s h) i) = true := by
  have hp := path_two s h i hi
  have hi' : i < (leavesT s h).length := by rw [leaves_len]; exact hi
  have hc := inc_yes (leavesT s h) i hi' (leaves_dig s h) (by rw [leaves_len]; have := pow_le hh; omega)
  rw [leaves_at, leaves_len] at hc
  unfold verB
  rw [ends_sig, sig_len, hp, sig_dig, path_dig _ _ i rfl (leaves_dig s h), decide_eq_true (p := h ≤ 8) hh, decide_eq_true (p := (0 : Int) ≤ (i : Int)) (by omega), decide_eq_true (p := (i : Int) < ((2 ^ h : Nat) : Int)) (by omega)]
  simp only [decide_true, Bool.true_and]
  exact hc
theorem ver_pub {pub m : Tx} {i : Int} {sig p : List Tx} (h : verB pub m i sig p = true) (q : Tx) (hq : q ≠ pub) : verB q m i sig p = false := by
  cases hv : verB q m i sig p with
  | false => rfl
  | true =>
    obtain ⟨j, rfl, _, _, _, _, _, h1⟩ := ver_true h
    obtain ⟨k, e, _, _, _, _, _, h2⟩ := ver_true hv
    obtain rfl : j = k := by omega
    exact absurd (h2.symm.trans h1) hq
theorem ver_len {pub m : Tx} {i : Int} {sig p : List Tx} (h : sig.length ≠ 18) : verB pub m i sig p = false := by unfold verB; rw [decide_eq_false h]; rfl
theorem ver_far {pub m : Tx} {i : Int} {sig p : List Tx} (h : ((2 ^ p.length : Nat) : Int) ≤ i) : verB pub m i sig p = false := by
  unfold verB; rw [decide_eq_false (p := i < ((2 ^ p.length : Nat) : Int)) (by omega)]; simp
theorem ver_neg {pub m : Tx} {i : Int} {sig p : List Tx} (h : i < 0) : verB pub m i sig p = false := by
  unfold verB; rw [decide_eq_false (p := 0 ≤ i) (by omega)]; simp
theorem txb_dig {l : List Tx} (h : l.all isD = true) : TxB l := fun t ht => by have := isD_len (List.all_eq_true.1 h t ht); omega
theorem txb_take {l : List Tx} (h : TxB l) (k : Nat) : TxB (l.take k) := fun t ht => h t (List.mem_of_mem_take ht)
theorem txb_drop {l : List Tx} (h : TxB l) (k : Nat) : TxB (l.drop k) := fun t ht => h t (List.mem_of_mem_drop ht)
theorem from_L {W : World} {A : Option Addr} {n c k : Nat} {l : List Tx} (h : Lst W A n c l) (hk : k ≤ n) :
    ∃ A', (∀ w, (Instr.slice 27 (.slice A n c) (some (.int .i64 (k : Int))) none none).run Tryz.prog w = .ok (.slice A' (n - k) (c - k)) w) ∧ Lst W A' (n - k) (c - k) (l.drop k) := by
  obtain ⟨h1, rfl, h3, h4, h5⟩ := h
  obtain ⟨A', e1, e2, e3⟩ := strs_from (l := l) (A := A) (c := c) (k := k) h5 hk h3
  exact ⟨A', e2, e3 W h1, by rw [List.length_drop], by omega, by omega, e1⟩

def shortB (l : List Tx) : Bool := l.all fun t => decide (t.length ≤ 300)
theorem short_any (l : List Tx) (n : Nat) (A : Option Addr) (c : Nat) (w : World) (hl : StrsAt w A l) (hn : l.length = n) (h9 : n ≤ 9223372036854775807) :
    Calls Tryz.prog 9 #[.slice A n c] w fun e w' => e = .returned (.bool (shortB l)) ∧ Below w.heap.size w w' := by
  have HL := Lib.hid hl
  have HN := Lib.hid hn
  clear hl hn
  go_enter Tryz.func9, Tryz.ntmps9
  go_wp2_with fail
  go_loopw [3] (fun x wr => ∃ k : Nat, k ≤ n ∧ x = .int .i64 k ∧ shortB (l.take k) = true ∧ Below w.heap.size w wr) (fun x _ => n - (intOf x).toNat)
  case atStart => exact ⟨0, Nat.zero_le _, rfl, by simp [shortB], Below.refl _ _⟩
  case round =>
    obtain ⟨k, hk, rfl, hs, hbw⟩ := hrel
    have HS := Lib.hid hs
    have HB := Lib.hid hbw
    clear hs hbw
    by_cases hlt : k < n
    · obtain ⟨b, off, hA, hb, c0⟩ := (HL.out.below HB.out) k (by rw [HN.out]; exact hlt)
      subst hA
      have hki : (k : Int) < (n : Int) := by omega
      have hk0 : (0 : Int) ≤ (k : Int) := by omega
      have hkl : k < l.length := by rw [HN.out]; exact hlt
      have hT : Hid (l.take (k + 1) = l.take k ++ [l[k]]) := (List.take_append_getElem hkl).symm
      have hin : Hid (l[k] ∈ l) := List.getElem_mem hkl
      have hst : (str l[k]).size = l[k].length := str_size _
      generalize l[k] = t at *
      by_cases h3 : t.length ≤ 300
      · have h3i : decide ((300 : Int) < (t.length : Int)) = false := decide_eq_false (by omega)
        have h3n : ¬ 300 < t.length := by omega
        go_wp2_with fail
        refine ⟨⟨k + 1, by omega, by go_num, ?_, HB.out⟩, by simp [intOf]; omega⟩
        rw [hT.out]
        unfold shortB at *
        rw [List.all_append, HS.out]
        simp [h3]
      · have h3i : decide ((300 : Int) < (t.length : Int)) = true := decide_eq_true (by omega)
        have h3n : 300 < t.length := by omega
        go_wp2_with fail
        go_ret
        refine ⟨ret_bool ?_, HB.out⟩
        unfold shortB
        rw [eq_comm, List.all_eq_false]
        exact ⟨t, hin.out, by simp [h3]⟩
    · obtain rfl : k = n := by omega
      go_wp2_with fail
      go_ret
      refine ⟨ret_bool ?_, HB.out⟩
      have := HS.out
      rw [List.take_of_length_le (by rw [HN.out]; exact Nat.le_refl _)] at this
      rw [this]

end S
end Go.Proofs.YthdjdlndfkemiaaGreatDoor

/- Seals: the law's 'head'. -/
namespace Go.Proofs.YthdjdlndfkemiaaGreatDoor
open Go.RowKit
namespace S

def secT : Tx := [115, 101, 99, 114, 101, 116]
def msgT : Tx := [109, 101, 115, 115, 97, 103, 101]
theorem pub_ne (s : Tx) (h : Nat) : ([] : Tx) ≠ pubT s h := fun e => by
  have := pub_dig s h
  rw [← e] at this
  revert this; decide

set_option maxHeartbeats 8000000 in
theorem head_any (w : World) (ht : Tabs w) : Calls Tryz.prog 8 #[] w fun e w' => e = .returned (.bool true) ∧ Below w.heap.size w w' := by
  have C1 : Hid (∀ W, Tabs W → Calls Tryz.prog 10 #[.string { data := #[115, 101, 99, 114, 101, 116] }, .int .i64 2] W fun e w' => e = .returned (.tuple #[.string (str (pubT secT 2)), .int .i64 0]) ∧ Below W.heap.size W w') := fun W ht => public_yes secT 2 W (by decide) (by decide) ht
  have C2 : Hid (∀ W, Calls Tryz.prog 10 #[.string { data := #[115, 101, 99, 114, 101, 116] }, .int .i64 9] W fun e w' => e = .returned (.tuple #[.string (str []), .int .i64 1]) ∧ Below W.heap.size W w') := fun W => public_no secT 9 W (by decide)
  have C3 : Hid (∀ W, Tabs W → Calls Tryz.prog 11 #[.string { data := #[115, 101, 99, 114, 101, 116] }, .int .i64 2, .int .i64 3, .string { data := #[109, 101, 115, 115, 97, 103, 101] }] W fun e w' =>
      (∃ A c B d, e = .returned (.tuple #[.agg #[.int .i64 3, .slice A 18 c, .slice B 2 d], .int .i64 0]) ∧ Lst w' A 18 c (sigT secT 3 msgT) ∧ Lst w' B 2 d (pathT (leavesT secT 2) 3)) ∧ Below W.heap.size W w') := fun W ht => sign_ok secT msgT 2 3 W (by decide) (by decide) (by decide) (by decide) ht
  have C4 : Hid (∀ W, Calls Tryz.prog 11 #[.string { data := #[115, 101, 99, 114, 101, 116] }, .int .i64 2, .int .i64 4, .string { data := #[109, 101, 115, 115, 97, 103, 101] }] W fun e w' => e = .returned (.tuple #[.agg #[.int .i64 0, .slice none 0 0, .slice none 0 0], .int .i64 1]) ∧ Below W.heap.size W w') :=
    fun W => sign_no4 _ _ 2 4 W (by decide) (by decide) (by decide)
  have hv := ver_sign secT msgT 2 3 (by decide) (by decide)
  have CV : Hid (∀ (pub : Tx) (i : Int) (A B : Option Addr) (n c k d : Nat) (sig p : List Tx) (W : World), Lst W A n c sig → Lst W B k d p → TxB sig → TxB p → Tabs W →
      Calls Tryz.prog 12 #[.string (str pub), .string { data := #[109, 101, 115, 115, 97, 103, 101] }, .agg #[.int .i64 i, .slice A n c, .slice B k d]] W fun e w' => e = .returned (.bool (verB pub msgT i sig p)) ∧ Below W.heap.size W w') :=
    fun pub i A B n c k d sig p W h1 h2 t1 t2 ht => ver_agg pub msgT i A B n c k d sig p W h1 h2 t1 t2 (by decide) ht
  have hdS := txb_dig (sig_dig secT 3 msgT)
  have hdP := txb_dig (path_dig _ (leavesT secT 2) 3 rfl (leaves_dig secT 2))
  have hlP := path_two secT 2 3 (by decide)
  have hlS := sig_len secT 3 msgT
  have v2 : verB (pubT secT 2) msgT 3 (sigT secT 3 msgT) ((pathT (leavesT secT 2) 3).take 1) = false := ver_far (by rw [List.length_take, hlP]; decide)
  have v3 : verB (pubT secT 2) msgT 3 ((sigT secT 3 msgT).drop 1) (pathT (leavesT secT 2) 3) = false := ver_len (by rw [List.length_drop, hlS]; decide)
  have v4 : verB [] msgT 3 (sigT secT 3 msgT) (pathT (leavesT secT 2) 3) = false := ver_pub hv _ (pub_ne _ _)
  have HT := Lib.hid ht
  have hv' : verB (pubT secT 2) msgT 3 (sigT secT 3 msgT) (pathT (leavesT secT 2) 3) = true := hv
  have HV := Lib.hid (And.intro hv' (And.intro v2 (And.intro v3 v4)))
  have HX := Lib.hid (And.intro hdS hdP)
  clear hv hv' v2 v3 v4 hdS hdP hlP hlS ht
  generalize pubT secT 2 = P at *
  generalize sigT secT 3 msgT = Sg at *
  generalize pathT (leavesT secT 2) 3 = Pa at *
  go_enter Tryz.func8, Tryz.ntmps8
  go_wp2_with fail
  (with_reducible refine (C1.out _ HT.out).mono ?_); rintro e w1 ⟨rfl, hb1⟩
  have HB := Lib.hid hb1
  clear hb1 C1
  go_wp2_with fail
  (with_reducible refine (C2.out _).mono ?_); rintro e w2 ⟨rfl, hb2⟩
  replace HB := Lib.hid (HB.out.trans (hb2.mono HB.out.size))
  clear hb2 C2
  go_wp2_with fail
  (with_reducible refine (C3.out _ (HT.out.below HB.out)).mono ?_); rintro e w3 ⟨⟨A, c, B, d, rfl, l1, l2⟩, hb3⟩
  replace HB := Lib.hid (HB.out.trans (hb3.mono HB.out.size))
  have HL := Lib.hid (And.intro l1 l2)
  clear hb3 C3 l1 l2
  have k5 := Reg.Blk.new w3 #[.int .i64 3, .slice A 18 c, .slice B 2 d] 29
  go_wp2_with fail
  (with_reducible refine (C4.out _).mono ?_); rintro e w4 ⟨rfl, hb4⟩
  have hal : Below w3.heap.size w3 (w3.alloc (.cells #[.int .i64 3, .slice A 18 c, .slice B 2 d] 29)) := (Below.refl _ _).alloc (Nat.le_refl _) _
  have hb34 : Below w3.heap.size w3 w4 := hal.trans (hb4.mono (by simp))
  replace HB := Lib.hid (HB.out.trans (hb34.mono HB.out.size))
  have l1 := HL.out.1.below hb34
  have l2 := HL.out.2.below hb34
  have k5b := k5.keep hb4
  generalize w3.heap.size = g5 at *
  obtain ⟨B1, r1, m1⟩ := to_L (k := 1) l2 (by omega)
  obtain ⟨A1, r2, m2⟩ := from_L (k := 1) l1 (by omega)
  have q1 : ∀ w, (Instr.slice 27 (.slice B 2 d) none (some (.int .i64 1)) none).run Tryz.prog w = .ok (.slice B1 1 d) w := r1
  have q2 : ∀ w, (Instr.slice 27 (.slice A 18 c) (some (.int .i64 1)) none none).run Tryz.prog w = .ok (.slice A1 17 (c - 1)) w := r2
  have HL4 := Lib.hid (And.intro l1 (And.intro l2 (And.intro m1 m2)))
  obtain ⟨c5, f5, z5⟩ := k5b.facts
  have K5 := Lib.hid k5b
  clear k5 k5b hal hb34 hb4 C4 l1 l2 r1 r2 m1 m2 HL
  have d1 : ¬ w4.heap.size + 1 = g5 := by omega
  have d2 : ¬ g5 = w4.heap.size + 1 := by omega
  have d3 : ¬ w4.heap.size + 1 + 1 = g5 := by omega
  have d4 : ¬ g5 = w4.heap.size + 1 + 1 := by omega
  have d5 : ¬ w4.heap.size = g5 := by omega
  have d6 : ¬ g5 = w4.heap.size := by omega
  have z51 : g5 < w4.heap.size + 1 := by omega
  have z52 : g5 < w4.heap.size + 1 + 1 := by omega
  have z53 : g5 < w4.heap.size + 1 + 1 + 1 := by omega
  go_wp2_with fail
  obtain ⟨_, k9, k10⟩ := Reg.Blk.new3 (w := w4) (C := #[.int .i64 0, .slice none 0 0, .slice none 0 0]) (T := 29) (C' := #[.int .i64 3, .slice A 18 c, .slice B1 1 d]) (T' := 29) (C'' := #[.int .i64 3, .slice A1 17 (c - 1), .slice B 2 d]) (T'' := 29) (Below.refl _ _)
  have hal : Below w4.heap.size w4 (((w4.alloc (.cells #[.int .i64 0, .slice none 0 0, .slice none 0 0] 29)).alloc (.cells #[.int .i64 3, .slice A 18 c, .slice B1 1 d] 29)).alloc (.cells #[.int .i64 3, .slice A1 17 (c - 1), .slice B 2 d] 29)) := (((Below.refl _ _).alloc (Nat.le_refl _) _).alloc (by simp) _).alloc (by simp; omega) _
  generalize (((w4.alloc (.cells #[.int .i64 0, .slice none 0 0, .slice none 0 0] 29)).alloc (.cells #[.int .i64 3, .slice A 18 c, .slice B1 1 d] 29)).alloc (.cells #[.int .i64 3, .slice A1 17 (c - 1), .slice B 2 d] 29)) = w5 at *
  replace HB := Lib.hid (HB.out.trans (hal.mono HB.out.size))
  replace K5 := Lib.hid (K5.out.keep hal)
  have K9 := Lib.hid k9
  have K10 := Lib.hid k10
  have HL5 := Lib.hid (And.intro (HL4.out.1.below hal) (And.intro (HL4.out.2.1.below hal) (And.intro (HL4.out.2.2.1.below hal) (HL4.out.2.2.2.below hal))))
  clear hal k9 k10 c5 f5 z5 d1 d2 d3 d4 d5 d6 z51 z52 z53 q1 q2
  generalize w4.heap.size = g4 at *
  obtain ⟨c5, f5, z5⟩ := K5.out.facts
  obtain ⟨c9, f9, z9⟩ := K9.out.facts
  obtain ⟨c10, f10, z10⟩ := K10.out.facts
  have hq := CV.out P 3 A B 18 c 2 d Sg Pa _ HL5.out.1 HL5.out.2.1 HX.out.1 HX.out.2 (HT.out.below HB.out)
  rw [HV.out.1] at hq
  (with_reducible refine hq.mono ?_); clear hq; rintro e w6 ⟨rfl, hb⟩
  replace HB := Lib.hid (HB.out.trans (hb.mono HB.out.size))
  replace K5 := Lib.hid (K5.out.keep hb)
  replace K9 := Lib.hid (K9.out.keep hb)
  replace K10 := Lib.hid (K10.out.keep hb)
  have HL6 := Lib.hid (And.intro (HL5.out.1.below hb) (And.intro (HL5.out.2.1.below hb) (And.intro (HL5.out.2.2.1.below hb) (HL5.out.2.2.2.below hb))))
  clear hb c5 f5 z5 c9 f9 z9 c10 f10 z10
  obtain ⟨c5, f5, z5⟩ := K5.out.facts
  obtain ⟨c9, f9, z9⟩ := K9.out.facts
  obtain ⟨c10, f10, z10⟩ := K10.out.facts
  go_wp2_with fail
  have hq := CV.out P 3 A B1 18 c 1 d Sg (Pa.take 1) _ HL6.out.1 HL6.out.2.2.1 HX.out.1 (txb_take HX.out.2 1) (HT.out.below HB.out)
  rw [HV.out.2.1] at hq
  (with_reducible refine hq.mono ?_); clear hq; rintro e w7 ⟨rfl, hb⟩
  replace HB := Lib.hid (HB.out.trans (hb.mono HB.out.size))
  replace K5 := Lib.hid (K5.out.keep hb)
  replace K9 := Lib.hid (K9.out.keep hb)
  replace K10 := Lib.hid (K10.out.keep hb)
  have HL7 := Lib.hid (And.intro (HL6.out.1.below hb) (And.intro (HL6.out.2.1.below hb) (And.intro (HL6.out.2.2.1.below hb) (HL6.out.2.2.2.below hb))))
  clear hb c5 f5 z5 c9 f9 z9 c10 f10 z10
  obtain ⟨c5, f5, z5⟩ := K5.out.facts
  obtain ⟨c9, f9, z9⟩ := K9.out.facts
  obtain ⟨c10, f10, z10⟩ := K10.out.facts
  go_wp2_with fail
  have hq := CV.out P 3 A1 B 17 (c - 1) 2 d (Sg.drop 1) Pa _ HL7.out.2.2.2 HL7.out.2.1 (txb_drop HX.out.1 1) HX.out.2 (HT.out.below HB.out)
  rw [HV.out.2.2.1] at hq
  (with_reducible refine hq.mono ?_); clear hq; rintro e w8 ⟨rfl, hb⟩
  replace HB := Lib.hid (HB.out.trans (hb.mono HB.out.size))
  replace K5 := Lib.hid (K5.out.keep hb)
  replace K9 := Lib.hid (K9.out.keep hb)
  replace K10 := Lib.hid (K10.out.keep hb)
  have HL8 := Lib.hid (And.intro (HL7.out.1.below hb) (And.intro (HL7.out.2.1.below hb) (And.intro (HL7.out.2.2.1.below hb) (HL7.out.2.2.2.below hb))))
  clear hb c5 f5 z5 c9 f9 z9 c10 f10 z10
  obtain ⟨c5, f5, z5⟩ := K5.out.facts
  obtain ⟨c9, f9, z9⟩ := K9.out.facts
  obtain ⟨c10, f10, z10⟩ := K10.out.facts
  go_wp2_with fail
  have hq : Calls Tryz.prog 12 #[.string { data := #[] }, .string { data := #[109, 101, 115, 115, 97, 103, 101] }, .agg #[.int .i64 3, .slice A 18 c, .slice B 2 d]] w8 fun e w' => e = .returned (.bool (verB [] msgT 3 Sg Pa)) ∧ Below w8.heap.size w8 w' := CV.out [] 3 A B 18 c 2 d Sg Pa _ HL8.out.1 HL8.out.2.1 HX.out.1 HX.out.2 (HT.out.below HB.out)
  rw [HV.out.2.2.2] at hq
  (with_reducible refine hq.mono ?_); clear hq; rintro e w9 ⟨rfl, hb⟩
  replace HB := Lib.hid (HB.out.trans (hb.mono HB.out.size))
  clear hb c5 f5 z5 c9 f9 z9 c10 f10 z10
  go_wp2_with fail
  go_ret
  exact ⟨rfl, HB.out⟩

end S
end Go.Proofs.YthdjdlndfkemiaaGreatDoor

/- Seals: the reference's 'Few' and 'Same'. -/
namespace Go.Proofs.YthdjdlndfkemiaaGreatDoor
open Go.RowKit
namespace S

def fewL (l : List Tx) : Bool := l.all fun t => decide (t.length ≤ 100)
theorem fewL_snoc (l : List Tx) (t : Tx) : fewL (l ++ [t]) = (fewL l && decide (t.length ≤ 100)) := by simp [fewL]
theorem few_any (w : World) (i : Int) (A B : Option Addr) (n c k d : Nat) (sig p : List Tx) (h1 : Lst w A n c sig) (h2 : Lst w B k d p) :
    Calls Tryz.prog 15 #[.agg #[.int .i64 i, .slice A n c, .slice B k d]] w fun e w' => (∃ b, e = .returned (.bool b) ∧ (b = true → n ≤ 30 ∧ k ≤ 30 ∧ fewL sig = true ∧ fewL p = true)) ∧ Below w.heap.size w w' := by
  have n9 := Nat.le_trans h1.cap h1.max
  have k9 := Nat.le_trans h2.cap h2.max
  have HL1 := Lib.hid h1
  have HL2 := Lib.hid h2
  clear h1 h2
  have kb := Reg.Blk.new w #[.int .i64 i, .slice A n c, .slice B k d] 29
  have hal : Below w.heap.size w (w.alloc (.cells #[.int .i64 i, .slice A n c, .slice B k d] 29)) := (Below.refl _ _).alloc (Nat.le_refl _) _
  obtain ⟨c5, f5, z5⟩ := kb.facts
  go_enter Tryz.func15, Tryz.ntmps15
  go_wp2_with fail
  have HB0 := Lib.hid hal
  have KB := Lib.hid kb
  clear hal kb c5 f5 z5
  generalize w.alloc (.cells #[.int .i64 i, .slice A n c, .slice B k d] 29) = w0 at *
  go_loopw [3] (fun x wr => ∃ j : Nat, j ≤ n ∧ x = .int .i64 j ∧ fewL (sig.take j) = true ∧ Below w0.heap.size w0 wr) (fun x _ => n - (intOf x).toNat)
  case atStart => exact ⟨0, Nat.zero_le _, rfl, by simp [fewL], Below.refl _ _⟩
  case round =>
    obtain ⟨j, hj, rfl, hs, hbw⟩ := hrel
    obtain ⟨c5, f5, z5⟩ := (KB.out.keep hbw).facts
    have HS := Lib.hid hs
    have HB := Lib.hid hbw
    clear hs hbw
    by_cases hlt : j < n
    · have hji : decide ((j : Int) < (n : Int)) = true := decide_eq_true (by omega)
      by_cases h30 : j < 30
      · have h3i : decide ((j : Int) < 30) = true := decide_eq_true (by omega)
        obtain ⟨b, off, hA, hb, c0⟩ := (HL1.out.below (HB0.out.trans (HB.out.mono HB0.out.size))).at_ j (by rw [HL1.out.len]; exact hlt)
        subst hA
        have hki : (j : Int) < (n : Int) := by omega
        have hk0 : (0 : Int) ≤ (j : Int) := by omega
        have hkl : j < sig.length := by rw [HL1.out.len]; exact hlt
        have hT : Hid (sig.take (j + 1) = sig.take j ++ [sig[j]]) := (List.take_append_getElem hkl).symm
        have hst : (str sig[j]).size = sig[j].length := str_size _
        generalize sig[j] = t at *
        by_cases h3 : t.length ≤ 100
        · have h3i : decide ((100 : Int) < (t.length : Int)) = false := decide_eq_false (by omega)
          have h3n : ¬ 100 < t.length := by omega
          go_wp2_with fail
          refine ⟨⟨j + 1, by omega, by go_num, ?_, HB.out⟩, by simp [intOf]; omega⟩
          rw [hT.out, fewL_snoc, HS.out]
          simp [h3]
        · have h3i : decide ((100 : Int) < (t.length : Int)) = true := decide_eq_true (by omega)
          have h3n : 100 < t.length := by omega
          go_wp2_with fail
          go_ret
          exact ⟨⟨false, rfl, fun e => by cases e⟩, HB0.out.trans (HB.out.mono HB0.out.size)⟩
      · have h3i : decide ((j : Int) < 30) = false := decide_eq_false (by omega)
        have hno : ¬ n ≤ 30 := by omega
        go_wp2_with fail
        have HB1 := HB
        have KB1 := Lib.hid (KB.out.keep HB.out)
        have HF := HS
        clear HB HS c5 f5 z5
        generalize wr = w1 at *
        go_loopw [4] (fun x wr => ∃ j : Nat, j ≤ k ∧ x = .int .i64 j ∧ fewL (p.take j) = true ∧ Below w1.heap.size w1 wr) (fun x _ => k - (intOf x).toNat)
        case atStart => exact ⟨0, Nat.zero_le _, rfl, by simp [fewL], Below.refl _ _⟩
        case round =>
          obtain ⟨j, hj, rfl, hs, hbw⟩ := hrel
          obtain ⟨c5, f5, z5⟩ := (KB1.out.keep hbw).facts
          have HS := Lib.hid hs
          have HB := Lib.hid hbw
          clear hs hbw
          by_cases hlt : j < k
          · have hji : decide ((j : Int) < (k : Int)) = true := decide_eq_true (by omega)
            by_cases h30 : j < 30
            · have h3i : decide ((j : Int) < 30) = true := decide_eq_true (by omega)
              obtain ⟨b, off, hA, hb, c0⟩ := (HL2.out.below (HB0.out.trans ((HB1.out.trans (HB.out.mono HB1.out.size)).mono HB0.out.size))).at_ j (by rw [HL2.out.len]; exact hlt)
              subst hA
              have hki : (j : Int) < (k : Int) := by omega
              have hk0 : (0 : Int) ≤ (j : Int) := by omega
              have hkl : j < p.length := by rw [HL2.out.len]; exact hlt
              have hT : Hid (p.take (j + 1) = p.take j ++ [p[j]]) := (List.take_append_getElem hkl).symm
              have hst : (str p[j]).size = p[j].length := str_size _
              generalize p[j] = t at *
              by_cases h3 : t.length ≤ 100
              · have h3i : decide ((100 : Int) < (t.length : Int)) = false := decide_eq_false (by omega)
                have h3n : ¬ 100 < t.length := by omega
                go_wp2_with fail
                refine ⟨⟨j + 1, by omega, by go_num, ?_, HB.out⟩, by simp [intOf]; omega⟩
                rw [hT.out, fewL_snoc, HS.out]
                simp [h3]
              · have h3i : decide ((100 : Int) < (t.length : Int)) = true := decide_eq_true (by omega)
                have h3n : 100 < t.length := by omega
                go_wp2_with fail
                go_ret
                exact ⟨⟨false, rfl, fun e => by cases e⟩, HB0.out.trans ((HB1.out.trans (HB.out.mono HB1.out.size)).mono HB0.out.size)⟩
            · have h3i : decide ((j : Int) < 30) = false := decide_eq_false (by omega)
              have q2 : decide ((k : Int) ≤ 30) = false := decide_eq_false (by omega)
              have q2n : ¬ k ≤ 30 := by omega
              have q1 : decide ((n : Int) ≤ 30) = false := decide_eq_false (by omega)
              go_wp2_with fail
              go_ret
              exact ⟨⟨_, rfl, fun e => by cases e⟩, HB0.out.trans ((HB1.out.trans (HB.out.mono HB1.out.size)).mono HB0.out.size)⟩
          · obtain rfl : j = k := by omega
            have q1 : decide ((n : Int) ≤ 30) = false := decide_eq_false (by omega)
            go_wp2_with fail
            go_ret
            exact ⟨⟨_, rfl, fun e => by cases e⟩, HB0.out.trans ((HB1.out.trans (HB.out.mono HB1.out.size)).mono HB0.out.size)⟩
    · obtain rfl : n = j := by omega
      go_wp2_with fail
      have HB1 := HB
      have KB1 := Lib.hid (KB.out.keep HB.out)
      have HF := HS
      clear HB HS c5 f5 z5
      generalize wr = w1 at *
      go_loopw [4] (fun x wr => ∃ j : Nat, j ≤ k ∧ x = .int .i64 j ∧ fewL (p.take j) = true ∧ Below w1.heap.size w1 wr) (fun x _ => k - (intOf x).toNat)
      case atStart => exact ⟨0, Nat.zero_le _, rfl, by simp [fewL], Below.refl _ _⟩
      case round =>
        obtain ⟨j, hj, rfl, hs, hbw⟩ := hrel
        obtain ⟨c5, f5, z5⟩ := (KB1.out.keep hbw).facts
        have HS := Lib.hid hs
        have HB := Lib.hid hbw
        clear hs hbw
        by_cases hlt : j < k
        · have hji : decide ((j : Int) < (k : Int)) = true := decide_eq_true (by omega)
          by_cases h30 : j < 30
          · have h3i : decide ((j : Int) < 30) = true := decide_eq_true (by omega)
            obtain ⟨b, off, hA, hb, c0⟩ := (HL2.out.below (HB0.out.trans ((HB1.out.trans (HB.out.mono HB1.out.size)).mono HB0.out.size))).at_ j (by rw [HL2.out.len]; exact hlt)
            subst hA
            have hki : (j : Int) < (k : Int) := by omega
            have hk0 : (0 : Int) ≤ (j : Int) := by omega
            have hkl : j < p.length := by rw [HL2.out.len]; exact hlt
            have hT : Hid (p.take (j + 1) = p.take j ++ [p[j]]) := (List.take_append_getElem hkl).symm
            have hst : (str p[j]).size = p[j].length := str_size _
            generalize p[j] = t at *
            by_cases h3 : t.length ≤ 100
            · have h3i : decide ((100 : Int) < (t.length : Int)) = false := decide_eq_false (by omega)
              have h3n : ¬ 100 < t.length := by omega
              go_wp2_with fail
              refine ⟨⟨j + 1, by omega, by go_num, ?_, HB.out⟩, by simp [intOf]; omega⟩
              rw [hT.out, fewL_snoc, HS.out]
              simp [h3]
            · have h3i : decide ((100 : Int) < (t.length : Int)) = true := decide_eq_true (by omega)
              have h3n : 100 < t.length := by omega
              go_wp2_with fail
              go_ret
              exact ⟨⟨false, rfl, fun e => by cases e⟩, HB0.out.trans ((HB1.out.trans (HB.out.mono HB1.out.size)).mono HB0.out.size)⟩
          · have h3i : decide ((j : Int) < 30) = false := decide_eq_false (by omega)
            have q2 : decide ((k : Int) ≤ 30) = false := decide_eq_false (by omega)
            have q2n : ¬ k ≤ 30 := by omega
            by_cases q3 : n ≤ 30
            · have q1 : decide ((n : Int) ≤ 30) = true := decide_eq_true (by omega)
              go_wp2_with fail
              go_ret
              exact ⟨⟨_, rfl, fun e => by cases e⟩, HB0.out.trans ((HB1.out.trans (HB.out.mono HB1.out.size)).mono HB0.out.size)⟩
            · have q1 : decide ((n : Int) ≤ 30) = false := decide_eq_false (by omega)
              go_wp2_with fail
              go_ret
              exact ⟨⟨_, rfl, fun e => by cases e⟩, HB0.out.trans ((HB1.out.trans (HB.out.mono HB1.out.size)).mono HB0.out.size)⟩
        · obtain rfl : j = k := by omega
          by_cases q3 : n ≤ 30
          · have q1 : decide ((n : Int) ≤ 30) = true := decide_eq_true (by omega)
            by_cases q4 : j ≤ 30
            · have q2 : decide ((j : Int) ≤ 30) = true := decide_eq_true (by omega)
              go_wp2_with fail
              go_ret
              refine ⟨⟨_, rfl, fun _ => ⟨q3, q4, ?_, ?_⟩⟩, HB0.out.trans ((HB1.out.trans (HB.out.mono HB1.out.size)).mono HB0.out.size)⟩
              · have := HF.out; rwa [List.take_of_length_le (by rw [HL1.out.len]; exact Nat.le_refl _)] at this
              · have := HS.out; rwa [List.take_of_length_le (by rw [HL2.out.len]; exact Nat.le_refl _)] at this
            · have q2 : decide ((j : Int) ≤ 30) = false := decide_eq_false (by omega)
              go_wp2_with fail
              go_ret
              exact ⟨⟨_, rfl, fun e => by cases e⟩, HB0.out.trans ((HB1.out.trans (HB.out.mono HB1.out.size)).mono HB0.out.size)⟩
          · have q1 : decide ((n : Int) ≤ 30) = false := decide_eq_false (by omega)
            go_wp2_with fail
            go_ret
            exact ⟨⟨_, rfl, fun e => by cases e⟩, HB0.out.trans ((HB1.out.trans (HB.out.mono HB1.out.size)).mono HB0.out.size)⟩

theorem rsame_any (w : World) (i j : Int) (A B A' B' : Option Addr) (n c k d n' c' k' d' : Nat) (s p s' p' : List Tx) (h1 : Lst w A n c s) (h2 : Lst w B k d p) (h3 : Lst w A' n' c' s') (h4 : Lst w B' k' d' p') :
    Calls Tryz.prog 18 #[.agg #[.int .i64 i, .slice A n c, .slice B k d], .agg #[.int .i64 j, .slice A' n' c', .slice B' k' d']] w fun e w' => e = .returned (.bool (decide (i = j ∧ s = s' ∧ p = p'))) ∧ Below w.heap.size w w' := by
  have HL := Lib.hid (And.intro h1 (And.intro h2 (And.intro h3 h4)))
  clear h1 h2 h3 h4
  obtain ⟨kb, kb'⟩ := Reg.Blk.new2 (w := w) (C := #[.int .i64 i, .slice A n c, .slice B k d]) (T := 29) (C' := #[.int .i64 j, .slice A' n' c', .slice B' k' d']) (T' := 29) (Below.refl _ _)
  have hal : Below w.heap.size w ((w.alloc (.cells #[.int .i64 i, .slice A n c, .slice B k d] 29)).alloc (.cells #[.int .i64 j, .slice A' n' c', .slice B' k' d'] 29)) := ((Below.refl _ _).alloc (Nat.le_refl _) _).alloc (by simp) _
  go_enter Tryz.func18, Tryz.ntmps18
  by_cases hij : i = j
  · subst hij
    have hd : (i == i) = true := by simp
    go_wp2_with fail
    obtain ⟨c5, f5, z5⟩ := kb.facts
    obtain ⟨c6, f6, z6⟩ := kb'.facts
    generalize (w.alloc (.cells #[.int .i64 i, .slice A n c, .slice B k d] 29)).alloc (.cells #[.int .i64 i, .slice A' n' c', .slice B' k' d'] 29) = w0 at *
    have HB := Lib.hid hal
    have KB := Lib.hid (And.intro kb kb')
    go_wp2_with fail
    (with_reducible refine (same_L (HL.out.1.below HB.out) (HL.out.2.2.1.below HB.out)).mono ?_); rintro e w1 ⟨rfl, hb⟩
    clear c5 f5 z5 c6 f6 z6 hal kb kb'
    obtain ⟨c5, f5, z5⟩ := (KB.out.1.keep hb).facts
    obtain ⟨c6, f6, z6⟩ := (KB.out.2.keep hb).facts
    replace HB := Lib.hid (HB.out.trans (hb.mono HB.out.size))
    clear hb
    by_cases hs : s = s'
    · rw [decide_eq_true hs]
      go_wp2_with fail
      (with_reducible refine (same_L (HL.out.2.1.below HB.out) (HL.out.2.2.2.below HB.out)).mono ?_); rintro e w2 ⟨rfl, hb⟩
      go_wp2_with fail
      go_ret
      exact ⟨ret_bool (by simp [hs]), HB.out.trans (hb.mono HB.out.size)⟩
    · rw [decide_eq_false hs]
      go_wp2_with fail
      go_ret
      exact ⟨ret_bool (by simp [hs]), HB.out⟩
  · have hd : (i == j) = false := beq_eq_false_iff_ne.2 hij
    obtain ⟨c5, f5, z5⟩ := kb.facts
    obtain ⟨c6, f6, z6⟩ := kb'.facts
    go_wp2_with fail
    go_ret
    exact ⟨ret_bool (by simp [hij]), hal⟩

end S
end Go.Proofs.YthdjdlndfkemiaaGreatDoor
