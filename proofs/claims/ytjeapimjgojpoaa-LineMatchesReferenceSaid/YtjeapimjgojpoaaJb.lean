/- Numbers as lists of binary digits: the memory of one; 'trim', 'less'. -/
import Derived.Test.YtjeapimjgojpoaaJa
set_option linter.unusedSimpArgs false
set_option linter.unusedVariables false
set_option maxRecDepth 100000
namespace Go.Proofs.Ytjeapimjgojpoaa
open Go.RowKit
namespace G

def dg (l : List Nat) (i : Nat) : Nat := l[i]?.getD 0
def CellsD (w : World) (A : Option Addr) (l : List Nat) : Prop := ∀ i, i < l.length → ∃ b off, A = some ⟨b, off, none⟩ ∧ b < w.heap.size ∧ w.cell? ⟨b, off + i, none⟩ = some (.int .i64 (dg l i : Nat))
theorem CellsD.below {w w' : World} {A : Option Addr} {l : List Nat} (h : CellsD w A l) (hb : Below w.heap.size w w') : CellsD w' A l := fun i hi => by
  obtain ⟨b, off, hA, hlt, c0⟩ := h i hi
  exact ⟨b, off, hA, Nat.lt_of_lt_of_le hlt hb.size, ((bcell hb).1 _ _ hlt).trans c0⟩
/-- A list of digits in memory. -/
structure DigAt (w : World) (A : Option Addr) (c : Nat) (l : List Nat) : Prop where
  cells : CellsD w A l
  cap : l.length ≤ c
  most : c ≤ 9223372036854775807
  nil : A = none → c = 0
theorem DigAt.below {w w' : World} {A : Option Addr} {c : Nat} {l : List Nat} (h : DigAt w A c l) (hb : Below w.heap.size w w') : DigAt w' A c l := ⟨h.cells.below hb, h.cap, h.most, h.nil⟩
theorem dg_take {l : List Nat} {k i : Nat} (h : i < k) : dg (l.take k) i = dg l i := by unfold dg; rw [List.getElem?_take, if_pos h]
theorem DigAt.take {w : World} {A : Option Addr} {c : Nat} {l : List Nat} (h : DigAt w A c l) (k : Nat) : DigAt w A c (l.take k) := ⟨fun i hi => by
  rw [List.length_take] at hi
  rw [dg_take (by omega)]
  exact h.cells i (by omega), by have := h.cap; rw [List.length_take]; omega, h.most, h.nil⟩
theorem dg_drop {l : List Nat} {k i : Nat} : dg (l.drop k) i = dg l (k + i) := by unfold dg; rw [List.getElem?_drop]
theorem dg_get {l : List Nat} {i : Nat} (h : i < l.length) : dg l i = l[i] := by unfold dg; rw [List.getElem?_eq_getElem h]; rfl
theorem val_app (a b : List Nat) : valD (a ++ b) = valD a + 2 ^ a.length * valD b := by
  have h := val_split (a ++ b) a.length
  simpa using h
theorem take_zero {l : List Nat} {k : Nat} (hk : k < l.length) (h : dg l k = 0) : valD (l.take (k + 1)) = valD (l.take k) := by
  rw [dg_get hk] at h
  rw [List.take_add_one, List.getElem?_eq_getElem hk, h, val_app]
  simp [valD]
theorem take_end {l : List Nat} (ha : allD l) {k : Nat} (hk : k < l.length) (h : dg l k ≠ 0) : bitsOf (valD (l.take (k + 1))) = l.take (k + 1) := by
  rw [dg_get hk] at h
  refine bits_of_val (all_take ha _) fun h0 => ?_
  rw [List.getLast_eq_getElem]
  simp only [List.length_take, List.getElem_take, show min (k + 1) l.length = k + 1 by omega, Nat.add_sub_cancel]
  exact h

set_option maxHeartbeats 4000000 in
theorem trimD_any (A : Option Addr) (c : Nat) (l : List Nat) (w : World) (h : DigAt w A c l) (ha : allD l) :
    Calls Try.prog 76 #[.slice A l.length c] w fun e w' => e = .returned (.slice A (bitsOf (valD l)).length c) ∧ DigAt w' A c (bitsOf (valD l)) ∧ Below w.heap.size w w' := by
  have HD := Lib.hid h
  have HA := Lib.hid ha
  have hcap := h.cap
  have hmost := h.most
  have HE : Hid (∀ k wr, k ≤ l.length → valD (l.take k) = valD l → (k = 0 ∨ dg l (k - 1) ≠ 0) → Below w.heap.size w wr → (bitsOf (valD l)).length = k ∧ DigAt wr A c (bitsOf (valD l)) ∧ Below w.heap.size w wr) := fun k wr hk hval hz hbw => by
    have e : bitsOf (valD l) = l.take k := by
      rw [← hval]
      rcases Nat.eq_zero_or_pos k with h0 | h0
      · subst h0; simp [valD, bits_zero]
      · obtain ⟨k', rfl⟩ : ∃ k', k = k' + 1 := ⟨k - 1, by omega⟩
        exact take_end ha hk (by rcases hz with hz | hz; omega; exact hz)
    rw [e, List.length_take]
    exact ⟨by omega, (h.take k).below hbw, hbw⟩
  generalize (bitsOf (valD l)).length = N at *
  cases A with
  | none =>
    have hc := h.nil rfl
    have hlz : l.length = 0 := by omega
    obtain ⟨rfl, h2⟩ := HE.out 0 w (by omega) (by rw [List.eq_nil_of_length_eq_zero hlz]; rfl) (.inl rfl) (Below.refl _ _)
    rw [hlz]
    subst hc
    have H2 := Lib.hid h2
    clear h ha hcap hmost h2 HE hlz HD HA
    go_enter Try.func76, Try.ntmps76
    go_wp2_with fail
    go_loopw [3] (fun i wr => i = .int .i64 0 ∧ wr = w) (fun i _ => 0)
    case atStart => exact ⟨rfl, rfl⟩
    case round =>
      obtain ⟨rfl, rfl⟩ := hrel
      go_wp2_with fail
      go_ret
      exact ⟨rfl, H2.out⟩
  | some a =>
    clear h ha
    go_enter Try.func76, Try.ntmps76
    go_wp2_with fail
    go_loopw [3] (fun i wr => ∃ k : Nat, k ≤ l.length ∧ i = .int .i64 k ∧ valD (l.take k) = valD l ∧ Below w.heap.size w wr) (fun i _ => (intOf i).toNat)
    case atStart => exact ⟨l.length, Nat.le_refl _, rfl, by rw [List.take_length], Below.refl _ _⟩
    case round =>
      obtain ⟨k, hk, rfl, hval, hbw⟩ := hrel
      have HV := Lib.hid hval
      have HB := Lib.hid hbw
      clear hval hbw
      cases k with
      | zero =>
        obtain ⟨rfl, h2⟩ := HE.out 0 wr (by omega) HV.out (.inl rfl) HB.out
        have H2 := Lib.hid h2
        clear h2 HE
        go_wp2_with fail
        go_ret
        exact ⟨rfl, H2.out⟩
      | succ n =>
        obtain ⟨b, off, hA, hb, c0⟩ := (HD.out.below HB.out).cells n (by omega)
        injection hA with hA
        subst hA
        have hpos : (0 : Int) < ((n + 1 : Nat) : Int) := by omega
        have hw : IntKind.i64.wrap (((n + 1 : Nat) : Int) - 1) = (n : Int) := by rw [show ((n + 1 : Nat) : Int) - 1 = (n : Int) by omega]; exact i64_in _ (by omega) (by omega)
        have hn0 : (0 : Int) ≤ (n : Int) := by omega
        have hnl : (n : Int) < (l.length : Int) := by omega
        have hlc : (l.length : Int) ≤ (c : Int) := by omega
        have hnc : ((n + 1 : Nat) : Int) ≤ (c : Int) := by omega
        generalize hd : dg l n = d at *
        by_cases hz : d = 0
        · subst hz
          have HZ := Lib.hid hd
          clear hd
          go_wp2_with fail
          refine ⟨⟨n, by omega, rfl, by rw [← HV.out, take_zero (by omega) HZ.out], HB.out⟩, by simp [intOf]⟩
        · obtain ⟨rfl, h2⟩ := HE.out (n + 1) wr hk HV.out (.inr (by rw [Nat.add_sub_cancel, hd]; exact hz)) HB.out
          have hdz : ((d : Int) == 0) = false := by rw [beq_eq_false_iff_ne]; omega
          have hdi : ¬ (d : Int) = 0 := by omega
          have H2 := Lib.hid h2
          clear h2 HE hd hz
          go_wp2_with fail
          go_ret
          exact ⟨rfl, H2.out⟩

theorem drop_cons {l : List Nat} {k : Nat} (hk : k < l.length) : l.drop k = dg l k :: l.drop (k + 1) := by
  rw [List.drop_eq_getElem_cons hk, dg_get hk]
set_option maxHeartbeats 4000000 in
theorem lessD_any (A B : Option Addr) (c d m n : Nat) (w : World) (h : DigAt w A c (bitsOf m)) (h' : DigAt w B d (bitsOf n)) :
    Calls Try.prog 64 #[.slice A (bitsOf m).length c, .slice B (bitsOf n).length d] w fun e w' => e = .returned (.bool (decide (m < n))) ∧ Below w.heap.size w w' := by
  by_cases hlen : (bitsOf m).length = (bitsOf n).length
  · have HH := Lib.hid (And.intro h h')
    have hcap := h.cap
    have hmost := h.most
    have HEq : Hid ((bitsOf m).drop 0 = (bitsOf n).drop 0 → decide (m < n) = false) := fun e => by
      rw [List.drop_zero, List.drop_zero] at e
      have := val_bits m
      rw [e, val_bits] at this
      rw [decide_eq_false_iff_not]; omega
    have HLt : Hid (∀ k, k < (bitsOf m).length → (bitsOf m).drop (k + 1) = (bitsOf n).drop (k + 1) → dg (bitsOf m) k ≠ dg (bitsOf n) k → decide (m < n) = decide (dg (bitsOf m) k < dg (bitsOf n) k)) := fun k hk e hne => by
      have hk' : k < (bitsOf n).length := by omega
      have e1 := val_bits m
      have e2 := val_bits n
      rw [Bool.eq_iff_iff, decide_eq_true_iff, decide_eq_true_iff]
      rw [dg_get hk, dg_get hk'] at hne ⊢
      rcases Nat.lt_or_gt_of_ne hne with hh | hh
      · have := val_less (all_bits m) hk hk' e hh
        exact ⟨fun _ => hh, fun _ => by omega⟩
      · have := val_less (all_bits n) hk' hk e.symm hh
        exact ⟨fun _ => by omega, fun _ => by omega⟩
    generalize decide (m < n) = R at *
    generalize bitsOf m = a at *
    generalize bitsOf n = b at *
    rw [← hlen]
    have HLEN := Lib.hid hlen
    clear h h' hlen
    have hz : (a.length == a.length) = true := by simp
    go_enter Try.func64, Try.ntmps64
    go_wp2_with fail
    have hw0 : IntKind.i64.wrap ((a.length : Int) - 1) = (a.length : Int) - 1 := i64_in _ (by omega) (by omega)
    go_loopw [5] (fun i wr => ∃ k : Nat, k ≤ a.length ∧ i = .int .i64 ((k : Int) - 1) ∧ a.drop k = b.drop k ∧ Below w.heap.size w wr) (fun i _ => (intOf i + 1).toNat)
    case atStart => exact ⟨a.length, Nat.le_refl _, by simp [hw0], by rw [List.drop_length, HLEN.out, List.drop_length], Below.refl _ _⟩
    case round =>
      obtain ⟨k, hk, rfl, hdr, hbw⟩ := hrel
      have HDR := Lib.hid hdr
      have HB := Lib.hid hbw
      clear hdr hbw
      cases k with
      | zero =>
        have hR := HEq.out HDR.out
        have hneg : ¬ (0 : Int) ≤ ((0 : Nat) : Int) - 1 := by omega
        subst hR
        go_wp2_with fail
        go_ret
        exact ⟨rfl, HB.out⟩
      | succ k =>
        rw [show ((k + 1 : Nat) : Int) - 1 = (k : Int) by omega]
        obtain ⟨b1, o1, hA, hb1, c0⟩ := (HH.out.1.below HB.out).cells k (by omega)
        obtain ⟨b2, o2, hA2, hb2, d0⟩ := (HH.out.2.below HB.out).cells k (by have := HLEN.out; omega)
        subst hA hA2
        have hk0 : (0 : Int) ≤ (k : Int) := by omega
        have hkl : (k : Int) < (a.length : Int) := by omega
        have hwk : IntKind.i64.wrap ((k : Int) - 1) = (k : Int) - 1 := i64_in _ (by omega) (by omega)
        have hlt := HLt.out k hk HDR.out
        have HD2 : Hid (dg a k = dg b k → a.drop k = b.drop k) := fun e => by
          rw [drop_cons (l := a) hk, drop_cons (l := b) (by have := HLEN.out; omega), e, HDR.out]
        generalize dg a k = x at *
        generalize dg b k = y at *
        have HLT := Lib.hid hlt
        clear hlt
        by_cases hxy : x = y
        · subst hxy
          have hd := HD2.out rfl
          have HD3 := Lib.hid hd
          clear hd HD2 HLT
          go_wp2_with fail
          refine Reg.wp_region_seq (by kernel_rfl) (by kernel_rfl) ?_
          simp only
          iterate 9
            apply Reg.SeqOK.val
            · intro γ W hW K hK
              obtain ⟨hc, hf, _⟩ := bcell hW
              simp only [Act.put, List.setIfInBounds_toArray, List.set_cons_zero, List.set_cons_succ] at hK
              unfold Reg.Does
              go_simp
              try simp only [IntWalk.i64_left]
              first
                | exact hK _ (Below.refl _ _)
                | (trace_state; fail)
            simp only [Act.put, List.setIfInBounds_toArray, List.set_cons_zero, List.set_cons_succ, List.nil_append, List.cons_append, Nat.reduceAdd, Nat.zero_add]
          refine Reg.SeqOK.nil (by kernel_rfl) (fun γ W hW _ _ _ => ?_)
          replace HB := Lib.hid (HB.out.trans (hW.mono HB.out.size))
          clear hW c0 d0 hb1 hb2
          go_wp2_with fail
          refine ⟨⟨k, by omega, by simp [hwk], HD3.out, HB.out⟩, by simp [intOf]; try omega⟩
        · have hR := HLT.out hxy
          have hne : ((x : Int) == (y : Int)) = false := by rw [beq_eq_false_iff_ne]; omega
          have hni : ¬ (x : Int) = (y : Int) := by omega
          obtain ⟨z, hz2⟩ : ∃ z, z = decide ((x : Int) < (y : Int)) := ⟨_, rfl⟩
          obtain rfl : R = z := by rw [hR, hz2]; simp
          have hz3 := hz2.symm
          clear HD2 HLT hR hz2
          go_wp2_with fail
          refine Reg.wp_region_seq (by kernel_rfl) (by kernel_rfl) ?_
          simp only
          iterate 9
            apply Reg.SeqOK.val
            · intro γ W hW K hK
              obtain ⟨hc, hf, _⟩ := bcell hW
              simp only [Act.put, List.setIfInBounds_toArray, List.set_cons_zero, List.set_cons_succ] at hK
              unfold Reg.Does
              go_simp
              try simp only [IntWalk.i64_left]
              first
                | exact hK _ (Below.refl _ _)
                | (trace_state; fail)
            simp only [Act.put, List.setIfInBounds_toArray, List.set_cons_zero, List.set_cons_succ, List.nil_append, List.cons_append, Nat.reduceAdd, Nat.zero_add]
          refine Reg.SeqOK.nil (by kernel_rfl) (fun γ W hW _ _ _ => ?_)
          have e3 := (bcell hW).1
          replace c0 := (e3 _ _ hb1).trans c0
          replace d0 := (e3 _ _ hb2).trans d0
          replace HB := Lib.hid (HB.out.trans (hW.mono HB.out.size))
          replace hb1 := Nat.lt_of_lt_of_le hb1 hW.size
          replace hb2 := Nat.lt_of_lt_of_le hb2 hW.size
          clear e3 hW
          go_wp2_with fail
          try simp only [hne, hni, hxy, decide_false, Bool.not_false, bne, Int.ofNat_inj]
          refine Reg.wp_region_seq (by kernel_rfl) (by kernel_rfl) ?_
          simp only
          iterate 10
            apply Reg.SeqOK.val
            · intro γ W hW K hK
              obtain ⟨hc, hf, _⟩ := bcell hW
              simp only [Act.put, List.setIfInBounds_toArray, List.set_cons_zero, List.set_cons_succ] at hK
              unfold Reg.Does
              go_simp
              try simp only [IntWalk.i64_left]
              first
                | exact hK _ (Below.refl _ _)
                | (trace_state; fail)
            simp only [Act.put, List.setIfInBounds_toArray, List.set_cons_zero, List.set_cons_succ, List.nil_append, List.cons_append, Nat.reduceAdd, Nat.zero_add]
          refine Reg.SeqOK.nil (by kernel_rfl) (fun γ W2 hW _ _ _ => ?_)
          replace HB := Lib.hid (HB.out.trans (hW.mono HB.out.size))
          clear hW c0 d0 hb1 hb2
          go_wp2_with fail
          go_ret
          exact ⟨ret_bool (by first | rfl | simp [← hz3]), HB.out⟩
  · have hR : decide (m < n) = decide (((bitsOf m).length : Int) < ((bitsOf n).length : Int)) := by
      rw [Bool.eq_iff_iff, decide_eq_true_iff, decide_eq_true_iff]
      rcases Nat.lt_or_gt_of_ne hlen with hh | hh
      · have := bits_less hh; exact ⟨fun _ => by omega, fun _ => this⟩
      · have := bits_less hh; exact ⟨fun _ => by omega, fun _ => by omega⟩
    rw [hR]
    have hne : (((bitsOf m).length : Int) == ((bitsOf n).length : Int)) = false := by rw [beq_eq_false_iff_ne]; omega
    have hni : ¬ ((bitsOf m).length : Int) = ((bitsOf n).length : Int) := by omega
    clear h h' hR
    generalize (bitsOf m).length = x at *
    generalize (bitsOf n).length = y at *
    go_enter Try.func64, Try.ntmps64
    go_wp2_with fail
    go_ret
    exact ⟨ret_bool (by simp), Below.refl _ _⟩

end G
end Go.Proofs.Ytjeapimjgojpoaa
