/- Lines: the memory of a line; 'Valid'. -/
import Derived.Test.YtjeapimjgojpoaaFt
import Derived.Test.YtjeapimjgojpoaaFk
set_option linter.unusedSimpArgs false
set_option linter.unusedVariables false
set_option maxRecDepth 100000
namespace Go.Proofs.Ytjeapimjgojpoaa
open Go.RowKit
namespace G

theorem i64_in (n : Int) (h1 : -9223372036854775808 ≤ n) (h2 : n ≤ 9223372036854775807) : IntKind.i64.wrap n = n := by
  simp only [IntKind.wrap, IntKind.signed, IntKind.bits]
  simp
  omega
abbrev P2 := Int × Int
def pt (l : List P2) (i : Nat) : P2 := l[i]?.getD (0, 0)
def LineAt (w : World) (A : Option Addr) (l : List P2) : Prop := ∀ i, i < l.length → ∃ b off, A = some ⟨b, off, none⟩ ∧ b < w.heap.size ∧ w.cell? ⟨b, off + i * 2, none⟩ = some (.int .i64 (pt l i).1) ∧ w.cell? ⟨b, off + i * 2 + 1, none⟩ = some (.int .i64 (pt l i).2)
theorem LineAt.below {w w' : World} {A : Option Addr} {l : List P2} (h : LineAt w A l) (hb : Below w.heap.size w w') : LineAt w' A l := fun i hi => by
  obtain ⟨b, off, hA, hlt, c0, c1⟩ := h i hi
  exact ⟨b, off, hA, Nat.lt_of_lt_of_le hlt hb.size, ((bcell hb).1 _ _ hlt).trans c0, ((bcell hb).1 _ _ hlt).trans c1⟩
def stepOK (l : List P2) (i : Nat) : Bool := onB (pt l i).1 (pt l i).2 && (decide (i = 0) || !ptEq (pt l i).1 (pt l i).2 (pt l (i - 1)).1 (pt l (i - 1)).2)
def preOK (l : List P2) : Nat → Bool
  | 0 => true
  | k + 1 => preOK l k && stepOK l k
def validL (l : List P2) : Bool := preOK l l.length && (decide (2 ≤ (l.length : Int)) && decide ((l.length : Int) ≤ 40))
theorem preOK_false {l : List P2} {k : Nat} (h : stepOK l k = false) : ∀ n, k < n → preOK l n = false
  | 0, hk => by omega
  | n + 1, hk => by
    rcases (by omega : k < n ∨ k = n) with h2 | h2
    · simp [preOK, preOK_false h n h2]
    · subst h2; simp [preOK, h]
theorem preOK_at {l : List P2} {k : Nat} : ∀ n, k < n → preOK l n = true → stepOK l k = true
  | 0, hk, _ => by omega
  | n + 1, hk, h => by
    simp only [preOK, Bool.and_eq_true] at h
    rcases (by omega : k < n ∨ k = n) with h2 | h2
    · exact preOK_at n h2 h.1
    · subst h2; exact h.2

set_option maxHeartbeats 4000000 in
theorem valid_line (A : Option Addr) (c : Nat) (l : List P2) (w : World) (hl : LineAt w A l) (hn : l.length ≤ 9223372036854775807) :
    Calls Try.prog 18 #[.slice A l.length c] w fun e w' => e = .returned (.bool (validL l)) ∧ Below w.heap.size w w' := by
  have HL := Lib.hid hl
  have heqpt := run_eql_pt
  clear hl
  go_enter Try.func18, Try.ntmps18
  go_wp2_with fail
  go_loopw [7] (fun i wr => ∃ k : Nat, k ≤ l.length ∧ i = .int .i64 k ∧ preOK l k = true ∧ Below w.heap.size w wr) (fun i _ => l.length - (intOf i).toNat)
  case atStart => exact ⟨0, by omega, rfl, rfl, Below.refl _ _⟩
  case round =>
    obtain ⟨k, hk, rfl, hall, hbw⟩ := hrel
    have HA := Lib.hid hall
    have HB := Lib.hid hbw
    clear hall hbw
    by_cases hlt : k < l.length
    · obtain ⟨b, off, hA, hb, c0, c1⟩ := (HL.out.below HB.out) k hlt
      subst hA
      have hki : (k : Int) < (l.length : Int) := by omega
      have hk0 : (0 : Int) ≤ (k : Int) := by omega
      obtain ⟨X, hX⟩ : ∃ X, X = (pt l k).1 := ⟨_, rfl⟩
      obtain ⟨Y, hY⟩ : ∃ Y, Y = (pt l k).2 := ⟨_, rfl⟩
      rw [← hX] at c0
      rw [← hY] at c1
      have HX := Lib.hid (And.intro hX hY)
      clear hX hY
      go_wp2_with fail
      have HW0 := Lib.hid (HB.out.alloc HB.out.size (.cells #[.int .i64 X, .int .i64 Y] 24))
      have hal : Below wr.heap.size wr (wr.alloc (.cells #[.int .i64 X, .int .i64 Y] 24)) := (Below.refl _ _).alloc (Nat.le_refl _) _
      obtain ⟨cp, fp, zp⟩ := Reg.Blk.facts (Reg.Blk.new wr #[.int .i64 X, .int .i64 Y] 24)
      have HL0 := Lib.hid ((HL.out.below HB.out).below hal)
      clear hal c0 c1 hb HB
      generalize wr.heap.size = g at *
      generalize wr.alloc (.cells #[.int .i64 X, .int .i64 Y] 24) = W0 at *
      have e0 : k + 1 ≤ l.length := hlt
      cases hon : onB X Y with
      | false =>
        have HON : Hid (∀ W, Calls Try.prog 19 #[.agg #[.int .i64 X, .int .i64 Y]] W fun e w' => e = .returned (.bool false) ∧ Below W.heap.size W w') := fun W => by
          have h := on_any X Y W
          rwa [hon] at h
        have HS : Hid (stepOK l k = false) := by unfold Hid stepOK; rw [← HX.out.1, ← HX.out.2, hon]; rfl
        clear hon
        refine Reg.wp_region_seq (by kernel_rfl) (by kernel_rfl) ?_
        simp only
        iterate 16
          apply Reg.SeqOK.val
          · intro γ W hW K hK
            obtain ⟨hc, hf, _⟩ := bcell hW
            simp only [Act.put, List.setIfInBounds_toArray, List.set_cons_zero, List.set_cons_succ] at hK
            unfold Reg.Does
            go_simp
            try simp only [IntWalk.i64_left]
            first
              | exact hK _ (Below.refl _ _)
              | (go_at_call 19; (with_reducible refine (HON.out _).mono ?_); rintro e w' ⟨rfl, hb⟩; exact hK _ hb)
              | (trace_state; fail)
          simp only [Act.put, List.setIfInBounds_toArray, List.set_cons_zero, List.set_cons_succ, List.nil_append, List.cons_append, Nat.reduceAdd, Nat.zero_add]
        refine Reg.SeqOK.nil (by kernel_rfl) (fun γ W hW _ _ _ => ?_)
        have HW1 := Lib.hid (HW0.out.trans (hW.mono HW0.out.size))
        clear hW
        go_wp2_with fail
        go_ret
        exact ⟨ret_bool (by unfold validL; rw [preOK_false HS.out _ hlt]; rfl), HW1.out⟩
      | true =>
        have HON : Hid (∀ W, Calls Try.prog 19 #[.agg #[.int .i64 X, .int .i64 Y]] W fun e w' => e = .returned (.bool true) ∧ Below W.heap.size W w') := fun W => by
          have h := on_any X Y W
          rwa [hon] at h
        have HON2 := Lib.hid hon
        clear hon
        by_cases hz : k = 0
        · have hz' : ¬ (0 : Int) < (k : Int) := by omega
          have HS : Hid (stepOK l k = true) := by unfold Hid stepOK; rw [← HX.out.1, ← HX.out.2, HON2.out]; simp [hz]
          have hd1 : decide ((0 : Int) < (k : Int)) = false := decide_eq_false hz'
          have hd2 : decide (0 < k) = false := decide_eq_false (by omega)
          clear hz hz'
          refine Reg.wp_region_seq (by kernel_rfl) (by kernel_rfl) ?_
          simp only
          iterate 16
            apply Reg.SeqOK.val
            · intro γ W hW K hK
              obtain ⟨hc, hf, _⟩ := bcell hW
              simp only [Act.put, List.setIfInBounds_toArray, List.set_cons_zero, List.set_cons_succ] at hK
              unfold Reg.Does
              go_simp
              try simp only [IntWalk.i64_left]
              first
                | exact hK _ (Below.refl _ _)
                | (go_at_call 19; (with_reducible refine (HON.out _).mono ?_); rintro e w' ⟨rfl, hb⟩; exact hK _ hb)
                | (trace_state; fail)
            simp only [Act.put, List.setIfInBounds_toArray, List.set_cons_zero, List.set_cons_succ, List.nil_append, List.cons_append, Nat.reduceAdd, Nat.zero_add]
          refine Reg.SeqOK.nil (by kernel_rfl) (fun γ W hW _ _ _ => ?_)
          have HW1 := Lib.hid (HW0.out.trans (hW.mono HW0.out.size))
          clear hW
          go_wp2_with fail
          refine ⟨⟨k + 1, by omega, by go_num, by simp [preOK, HA.out, HS.out], HW1.out⟩, by simp [intOf]; omega⟩
        · have hz' : (0 : Int) < (k : Int) := by omega
          obtain ⟨m, hm⟩ : ∃ m, k = m + 1 := ⟨k - 1, by omega⟩
          obtain ⟨b', off', hA, hb, c0, c1⟩ := HL0.out m (by omega)
          obtain ⟨rfl, rfl⟩ : b = b' ∧ off = off' := by injection hA with h; injection h with h1 h2; exact ⟨h1, h2⟩
          have hm0 : (0 : Int) ≤ (m : Int) := by omega
          have hml : (m : Int) < (l.length : Int) := by omega
          have hsub : IntKind.i64.wrap ((k : Int) - 1) = (m : Int) := by rw [show (k : Int) - 1 = (m : Int) by omega]; exact i64_in _ (by omega) (by omega)
          obtain ⟨X', hX⟩ : ∃ X, X = (pt l m).1 := ⟨_, rfl⟩
          obtain ⟨Y', hY⟩ : ∃ Y, Y = (pt l m).2 := ⟨_, rfl⟩
          rw [← hX] at c0
          rw [← hY] at c1
          have HS : Hid (stepOK l k = !ptEq X Y X' Y') := by unfold Hid stepOK; rw [← HX.out.1, ← HX.out.2, HON2.out, show k - 1 = m by omega, ← hX, ← hY]; simp [hz]
          have hd1 : decide ((0 : Int) < (k : Int)) = true := decide_eq_true hz'
          have hd2 : decide (0 < k) = true := decide_eq_true (by omega)
          clear hX hY hz hA hm hz'
          refine Reg.wp_region_seq (by kernel_rfl) (by kernel_rfl) ?_
          simp only
          iterate 16
            apply Reg.SeqOK.val
            · intro γ W hW K hK
              obtain ⟨hc, hf, _⟩ := bcell hW
              simp only [Act.put, List.setIfInBounds_toArray, List.set_cons_zero, List.set_cons_succ] at hK
              unfold Reg.Does
              go_simp
              try simp only [IntWalk.i64_left]
              first
                | exact hK _ (Below.refl _ _)
                | (go_at_call 19; (with_reducible refine (HON.out _).mono ?_); rintro e w' ⟨rfl, hb⟩; exact hK _ hb)
                | (trace_state; fail)
            simp only [Act.put, List.setIfInBounds_toArray, List.set_cons_zero, List.set_cons_succ, List.nil_append, List.cons_append, Nat.reduceAdd, Nat.zero_add]
          refine Reg.SeqOK.nil (by kernel_rfl) (fun γ W hW _ _ _ => ?_)
          have HW1 := Lib.hid (HW0.out.trans (hW.mono HW0.out.size))
          clear hW
          cases hq : ptEq X Y X' Y' with
          | true =>
            have HF : Hid (stepOK l k = false) := by unfold Hid; rw [HS.out, hq]; rfl
            go_wp2_with fail
            go_ret
            exact ⟨ret_bool (by unfold validL; rw [preOK_false HF.out _ hlt]; rfl), HW1.out⟩
          | false =>
            have HF : Hid (stepOK l k = true) := by unfold Hid; rw [HS.out, hq]; rfl
            go_wp2_with fail
            refine ⟨⟨k + 1, by omega, by go_num, by simp [preOK, HA.out, HF.out], HW1.out⟩, by simp [intOf]; omega⟩
    · obtain rfl : k = l.length := by omega
      by_cases h2 : 2 ≤ (l.length : Int)
      · have H2 := Lib.hid h2
        go_wp2_with fail
        go_ret
        exact ⟨ret_bool (by unfold validL; rw [HA.out, decide_eq_true H2.out]; rfl), HB.out⟩
      · have H2 := Lib.hid h2
        go_wp2_with fail
        go_ret
        exact ⟨ret_bool (by unfold validL; rw [decide_eq_false (by have := H2.out; omega)]; simp), HB.out⟩

end G
end Go.Proofs.Ytjeapimjgojpoaa
