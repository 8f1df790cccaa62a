/- Lines of the reference: 'Valid'. -/
import Derived.Test.YtjeapimjgojpoaaJq
import Derived.Test.YtjeapimjgojpoaaIp
import Derived.Test.YtjeapimjgojpoaaIi
set_option linter.unusedSimpArgs false
set_option linter.unusedVariables false
set_option maxRecDepth 100000
namespace Go.Proofs.Ytjeapimjgojpoaa
open Go.RowKit
namespace G

set_option maxHeartbeats 8000000 in
theorem rvalid_line (A : Option Addr) (c : Nat) (l : List P2) (w : World) (hl : LineAt w A l) (hn : l.length ≤ 9223372036854775807) :
    Calls Try.prog 24 #[.slice A l.length c] w fun e w' => e = .returned (.bool (validL l)) ∧ Below w.heap.size w w' := by
  have HL := Lib.hid hl
  have heqpt := run_eql_pt
  clear hl
  by_cases h2 : l.length < 2
  · have H2 := Lib.hid h2
    have h2' : decide ((l.length : Int) < 2) = true := decide_eq_true (by omega)
    go_enter Try.func24, Try.ntmps24
    go_wp2_with fail
    go_ret
    exact ⟨ret_bool (by unfold validL; rw [decide_eq_false (p := 2 ≤ (l.length : Int)) (by have := H2.out; omega)]; simp), Below.refl _ _⟩
  by_cases h40 : 40 < l.length
  · have H2 := Lib.hid h40
    have h2' : decide ((l.length : Int) < 2) = false := decide_eq_false (by omega)
    have h4' : decide ((40 : Int) < (l.length : Int)) = true := decide_eq_true (by omega)
    go_enter Try.func24, Try.ntmps24
    go_wp2_with fail
    go_ret
    exact ⟨ret_bool (by unfold validL; rw [decide_eq_false (p := (l.length : Int) ≤ 40) (by have := H2.out; omega)]; simp), Below.refl _ _⟩
  have H24 : Hid ((decide (2 ≤ (l.length : Int)) && decide ((l.length : Int) ≤ 40)) = true) := by
    unfold Hid
    rw [decide_eq_true (p := 2 ≤ (l.length : Int)) (by omega), decide_eq_true (p := (l.length : Int) ≤ 40) (by omega)]; rfl
  have g2' : decide ((l.length : Int) < 2) = false := decide_eq_false (by omega)
  have g4' : decide ((40 : Int) < (l.length : Int)) = false := decide_eq_false (by omega)
  go_enter Try.func24, Try.ntmps24
  go_wp2_with fail
  go_loopw [3] (fun i wr => ∃ k : Nat, k ≤ l.length ∧ i = .int .i64 k ∧ preOK l k = true ∧ Below w.heap.size w wr) (fun i _ => l.length - (intOf i).toNat)
  case atStart => exact ⟨0, by omega, rfl, rfl, Below.refl _ _⟩
  case round =>
    obtain ⟨k, hk, rfl, hall, hbw⟩ := hrel
    have HA := Lib.hid hall
    have HB := Lib.hid hbw
    clear hall hbw
    by_cases hlt : k < l.length
    · obtain ⟨b, off, hA, hb, c0, c1⟩ := (HL.out.below HB.out) k hlt
      subst hA
      have hki : (k : Int) < (l.length : Int) := by omega
      have hk0 : (0 : Int) ≤ (k : Int) := by omega
      obtain ⟨X, hX⟩ : ∃ X, X = (pt l k).1 := ⟨_, rfl⟩
      obtain ⟨Y, hY⟩ : ∃ Y, Y = (pt l k).2 := ⟨_, rfl⟩
      rw [← hX] at c0
      rw [← hY] at c1
      have HX := Lib.hid (And.intro hX hY)
      clear hX hY
      have hji : decide ((k : Int) < (l.length : Int)) = true := decide_eq_true hki
      go_wp2_with fail
      have e0 : k + 1 ≤ l.length := hlt
      cases hon : onB X Y with
      | false =>
        have HON : Hid (∀ W, Calls Try.prog 33 #[.agg #[.int .i64 X, .int .i64 Y]] W fun e w' => e = .returned (.bool false) ∧ Below W.heap.size W w') := fun W => by
          have h := ron_any X Y W
          rwa [hon] at h
        have HS : Hid (stepOK l k = false) := by unfold Hid stepOK; rw [← HX.out.1, ← HX.out.2, hon]; rfl
        clear hon
        refine Reg.wp_region_seq (by kernel_rfl) (by kernel_rfl) ?_
        simp only
        iterate 22
          apply Reg.SeqOK.val
          · intro γ W hW K hK
            obtain ⟨hc, hf, _⟩ := bcell hW
            simp only [Act.put, List.setIfInBounds_toArray, List.set_cons_zero, List.set_cons_succ] at hK
            unfold Reg.Does
            go_simp
            try simp only [IntWalk.i64_left]
            first
              | exact hK _ (Below.refl _ _)
              | (go_at_call 33; (with_reducible refine (HON.out _).mono ?_); rintro e w' ⟨rfl, hb⟩; exact hK _ hb)
              | (trace_state; fail)
          simp only [Act.put, List.setIfInBounds_toArray, List.set_cons_zero, List.set_cons_succ, List.nil_append, List.cons_append, Nat.reduceAdd, Nat.zero_add]
        refine Reg.SeqOK.nil (by kernel_rfl) (fun γ W hW _ _ _ => ?_)
        have HW1 := Lib.hid (HB.out.trans (hW.mono HB.out.size))
        clear hW
        go_wp2_with fail
        go_ret
        exact ⟨ret_bool (by unfold validL; rw [preOK_false HS.out _ hlt]; rfl), HW1.out⟩
      | true =>
        have HON : Hid (∀ W, Calls Try.prog 33 #[.agg #[.int .i64 X, .int .i64 Y]] W fun e w' => e = .returned (.bool true) ∧ Below W.heap.size W w') := fun W => by
          have h := ron_any X Y W
          rwa [hon] at h
        have HON2 := Lib.hid hon
        clear hon
        by_cases hz : k = 0
        · have hz' : ¬ (0 : Int) < (k : Int) := by omega
          have HS : Hid (stepOK l k = true) := by unfold Hid stepOK; rw [← HX.out.1, ← HX.out.2, HON2.out]; simp [hz]
          have hd1 : decide ((0 : Int) < (k : Int)) = false := decide_eq_false hz'
          have hd2 : decide (0 < k) = false := decide_eq_false (by omega)
          clear hz hz'
          refine Reg.wp_region_seq (by kernel_rfl) (by kernel_rfl) ?_
          simp only
          iterate 22
            apply Reg.SeqOK.val
            · intro γ W hW K hK
              obtain ⟨hc, hf, _⟩ := bcell hW
              simp only [Act.put, List.setIfInBounds_toArray, List.set_cons_zero, List.set_cons_succ] at hK
              unfold Reg.Does
              go_simp
              try simp only [IntWalk.i64_left]
              first
                | exact hK _ (Below.refl _ _)
                | (go_at_call 33; (with_reducible refine (HON.out _).mono ?_); rintro e w' ⟨rfl, hb⟩; exact hK _ hb)
                | (trace_state; fail)
            simp only [Act.put, List.setIfInBounds_toArray, List.set_cons_zero, List.set_cons_succ, List.nil_append, List.cons_append, Nat.reduceAdd, Nat.zero_add]
          refine Reg.SeqOK.nil (by kernel_rfl) (fun γ W hW _ _ _ => ?_)
          have HW1 := Lib.hid (HB.out.trans (hW.mono HB.out.size))
          clear hW
          go_wp2_with fail
          refine ⟨⟨k + 1, by omega, by go_num, by simp [preOK, HA.out, HS.out], HW1.out⟩, by simp [intOf]; omega⟩
        · have hz' : (0 : Int) < (k : Int) := by omega
          obtain ⟨m, hm⟩ : ∃ m, k = m + 1 := ⟨k - 1, by omega⟩
          obtain ⟨b', off', hA, hb, c0', c1'⟩ := (HL.out.below HB.out) m (by omega)
          obtain ⟨rfl, rfl⟩ : b = b' ∧ off = off' := by injection hA with h; injection h with h1 h2; exact ⟨h1, h2⟩
          have hm0 : (0 : Int) ≤ (m : Int) := by omega
          have hml : (m : Int) < (l.length : Int) := by omega
          have hsub : IntKind.i64.wrap ((k : Int) - 1) = (m : Int) := by rw [show (k : Int) - 1 = (m : Int) by omega]; exact i64_in _ (by omega) (by omega)
          obtain ⟨X', hX⟩ : ∃ X, X = (pt l m).1 := ⟨_, rfl⟩
          obtain ⟨Y', hY⟩ : ∃ Y, Y = (pt l m).2 := ⟨_, rfl⟩
          rw [← hX] at c0'
          rw [← hY] at c1'
          have HS : Hid (stepOK l k = !ptEq X Y X' Y') := by unfold Hid stepOK; rw [← HX.out.1, ← HX.out.2, HON2.out, show k - 1 = m by omega, ← hX, ← hY]; simp [hz]
          have hd1 : decide ((0 : Int) < (k : Int)) = true := decide_eq_true hz'
          have hd2 : decide (0 < k) = true := decide_eq_true (by omega)
          clear hX hY hz hA hm hz'
          refine Reg.wp_region_seq (by kernel_rfl) (by kernel_rfl) ?_
          simp only
          iterate 22
            apply Reg.SeqOK.val
            · intro γ W hW K hK
              obtain ⟨hc, hf, _⟩ := bcell hW
              simp only [Act.put, List.setIfInBounds_toArray, List.set_cons_zero, List.set_cons_succ] at hK
              unfold Reg.Does
              go_simp
              try simp only [IntWalk.i64_left]
              first
                | exact hK _ (Below.refl _ _)
                | (go_at_call 33; (with_reducible refine (HON.out _).mono ?_); rintro e w' ⟨rfl, hb⟩; exact hK _ hb)
                | (trace_state; fail)
            simp only [Act.put, List.setIfInBounds_toArray, List.set_cons_zero, List.set_cons_succ, List.nil_append, List.cons_append, Nat.reduceAdd, Nat.zero_add]
          refine Reg.SeqOK.nil (by kernel_rfl) (fun γ W hW _ _ _ => ?_)
          have HW1 := Lib.hid (HB.out.trans (hW.mono HB.out.size))
          clear hW
          cases hq : ptEq X Y X' Y' with
          | true =>
            have HF : Hid (stepOK l k = false) := by unfold Hid; rw [HS.out, hq]; rfl
            go_wp2_with fail
            go_ret
            exact ⟨ret_bool (by unfold validL; rw [preOK_false HF.out _ hlt]; rfl), HW1.out⟩
          | false =>
            have HF : Hid (stepOK l k = true) := by unfold Hid; rw [HS.out, hq]; rfl
            go_wp2_with fail
            refine ⟨⟨k + 1, by omega, by go_num, by simp [preOK, HA.out, HF.out], HW1.out⟩, by simp [intOf]; omega⟩
    · obtain rfl : k = l.length := by omega
      have hji : decide ((l.length : Int) < (l.length : Int)) = false := decide_eq_false (by omega)
      go_wp2_with fail
      go_ret
      exact ⟨ret_bool (by unfold validL; rw [HA.out, H24.out]; rfl), HB.out⟩

end G
end Go.Proofs.Ytjeapimjgojpoaa
