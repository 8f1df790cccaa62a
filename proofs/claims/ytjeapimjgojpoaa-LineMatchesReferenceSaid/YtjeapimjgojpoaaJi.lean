/- Lines: the reference's 'Formed'; the walk of 'LineOrder'. -/
import Derived.Test.YtjeapimjgojpoaaJg
import Derived.Test.YtjeapimjgojpoaaJh
import Derived.Test.YtjeapimjgojpoaaIj
set_option linter.unusedSimpArgs false
set_option linter.unusedVariables false
set_option maxRecDepth 100000
namespace Go.Proofs.Ytjeapimjgojpoaa
open Go.RowKit
namespace G

set_option maxHeartbeats 8000000 in
theorem rformed_cells (a1 a2 a3 a4 a5 a6 : Int) (w : World) (hB : Spt.B6 ⟨a1, a2, a3, a4, a5, a6⟩) :
    Calls Try.prog 15 #[.agg #[.int .i64 a1, .int .i64 a2, .int .i64 a3, .int .i64 a4, .int .i64 a5, .int .i64 a6]] w fun e w' => e = .returned (.bool (Spt.formed ⟨a1, a2, a3, a4, a5, a6⟩)) ∧ Below w.heap.size w w' := by
  have HF : Hid (Spt.formed ⟨a1, a2, a3, a4, a5, a6⟩ = (decide (0 ≤ a1 ∧ a1 ≤ 38) && (validI a2 a3 && decide (0 ≤ a2 ∧ a2 ≤ a3)))) := by unfold Hid; rfl
  have HV := Lib.hid (fun W => rvalid_any a2 a3 W hB.2.1 hB.2.2.1)
  have k1 := Reg.Blk.new w #[.int .i64 a1, .int .i64 a2, .int .i64 a3, .int .i64 a4, .int .i64 a5, .int .i64 a6] 34
  have hal : Hid (Below w.heap.size w (w.alloc (.cells #[.int .i64 a1, .int .i64 a2, .int .i64 a3, .int .i64 a4, .int .i64 a5, .int .i64 a6] 34))) := (Below.refl _ _).alloc (Nat.le_refl _) _
  obtain ⟨c1, f1, z1⟩ := k1.facts
  clear k1 hB
  by_cases h1 : a1 < 0
  · go_enter Try.func15, Try.ntmps15
    go_wp2_with fail
    go_ret
    exact ⟨ret_bool (by rw [HF.out, decide_eq_false (p := 0 ≤ a1 ∧ a1 ≤ 38) (by omega)]; rfl), hal.out⟩
  by_cases h2 : 38 < a1
  · go_enter Try.func15, Try.ntmps15
    go_wp2_with fail
    go_ret
    exact ⟨ret_bool (by rw [HF.out, decide_eq_false (p := 0 ≤ a1 ∧ a1 ≤ 38) (by omega)]; rfl), hal.out⟩
  have H12 : Hid (decide (0 ≤ a1 ∧ a1 ≤ 38) = true) := decide_eq_true (by omega)
  cases hv : validI a2 a3 with
  | false =>
    rw [hv] at HV HF
    clear hv
    go_enter Try.func15, Try.ntmps15
    go_wp2_with fail
    (with_reducible refine (HV.out _).mono ?_); rintro e w1 ⟨rfl, hb1⟩
    have HB := Lib.hid (hal.out.trans (hb1.mono (by simp)))
    clear hb1 HV c1 f1 z1
    go_wp2_with fail
    go_ret
    exact ⟨ret_bool (by rw [HF.out]; simp), HB.out⟩
  | true =>
    rw [hv] at HV HF
    clear hv
    go_enter Try.func15, Try.ntmps15
    go_wp2_with fail
    (with_reducible refine (HV.out _).mono ?_); rintro e w1 ⟨rfl, hb1⟩
    have HB := Lib.hid (hal.out.trans (hb1.mono (by simp)))
    have k2 := Reg.Blk.new1 hb1
    clear hb1 HV c1 f1 z1
    obtain ⟨c1, f1, z1⟩ := k2.facts
    clear k2
    by_cases h3 : a2 < 0
    · go_wp2_with fail
      go_ret
      exact ⟨ret_bool (by rw [HF.out, decide_eq_false (p := 0 ≤ a2 ∧ a2 ≤ a3) (by omega)]; simp), HB.out⟩
    by_cases h4 : a3 < a2
    · go_wp2_with fail
      go_ret
      exact ⟨ret_bool (by rw [HF.out, decide_eq_false (p := 0 ≤ a2 ∧ a2 ≤ a3) (by omega)]; simp; try omega), HB.out⟩
    · go_wp2_with fail
      go_ret
      exact ⟨ret_bool (by rw [HF.out, H12.out, decide_eq_true (p := 0 ≤ a2 ∧ a2 ≤ a3) (by omega)]; simp; try omega), HB.out⟩
theorem rformed_any (s : Spt) (w : World) (hB : s.B6) : Calls Try.prog 15 #[.agg s.cells] w fun e w' => e = .returned (.bool s.formed) ∧ Below w.heap.size w w' := by
  obtain ⟨a1, a2, a3, a4, a5, a6⟩ := s
  exact rformed_cells a1 a2 a3 a4 a5 a6 w hB

set_option maxHeartbeats 16000000 in
theorem order_walk (a b c : Spt) (w : World) (ha : a.B6) (hb : b.B6) (hc : c.B6) :
    Calls Try.prog 4 #[.agg a.cells, .agg b.cells, .agg c.cells] w fun e w' => e = .returned (.bool true) ∧ Below w.heap.size w w' := by
  have HA := Lib.hid (fun W => rformed_any a W ha)
  have HB' := Lib.hid (fun W => rformed_any b W hb)
  have HC := Lib.hid (fun W => rformed_any c W hc)
  have Q1 := Lib.hid (fun W => before_any a b W ha hb)
  have Q2 := Lib.hid (fun W => before_any b c W hb hc)
  have Q3 := Lib.hid (fun W => before_any a c W ha hc)
  have Q4 := fun W => before_any b a W hb ha
  have Q5 := fun W => before_any a a W ha ha
  rw [before_flip] at Q4
  rw [before_refl] at Q5
  have Q4 := Lib.hid Q4
  have Q5 := Lib.hid Q5
  have hX := before_bd a b
  have hY := before_bd b c
  have hZ := before_bd a c
  have HLaw : Hid (a.formed = true → b.formed = true → c.formed = true → ¬ (beforeI a b ≤ 0 ∧ beforeI b c ≤ 0 ∧ (0 < beforeI a c ∨ ((beforeI a b < 0 ∨ beforeI b c < 0) ∧ beforeI a c = 0))) ∧ (a.seg < b.seg → beforeI a b ≤ 0)) := fun x y z => ⟨before_law x y z, before_seg x y⟩
  generalize beforeI a b = X at *
  generalize beforeI b c = Y at *
  generalize beforeI a c = Z at *
  obtain ⟨a1, a2, a3, a4, a5, a6⟩ := a
  obtain ⟨b1, b2, b3, b4, b5, b6⟩ := b
  obtain ⟨d1, d2, d3, d4, d5, d6⟩ := c
  simp only [Spt.cells] at *
  generalize Spt.formed ⟨a1, a2, a3, a4, a5, a6⟩ = fa at *
  generalize Spt.formed ⟨b1, b2, b3, b4, b5, b6⟩ = fb at *
  generalize Spt.formed ⟨d1, d2, d3, d4, d5, d6⟩ = fc at *
  clear ha hb hc
  have hneg : IntKind.i64.wrap (-X) = -X := i64_in _ (by omega) (by omega)
  go_enter Try.func4, Try.ntmps4
  go_wp2_with fail
  (with_reducible refine (head_any _).mono ?_); rintro e w1 ⟨rfl, hb1⟩
  have HB := Lib.hid (((((Below.refl w.heap.size w).alloc (Nat.le_refl _) _).alloc (by simp) _).alloc (by simp; omega) _).trans (hb1.mono (by simp; omega)))
  obtain ⟨k0, k1, k2⟩ := Reg.Blk.new3 hb1
  have K0 := Lib.hid k0
  have K1 := Lib.hid k1
  have K2 := Lib.hid k2
  clear hb1 k0 k1 k2
  obtain ⟨c0, f0, z0⟩ := K0.out.facts
  obtain ⟨c1, f1, z1⟩ := K1.out.facts
  obtain ⟨c2, f2, z2⟩ := K2.out.facts
  go_wp2_with fail
  (with_reducible refine (Q1.out _).mono ?_); rintro e w2 ⟨rfl, hb2⟩
  replace HB := Lib.hid (HB.out.trans (hb2.mono HB.out.size))
  replace K0 := Lib.hid (K0.out.keep hb2)
  replace K1 := Lib.hid (K1.out.keep hb2)
  replace K2 := Lib.hid (K2.out.keep hb2)
  clear hb2 c0 f0 z0 c1 f1 z1 c2 f2 z2
  obtain ⟨c0, f0, z0⟩ := K0.out.facts
  obtain ⟨c1, f1, z1⟩ := K1.out.facts
  obtain ⟨c2, f2, z2⟩ := K2.out.facts
  go_wp2_with fail
  (with_reducible refine (Q2.out _).mono ?_); rintro e w3 ⟨rfl, hb2⟩
  replace HB := Lib.hid (HB.out.trans (hb2.mono HB.out.size))
  replace K0 := Lib.hid (K0.out.keep hb2)
  replace K1 := Lib.hid (K1.out.keep hb2)
  replace K2 := Lib.hid (K2.out.keep hb2)
  clear hb2 c0 f0 z0 c1 f1 z1 c2 f2 z2
  obtain ⟨c0, f0, z0⟩ := K0.out.facts
  obtain ⟨c1, f1, z1⟩ := K1.out.facts
  obtain ⟨c2, f2, z2⟩ := K2.out.facts
  go_wp2_with fail
  (with_reducible refine (Q3.out _).mono ?_); rintro e w4 ⟨rfl, hb2⟩
  replace HB := Lib.hid (HB.out.trans (hb2.mono HB.out.size))
  replace K0 := Lib.hid (K0.out.keep hb2)
  replace K1 := Lib.hid (K1.out.keep hb2)
  replace K2 := Lib.hid (K2.out.keep hb2)
  clear hb2 c0 f0 z0 c1 f1 z1 c2 f2 z2
  obtain ⟨c0, f0, z0⟩ := K0.out.facts
  obtain ⟨c1, f1, z1⟩ := K1.out.facts
  obtain ⟨c2, f2, z2⟩ := K2.out.facts
  go_wp2_with fail
  (with_reducible refine (Q4.out _).mono ?_); rintro e w5 ⟨rfl, hb2⟩
  replace HB := Lib.hid (HB.out.trans (hb2.mono HB.out.size))
  replace K0 := Lib.hid (K0.out.keep hb2)
  replace K1 := Lib.hid (K1.out.keep hb2)
  replace K2 := Lib.hid (K2.out.keep hb2)
  clear hb2 c0 f0 z0 c1 f1 z1 c2 f2 z2
  obtain ⟨c0, f0, z0⟩ := K0.out.facts
  obtain ⟨c1, f1, z1⟩ := K1.out.facts
  obtain ⟨c2, f2, z2⟩ := K2.out.facts
  go_wp2_with fail
  (with_reducible refine (Q5.out _).mono ?_); rintro e w6 ⟨rfl, hb2⟩
  replace HB := Lib.hid (HB.out.trans (hb2.mono HB.out.size))
  replace K0 := Lib.hid (K0.out.keep hb2)
  replace K1 := Lib.hid (K1.out.keep hb2)
  replace K2 := Lib.hid (K2.out.keep hb2)
  clear hb2 c0 f0 z0 c1 f1 z1 c2 f2 z2 Q1 Q2 Q3 Q4 Q5
  obtain ⟨c0, f0, z0⟩ := K0.out.facts
  obtain ⟨c1, f1, z1⟩ := K1.out.facts
  obtain ⟨c2, f2, z2⟩ := K2.out.facts
  rcases (by omega : X = -1 ∨ X = 0 ∨ X = 1) with rfl | rfl | rfl
  all_goals
    clear hX hneg
    go_wp2_with fail
    (with_reducible refine (HA.out _).mono ?_); rintro e w7 ⟨rfl, hb2⟩
    have HB7 := Lib.hid (HB.out.trans (hb2.mono HB.out.size))
    have K07 := Lib.hid (K0.out.keep hb2)
    have K17 := Lib.hid (K1.out.keep hb2)
    have K27 := Lib.hid (K2.out.keep hb2)
    clear hb2 c0 f0 z0 c1 f1 z1 c2 f2 z2 HA HB K0 K1 K2
    obtain ⟨c0, f0, z0⟩ := K07.out.facts
    obtain ⟨c1, f1, z1⟩ := K17.out.facts
    obtain ⟨c2, f2, z2⟩ := K27.out.facts
    cases fa with
    | false =>
      go_wp2_with fail
      go_ret
      exact ⟨rfl, HB7.out⟩
    | true =>
      go_wp2_with fail
      (with_reducible refine (HB'.out _).mono ?_); rintro e w8 ⟨rfl, hb2⟩
      have HB8 := Lib.hid (HB7.out.trans (hb2.mono HB7.out.size))
      have K08 := Lib.hid (K07.out.keep hb2)
      have K18 := Lib.hid (K17.out.keep hb2)
      have K28 := Lib.hid (K27.out.keep hb2)
      clear hb2 c0 f0 z0 c1 f1 z1 c2 f2 z2 HB' HB7 K07 K17 K27
      obtain ⟨c0, f0, z0⟩ := K08.out.facts
      obtain ⟨c1, f1, z1⟩ := K18.out.facts
      obtain ⟨c2, f2, z2⟩ := K28.out.facts
      cases fb with
      | false =>
        go_wp2_with fail
        go_ret
        exact ⟨rfl, HB8.out⟩
      | true =>
        go_wp2_with fail
        (with_reducible refine (HC.out _).mono ?_); rintro e w9 ⟨rfl, hb2⟩
        have HB9 := Lib.hid (HB8.out.trans (hb2.mono HB8.out.size))
        have K09 := Lib.hid (K08.out.keep hb2)
        have K19 := Lib.hid (K18.out.keep hb2)
        clear hb2 c0 f0 z0 c1 f1 z1 c2 f2 z2 HC HB8 K08 K18 K28
        obtain ⟨c0, f0, z0⟩ := K09.out.facts
        obtain ⟨c1, f1, z1⟩ := K19.out.facts
        cases fc with
        | false =>
          go_wp2_with fail
          go_ret
          exact ⟨rfl, HB9.out⟩
        | true =>
          have hl := HLaw.out (by first | rfl | trivial) (by first | rfl | trivial) (by first | rfl | trivial)
          have HL1 := Lib.hid hl.1
          have HL2 := Lib.hid hl.2
          clear hl
          rcases (by omega : Y = -1 ∨ Y = 0 ∨ Y = 1) with rfl | rfl | rfl <;> rcases (by omega : Z = -1 ∨ Z = 0 ∨ Z = 1) with rfl | rfl | rfl
          all_goals first | (exfalso; have := HL1.out; omega) | skip
          all_goals
            clear hY hZ HL1
            by_cases hs : a1 < b1
            · first
                | (exfalso; have := HL2.out hs; omega)
                | (have hs' : decide (b1 ≤ a1) = false := decide_eq_false (by omega)
                   clear HL2
                   go_wp2_with fail
                   go_ret
                   exact ⟨rfl, HB9.out⟩)
            · have hs' : decide (b1 ≤ a1) = true := decide_eq_true (by omega)
              clear HL2
              go_wp2_with fail
              go_ret
              exact ⟨rfl, HB9.out⟩

end G
end Go.Proofs.Ytjeapimjgojpoaa
