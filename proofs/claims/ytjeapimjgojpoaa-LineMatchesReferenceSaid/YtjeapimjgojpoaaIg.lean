/- Lines: 'Before'. -/
import Derived.Test.YtjeapimjgojpoaaIf
set_option linter.unusedSimpArgs false
set_option linter.unusedVariables false
set_option maxRecDepth 100000
namespace Go.Proofs.Ytjeapimjgojpoaa
open Go.RowKit
namespace G

theorem norm_any (s : Spt) (w : World) (h : s.B6) :
    Calls Try.prog 35 #[.agg s.cells] w fun e w' => e = .returned (.tuple #[.agg s.norm.cells, .bool s.formed]) ∧ Below w.heap.size w w' := by
  obtain ⟨a1, a2, a3, a4, a5, a6⟩ := s
  by_cases h0 : a1 < 0
  · exact norm_neg a1 a2 a3 a4 a5 a6 w h h0
  by_cases h1 : 38 < a1
  · exact norm_far a1 a2 a3 a4 a5 a6 w h h0 h1
  cases hv : validI a2 a3 with
  | false => exact norm_inv a1 a2 a3 a4 a5 a6 w h h0 h1 hv
  | true =>
    by_cases h2 : a2 < 0
    · exact norm_low a1 a2 a3 a4 a5 a6 w h h0 h1 hv h2
    by_cases h3 : a3 < a2
    · exact norm_big a1 a2 a3 a4 a5 a6 w h h0 h1 hv h2 h3
    by_cases h4 : a2 = a3
    · exact norm_end a1 a2 a3 a4 a5 a6 w h h0 h1 hv h2 h3 h4
    · exact norm_mid a1 a2 a3 a4 a5 a6 w h h0 h1 hv h2 h3 h4
def beforeI (a b : Spt) : Int := if (a.formed && b.formed) = true then (if a.norm.seg < b.norm.seg then -1 else if b.norm.seg < a.norm.seg then 1 else (compareI a.norm.pn a.norm.pd b.norm.pn b.norm.pd).1) else 0

set_option maxHeartbeats 4000000 in
theorem before_any (a b : Spt) (w : World) (ha : a.B6) (hb : b.B6) :
    Calls Try.prog 14 #[.agg a.cells, .agg b.cells] w fun e w' => e = .returned (.int .i64 (beforeI a b)) ∧ Below w.heap.size w w' := by
  have HN1 := Lib.hid (fun W => norm_any a W ha)
  have HN2 := Lib.hid (fun W => norm_any b W hb)
  have hna := norm_B6 ha
  have hnb := norm_B6 hb
  have HR : Hid (beforeI a b = if (a.formed && b.formed) = true then (if a.norm.seg < b.norm.seg then -1 else if b.norm.seg < a.norm.seg then 1 else (compareI a.norm.pn a.norm.pd b.norm.pn b.norm.pd).1) else 0) := by unfold Hid; rfl
  generalize beforeI a b = R at *
  clear ha hb
  generalize a.norm = x at *
  generalize b.norm = y at *
  obtain ⟨a1, a2, a3, a4, a5, a6⟩ := a
  obtain ⟨b1, b2, b3, b4, b5, b6⟩ := b
  obtain ⟨x1, x2, x3, x4, x5, x6⟩ := x
  obtain ⟨y1, y2, y3, y4, y5, y6⟩ := y
  have HC : Hid (∀ W, Calls Try.prog 17 #[.agg #[.int .i64 x2, .int .i64 x3], .agg #[.int .i64 y2, .int .i64 y3]] W fun e w' => e = .returned (.tuple #[.int .i64 (compareI x2 x3 y2 y3).1, .int .i64 (compareI x2 x3 y2 y3).2]) ∧ Below W.heap.size W w') := fun W => compare_any x2 x3 y2 y3 W hna.2.1 hna.2.2.1 hnb.2.1 hnb.2.2.1
  simp only [Spt.cells] at HN1 HN2 HR ⊢
  clear hna hnb
  generalize Spt.formed ⟨a1, a2, a3, a4, a5, a6⟩ = fa at *
  generalize Spt.formed ⟨b1, b2, b3, b4, b5, b6⟩ = fb at *
  go_enter Try.func14, Try.ntmps14
  go_wp2_with fail
  (with_reducible refine (HN1.out _).mono ?_); rintro e w1 ⟨rfl, hb1⟩
  have HB := Lib.hid ((((Below.refl w.heap.size w).alloc (Nat.le_refl _) _).alloc (by simp) _).trans (hb1.mono (by simp; omega)))
  obtain ⟨k1, k2⟩ := Reg.Blk.new2 hb1
  clear hb1 HN1 k1
  have HK2 := Lib.hid k2
  obtain ⟨c2, f2, z2⟩ := k2.facts
  clear k2
  go_wp2_with fail
  (with_reducible refine (HN2.out _).mono ?_); rintro e w2 ⟨rfl, hb2⟩
  have HB2 := Lib.hid ((HB.out.alloc HB.out.size _).trans (hb2.mono (by have := HB.out.size; simp; omega)))
  have k3 := Reg.Blk.new1 hb2
  clear hb2 HN2 c2 f2 z2 HB
  obtain ⟨c3, f3, z3⟩ := k3.facts
  have HK3 := Lib.hid k3
  clear k3
  have h4 := Reg.Blk.new w2 #[.int .i64 y1, .int .i64 y2, .int .i64 y3, .int .i64 y4, .int .i64 y5, .int .i64 y6] 34
  obtain ⟨c4, f4, z4⟩ := h4.facts
  obtain ⟨c5, f5, z5⟩ := (HK3.out.alloc (.cells #[.int .i64 y1, .int .i64 y2, .int .i64 y3, .int .i64 y4, .int .i64 y5, .int .i64 y6] 34)).facts
  have HB3 := Lib.hid (HB2.out.alloc HB2.out.size (.cells #[.int .i64 y1, .int .i64 y2, .int .i64 y3, .int .i64 y4, .int .i64 y5, .int .i64 y6] 34))
  clear h4
  cases fa with
  | false =>
    have HF : Hid (R = 0) := by unfold Hid; rw [HR.out]; simp
    go_wp2_with fail
    go_ret
    exact ⟨by rw [HF.out]; rfl, HB3.out⟩
  | true =>
  cases fb with
  | false =>
    have HF : Hid (R = 0) := by unfold Hid; rw [HR.out]; simp
    go_wp2_with fail
    go_ret
    exact ⟨by rw [HF.out]; rfl, HB3.out⟩
  | true =>
  by_cases h1 : x1 < y1
  · have HF : Hid (R = -1) := by unfold Hid; rw [HR.out]; simp [h1]
    go_wp2_with fail
    go_ret
    exact ⟨by rw [HF.out]; rfl, HB3.out⟩
  by_cases h2 : y1 < x1
  · have HF : Hid (R = 1) := by unfold Hid; rw [HR.out]; simp [h1, h2]
    go_wp2_with fail
    go_ret
    exact ⟨by rw [HF.out]; rfl, HB3.out⟩
  have HF : Hid (R = (compareI x2 x3 y2 y3).1) := by unfold Hid; rw [HR.out]; simp [h1, h2]
  go_wp2_with fail
  (with_reducible refine (HC.out _).mono ?_); rintro e w4 ⟨rfl, hb4⟩
  have HB4 := Lib.hid (HB3.out.trans (hb4.mono HB3.out.size))
  clear hb4
  go_wp2_with fail
  go_ret
  exact ⟨by rw [HF.out]; rfl, HB4.out⟩

end G
end Go.Proofs.Ytjeapimjgojpoaa
