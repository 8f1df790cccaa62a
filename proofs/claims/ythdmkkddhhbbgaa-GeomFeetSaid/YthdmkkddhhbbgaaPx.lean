/- Geom: the plain law on crossings. -/
import Derived.Test.YthdmkkddhhbbgaaPb
set_option linter.unusedSimpArgs false
set_option linter.unusedVariables false
set_option maxRecDepth 100000
namespace Go.Proofs.Ythdmkkddhhbbgaa
open Go.RowKit
namespace G

theorem turn_bd {ax ay bx by' cx cy : Int} (h1 : InG ax) (h2 : InG ay) (h3 : InG bx) (h4 : InG by') (h5 : InG cx) (h6 : InG cy) : -1 ≤ turnI ax ay bx by' cx cy ∧ turnI ax ay bx by' cx cy ≤ 1 := by
  rw [turn_in h1 h2 h3 h4 h5 h6]; have := sgn_cases (areaP ax ay bx by' cx cy); omega
theorem prod_bd {s t : Int} (h : -1 ≤ s ∧ s ≤ 1) (k : -1 ≤ t ∧ t ≤ 1) : -1 ≤ s * t ∧ s * t ≤ 1 := by
  have : s = -1 ∨ s = 0 ∨ s = 1 := by omega
  rcases this with rfl | rfl | rfl <;> omega
theorem side_turn {ax ay bx by' cx cy : Int} (h1 : InG ax) (h2 : InG ay) (h3 : InG bx) (h4 : InG by') (h5 : InG cx) (h6 : InG cy) : segSide ax ay (wrap64 (bx - ax)) (wrap64 (by' - ay)) cx cy = turnI ax ay bx by' cx cy :=
  (side_in h1 h2 h3 h4 h5 h6).trans (turn_in h1 h2 h3 h4 h5 h6).symm
/-- Both points of the second pair are on different sides of the straight line through the first. -/
def apartB (ax ay bx by' cx cy dx dy : Int) : Bool := decide (turnI ax ay bx by' cx cy * turnI ax ay bx by' dx dy < 0)
theorem part_in {ax ay bx by' cx cy dx dy : Int} (h1 : InG ax) (h2 : InG ay) (h3 : InG bx) (h4 : InG by') (h5 : InG cx) (h6 : InG cy) (h7 : InG dx) (h8 : InG dy) :
    partI ax ay (wrap64 (bx - ax)) (wrap64 (by' - ay)) cx cy dx dy = apartB ax ay bx by' cx cy dx dy := by
  unfold partI apartB
  rw [side_turn h1 h2 h3 h4 h5 h6, side_turn h1 h2 h3 h4 h7 h8, IntWalk.wrap64_in]
  have := prod_bd (turn_bd h1 h2 h3 h4 h5 h6) (turn_bd h1 h2 h3 h4 h7 h8)
  omega
def touchB (ax ay bx by' cx cy dx dy : Int) : Bool := betwI ax ay cx cy dx dy || betwI bx by' cx cy dx dy || betwI cx cy ax ay bx by' || betwI dx dy ax ay bx by'
def wantI (ax ay bx by' cx cy dx dy : Int) : Int := if touchB ax ay bx by' cx cy dx dy = true then 1 else if (apartB ax ay bx by' cx cy dx dy && apartB cx cy dx dy ax ay bx by') = true then 2 else 0
theorem cross_in {ax ay bx by' cx cy dx dy : Int} (h1 : InG ax) (h2 : InG ay) (h3 : InG bx) (h4 : InG by') (h5 : InG cx) (h6 : InG cy) (h7 : InG dx) (h8 : InG dy) :
    crossI ax ay bx by' cx cy dx dy = wantI ax ay bx by' cx cy dx dy := by
  unfold crossI on4 crossO wantI touchB
  rw [onB_in h1 h2, onB_in h3 h4, onB_in h5 h6, onB_in h7 h8, part_in h1 h2 h3 h4 h5 h6 h7 h8, part_in h5 h6 h7 h8 h1 h2 h3 h4]
  simp only [Bool.and_self, if_true]

theorem turn_flip {ax ay bx by' cx cy : Int} (h1 : InG ax) (h2 : InG ay) (h3 : InG bx) (h4 : InG by') (h5 : InG cx) (h6 : InG cy) : turnI bx by' ax ay cx cy = -turnI ax ay bx by' cx cy := (turns_law h1 h2 h3 h4 h5 h6).2.2.2.1
theorem cross_law {ax ay bx by' cx cy dx dy : Int} (h1 : InG ax) (h2 : InG ay) (h3 : InG bx) (h4 : InG by') (h5 : InG cx) (h6 : InG cy) (h7 : InG dx) (h8 : InG dy) :
    crossI cx cy dx dy ax ay bx by' = crossI ax ay bx by' cx cy dx dy ∧ crossI bx by' ax ay cx cy dx dy = crossI ax ay bx by' cx cy dx dy ∧ crossI ax ay bx by' dx dy cx cy = crossI ax ay bx by' cx cy dx dy := by
  rw [cross_in h1 h2 h3 h4 h5 h6 h7 h8, cross_in h5 h6 h7 h8 h1 h2 h3 h4, cross_in h3 h4 h1 h2 h5 h6 h7 h8, cross_in h1 h2 h3 h4 h7 h8 h5 h6]
  have ap1 : apartB bx by' ax ay cx cy dx dy = apartB ax ay bx by' cx cy dx dy := by
    unfold apartB
    rw [turn_flip h1 h2 h3 h4 h5 h6, turn_flip h1 h2 h3 h4 h7 h8, Int.neg_mul_neg]
  have ap2 : ∀ {ax ay bx by' cx cy dx dy : Int}, apartB ax ay bx by' dx dy cx cy = apartB ax ay bx by' cx cy dx dy := fun {ax ay bx by' cx cy dx dy} => by
    unfold apartB
    rw [Int.mul_comm]
  have ap3 : apartB dx dy cx cy ax ay bx by' = apartB cx cy dx dy ax ay bx by' := by
    unfold apartB
    rw [turn_flip h5 h6 h7 h8 h1 h2, turn_flip h5 h6 h7 h8 h3 h4, Int.neg_mul_neg]
  have t1 : touchB cx cy dx dy ax ay bx by' = touchB ax ay bx by' cx cy dx dy := by
    unfold touchB; cases betwI ax ay cx cy dx dy <;> cases betwI bx by' cx cy dx dy <;> cases betwI cx cy ax ay bx by' <;> cases betwI dx dy ax ay bx by' <;> rfl
  have t2 : touchB bx by' ax ay cx cy dx dy = touchB ax ay bx by' cx cy dx dy := by
    unfold touchB
    rw [betw_swap h5 h6 h1 h2 h3 h4, betw_swap h7 h8 h1 h2 h3 h4]
    cases betwI ax ay cx cy dx dy <;> cases betwI bx by' cx cy dx dy <;> rfl
  have t3 : touchB ax ay bx by' dx dy cx cy = touchB ax ay bx by' cx cy dx dy := by
    unfold touchB
    rw [betw_swap h1 h2 h5 h6 h7 h8, betw_swap h3 h4 h5 h6 h7 h8]
    cases betwI cx cy ax ay bx by' <;> cases betwI dx dy ax ay bx by' <;> simp
  unfold wantI
  rw [t1, t2, t3, ap1, ap3, ap2 (cx := cx), ap2 (ax := cx)]
  refine ⟨?_, rfl, rfl⟩
  rw [Bool.and_comm]

end G
end Go.Proofs.Ythdmkkddhhbbgaa
