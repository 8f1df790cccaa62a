/- Geom: plain laws on the grid. -/
import Derived.Test.YthdmkkddhhbbgaaGr
set_option linter.unusedSimpArgs false
set_option linter.unusedVariables false
set_option maxRecDepth 100000
namespace Go.Proofs.Ythdmkkddhhbbgaa
open Go.RowKit
namespace G

/-- On the grid nothing wraps. -/
theorem wsub (a b : Int) (ha : 0 ≤ a ∧ a ≤ 32767) (hb : 0 ≤ b ∧ b ≤ 32767) : wrap64 (a - b) = a - b := IntWalk.wrap64_in _ (by omega)
theorem mul_bd {x y : Int} (hx : -32767 ≤ x ∧ x ≤ 32767) (hy : -32767 ≤ y ∧ y ≤ 32767) : -1073676289 ≤ x * y ∧ x * y ≤ 1073676289 := by
  have h1 : 0 ≤ (32767 - x) * (32767 + y) := Int.mul_nonneg (by omega) (by omega)
  have h2 : 0 ≤ (32767 + x) * (32767 - y) := Int.mul_nonneg (by omega) (by omega)
  have h3 : 0 ≤ (32767 - x) * (32767 - y) := Int.mul_nonneg (by omega) (by omega)
  have h4 : 0 ≤ (32767 + x) * (32767 + y) := Int.mul_nonneg (by omega) (by omega)
  constructor <;> grind
def InG (x : Int) : Prop := 0 ≤ x ∧ x ≤ 32767
theorem gm_in (x : Int) : InG (gm x) := gm_bd x
theorem onB_in {x y : Int} (hx : InG x) (hy : InG y) : onB x y = true := by unfold onB; simp; unfold InG at hx hy; omega
def areaP (ax ay bx by' cx cy : Int) : Int := (bx - ax) * (cy - ay) - (by' - ay) * (cx - ax)
theorem side_in {ax ay bx by' cx cy : Int} (h1 : InG ax) (h2 : InG ay) (h3 : InG bx) (h4 : InG by') (h5 : InG cx) (h6 : InG cy) : sideI ax ay bx by' cx cy = sgn (areaP ax ay bx by' cx cy) := by
  unfold sideI segSide areaP
  unfold InG at *
  rw [wsub bx ax h3 h1, wsub by' ay h4 h2, wsub cy ay h6 h2, wsub cx ax h5 h1]
  have m1 := mul_bd (x := bx - ax) (y := cy - ay) (by omega) (by omega)
  have m2 := mul_bd (x := by' - ay) (y := cx - ax) (by omega) (by omega)
  rw [IntWalk.wrap64_in ((bx - ax) * (cy - ay)) (by omega), IntWalk.wrap64_in ((by' - ay) * (cx - ax)) (by omega), IntWalk.wrap64_in _ (by omega)]
theorem turn_in {ax ay bx by' cx cy : Int} (h1 : InG ax) (h2 : InG ay) (h3 : InG bx) (h4 : InG by') (h5 : InG cx) (h6 : InG cy) : turnI ax ay bx by' cx cy = sgn (areaP ax ay bx by' cx cy) := by
  unfold turnI on3
  rw [onB_in h1 h2, onB_in h3 h4, onB_in h5 h6]
  simp only [Bool.and_self, if_true]
  exact side_in h1 h2 h3 h4 h5 h6
theorem sgn_neg (n : Int) : sgn (-n) = -sgn n := by unfold sgn; split <;> split <;> (try split) <;> omega

theorem turns_law {ax ay bx by' cx cy : Int} (h1 : InG ax) (h2 : InG ay) (h3 : InG bx) (h4 : InG by') (h5 : InG cx) (h6 : InG cy) :
    (-1 ≤ turnI ax ay bx by' cx cy ∧ turnI ax ay bx by' cx cy ≤ 1) ∧ turnI bx by' cx cy ax ay = turnI ax ay bx by' cx cy ∧ turnI cx cy ax ay bx by' = turnI ax ay bx by' cx cy ∧
    turnI bx by' ax ay cx cy = -turnI ax ay bx by' cx cy ∧ turnI ax ay cx cy bx by' = -turnI ax ay bx by' cx cy ∧ turnI cx cy bx by' ax ay = -turnI ax ay bx by' cx cy ∧ turnI ax ay ax ay bx by' = 0 ∧ turnI ax ay bx by' bx by' = 0 := by
  rw [turn_in h1 h2 h3 h4 h5 h6, turn_in h3 h4 h5 h6 h1 h2, turn_in h5 h6 h1 h2 h3 h4, turn_in h3 h4 h1 h2 h5 h6, turn_in h1 h2 h5 h6 h3 h4, turn_in h5 h6 h3 h4 h1 h2, turn_in h1 h2 h1 h2 h3 h4, turn_in h1 h2 h3 h4 h3 h4]
  have hs := sgn_cases (areaP ax ay bx by' cx cy)
  refine ⟨by omega, ?_, ?_, ?_, ?_, ?_, ?_, ?_⟩
  · congr 1; unfold areaP; grind
  · congr 1; unfold areaP; grind
  · rw [← sgn_neg]; congr 1; unfold areaP; grind
  · rw [← sgn_neg]; congr 1; unfold areaP; grind
  · rw [← sgn_neg]; congr 1; unfold areaP; grind
  · have : areaP ax ay ax ay bx by' = 0 := by unfold areaP; grind
    rw [this]; rfl
  · have : areaP ax ay bx by' bx by' = 0 := by unfold areaP; grind
    rw [this]; rfl

end G
end Go.Proofs.Ythdmkkddhhbbgaa
