/- The reference's 'Foot'. -/
import Derived.Test.YthdmkkddhhbbgaaRf
import Derived.Test.YthdmkkddhhbbgaaRl
set_option linter.unusedSimpArgs false
set_option linter.unusedVariables false
set_option maxRecDepth 100000
namespace Go.Proofs.Ythdmkkddhhbbgaa
open Go.RowKit
namespace G

theorem sq_up {n : Int} (h : -2147352578 ≤ n ∧ n ≤ 2147352578) : n * n ≤ 4611123094243246084 := by
  have h1 := Int.mul_nonneg (a := 2147352578 - n) (b := 2147352578 + n) (by omega) (by omega)
  grind

/-- Foot of points on the grid, in the reference's words. -/
def rfootO (al all ar da db : Int) : Rat3 × Rat3 :=
  if al ≤ 0 then (lowI 0 1, lowI da 1) else if all ≤ al then (lowI 1 1, lowI db 1) else (lowI al all, lowI (ar * ar) all)
theorem rfoot_eq {px py ax ay bx by' : Int} (h1 : InG px) (h2 : InG py) (h3 : InG ax) (h4 : InG ay) (h5 : InG bx) (h6 : InG by') :
    footI px py ax ay bx by' = rfootO (alongI (wrap64 (px - ax)) (wrap64 (py - ay)) (wrap64 (bx - ax)) (wrap64 (by' - ay))) (distI ax ay bx by') (areaW ax ay bx by' px py) (distI px py ax ay) (distI px py bx by') ∧
    (0 ≤ distI ax ay bx by' ∧ distI ax ay bx by' ≤ 2147352578) ∧ (0 ≤ distI px py ax ay ∧ distI px py ax ay ≤ 2147352578) ∧ (0 ≤ distI px py bx by' ∧ distI px py bx by' ≤ 2147352578) ∧
    (-2147352578 ≤ areaW ax ay bx by' px py ∧ areaW ax ay bx by' px py ≤ 2147352578) ∧ 0 ≤ areaW ax ay bx by' px py * areaW ax ay bx by' px py ∧ areaW ax ay bx by' px py * areaW ax ay bx by' px py ≤ 4611123094243246084 := by
  have e1 : alongI (wrap64 (bx - ax)) (wrap64 (by' - ay)) (wrap64 (bx - ax)) (wrap64 (by' - ay)) = distI ax ay bx by' := by
    unfold distI on2
    rw [onB_in h3 h4, onB_in h5 h6]; rfl
  have e2 : alongI (wrap64 (bx - ax)) (wrap64 (by' - ay)) (wrap64 (px - ax)) (wrap64 (py - ay)) = alongI (wrap64 (px - ax)) (wrap64 (py - ay)) (wrap64 (bx - ax)) (wrap64 (by' - ay)) := by
    unfold alongI; rw [Int.mul_comm (wrap64 (bx - ax)), Int.mul_comm (wrap64 (by' - ay))]
  have e3 : areaI (wrap64 (bx - ax)) (wrap64 (by' - ay)) (wrap64 (px - ax)) (wrap64 (py - ay)) = areaW ax ay bx by' px py := rfl
  have d1 := distP_bd h3 h4 h5 h6
  have d2 := distP_bd h1 h2 h3 h4
  have d3 := distP_bd h1 h2 h5 h6
  rw [← dist_in h3 h4 h5 h6] at d1
  rw [← dist_in h1 h2 h3 h4] at d2
  rw [← dist_in h1 h2 h5 h6] at d3
  have a1 : -2147352578 ≤ areaW ax ay bx by' px py ∧ areaW ax ay bx by' px py ≤ 2147352578 := by
    have := areaW_in h3 h4 h5 h6 h1 h2
    unfold areaW
    rw [this]
    unfold areaP InG at *
    have m1 := mul_bd (x := bx - ax) (y := py - ay) (by omega) (by omega)
    have m2 := mul_bd (x := by' - ay) (y := px - ax) (by omega) (by omega)
    omega
  have a2 := sq_nn (areaW ax ay bx by' px py)
  have a3 : areaW ax ay bx by' px py * areaW ax ay bx by' px py ≤ 4611123094243246084 := sq_up a1
  have l1 := alongI_bd (wrap64 (px - ax)) (wrap64 (py - ay)) (wrap64 (bx - ax)) (wrap64 (by' - ay))
  refine ⟨?_, d1, d2, d3, a1, a2, a3⟩
  unfold footI on3
  rw [onB_in h1 h2, onB_in h3 h4, onB_in h5 h6]
  simp only [Bool.and_self, if_true]
  rw [e1, e2, e3]
  unfold footO rfootO
  have k0 : most = 4611686018427387904 := rfl
  by_cases c1 : alongI (wrap64 (px - ax)) (wrap64 (py - ay)) (wrap64 (bx - ax)) (wrap64 (by' - ay)) ≤ 0
  · rw [if_pos c1, if_pos c1, of_low (by omega) (by omega) (by omega) (by omega), of_low (by omega) (by omega) (by omega) (by omega)]
  · rw [if_neg c1, if_neg c1]
    by_cases c2 : distI ax ay bx by' ≤ alongI (wrap64 (px - ax)) (wrap64 (py - ay)) (wrap64 (bx - ax)) (wrap64 (by' - ay))
    · rw [if_pos c2, if_pos c2, of_low (by omega) (by omega) (by omega) (by omega), of_low (by omega) (by omega) (by omega) (by omega)]
    · rw [if_neg c2, if_neg c2, of_low (by omega) (by omega) (by omega) (by omega), IntWalk.wrap64_in (areaW ax ay bx by' px py * areaW ax ay bx by' px py) (by omega), of_low (by omega) (by omega) (by omega) (by omega)]

end G
end Go.Proofs.Ythdmkkddhhbbgaa
