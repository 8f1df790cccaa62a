/- Geom: plain laws on distances and segments. -/
import Derived.Test.YthdmkkddhhbbgaaPg
import Derived.Test.YthdmkkddhhbbgaaGd
set_option linter.unusedSimpArgs false
set_option linter.unusedVariables false
set_option maxRecDepth 100000
namespace Go.Proofs.Ythdmkkddhhbbgaa
open Go.RowKit
namespace G

def distP (ax ay bx by' : Int) : Int := (bx - ax) * (bx - ax) + (by' - ay) * (by' - ay)
theorem sq_bd {x : Int} (hx : -32767 ≤ x ∧ x ≤ 32767) : 0 ≤ x * x ∧ x * x ≤ 1073676289 := ⟨by
  have : 0 ≤ x ∨ 0 ≤ -x := by omega
  rcases this with h | h
  · exact Int.mul_nonneg h h
  · have := Int.mul_nonneg h h; grind, (mul_bd hx hx).2⟩
theorem alongI_in {a b c d : Int} (ha : -32767 ≤ a ∧ a ≤ 32767) (hb : -32767 ≤ b ∧ b ≤ 32767) (hc : -32767 ≤ c ∧ c ≤ 32767) (hd : -32767 ≤ d ∧ d ≤ 32767) : alongI a b c d = a * c + b * d := by
  unfold alongI
  have m1 := mul_bd ha hc
  have m2 := mul_bd hb hd
  rw [IntWalk.wrap64_in (a * c) (by omega), IntWalk.wrap64_in (b * d) (by omega), IntWalk.wrap64_in _ (by omega)]
theorem dist_in {ax ay bx by' : Int} (h1 : InG ax) (h2 : InG ay) (h3 : InG bx) (h4 : InG by') : distI ax ay bx by' = distP ax ay bx by' := by
  unfold distI on2
  rw [onB_in h1 h2, onB_in h3 h4]
  simp only [Bool.and_self, if_true]
  unfold InG at *
  rw [wsub bx ax h3 h1, wsub by' ay h4 h2, alongI_in (by omega) (by omega) (by omega) (by omega)]
  rfl
theorem distP_bd {ax ay bx by' : Int} (h1 : InG ax) (h2 : InG ay) (h3 : InG bx) (h4 : InG by') : 0 ≤ distP ax ay bx by' ∧ distP ax ay bx by' ≤ 2147352578 := by
  unfold distP InG at *
  have m1 := sq_bd (x := bx - ax) (by omega)
  have m2 := sq_bd (x := by' - ay) (by omega)
  omega
theorem distP_zero (ax ay bx by' : Int) : distP ax ay bx by' = 0 ↔ ax = bx ∧ ay = by' := by
  unfold distP
  have nn : ∀ x : Int, 0 ≤ x * x := fun x => by
    have : 0 ≤ x ∨ 0 ≤ -x := by omega
    rcases this with h | h
    · exact Int.mul_nonneg h h
    · have := Int.mul_nonneg h h; grind
  constructor
  · intro h
    have h1 := nn (bx - ax)
    have h2 := nn (by' - ay)
    have e1 : (bx - ax) * (bx - ax) = 0 := by omega
    have e2 : (by' - ay) * (by' - ay) = 0 := by omega
    have e3 : bx - ax = 0 := by rcases Int.mul_eq_zero.1 e1 with h | h <;> exact h
    have e4 : by' - ay = 0 := by rcases Int.mul_eq_zero.1 e2 with h | h <;> exact h
    omega
  · rintro ⟨rfl, rfl⟩; simp

/-- The distances' law: what n exceeds x + y by is twice a scalar product. -/
theorem dists_law (ax ay bx by' cx cy : Int) :
    (distP ax ay bx by' - distP ax ay cx cy - distP cx cy bx by') * (distP ax ay bx by' - distP ax ay cx cy - distP cx cy bx by') + 4 * (((cx - ax) * (by' - cy) - (cy - ay) * (bx - cx)) * ((cx - ax) * (by' - cy) - (cy - ay) * (bx - cx))) = 4 * (distP ax ay cx cy * distP cx cy bx by') := by
  unfold distP; grind
theorem over_even (ax ay bx by' cx cy : Int) : distP ax ay bx by' - distP ax ay cx cy - distP cx cy bx by' = 2 * ((cx - ax) * (bx - cx) + (cy - ay) * (by' - cy)) := by
  unfold distP; grind

theorem sq_nn (x : Int) : 0 ≤ x * x := by
  have : 0 ≤ x ∨ 0 ≤ -x := by omega
  rcases this with h | h
  · exact Int.mul_nonneg h h
  · have := Int.mul_nonneg h h; grind

/-- All that the law GeomDistances asks, of points on the grid. -/
theorem dists_all {ax ay bx by' cx cy : Int} (h1 : InG ax) (h2 : InG ay) (h3 : InG bx) (h4 : InG by') (h5 : InG cx) (h6 : InG cy) :
    (0 ≤ distI ax ay bx by' ∧ distI ax ay bx by' ≤ 2147352578) ∧ distI bx by' ax ay = distI ax ay bx by' ∧ ptEq ax ay bx by' = (distI ax ay bx by' == 0) ∧
    (0 ≤ distI ax ay cx cy ∧ distI ax ay cx cy ≤ 2147352578) ∧ (0 ≤ distI cx cy bx by' ∧ distI cx cy bx by' ≤ 2147352578) ∧
    (0 ≤ distI ax ay cx cy * distI cx cy bx by' ∧ distI ax ay cx cy * distI cx cy bx by' ≤ 4611686018427387904) ∧
    (distI ax ay cx cy + distI cx cy bx by' < distI ax ay bx by' → 0 < distI ax ay cx cy ∧
      ((distI ax ay bx by' - distI ax ay cx cy - distI cx cy bx by') * (distI ax ay bx by' - distI ax ay cx cy - distI cx cy bx by') + 3) / 4 ≤ distI ax ay cx cy * distI cx cy bx by' ∧
      (0 ≤ (distI ax ay bx by' - distI ax ay cx cy - distI cx cy bx by') * (distI ax ay bx by' - distI ax ay cx cy - distI cx cy bx by') ∧
       (distI ax ay bx by' - distI ax ay cx cy - distI cx cy bx by') * (distI ax ay bx by' - distI ax ay cx cy - distI cx cy bx by') ≤ 4611686018427387904)) := by
  rw [dist_in h1 h2 h3 h4, dist_in h3 h4 h1 h2, dist_in h1 h2 h5 h6, dist_in h5 h6 h3 h4]
  have b1 := distP_bd h1 h2 h3 h4
  have b2 := distP_bd h1 h2 h5 h6
  have b3 := distP_bd h5 h6 h3 h4
  have hl := dists_law ax ay bx by' cx cy
  have ho := over_even ax ay bx by' cx cy
  have nn := sq_nn ((cx - ax) * (by' - cy) - (cy - ay) * (bx - cx))
  have hz := distP_zero ax ay cx cy
  have hxy : 0 ≤ distP ax ay cx cy * distP cx cy bx by' ∧ distP ax ay cx cy * distP cx cy bx by' ≤ 4611686018427387904 := by
    refine ⟨Int.mul_nonneg b2.1 b3.1, ?_⟩
    have := Int.mul_le_mul b2.2 b3.2 b3.1 (by omega)
    omega
  refine ⟨b1, by unfold distP; grind, ?_, b2, b3, hxy, fun hlt => ?_⟩
  · have hz := distP_zero ax ay bx by'
    rw [Bool.eq_iff_iff]
    simp only [ptEq, Bool.and_eq_true, decide_eq_true_eq, beq_iff_eq]
    exact hz.symm
  · generalize (cx - ax) * (bx - cx) + (cy - ay) * (by' - cy) = s at *
    generalize ((cx - ax) * (by' - cy) - (cy - ay) * (bx - cx)) * ((cx - ax) * (by' - cy) - (cy - ay) * (bx - cx)) = c at *
    have hx0 : 0 < distP ax ay cx cy := by
      rcases Int.lt_or_le 0 (distP ax ay cx cy) with h | h
      · exact h
      · exfalso
        have e0 : distP ax ay cx cy = 0 := by omega
        obtain ⟨rfl, rfl⟩ := hz.1 e0
        omega
    rw [ho] at hl ⊢
    have hs : 2 * s * (2 * s) = 4 * (s * s) := by grind
    have nns := sq_nn s
    have hup : 2 * s * (2 * s) ≤ 2147352578 * 2147352578 := Int.mul_le_mul (by omega) (by omega) (by omega) (by omega)
    rw [hs] at hl hup ⊢
    exact ⟨hx0, by omega, by omega, by omega⟩

end G
end Go.Proofs.Ythdmkkddhhbbgaa
