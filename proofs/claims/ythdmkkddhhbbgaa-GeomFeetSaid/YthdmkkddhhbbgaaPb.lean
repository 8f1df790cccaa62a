/- Geom: the plain law on segments. -/
import Derived.Test.YthdmkkddhhbbgaaPh
set_option linter.unusedSimpArgs false
set_option linter.unusedVariables false
set_option maxRecDepth 100000
namespace Go.Proofs.Ythdmkkddhhbbgaa
open Go.RowKit
namespace G

def dotP (px py ax ay bx by' : Int) : Int := (ax - px) * (bx - px) + (ay - py) * (by' - py)
theorem sgn_zero (n : Int) : sgn n = 0 ↔ n = 0 := by have := sgn_cases n; omega
theorem betw_in {px py ax ay bx by' : Int} (h1 : InG px) (h2 : InG py) (h3 : InG ax) (h4 : InG ay) (h5 : InG bx) (h6 : InG by') :
    betwI px py ax ay bx by' = true ↔ (px = ax ∧ py = ay) ∨ (px = bx ∧ py = by') ∨ (areaP ax ay bx by' px py = 0 ∧ dotP px py ax ay bx by' < 0) := by
  unfold betwI on3 betwO dotPt
  rw [onB_in h1 h2, onB_in h3 h4, onB_in h5 h6, side_in h3 h4 h5 h6 h1 h2]
  have hs := sgn_zero (areaP ax ay bx by' px py)
  unfold InG at *
  rw [wsub ax px h3 h1, wsub ay py h4 h2, wsub bx px h5 h1, wsub by' py h6 h2, alongI_in (by omega) (by omega) (by omega) (by omega)]
  simp only [ptEq, dotP, Bool.and_self, Bool.true_and, Bool.or_eq_true, Bool.and_eq_true, decide_eq_true_eq, beq_iff_eq, hs, or_assoc]

theorem cross_dot (ux uy vx vy : Int) (hc : ux * vy - uy * vx = 0) (hd : ux * vx + uy * vy = 0) : (ux = 0 ∧ uy = 0) ∨ (vx = 0 ∧ vy = 0) := by
  have h : (ux * ux + uy * uy) * (vx * vx + vy * vy) = 0 := by
    have e : (ux * ux + uy * uy) * (vx * vx + vy * vy) = (ux * vy - uy * vx) * (ux * vy - uy * vx) + (ux * vx + uy * vy) * (ux * vx + uy * vy) := by grind
    rw [e, hc, hd]; rfl
  have z : ∀ x y : Int, x * x + y * y = 0 → x = 0 ∧ y = 0 := fun x y h => by
    have h1 := sq_nn x
    have h2 := sq_nn y
    have e1 : x * x = 0 := by omega
    have e2 : y * y = 0 := by omega
    exact ⟨by rcases Int.mul_eq_zero.1 e1 with h | h <;> exact h, by rcases Int.mul_eq_zero.1 e2 with h | h <;> exact h⟩
  rcases Int.mul_eq_zero.1 h with h | h
  · exact .inl (z _ _ h)
  · exact .inr (z _ _ h)

theorem dist_dot (ax ay bx by' cx cy : Int) : distP bx by' ax ay + distP ax ay cx cy ≤ distP bx by' cx cy ↔ dotP ax ay bx by' cx cy ≤ 0 := by
  have : distP bx by' cx cy = distP bx by' ax ay + distP ax ay cx cy - 2 * dotP ax ay bx by' cx cy := by unfold distP dotP; grind
  omega

theorem betw_law {ax ay bx by' cx cy : Int} (h1 : InG ax) (h2 : InG ay) (h3 : InG bx) (h4 : InG by') (h5 : InG cx) (h6 : InG cy) :
    betwI ax ay bx by' cx cy = (decide (turnI bx by' cx cy ax ay = 0) && decide (distI bx by' ax ay + distI ax ay cx cy ≤ distI bx by' cx cy)) := by
  rw [Bool.eq_iff_iff, betw_in h1 h2 h3 h4 h5 h6, turn_in h3 h4 h5 h6 h1 h2, dist_in h3 h4 h1 h2, dist_in h1 h2 h5 h6, dist_in h3 h4 h5 h6]
  simp only [Bool.and_eq_true, decide_eq_true_eq, dist_dot, sgn_zero]
  constructor
  · rintro (⟨rfl, rfl⟩ | ⟨rfl, rfl⟩ | ⟨h, h'⟩)
    · constructor
      · unfold areaP; grind
      · have : dotP ax ay ax ay cx cy = 0 := by unfold dotP; grind
        omega
    · constructor
      · unfold areaP; grind
      · have : dotP ax ay bx by' ax ay = 0 := by unfold dotP; grind
        omega
    · exact ⟨h, by omega⟩
  · rintro ⟨h, h'⟩
    by_cases h0 : dotP ax ay bx by' cx cy < 0
    · exact .inr (.inr ⟨h, h0⟩)
    · have hd : (bx - ax) * (cx - ax) + (by' - ay) * (cy - ay) = 0 := by unfold dotP at h0 h'; omega
      have hc : (bx - ax) * (cy - ay) - (by' - ay) * (cx - ax) = 0 := by
        have : areaP bx by' cx cy ax ay = (bx - ax) * (cy - ay) - (by' - ay) * (cx - ax) := by unfold areaP; grind
        omega
      rcases cross_dot _ _ _ _ hc hd with h | h
      · exact .inl (by omega)
      · exact .inr (.inl (by omega))

theorem betw_swap {ax ay bx by' cx cy : Int} (h1 : InG ax) (h2 : InG ay) (h3 : InG bx) (h4 : InG by') (h5 : InG cx) (h6 : InG cy) : betwI ax ay cx cy bx by' = betwI ax ay bx by' cx cy := by
  rw [Bool.eq_iff_iff, betw_in h1 h2 h3 h4 h5 h6, betw_in h1 h2 h5 h6 h3 h4]
  have e1 : areaP cx cy bx by' ax ay = -areaP bx by' cx cy ax ay := by unfold areaP; grind
  have e2 : dotP ax ay cx cy bx by' = dotP ax ay bx by' cx cy := by unfold dotP; grind
  rw [e1, e2]
  omega
theorem betw_end {bx by' cx cy : Int} (h3 : InG bx) (h4 : InG by') (h5 : InG cx) (h6 : InG cy) : betwI bx by' bx by' cx cy = true ∧ betwI cx cy bx by' cx cy = true :=
  ⟨(betw_in h3 h4 h3 h4 h5 h6).2 (.inl ⟨rfl, rfl⟩), (betw_in h5 h6 h3 h4 h5 h6).2 (.inr (.inl ⟨rfl, rfl⟩))⟩

end G
end Go.Proofs.Ythdmkkddhhbbgaa
