/- Geom: plain laws on moving points. -/
import Derived.Test.YthdmkkddhhbbgaaPn
set_option linter.unusedSimpArgs false
set_option linter.unusedVariables false
set_option maxRecDepth 100000
namespace Go.Proofs.Ythdmkkddhhbbgaa
open Go.RowKit
namespace G

theorem betw_move {px py ax ay bx by' u v : Int} (h1 : InG px) (h2 : InG py) (h3 : InG ax) (h4 : InG ay) (h5 : InG bx) (h6 : InG by')
    (k1 : InG (px + u)) (k2 : InG (py + v)) (k3 : InG (ax + u)) (k4 : InG (ay + v)) (k5 : InG (bx + u)) (k6 : InG (by' + v)) :
    betwI (px + u) (py + v) (ax + u) (ay + v) (bx + u) (by' + v) = betwI px py ax ay bx by' := by
  have e1 : areaP (ax + u) (ay + v) (bx + u) (by' + v) (px + u) (py + v) = areaP ax ay bx by' px py := by unfold areaP; grind
  have e2 : dotP (px + u) (py + v) (ax + u) (ay + v) (bx + u) (by' + v) = dotP px py ax ay bx by' := by unfold dotP; grind
  rw [Bool.eq_iff_iff, betw_in k1 k2 k3 k4 k5 k6, betw_in h1 h2 h3 h4 h5 h6, e1, e2]
  constructor <;> rintro (h | h | h) <;> first | exact .inl ⟨by omega, by omega⟩ | exact .inr (.inl ⟨by omega, by omega⟩) | exact .inr (.inr h)
theorem betw_turn {px py ax ay bx by' : Int} (h1 : InG px) (h2 : InG py) (h3 : InG ax) (h4 : InG ay) (h5 : InG bx) (h6 : InG by') :
    betwI py px ay ax by' bx = betwI px py ax ay bx by' := by
  have e1 : areaP ay ax by' bx py px = -areaP ax ay bx by' px py := by unfold areaP; grind
  have e2 : dotP py px ay ax by' bx = dotP px py ax ay bx by' := by unfold dotP; grind
  rw [Bool.eq_iff_iff, betw_in h2 h1 h4 h3 h6 h5, betw_in h1 h2 h3 h4 h5 h6, e1, e2]
  constructor <;> rintro (h | h | h) <;> first | exact .inl ⟨h.2, h.1⟩ | exact .inr (.inl ⟨h.2, h.1⟩) | exact .inr (.inr ⟨by omega, by omega⟩)
theorem turn_move {ax ay bx by' cx cy u v : Int} (h1 : InG ax) (h2 : InG ay) (h3 : InG bx) (h4 : InG by') (h5 : InG cx) (h6 : InG cy)
    (k1 : InG (ax + u)) (k2 : InG (ay + v)) (k3 : InG (bx + u)) (k4 : InG (by' + v)) (k5 : InG (cx + u)) (k6 : InG (cy + v)) :
    turnI (ax + u) (ay + v) (bx + u) (by' + v) (cx + u) (cy + v) = turnI ax ay bx by' cx cy := by
  rw [turn_in k1 k2 k3 k4 k5 k6, turn_in h1 h2 h3 h4 h5 h6]; congr 1; unfold areaP; grind
theorem turn_turn {ax ay bx by' cx cy : Int} (h1 : InG ax) (h2 : InG ay) (h3 : InG bx) (h4 : InG by') (h5 : InG cx) (h6 : InG cy) :
    turnI ay ax by' bx cy cx = -turnI ax ay bx by' cx cy := by
  rw [turn_in h2 h1 h4 h3 h6 h5, turn_in h1 h2 h3 h4 h5 h6, ← sgn_neg]; congr 1; unfold areaP; grind
theorem dist_move {ax ay bx by' u v : Int} (h1 : InG ax) (h2 : InG ay) (h3 : InG bx) (h4 : InG by')
    (k1 : InG (ax + u)) (k2 : InG (ay + v)) (k3 : InG (bx + u)) (k4 : InG (by' + v)) : distI (ax + u) (ay + v) (bx + u) (by' + v) = distI ax ay bx by' := by
  rw [dist_in k1 k2 k3 k4, dist_in h1 h2 h3 h4]; unfold distP; grind
theorem dist_turn {ax ay bx by' : Int} (h1 : InG ax) (h2 : InG ay) (h3 : InG bx) (h4 : InG by') : distI ay ax by' bx = distI ax ay bx by' := by
  rw [dist_in h2 h1 h4 h3, dist_in h1 h2 h3 h4]; unfold distP; grind
theorem cross_move {ax ay bx by' cx cy dx dy u v : Int} (h1 : InG ax) (h2 : InG ay) (h3 : InG bx) (h4 : InG by') (h5 : InG cx) (h6 : InG cy) (h7 : InG dx) (h8 : InG dy)
    (k1 : InG (ax + u)) (k2 : InG (ay + v)) (k3 : InG (bx + u)) (k4 : InG (by' + v)) (k5 : InG (cx + u)) (k6 : InG (cy + v)) (k7 : InG (dx + u)) (k8 : InG (dy + v)) :
    crossI (ax + u) (ay + v) (bx + u) (by' + v) (cx + u) (cy + v) (dx + u) (dy + v) = crossI ax ay bx by' cx cy dx dy := by
  rw [cross_in k1 k2 k3 k4 k5 k6 k7 k8, cross_in h1 h2 h3 h4 h5 h6 h7 h8]
  unfold wantI touchB apartB
  rw [betw_move h1 h2 h5 h6 h7 h8 k1 k2 k5 k6 k7 k8, betw_move h3 h4 h5 h6 h7 h8 k3 k4 k5 k6 k7 k8, betw_move h5 h6 h1 h2 h3 h4 k5 k6 k1 k2 k3 k4, betw_move h7 h8 h1 h2 h3 h4 k7 k8 k1 k2 k3 k4,
    turn_move h1 h2 h3 h4 h5 h6 k1 k2 k3 k4 k5 k6, turn_move h1 h2 h3 h4 h7 h8 k1 k2 k3 k4 k7 k8, turn_move h5 h6 h7 h8 h1 h2 k5 k6 k7 k8 k1 k2, turn_move h5 h6 h7 h8 h3 h4 k5 k6 k7 k8 k3 k4]
theorem cross_turn {ax ay bx by' cx cy dx dy : Int} (h1 : InG ax) (h2 : InG ay) (h3 : InG bx) (h4 : InG by') (h5 : InG cx) (h6 : InG cy) (h7 : InG dx) (h8 : InG dy) :
    crossI ay ax by' bx cy cx dy dx = crossI ax ay bx by' cx cy dx dy := by
  rw [cross_in h2 h1 h4 h3 h6 h5 h8 h7, cross_in h1 h2 h3 h4 h5 h6 h7 h8]
  unfold wantI touchB apartB
  rw [betw_turn h1 h2 h5 h6 h7 h8, betw_turn h3 h4 h5 h6 h7 h8, betw_turn h5 h6 h1 h2 h3 h4, betw_turn h7 h8 h1 h2 h3 h4,
    turn_turn h1 h2 h3 h4 h5 h6, turn_turn h1 h2 h3 h4 h7 h8, turn_turn h5 h6 h7 h8 h1 h2, turn_turn h5 h6 h7 h8 h3 h4]
  simp only [Int.neg_mul_neg]
theorem foot_move {px py ax ay bx by' u v : Int} (h1 : InG px) (h2 : InG py) (h3 : InG ax) (h4 : InG ay) (h5 : InG bx) (h6 : InG by')
    (k1 : InG (px + u)) (k2 : InG (py + v)) (k3 : InG (ax + u)) (k4 : InG (ay + v)) (k5 : InG (bx + u)) (k6 : InG (by' + v)) :
    footI (px + u) (py + v) (ax + u) (ay + v) (bx + u) (by' + v) = footI px py ax ay bx by' := by
  rw [foot_in k1 k2 k3 k4 k5 k6, foot_in h1 h2 h3 h4 h5 h6]
  have e1 : alP (px + u) (py + v) (ax + u) (ay + v) (bx + u) (by' + v) = alP px py ax ay bx by' := by unfold alP; grind
  have e2 : distP (ax + u) (ay + v) (bx + u) (by' + v) = distP ax ay bx by' := by unfold distP; grind
  have e3 : areaP (ax + u) (ay + v) (bx + u) (by' + v) (px + u) (py + v) = areaP ax ay bx by' px py := by unfold areaP; grind
  have e4 : distP (px + u) (py + v) (ax + u) (ay + v) = distP px py ax ay := by unfold distP; grind
  have e5 : distP (px + u) (py + v) (bx + u) (by' + v) = distP px py bx by' := by unfold distP; grind
  rw [e1, e2, e3, e4, e5]
theorem foot_turn {px py ax ay bx by' : Int} (h1 : InG px) (h2 : InG py) (h3 : InG ax) (h4 : InG ay) (h5 : InG bx) (h6 : InG by') :
    footI py px ay ax by' bx = footI px py ax ay bx by' := by
  rw [foot_in h2 h1 h4 h3 h6 h5, foot_in h1 h2 h3 h4 h5 h6]
  have e1 : alP py px ay ax by' bx = alP px py ax ay bx by' := by unfold alP; grind
  have e2 : distP ay ax by' bx = distP ax ay bx by' := by unfold distP; grind
  have e3 : areaP ay ax by' bx py px = -areaP ax ay bx by' px py := by unfold areaP; grind
  have e4 : distP py px ay ax = distP px py ax ay := by unfold distP; grind
  have e5 : distP py px by' bx = distP px py bx by' := by unfold distP; grind
  rw [e1, e2, e3, e4, e5]
  unfold rfootO
  simp only [Int.neg_mul_neg]

end G
end Go.Proofs.Ythdmkkddhhbbgaa
