/- Geom: the plain functions on integers, and laws on them. No Go in sight. -/
namespace Go.Proofs.Ytjeapimjgojpoaa.G

def onB (x y : Int) : Bool := decide (0 ≤ x ∧ x ≤ 32767 ∧ 0 ≤ y ∧ y ≤ 32767)
def sgn (n : Int) : Int := if 0 < n then 1 else if n < 0 then -1 else 0
theorem sgn_cases (n : Int) : (0 < n ∧ sgn n = 1) ∨ (n < 0 ∧ sgn n = -1) ∨ (n = 0 ∧ sgn n = 0) := by unfold sgn; split <;> (try split) <;> omega
def area (ax ay bx by' cx cy : Int) : Int := (bx - ax) * (cy - ay) - (by' - ay) * (cx - ax)

example (a b c d : Int) : (a-b)*(c-d) = a*c - a*d - b*c + b*d := by grind

end Go.Proofs.Ytjeapimjgojpoaa.G
