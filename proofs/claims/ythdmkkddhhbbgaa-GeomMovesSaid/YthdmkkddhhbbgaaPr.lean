/- Geom: the plain laws that tie the reference to the program: boxes, lowest terms. -/
import Derived.Test.YthdmkkddhhbbgaaPx
import Derived.Test.YthdmkkddhhbbgaaFt
set_option linter.unusedSimpArgs false
set_option linter.unusedVariables false
set_option maxRecDepth 100000
namespace Go.Proofs.Ythdmkkddhhbbgaa
open Go.RowKit
namespace G

def boxB (px py ax ay bx by' : Int) : Bool := decide (min ax bx ≤ px ∧ px ≤ max ax bx ∧ min ay by' ≤ py ∧ py ≤ max ay by')

theorem prod_sign {a b p : Int} (h : min a b ≤ p ∧ p ≤ max a b) : (a - p) * (b - p) ≤ 0 := by
  by_cases hab : a ≤ b
  · have h1 : a ≤ p ∧ p ≤ b := by omega
    have := Int.mul_nonneg (a := p - a) (b := b - p) (by omega) (by omega)
    grind
  · have h1 : b ≤ p ∧ p ≤ a := by omega
    have := Int.mul_nonneg (a := a - p) (b := p - b) (by omega) (by omega)
    grind
theorem prod_pos {a b p : Int} (h : ¬ (min a b ≤ p ∧ p ≤ max a b)) : 0 < (a - p) * (b - p) := by
  by_cases h1 : p < a ∧ p < b
  · exact Int.mul_pos (by omega) (by omega)
  · have := Int.mul_pos (a := p - a) (b := p - b) (by omega) (by omega)
    grind

theorem box_law {px py ax ay bx by' : Int} (hA : areaP ax ay bx by' px py = 0) :
    ((px = ax ∧ py = ay) ∨ (px = bx ∧ py = by') ∨ dotP px py ax ay bx by' < 0) ↔ boxB px py ax ay bx by' = true := by
  unfold boxB
  simp only [decide_eq_true_eq]
  have hA2 : (ax - px) * (by' - py) = (ay - py) * (bx - px) := by unfold areaP at hA; grind
  unfold dotP
  constructor
  · rintro (⟨rfl, rfl⟩ | ⟨rfl, rfl⟩ | h)
    · omega
    · omega
    · by_cases hx : min ax bx ≤ px ∧ px ≤ max ax bx
      · by_cases hy : min ay by' ≤ py ∧ py ≤ max ay by'
        · exact ⟨hx.1, hx.2, hy.1, hy.2⟩
        · exfalso
          have p2 := prod_pos hy
          have p1 : (ax - px) * (bx - px) < 0 := by omega
          have e : ((ax - px) * (bx - px)) * ((ay - py) * (by' - py)) = ((ax - px) * (by' - py)) * ((ay - py) * (bx - px)) := by grind
          rw [hA2] at e
          have n1 := Int.mul_neg_of_neg_of_pos p1 p2
          have n2 := sq_nn ((ay - py) * (bx - px))
          omega
      · exfalso
        have p1 := prod_pos hx
        have p2 : (ay - py) * (by' - py) < 0 := by omega
        have e : ((ax - px) * (bx - px)) * ((ay - py) * (by' - py)) = ((ax - px) * (by' - py)) * ((ay - py) * (bx - px)) := by grind
        rw [hA2] at e
        have n1 := Int.mul_neg_of_pos_of_neg p1 p2
        have n2 := sq_nn ((ay - py) * (bx - px))
        omega
  · rintro ⟨a1, a2, a3, a4⟩
    have p1 := prod_sign ⟨a1, a2⟩
    have p2 := prod_sign ⟨a3, a4⟩
    by_cases h0 : (ax - px) * (bx - px) + (ay - py) * (by' - py) < 0
    · exact .inr (.inr h0)
    · have e1 : (ax - px) * (bx - px) = 0 := by omega
      have e2 : (ay - py) * (by' - py) = 0 := by omega
      rcases Int.mul_eq_zero.1 e1 with h1 | h1
      · rcases Int.mul_eq_zero.1 e2 with h2 | h2
        · exact .inl (by omega)
        · -- px = ax, py = by'
          have e3 : (ay - py) * (bx - px) = 0 := by rw [← hA2, h1]; simp
          rcases Int.mul_eq_zero.1 e3 with h3 | h3
          · exact .inl (by omega)
          · exact .inr (.inl (by omega))
      · rcases Int.mul_eq_zero.1 e2 with h2 | h2
        · have e3 : (ax - px) * (by' - py) = 0 := by rw [hA2, h2]; simp
          rcases Int.mul_eq_zero.1 e3 with h3 | h3
          · exact .inl (by omega)
          · exact .inr (.inl (by omega))
        · exact .inr (.inl (by omega))

theorem areaW_in {ax ay bx by' cx cy : Int} (h1 : InG ax) (h2 : InG ay) (h3 : InG bx) (h4 : InG by') (h5 : InG cx) (h6 : InG cy) : wrap64 (wrap64 (wrap64 (bx - ax) * wrap64 (cy - ay)) - wrap64 (wrap64 (by' - ay) * wrap64 (cx - ax))) = areaP ax ay bx by' cx cy := by
  unfold areaP
  unfold InG at *
  rw [wsub bx ax h3 h1, wsub by' ay h4 h2, wsub cy ay h6 h2, wsub cx ax h5 h1]
  have m1 := mul_bd (x := bx - ax) (y := cy - ay) (by omega) (by omega)
  have m2 := mul_bd (x := by' - ay) (y := cx - ax) (by omega) (by omega)
  rw [IntWalk.wrap64_in ((bx - ax) * (cy - ay)) (by omega), IntWalk.wrap64_in ((by' - ay) * (cx - ax)) (by omega), IntWalk.wrap64_in _ (by omega)]

/-- The reference's Between, of points on the grid. -/
theorem rbetw_eq {px py ax ay bx by' : Int} (h1 : InG px) (h2 : InG py) (h3 : InG ax) (h4 : InG ay) (h5 : InG bx) (h6 : InG by') :
    betwI px py ax ay bx by' = (decide (wrap64 (wrap64 (wrap64 (bx - ax) * wrap64 (py - ay)) - wrap64 (wrap64 (by' - ay) * wrap64 (px - ax))) = 0) && boxB px py ax ay bx by') := by
  rw [areaW_in h3 h4 h5 h6 h1 h2, Bool.eq_iff_iff, betw_in h1 h2 h3 h4 h5 h6]
  simp only [Bool.and_eq_true, decide_eq_true_eq]
  constructor
  · intro h
    have hA : areaP ax ay bx by' px py = 0 := by
      rcases h with ⟨rfl, rfl⟩ | ⟨rfl, rfl⟩ | ⟨h, _⟩
      · unfold areaP; grind
      · unfold areaP; grind
      · exact h
    exact ⟨hA, (box_law hA).1 (by rcases h with h | h | ⟨_, h⟩; exact .inl h; exact .inr (.inl h); exact .inr (.inr h))⟩
  · rintro ⟨hA, h⟩
    rcases (box_law hA).2 h with h | h | h
    · exact .inl h
    · exact .inr (.inl h)
    · exact .inr (.inr ⟨hA, h⟩)

/-- num / den in lowest terms, without a sign. -/
def lowI (num den : Int) : Int × Int × Int := (num / gcdI num den, den / gcdI num den, 0)
theorem of_low {num den : Int} (h1 : 0 ≤ num) (h2 : 1 ≤ den) (h3 : num ≤ most) (h4 : den ≤ most) : ofI num den = lowI num den := by
  have a1 : absI num = num := by have := absI_spec num; omega
  have a2 : absI den = den := by have := absI_spec den; omega
  have g1 : 1 ≤ gcdI num den := by
    have : 0 < Nat.gcd num.toNat den.toNat := Nat.gcd_pos_of_pos_right _ (by omega)
    unfold gcdI; omega
  unfold ofI
  rw [if_neg (by omega), a1, a2]
  have d1 : (decide (num < 0) != decide (den < 0)) = false := by simp; omega
  rw [d1]
  unfold madeI lowI
  have q1 : num / gcdI num den ≤ num := Int.ediv_le_self _ h1
  have q2 : den / gcdI num den ≤ den := Int.ediv_le_self _ (by omega)
  rw [if_pos ⟨by omega, by omega⟩]
  simp

end G
end Go.Proofs.Ythdmkkddhhbbgaa
