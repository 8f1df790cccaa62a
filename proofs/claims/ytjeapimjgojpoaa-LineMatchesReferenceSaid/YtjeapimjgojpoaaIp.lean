/- Lines: plain laws of points, distances and feet; the reference's functions of chapter 07. -/
import Derived.Test.YtjeapimjgojpoaaIa
set_option linter.unusedSimpArgs false
set_option linter.unusedVariables false
set_option maxRecDepth 100000
namespace Go.Proofs.Ytjeapimjgojpoaa
open Go.RowKit
namespace G
def gm (x : Int) : Int := x % 32768
theorem gm_bd (x : Int) : 0 ≤ gm x ∧ gm x ≤ 32767 := by unfold gm; omega
def B64 (x : Int) : Prop := -9223372036854775808 ≤ x ∧ x ≤ 9223372036854775807
/-- On the grid nothing wraps. -/
theorem wsub (a b : Int) (ha : 0 ≤ a ∧ a ≤ 32767) (hb : 0 ≤ b ∧ b ≤ 32767) : wrap64 (a - b) = a - b := IntWalk.wrap64_in _ (by omega)
theorem mul_bd {x y : Int} (hx : -32767 ≤ x ∧ x ≤ 32767) (hy : -32767 ≤ y ∧ y ≤ 32767) : -1073676289 ≤ x * y ∧ x * y ≤ 1073676289 := by
  have h1 : 0 ≤ (32767 - x) * (32767 + y) := Int.mul_nonneg (by omega) (by omega)
  have h2 : 0 ≤ (32767 + x) * (32767 - y) := Int.mul_nonneg (by omega) (by omega)
  have h3 : 0 ≤ (32767 - x) * (32767 - y) := Int.mul_nonneg (by omega) (by omega)
  have h4 : 0 ≤ (32767 + x) * (32767 + y) := Int.mul_nonneg (by omega) (by omega)
  constructor <;> grind
def InG (x : Int) : Prop := 0 ≤ x ∧ x ≤ 32767
theorem gm_in (x : Int) : InG (gm x) := gm_bd x
theorem onB_in {x y : Int} (hx : InG x) (hy : InG y) : onB x y = true := by unfold onB; simp; unfold InG at hx hy; omega
def areaP (ax ay bx by' cx cy : Int) : Int := (bx - ax) * (cy - ay) - (by' - ay) * (cx - ax)
theorem side_in {ax ay bx by' cx cy : Int} (h1 : InG ax) (h2 : InG ay) (h3 : InG bx) (h4 : InG by') (h5 : InG cx) (h6 : InG cy) : sideI ax ay bx by' cx cy = sgn (areaP ax ay bx by' cx cy) := by
  unfold sideI segSide areaP
  unfold InG at *
  rw [wsub bx ax h3 h1, wsub by' ay h4 h2, wsub cy ay h6 h2, wsub cx ax h5 h1]
  have m1 := mul_bd (x := bx - ax) (y := cy - ay) (by omega) (by omega)
  have m2 := mul_bd (x := by' - ay) (y := cx - ax) (by omega) (by omega)
  rw [IntWalk.wrap64_in ((bx - ax) * (cy - ay)) (by omega), IntWalk.wrap64_in ((by' - ay) * (cx - ax)) (by omega), IntWalk.wrap64_in _ (by omega)]
theorem turn_in {ax ay bx by' cx cy : Int} (h1 : InG ax) (h2 : InG ay) (h3 : InG bx) (h4 : InG by') (h5 : InG cx) (h6 : InG cy) : turnI ax ay bx by' cx cy = sgn (areaP ax ay bx by' cx cy) := by
  unfold turnI on3
  rw [onB_in h1 h2, onB_in h3 h4, onB_in h5 h6]
  simp only [Bool.and_self, if_true]
  exact side_in h1 h2 h3 h4 h5 h6
theorem sgn_neg (n : Int) : sgn (-n) = -sgn n := by unfold sgn; split <;> split <;> (try split) <;> omega
theorem turns_law {ax ay bx by' cx cy : Int} (h1 : InG ax) (h2 : InG ay) (h3 : InG bx) (h4 : InG by') (h5 : InG cx) (h6 : InG cy) :
    (-1 ≤ turnI ax ay bx by' cx cy ∧ turnI ax ay bx by' cx cy ≤ 1) ∧ turnI bx by' cx cy ax ay = turnI ax ay bx by' cx cy ∧ turnI cx cy ax ay bx by' = turnI ax ay bx by' cx cy ∧
    turnI bx by' ax ay cx cy = -turnI ax ay bx by' cx cy ∧ turnI ax ay cx cy bx by' = -turnI ax ay bx by' cx cy ∧ turnI cx cy bx by' ax ay = -turnI ax ay bx by' cx cy ∧ turnI ax ay ax ay bx by' = 0 ∧ turnI ax ay bx by' bx by' = 0 := by
  rw [turn_in h1 h2 h3 h4 h5 h6, turn_in h3 h4 h5 h6 h1 h2, turn_in h5 h6 h1 h2 h3 h4, turn_in h3 h4 h1 h2 h5 h6, turn_in h1 h2 h5 h6 h3 h4, turn_in h5 h6 h3 h4 h1 h2, turn_in h1 h2 h1 h2 h3 h4, turn_in h1 h2 h3 h4 h3 h4]
  have hs := sgn_cases (areaP ax ay bx by' cx cy)
  refine ⟨by omega, ?_, ?_, ?_, ?_, ?_, ?_, ?_⟩
  · congr 1; unfold areaP; grind
  · congr 1; unfold areaP; grind
  · rw [← sgn_neg]; congr 1; unfold areaP; grind
  · rw [← sgn_neg]; congr 1; unfold areaP; grind
  · rw [← sgn_neg]; congr 1; unfold areaP; grind
  · have : areaP ax ay ax ay bx by' = 0 := by unfold areaP; grind
    rw [this]; rfl
  · have : areaP ax ay bx by' bx by' = 0 := by unfold areaP; grind
    rw [this]; rfl
def distP (ax ay bx by' : Int) : Int := (bx - ax) * (bx - ax) + (by' - ay) * (by' - ay)
theorem sq_bd {x : Int} (hx : -32767 ≤ x ∧ x ≤ 32767) : 0 ≤ x * x ∧ x * x ≤ 1073676289 := ⟨by
  have : 0 ≤ x ∨ 0 ≤ -x := by omega
  rcases this with h | h
  · exact Int.mul_nonneg h h
  · have := Int.mul_nonneg h h; grind, (mul_bd hx hx).2⟩
theorem alongI_in {a b c d : Int} (ha : -32767 ≤ a ∧ a ≤ 32767) (hb : -32767 ≤ b ∧ b ≤ 32767) (hc : -32767 ≤ c ∧ c ≤ 32767) (hd : -32767 ≤ d ∧ d ≤ 32767) : alongI a b c d = a * c + b * d := by
  unfold alongI
  have m1 := mul_bd ha hc
  have m2 := mul_bd hb hd
  rw [IntWalk.wrap64_in (a * c) (by omega), IntWalk.wrap64_in (b * d) (by omega), IntWalk.wrap64_in _ (by omega)]
theorem dist_in {ax ay bx by' : Int} (h1 : InG ax) (h2 : InG ay) (h3 : InG bx) (h4 : InG by') : distI ax ay bx by' = distP ax ay bx by' := by
  unfold distI on2
  rw [onB_in h1 h2, onB_in h3 h4]
  simp only [Bool.and_self, if_true]
  unfold InG at *
  rw [wsub bx ax h3 h1, wsub by' ay h4 h2, alongI_in (by omega) (by omega) (by omega) (by omega)]
  rfl
theorem distP_bd {ax ay bx by' : Int} (h1 : InG ax) (h2 : InG ay) (h3 : InG bx) (h4 : InG by') : 0 ≤ distP ax ay bx by' ∧ distP ax ay bx by' ≤ 2147352578 := by
  unfold distP InG at *
  have m1 := sq_bd (x := bx - ax) (by omega)
  have m2 := sq_bd (x := by' - ay) (by omega)
  omega
theorem distP_zero (ax ay bx by' : Int) : distP ax ay bx by' = 0 ↔ ax = bx ∧ ay = by' := by
  unfold distP
  have nn : ∀ x : Int, 0 ≤ x * x := fun x => by
    have : 0 ≤ x ∨ 0 ≤ -x := by omega
    rcases this with h | h
    · exact Int.mul_nonneg h h
    · have := Int.mul_nonneg h h; grind
  constructor
  · intro h
    have h1 := nn (bx - ax)
    have h2 := nn (by' - ay)
    have e1 : (bx - ax) * (bx - ax) = 0 := by omega
    have e2 : (by' - ay) * (by' - ay) = 0 := by omega
    have e3 : bx - ax = 0 := by rcases Int.mul_eq_zero.1 e1 with h | h <;> exact h
    have e4 : by' - ay = 0 := by rcases Int.mul_eq_zero.1 e2 with h | h <;> exact h
    omega
  · rintro ⟨rfl, rfl⟩; simp
/-- The distances' law: what n exceeds x + y by is twice a scalar product. -/
theorem dists_law (ax ay bx by' cx cy : Int) :
    (distP ax ay bx by' - distP ax ay cx cy - distP cx cy bx by') * (distP ax ay bx by' - distP ax ay cx cy - distP cx cy bx by') + 4 * (((cx - ax) * (by' - cy) - (cy - ay) * (bx - cx)) * ((cx - ax) * (by' - cy) - (cy - ay) * (bx - cx))) = 4 * (distP ax ay cx cy * distP cx cy bx by') := by
  unfold distP; grind
theorem over_even (ax ay bx by' cx cy : Int) : distP ax ay bx by' - distP ax ay cx cy - distP cx cy bx by' = 2 * ((cx - ax) * (bx - cx) + (cy - ay) * (by' - cy)) := by
  unfold distP; grind
theorem sq_nn (x : Int) : 0 ≤ x * x := by
  have : 0 ≤ x ∨ 0 ≤ -x := by omega
  rcases this with h | h
  · exact Int.mul_nonneg h h
  · have := Int.mul_nonneg h h; grind
/-- All that the law GeomDistances asks, of points on the grid. -/
theorem dists_all {ax ay bx by' cx cy : Int} (h1 : InG ax) (h2 : InG ay) (h3 : InG bx) (h4 : InG by') (h5 : InG cx) (h6 : InG cy) :
    (0 ≤ distI ax ay bx by' ∧ distI ax ay bx by' ≤ 2147352578) ∧ distI bx by' ax ay = distI ax ay bx by' ∧ ptEq ax ay bx by' = (distI ax ay bx by' == 0) ∧
    (0 ≤ distI ax ay cx cy ∧ distI ax ay cx cy ≤ 2147352578) ∧ (0 ≤ distI cx cy bx by' ∧ distI cx cy bx by' ≤ 2147352578) ∧
    (0 ≤ distI ax ay cx cy * distI cx cy bx by' ∧ distI ax ay cx cy * distI cx cy bx by' ≤ 4611686018427387904) ∧
    (distI ax ay cx cy + distI cx cy bx by' < distI ax ay bx by' → 0 < distI ax ay cx cy ∧
      ((distI ax ay bx by' - distI ax ay cx cy - distI cx cy bx by') * (distI ax ay bx by' - distI ax ay cx cy - distI cx cy bx by') + 3) / 4 ≤ distI ax ay cx cy * distI cx cy bx by' ∧
      (0 ≤ (distI ax ay bx by' - distI ax ay cx cy - distI cx cy bx by') * (distI ax ay bx by' - distI ax ay cx cy - distI cx cy bx by') ∧
       (distI ax ay bx by' - distI ax ay cx cy - distI cx cy bx by') * (distI ax ay bx by' - distI ax ay cx cy - distI cx cy bx by') ≤ 4611686018427387904)) := by
  rw [dist_in h1 h2 h3 h4, dist_in h3 h4 h1 h2, dist_in h1 h2 h5 h6, dist_in h5 h6 h3 h4]
  have b1 := distP_bd h1 h2 h3 h4
  have b2 := distP_bd h1 h2 h5 h6
  have b3 := distP_bd h5 h6 h3 h4
  have hl := dists_law ax ay bx by' cx cy
  have ho := over_even ax ay bx by' cx cy
  have nn := sq_nn ((cx - ax) * (by' - cy) - (cy - ay) * (bx - cx))
  have hz := distP_zero ax ay cx cy
  have hxy : 0 ≤ distP ax ay cx cy * distP cx cy bx by' ∧ distP ax ay cx cy * distP cx cy bx by' ≤ 4611686018427387904 := by
    refine ⟨Int.mul_nonneg b2.1 b3.1, ?_⟩
    have := Int.mul_le_mul b2.2 b3.2 b3.1 (by omega)
    omega
  refine ⟨b1, by unfold distP; grind, ?_, b2, b3, hxy, fun hlt => ?_⟩
  · have hz := distP_zero ax ay bx by'
    rw [Bool.eq_iff_iff]
    simp only [ptEq, Bool.and_eq_true, decide_eq_true_eq, beq_iff_eq]
    exact hz.symm
  · generalize (cx - ax) * (bx - cx) + (cy - ay) * (by' - cy) = s at *
    generalize ((cx - ax) * (by' - cy) - (cy - ay) * (bx - cx)) * ((cx - ax) * (by' - cy) - (cy - ay) * (bx - cx)) = c at *
    have hx0 : 0 < distP ax ay cx cy := by
      rcases Int.lt_or_le 0 (distP ax ay cx cy) with h | h
      · exact h
      · exfalso
        have e0 : distP ax ay cx cy = 0 := by omega
        obtain ⟨rfl, rfl⟩ := hz.1 e0
        omega
    rw [ho] at hl ⊢
    have hs : 2 * s * (2 * s) = 4 * (s * s) := by grind
    have nns := sq_nn s
    have hup : 2 * s * (2 * s) ≤ 2147352578 * 2147352578 := Int.mul_le_mul (by omega) (by omega) (by omega) (by omega)
    rw [hs] at hl hup ⊢
    exact ⟨hx0, by omega, by omega, by omega⟩
def dotP (px py ax ay bx by' : Int) : Int := (ax - px) * (bx - px) + (ay - py) * (by' - py)
theorem sgn_zero (n : Int) : sgn n = 0 ↔ n = 0 := by have := sgn_cases n; omega
theorem betw_in {px py ax ay bx by' : Int} (h1 : InG px) (h2 : InG py) (h3 : InG ax) (h4 : InG ay) (h5 : InG bx) (h6 : InG by') :
    betwI px py ax ay bx by' = true ↔ (px = ax ∧ py = ay) ∨ (px = bx ∧ py = by') ∨ (areaP ax ay bx by' px py = 0 ∧ dotP px py ax ay bx by' < 0) := by
  unfold betwI on3 betwO dotPt
  rw [onB_in h1 h2, onB_in h3 h4, onB_in h5 h6, side_in h3 h4 h5 h6 h1 h2]
  have hs := sgn_zero (areaP ax ay bx by' px py)
  unfold InG at *
  rw [wsub ax px h3 h1, wsub ay py h4 h2, wsub bx px h5 h1, wsub by' py h6 h2, alongI_in (by omega) (by omega) (by omega) (by omega)]
  simp only [ptEq, dotP, Bool.and_self, Bool.true_and, Bool.or_eq_true, Bool.and_eq_true, decide_eq_true_eq, beq_iff_eq, hs, or_assoc]
theorem areaW_in {ax ay bx by' cx cy : Int} (h1 : InG ax) (h2 : InG ay) (h3 : InG bx) (h4 : InG by') (h5 : InG cx) (h6 : InG cy) : wrap64 (wrap64 (wrap64 (bx - ax) * wrap64 (cy - ay)) - wrap64 (wrap64 (by' - ay) * wrap64 (cx - ax))) = areaP ax ay bx by' cx cy := by
  unfold areaP
  unfold InG at *
  rw [wsub bx ax h3 h1, wsub by' ay h4 h2, wsub cy ay h6 h2, wsub cx ax h5 h1]
  have m1 := mul_bd (x := bx - ax) (y := cy - ay) (by omega) (by omega)
  have m2 := mul_bd (x := by' - ay) (y := cx - ax) (by omega) (by omega)
  rw [IntWalk.wrap64_in ((bx - ax) * (cy - ay)) (by omega), IntWalk.wrap64_in ((by' - ay) * (cx - ax)) (by omega), IntWalk.wrap64_in _ (by omega)]
/-- num / den in lowest terms, without a sign. -/
def lowI (num den : Int) : Int × Int × Int := (num / gcdI num den, den / gcdI num den, 0)
theorem of_low {num den : Int} (h1 : 0 ≤ num) (h2 : 1 ≤ den) (h3 : num ≤ most) (h4 : den ≤ most) : ofI num den = lowI num den := by
  have a1 : absI num = num := by have := absI_spec num; omega
  have a2 : absI den = den := by have := absI_spec den; omega
  have g1 : 1 ≤ gcdI num den := by
    have : 0 < Nat.gcd num.toNat den.toNat := Nat.gcd_pos_of_pos_right _ (by omega)
    unfold gcdI; omega
  unfold ofI
  rw [if_neg (by omega), a1, a2]
  have d1 : (decide (num < 0) != decide (den < 0)) = false := by simp; omega
  rw [d1]
  unfold madeI lowI
  have q1 : num / gcdI num den ≤ num := Int.ediv_le_self _ h1
  have q2 : den / gcdI num den ≤ den := Int.ediv_le_self _ (by omega)
  rw [if_pos ⟨by omega, by omega⟩]
  simp
theorem ron_any (x y : Int) (w : World) :
    Calls Try.prog 33 #[.agg #[.int .i64 x, .int .i64 y]] w fun e w' => e = .returned (.bool (onB x y)) ∧ Below w.heap.size w w' := by
  go_enter Try.func33, Try.ntmps33
  go_wp2
  all_goals
    go_ret
    refine ⟨ret_bool ?_, (Below.refl _ _).alloc (Nat.le_refl _) _⟩
    rw [Bool.eq_iff_iff]
    simp [onB]
    omega
def areaW (ax ay bx by' cx cy : Int) : Int := wrap64 (wrap64 (wrap64 (bx - ax) * wrap64 (cy - ay)) - wrap64 (wrap64 (by' - ay) * wrap64 (cx - ax)))
theorem rarea_any (ax ay bx by' cx cy : Int) (w : World) :
    Calls Try.prog 70 #[.agg #[.int .i64 ax, .int .i64 ay], .agg #[.int .i64 bx, .int .i64 by'], .agg #[.int .i64 cx, .int .i64 cy]] w fun e w' => e = .returned (.int .i64 (areaW ax ay bx by' cx cy)) ∧ Below w.heap.size w w' := by
  go_enter Try.func70, Try.ntmps70
  go_wp2
  go_ret
  refine ⟨rfl, ?_⟩
  repeat (first | exact Below.refl _ _ | assumption | (refine Below.setCell ?_ (by first | (simp; done) | (simp; omega) | omega) _) | (refine Below.alloc ?_ (by first | (simp; done) | (simp; omega) | omega) _) | (refine Below.drew ?_))
theorem rsign_any (n : Int) (w : World) :
    Calls Try.prog 71 #[.int .i64 n] w fun e w' => e = .returned (.int .i64 (sgn n)) ∧ Below w.heap.size w w' := by
  have hs := sgn_cases n
  go_enter Try.func71, Try.ntmps71
  go_wp2
  all_goals
    go_ret
    refine ⟨ret_int ?_, Below.refl _ _⟩
    omega
theorem turn_area (ax ay bx by' cx cy : Int) : turnI ax ay bx by' cx cy = if on3 ax ay bx by' cx cy = true then sgn (areaW ax ay bx by' cx cy) else 0 := rfl
theorem rturn_any (ax ay bx by' cx cy : Int) (w : World) :
    Calls Try.prog 52 #[.agg #[.int .i64 ax, .int .i64 ay], .agg #[.int .i64 bx, .int .i64 by'], .agg #[.int .i64 cx, .int .i64 cy]] w fun e w' => e = .returned (.int .i64 (turnI ax ay bx by' cx cy)) ∧ Below w.heap.size w w' := by
  have Ht := Lib.hid (turn_area ax ay bx by' cx cy)
  cases h1 : onB ax ay <;> cases h2 : onB bx by' <;> cases h3 : onB cx cy
  all_goals
    have hT := Below.refl w.heap.size w
    go_enter Try.func52, Try.ntmps52
    go_wp2_with fail
    first | (go_at_call 33; (with_reducible refine (ron_any _ _ _).mono ?_); rintro e w' ⟨rfl, hb⟩; first | (replace hT := (hT).trans (hb.mono hT.size); clear hb) | (replace hT := (hT.alloc hT.size _).trans (hb.mono (Nat.le_trans hT.size (by simp; try omega))); clear hb) | (replace hT := ((hT.alloc hT.size _).alloc (Nat.le_trans hT.size (by simp; try omega)) _).trans (hb.mono (Nat.le_trans hT.size (by simp; try omega))); clear hb) | (replace hT := (((hT.alloc hT.size _).alloc (Nat.le_trans hT.size (by simp; try omega)) _).alloc (Nat.le_trans hT.size (by simp; try omega)) _).trans (hb.mono (Nat.le_trans hT.size (by simp; try omega))); obtain ⟨kp, kq, kr⟩ := Reg.Blk.new3 hb; obtain ⟨ckp, fkp, zkp⟩ := Reg.Blk.facts kp; obtain ⟨ckq, fkq, zkq⟩ := Reg.Blk.facts kq; obtain ⟨ckr, fkr, zkr⟩ := Reg.Blk.facts kr; clear hb) | (replace hT := ((((hT.alloc hT.size _).alloc (Nat.le_trans hT.size (by simp; try omega)) _).alloc (Nat.le_trans hT.size (by simp; try omega)) _).alloc (Nat.le_trans hT.size (by simp; try omega)) _).trans (hb.mono (Nat.le_trans hT.size (by simp; try omega))); clear hb) | (replace hT := (((((hT.alloc hT.size _).alloc (Nat.le_trans hT.size (by simp; try omega)) _).alloc (Nat.le_trans hT.size (by simp; try omega)) _).alloc (Nat.le_trans hT.size (by simp; try omega)) _).alloc (Nat.le_trans hT.size (by simp; try omega)) _).trans (hb.mono (Nat.le_trans hT.size (by simp; try omega))); clear hb)) | (go_at_call 70; (with_reducible refine (rarea_any _ _ _ _ _ _ _).mono ?_); rintro e w' ⟨rfl, hb⟩; first | (replace hT := (hT).trans (hb.mono hT.size); clear hb) | (replace hT := (hT.alloc hT.size _).trans (hb.mono (Nat.le_trans hT.size (by simp; try omega))); clear hb) | (replace hT := ((hT.alloc hT.size _).alloc (Nat.le_trans hT.size (by simp; try omega)) _).trans (hb.mono (Nat.le_trans hT.size (by simp; try omega))); clear hb) | (replace hT := (((hT.alloc hT.size _).alloc (Nat.le_trans hT.size (by simp; try omega)) _).alloc (Nat.le_trans hT.size (by simp; try omega)) _).trans (hb.mono (Nat.le_trans hT.size (by simp; try omega))); obtain ⟨kp, kq, kr⟩ := Reg.Blk.new3 hb; obtain ⟨ckp, fkp, zkp⟩ := Reg.Blk.facts kp; obtain ⟨ckq, fkq, zkq⟩ := Reg.Blk.facts kq; obtain ⟨ckr, fkr, zkr⟩ := Reg.Blk.facts kr; clear hb) | (replace hT := ((((hT.alloc hT.size _).alloc (Nat.le_trans hT.size (by simp; try omega)) _).alloc (Nat.le_trans hT.size (by simp; try omega)) _).alloc (Nat.le_trans hT.size (by simp; try omega)) _).trans (hb.mono (Nat.le_trans hT.size (by simp; try omega))); clear hb) | (replace hT := (((((hT.alloc hT.size _).alloc (Nat.le_trans hT.size (by simp; try omega)) _).alloc (Nat.le_trans hT.size (by simp; try omega)) _).alloc (Nat.le_trans hT.size (by simp; try omega)) _).alloc (Nat.le_trans hT.size (by simp; try omega)) _).trans (hb.mono (Nat.le_trans hT.size (by simp; try omega))); clear hb)) | (go_at_call 71; (with_reducible refine (rsign_any _ _).mono ?_); rintro e w' ⟨rfl, hb⟩; first | (replace hT := (hT).trans (hb.mono hT.size); clear hb) | (replace hT := (hT.alloc hT.size _).trans (hb.mono (Nat.le_trans hT.size (by simp; try omega))); clear hb) | (replace hT := ((hT.alloc hT.size _).alloc (Nat.le_trans hT.size (by simp; try omega)) _).trans (hb.mono (Nat.le_trans hT.size (by simp; try omega))); clear hb) | (replace hT := (((hT.alloc hT.size _).alloc (Nat.le_trans hT.size (by simp; try omega)) _).alloc (Nat.le_trans hT.size (by simp; try omega)) _).trans (hb.mono (Nat.le_trans hT.size (by simp; try omega))); obtain ⟨kp, kq, kr⟩ := Reg.Blk.new3 hb; obtain ⟨ckp, fkp, zkp⟩ := Reg.Blk.facts kp; obtain ⟨ckq, fkq, zkq⟩ := Reg.Blk.facts kq; obtain ⟨ckr, fkr, zkr⟩ := Reg.Blk.facts kr; clear hb) | (replace hT := ((((hT.alloc hT.size _).alloc (Nat.le_trans hT.size (by simp; try omega)) _).alloc (Nat.le_trans hT.size (by simp; try omega)) _).alloc (Nat.le_trans hT.size (by simp; try omega)) _).trans (hb.mono (Nat.le_trans hT.size (by simp; try omega))); clear hb) | (replace hT := (((((hT.alloc hT.size _).alloc (Nat.le_trans hT.size (by simp; try omega)) _).alloc (Nat.le_trans hT.size (by simp; try omega)) _).alloc (Nat.le_trans hT.size (by simp; try omega)) _).alloc (Nat.le_trans hT.size (by simp; try omega)) _).trans (hb.mono (Nat.le_trans hT.size (by simp; try omega))); clear hb))
    go_wp2_with (first | (go_at_call 33; (with_reducible refine (ron_any _ _ _).mono ?_); rintro e w' ⟨rfl, hb⟩; first | (replace hT := (hT).trans (hb.mono hT.size); replace kp := (kp).keep hb; clear ckp fkp zkp; obtain ⟨ckp, fkp, zkp⟩ := Reg.Blk.facts kp; replace kq := (kq).keep hb; clear ckq fkq zkq; obtain ⟨ckq, fkq, zkq⟩ := Reg.Blk.facts kq; replace kr := (kr).keep hb; clear ckr fkr zkr; obtain ⟨ckr, fkr, zkr⟩ := Reg.Blk.facts kr; clear hb) | (replace hT := (hT.alloc hT.size _).trans (hb.mono (Nat.le_trans hT.size (by simp; try omega))); replace kp := ((kp).alloc _).keep hb; clear ckp fkp zkp; obtain ⟨ckp, fkp, zkp⟩ := Reg.Blk.facts kp; replace kq := ((kq).alloc _).keep hb; clear ckq fkq zkq; obtain ⟨ckq, fkq, zkq⟩ := Reg.Blk.facts kq; replace kr := ((kr).alloc _).keep hb; clear ckr fkr zkr; obtain ⟨ckr, fkr, zkr⟩ := Reg.Blk.facts kr; clear hb) | (replace hT := ((hT.alloc hT.size _).alloc (Nat.le_trans hT.size (by simp; try omega)) _).trans (hb.mono (Nat.le_trans hT.size (by simp; try omega))); replace kp := (((kp).alloc _).alloc _).keep hb; clear ckp fkp zkp; obtain ⟨ckp, fkp, zkp⟩ := Reg.Blk.facts kp; replace kq := (((kq).alloc _).alloc _).keep hb; clear ckq fkq zkq; obtain ⟨ckq, fkq, zkq⟩ := Reg.Blk.facts kq; replace kr := (((kr).alloc _).alloc _).keep hb; clear ckr fkr zkr; obtain ⟨ckr, fkr, zkr⟩ := Reg.Blk.facts kr; clear hb) | (replace hT := (((hT.alloc hT.size _).alloc (Nat.le_trans hT.size (by simp; try omega)) _).alloc (Nat.le_trans hT.size (by simp; try omega)) _).trans (hb.mono (Nat.le_trans hT.size (by simp; try omega))); replace kp := ((((kp).alloc _).alloc _).alloc _).keep hb; clear ckp fkp zkp; obtain ⟨ckp, fkp, zkp⟩ := Reg.Blk.facts kp; replace kq := ((((kq).alloc _).alloc _).alloc _).keep hb; clear ckq fkq zkq; obtain ⟨ckq, fkq, zkq⟩ := Reg.Blk.facts kq; replace kr := ((((kr).alloc _).alloc _).alloc _).keep hb; clear ckr fkr zkr; obtain ⟨ckr, fkr, zkr⟩ := Reg.Blk.facts kr; clear hb) | (replace hT := ((((hT.alloc hT.size _).alloc (Nat.le_trans hT.size (by simp; try omega)) _).alloc (Nat.le_trans hT.size (by simp; try omega)) _).alloc (Nat.le_trans hT.size (by simp; try omega)) _).trans (hb.mono (Nat.le_trans hT.size (by simp; try omega))); replace kp := (((((kp).alloc _).alloc _).alloc _).alloc _).keep hb; clear ckp fkp zkp; obtain ⟨ckp, fkp, zkp⟩ := Reg.Blk.facts kp; replace kq := (((((kq).alloc _).alloc _).alloc _).alloc _).keep hb; clear ckq fkq zkq; obtain ⟨ckq, fkq, zkq⟩ := Reg.Blk.facts kq; replace kr := (((((kr).alloc _).alloc _).alloc _).alloc _).keep hb; clear ckr fkr zkr; obtain ⟨ckr, fkr, zkr⟩ := Reg.Blk.facts kr; clear hb) | (replace hT := (((((hT.alloc hT.size _).alloc (Nat.le_trans hT.size (by simp; try omega)) _).alloc (Nat.le_trans hT.size (by simp; try omega)) _).alloc (Nat.le_trans hT.size (by simp; try omega)) _).alloc (Nat.le_trans hT.size (by simp; try omega)) _).trans (hb.mono (Nat.le_trans hT.size (by simp; try omega))); replace kp := ((((((kp).alloc _).alloc _).alloc _).alloc _).alloc _).keep hb; clear ckp fkp zkp; obtain ⟨ckp, fkp, zkp⟩ := Reg.Blk.facts kp; replace kq := ((((((kq).alloc _).alloc _).alloc _).alloc _).alloc _).keep hb; clear ckq fkq zkq; obtain ⟨ckq, fkq, zkq⟩ := Reg.Blk.facts kq; replace kr := ((((((kr).alloc _).alloc _).alloc _).alloc _).alloc _).keep hb; clear ckr fkr zkr; obtain ⟨ckr, fkr, zkr⟩ := Reg.Blk.facts kr; clear hb)) | (go_at_call 70; (with_reducible refine (rarea_any _ _ _ _ _ _ _).mono ?_); rintro e w' ⟨rfl, hb⟩; first | (replace hT := (hT).trans (hb.mono hT.size); replace kp := (kp).keep hb; clear ckp fkp zkp; obtain ⟨ckp, fkp, zkp⟩ := Reg.Blk.facts kp; replace kq := (kq).keep hb; clear ckq fkq zkq; obtain ⟨ckq, fkq, zkq⟩ := Reg.Blk.facts kq; replace kr := (kr).keep hb; clear ckr fkr zkr; obtain ⟨ckr, fkr, zkr⟩ := Reg.Blk.facts kr; clear hb) | (replace hT := (hT.alloc hT.size _).trans (hb.mono (Nat.le_trans hT.size (by simp; try omega))); replace kp := ((kp).alloc _).keep hb; clear ckp fkp zkp; obtain ⟨ckp, fkp, zkp⟩ := Reg.Blk.facts kp; replace kq := ((kq).alloc _).keep hb; clear ckq fkq zkq; obtain ⟨ckq, fkq, zkq⟩ := Reg.Blk.facts kq; replace kr := ((kr).alloc _).keep hb; clear ckr fkr zkr; obtain ⟨ckr, fkr, zkr⟩ := Reg.Blk.facts kr; clear hb) | (replace hT := ((hT.alloc hT.size _).alloc (Nat.le_trans hT.size (by simp; try omega)) _).trans (hb.mono (Nat.le_trans hT.size (by simp; try omega))); replace kp := (((kp).alloc _).alloc _).keep hb; clear ckp fkp zkp; obtain ⟨ckp, fkp, zkp⟩ := Reg.Blk.facts kp; replace kq := (((kq).alloc _).alloc _).keep hb; clear ckq fkq zkq; obtain ⟨ckq, fkq, zkq⟩ := Reg.Blk.facts kq; replace kr := (((kr).alloc _).alloc _).keep hb; clear ckr fkr zkr; obtain ⟨ckr, fkr, zkr⟩ := Reg.Blk.facts kr; clear hb) | (replace hT := (((hT.alloc hT.size _).alloc (Nat.le_trans hT.size (by simp; try omega)) _).alloc (Nat.le_trans hT.size (by simp; try omega)) _).trans (hb.mono (Nat.le_trans hT.size (by simp; try omega))); replace kp := ((((kp).alloc _).alloc _).alloc _).keep hb; clear ckp fkp zkp; obtain ⟨ckp, fkp, zkp⟩ := Reg.Blk.facts kp; replace kq := ((((kq).alloc _).alloc _).alloc _).keep hb; clear ckq fkq zkq; obtain ⟨ckq, fkq, zkq⟩ := Reg.Blk.facts kq; replace kr := ((((kr).alloc _).alloc _).alloc _).keep hb; clear ckr fkr zkr; obtain ⟨ckr, fkr, zkr⟩ := Reg.Blk.facts kr; clear hb) | (replace hT := ((((hT.alloc hT.size _).alloc (Nat.le_trans hT.size (by simp; try omega)) _).alloc (Nat.le_trans hT.size (by simp; try omega)) _).alloc (Nat.le_trans hT.size (by simp; try omega)) _).trans (hb.mono (Nat.le_trans hT.size (by simp; try omega))); replace kp := (((((kp).alloc _).alloc _).alloc _).alloc _).keep hb; clear ckp fkp zkp; obtain ⟨ckp, fkp, zkp⟩ := Reg.Blk.facts kp; replace kq := (((((kq).alloc _).alloc _).alloc _).alloc _).keep hb; clear ckq fkq zkq; obtain ⟨ckq, fkq, zkq⟩ := Reg.Blk.facts kq; replace kr := (((((kr).alloc _).alloc _).alloc _).alloc _).keep hb; clear ckr fkr zkr; obtain ⟨ckr, fkr, zkr⟩ := Reg.Blk.facts kr; clear hb) | (replace hT := (((((hT.alloc hT.size _).alloc (Nat.le_trans hT.size (by simp; try omega)) _).alloc (Nat.le_trans hT.size (by simp; try omega)) _).alloc (Nat.le_trans hT.size (by simp; try omega)) _).alloc (Nat.le_trans hT.size (by simp; try omega)) _).trans (hb.mono (Nat.le_trans hT.size (by simp; try omega))); replace kp := ((((((kp).alloc _).alloc _).alloc _).alloc _).alloc _).keep hb; clear ckp fkp zkp; obtain ⟨ckp, fkp, zkp⟩ := Reg.Blk.facts kp; replace kq := ((((((kq).alloc _).alloc _).alloc _).alloc _).alloc _).keep hb; clear ckq fkq zkq; obtain ⟨ckq, fkq, zkq⟩ := Reg.Blk.facts kq; replace kr := ((((((kr).alloc _).alloc _).alloc _).alloc _).alloc _).keep hb; clear ckr fkr zkr; obtain ⟨ckr, fkr, zkr⟩ := Reg.Blk.facts kr; clear hb)) | (go_at_call 71; (with_reducible refine (rsign_any _ _).mono ?_); rintro e w' ⟨rfl, hb⟩; first | (replace hT := (hT).trans (hb.mono hT.size); replace kp := (kp).keep hb; clear ckp fkp zkp; obtain ⟨ckp, fkp, zkp⟩ := Reg.Blk.facts kp; replace kq := (kq).keep hb; clear ckq fkq zkq; obtain ⟨ckq, fkq, zkq⟩ := Reg.Blk.facts kq; replace kr := (kr).keep hb; clear ckr fkr zkr; obtain ⟨ckr, fkr, zkr⟩ := Reg.Blk.facts kr; clear hb) | (replace hT := (hT.alloc hT.size _).trans (hb.mono (Nat.le_trans hT.size (by simp; try omega))); replace kp := ((kp).alloc _).keep hb; clear ckp fkp zkp; obtain ⟨ckp, fkp, zkp⟩ := Reg.Blk.facts kp; replace kq := ((kq).alloc _).keep hb; clear ckq fkq zkq; obtain ⟨ckq, fkq, zkq⟩ := Reg.Blk.facts kq; replace kr := ((kr).alloc _).keep hb; clear ckr fkr zkr; obtain ⟨ckr, fkr, zkr⟩ := Reg.Blk.facts kr; clear hb) | (replace hT := ((hT.alloc hT.size _).alloc (Nat.le_trans hT.size (by simp; try omega)) _).trans (hb.mono (Nat.le_trans hT.size (by simp; try omega))); replace kp := (((kp).alloc _).alloc _).keep hb; clear ckp fkp zkp; obtain ⟨ckp, fkp, zkp⟩ := Reg.Blk.facts kp; replace kq := (((kq).alloc _).alloc _).keep hb; clear ckq fkq zkq; obtain ⟨ckq, fkq, zkq⟩ := Reg.Blk.facts kq; replace kr := (((kr).alloc _).alloc _).keep hb; clear ckr fkr zkr; obtain ⟨ckr, fkr, zkr⟩ := Reg.Blk.facts kr; clear hb) | (replace hT := (((hT.alloc hT.size _).alloc (Nat.le_trans hT.size (by simp; try omega)) _).alloc (Nat.le_trans hT.size (by simp; try omega)) _).trans (hb.mono (Nat.le_trans hT.size (by simp; try omega))); replace kp := ((((kp).alloc _).alloc _).alloc _).keep hb; clear ckp fkp zkp; obtain ⟨ckp, fkp, zkp⟩ := Reg.Blk.facts kp; replace kq := ((((kq).alloc _).alloc _).alloc _).keep hb; clear ckq fkq zkq; obtain ⟨ckq, fkq, zkq⟩ := Reg.Blk.facts kq; replace kr := ((((kr).alloc _).alloc _).alloc _).keep hb; clear ckr fkr zkr; obtain ⟨ckr, fkr, zkr⟩ := Reg.Blk.facts kr; clear hb) | (replace hT := ((((hT.alloc hT.size _).alloc (Nat.le_trans hT.size (by simp; try omega)) _).alloc (Nat.le_trans hT.size (by simp; try omega)) _).alloc (Nat.le_trans hT.size (by simp; try omega)) _).trans (hb.mono (Nat.le_trans hT.size (by simp; try omega))); replace kp := (((((kp).alloc _).alloc _).alloc _).alloc _).keep hb; clear ckp fkp zkp; obtain ⟨ckp, fkp, zkp⟩ := Reg.Blk.facts kp; replace kq := (((((kq).alloc _).alloc _).alloc _).alloc _).keep hb; clear ckq fkq zkq; obtain ⟨ckq, fkq, zkq⟩ := Reg.Blk.facts kq; replace kr := (((((kr).alloc _).alloc _).alloc _).alloc _).keep hb; clear ckr fkr zkr; obtain ⟨ckr, fkr, zkr⟩ := Reg.Blk.facts kr; clear hb) | (replace hT := (((((hT.alloc hT.size _).alloc (Nat.le_trans hT.size (by simp; try omega)) _).alloc (Nat.le_trans hT.size (by simp; try omega)) _).alloc (Nat.le_trans hT.size (by simp; try omega)) _).alloc (Nat.le_trans hT.size (by simp; try omega)) _).trans (hb.mono (Nat.le_trans hT.size (by simp; try omega))); replace kp := ((((((kp).alloc _).alloc _).alloc _).alloc _).alloc _).keep hb; clear ckp fkp zkp; obtain ⟨ckp, fkp, zkp⟩ := Reg.Blk.facts kp; replace kq := ((((((kq).alloc _).alloc _).alloc _).alloc _).alloc _).keep hb; clear ckq fkq zkq; obtain ⟨ckq, fkq, zkq⟩ := Reg.Blk.facts kq; replace kr := ((((((kr).alloc _).alloc _).alloc _).alloc _).alloc _).keep hb; clear ckr fkr zkr; obtain ⟨ckr, fkr, zkr⟩ := Reg.Blk.facts kr; clear hb)))
    go_ret
    exact ⟨ret_int (by rw [Ht.out]; simp [on3, h1, h2, h3]), hT⟩
theorem sq_flip {a b : Int} (ha : InG a) (hb : InG b) : wrap64 (wrap64 (a - b) * wrap64 (a - b)) = wrap64 (wrap64 (b - a) * wrap64 (b - a)) := by
  unfold InG at *
  rw [wsub a b ha hb, wsub b a hb ha]
  congr 1; grind
theorem onB_out {x y : Int} (h : onB x y = true) : InG x ∧ InG y := by
  unfold onB at h; simp at h; unfold InG; omega
theorem rdist_eq (ax ay bx by' : Int) : distI ax ay bx by' = if on2 ax ay bx by' = true then wrap64 (wrap64 (wrap64 (ax - bx) * wrap64 (ax - bx)) + wrap64 (wrap64 (ay - by') * wrap64 (ay - by'))) else 0 := by
  unfold distI
  by_cases h : on2 ax ay bx by' = true
  · rw [if_pos h, if_pos h]
    unfold on2 at h
    simp only [Bool.and_eq_true] at h
    obtain ⟨h1, h2⟩ := onB_out h.1
    obtain ⟨h3, h4⟩ := onB_out h.2
    unfold alongI
    rw [sq_flip h1 h3, sq_flip h2 h4]
  · rw [if_neg h, if_neg h]
theorem rdist_any (ax ay bx by' : Int) (w : World) :
    Calls Try.prog 68 #[.agg #[.int .i64 ax, .int .i64 ay], .agg #[.int .i64 bx, .int .i64 by']] w fun e w' => e = .returned (.int .i64 (distI ax ay bx by')) ∧ Below w.heap.size w w' := by
  have Ht := Lib.hid (rdist_eq ax ay bx by')
  cases h1 : onB ax ay <;> cases h2 : onB bx by'
  all_goals
    have hT := Below.refl w.heap.size w
    go_enter Try.func68, Try.ntmps68
    go_wp2_with fail
    first | (go_at_call 33; (with_reducible refine (ron_any _ _ _).mono ?_); rintro e w' ⟨rfl, hb⟩; first | (replace hT := (hT).trans (hb.mono hT.size); clear hb) | (replace hT := (hT.alloc hT.size _).trans (hb.mono (Nat.le_trans hT.size (by simp; try omega))); clear hb) | (replace hT := ((hT.alloc hT.size _).alloc (Nat.le_trans hT.size (by simp; try omega)) _).trans (hb.mono (Nat.le_trans hT.size (by simp; try omega))); obtain ⟨kp, kq⟩ := Reg.Blk.new2 hb; obtain ⟨ckp, fkp, zkp⟩ := Reg.Blk.facts kp; obtain ⟨ckq, fkq, zkq⟩ := Reg.Blk.facts kq; clear hb) | (replace hT := (((hT.alloc hT.size _).alloc (Nat.le_trans hT.size (by simp; try omega)) _).alloc (Nat.le_trans hT.size (by simp; try omega)) _).trans (hb.mono (Nat.le_trans hT.size (by simp; try omega))); clear hb) | (replace hT := ((((hT.alloc hT.size _).alloc (Nat.le_trans hT.size (by simp; try omega)) _).alloc (Nat.le_trans hT.size (by simp; try omega)) _).alloc (Nat.le_trans hT.size (by simp; try omega)) _).trans (hb.mono (Nat.le_trans hT.size (by simp; try omega))); clear hb) | (replace hT := (((((hT.alloc hT.size _).alloc (Nat.le_trans hT.size (by simp; try omega)) _).alloc (Nat.le_trans hT.size (by simp; try omega)) _).alloc (Nat.le_trans hT.size (by simp; try omega)) _).alloc (Nat.le_trans hT.size (by simp; try omega)) _).trans (hb.mono (Nat.le_trans hT.size (by simp; try omega))); clear hb))
    go_wp2_with (first | (go_at_call 33; (with_reducible refine (ron_any _ _ _).mono ?_); rintro e w' ⟨rfl, hb⟩; first | (replace hT := (hT).trans (hb.mono hT.size); replace kp := (kp).keep hb; clear ckp fkp zkp; obtain ⟨ckp, fkp, zkp⟩ := Reg.Blk.facts kp; replace kq := (kq).keep hb; clear ckq fkq zkq; obtain ⟨ckq, fkq, zkq⟩ := Reg.Blk.facts kq; clear hb) | (replace hT := (hT.alloc hT.size _).trans (hb.mono (Nat.le_trans hT.size (by simp; try omega))); replace kp := ((kp).alloc _).keep hb; clear ckp fkp zkp; obtain ⟨ckp, fkp, zkp⟩ := Reg.Blk.facts kp; replace kq := ((kq).alloc _).keep hb; clear ckq fkq zkq; obtain ⟨ckq, fkq, zkq⟩ := Reg.Blk.facts kq; clear hb) | (replace hT := ((hT.alloc hT.size _).alloc (Nat.le_trans hT.size (by simp; try omega)) _).trans (hb.mono (Nat.le_trans hT.size (by simp; try omega))); replace kp := (((kp).alloc _).alloc _).keep hb; clear ckp fkp zkp; obtain ⟨ckp, fkp, zkp⟩ := Reg.Blk.facts kp; replace kq := (((kq).alloc _).alloc _).keep hb; clear ckq fkq zkq; obtain ⟨ckq, fkq, zkq⟩ := Reg.Blk.facts kq; clear hb) | (replace hT := (((hT.alloc hT.size _).alloc (Nat.le_trans hT.size (by simp; try omega)) _).alloc (Nat.le_trans hT.size (by simp; try omega)) _).trans (hb.mono (Nat.le_trans hT.size (by simp; try omega))); replace kp := ((((kp).alloc _).alloc _).alloc _).keep hb; clear ckp fkp zkp; obtain ⟨ckp, fkp, zkp⟩ := Reg.Blk.facts kp; replace kq := ((((kq).alloc _).alloc _).alloc _).keep hb; clear ckq fkq zkq; obtain ⟨ckq, fkq, zkq⟩ := Reg.Blk.facts kq; clear hb) | (replace hT := ((((hT.alloc hT.size _).alloc (Nat.le_trans hT.size (by simp; try omega)) _).alloc (Nat.le_trans hT.size (by simp; try omega)) _).alloc (Nat.le_trans hT.size (by simp; try omega)) _).trans (hb.mono (Nat.le_trans hT.size (by simp; try omega))); replace kp := (((((kp).alloc _).alloc _).alloc _).alloc _).keep hb; clear ckp fkp zkp; obtain ⟨ckp, fkp, zkp⟩ := Reg.Blk.facts kp; replace kq := (((((kq).alloc _).alloc _).alloc _).alloc _).keep hb; clear ckq fkq zkq; obtain ⟨ckq, fkq, zkq⟩ := Reg.Blk.facts kq; clear hb) | (replace hT := (((((hT.alloc hT.size _).alloc (Nat.le_trans hT.size (by simp; try omega)) _).alloc (Nat.le_trans hT.size (by simp; try omega)) _).alloc (Nat.le_trans hT.size (by simp; try omega)) _).alloc (Nat.le_trans hT.size (by simp; try omega)) _).trans (hb.mono (Nat.le_trans hT.size (by simp; try omega))); replace kp := ((((((kp).alloc _).alloc _).alloc _).alloc _).alloc _).keep hb; clear ckp fkp zkp; obtain ⟨ckp, fkp, zkp⟩ := Reg.Blk.facts kp; replace kq := ((((((kq).alloc _).alloc _).alloc _).alloc _).alloc _).keep hb; clear ckq fkq zkq; obtain ⟨ckq, fkq, zkq⟩ := Reg.Blk.facts kq; clear hb)))
    go_ret
    exact ⟨ret_int (by rw [Ht.out]; simp [on2, h1, h2]), hT⟩
theorem turnI_bd (ax ay bx by' cx cy : Int) : -1 ≤ turnI ax ay bx by' cx cy ∧ turnI ax ay bx by' cx cy ≤ 1 := by
  rw [turn_area]
  split
  · have := sgn_cases (areaW ax ay bx by' cx cy); omega
  · omega
set_option maxHeartbeats 1000000 in
theorem low_nat (a b : Nat) (w : World) (ha : a ≤ 9223372036854775807) (hb : b ≤ 9223372036854775807) (h1 : 1 ≤ b) :
    Calls Try.prog 69 #[.int .i64 a, .int .i64 b] w fun e w' => e = .returned (.agg #[.int .i64 ((a : Int) / (Nat.gcd a b : Nat)), .int .i64 ((b : Int) / (Nat.gcd a b : Nat))]) ∧ Below w.heap.size w w' := by
  go_enter Try.func69, Try.ntmps69
  go_wp2_with fail
  go_loopw [5, 6, 7] (fun x y _ wr => ∃ m n : Nat, x = .int .i64 m ∧ y = .int .i64 n ∧ m ≤ 9223372036854775807 ∧ n ≤ 9223372036854775807 ∧ (1 ≤ m ∨ 1 ≤ n) ∧ Nat.gcd m n = Nat.gcd a b ∧ wr = w.alloc (.cells #[.int .i64 0, .int .i64 0] 32)) (fun _ y _ _ => (intOf y).toNat)
  case atStart => exact ⟨a, b, rfl, rfl, ha, hb, .inr h1, rfl, rfl⟩
  case round =>
    obtain ⟨m, n, rfl, rfl, hm, hn, hpos, hgcd, rfl⟩ := hrel
    have Hgcd := Lib.hid hgcd
    clear hgcd
    by_cases hlt : n = 0
    · subst hlt
      have hm1 : 1 ≤ m := by omega
      have hg : Nat.gcd a b = m := by rw [← Hgcd.out, Nat.gcd_zero_right]
      have Hg := Lib.hid hg
      clear hg hpos
      have hne : ¬ (m : Int) = 0 := by omega
      have hne2 : ¬ m = 0 := by omega
      have r1 : Hid (wrap64 ((a : Int) / (m : Int)) = (a : Int) / (m : Int)) := IntWalk.wrap64_in _ ⟨by have := Int.ediv_nonneg (a := (a : Int)) (b := (m : Int)) (by omega) (by omega); omega, by have := Int.ediv_le_self (a := (a : Int)) (m : Int) (by omega); omega⟩
      have r2 : Hid (wrap64 ((b : Int) / (m : Int)) = (b : Int) / (m : Int)) := IntWalk.wrap64_in _ ⟨by have := Int.ediv_nonneg (a := (b : Int)) (b := (m : Int)) (by omega) (by omega); omega, by have := Int.ediv_le_self (a := (b : Int)) (m : Int) (by omega); omega⟩
      have q1 : IntKind.i64.wrap ((a : Int).tdiv (m : Int)) = (a : Int) / (m : Int) := by
        rw [Int.tdiv_eq_ediv_of_nonneg (by omega), IntWalk.i64_left]
        exact IntWalk.wrap64_in _ ⟨by have := Int.ediv_nonneg (a := (a : Int)) (b := (m : Int)) (by omega) (by omega); omega, by have := Int.ediv_le_self (a := (a : Int)) (m : Int) (by omega); omega⟩
      have q2 : IntKind.i64.wrap ((b : Int).tdiv (m : Int)) = (b : Int) / (m : Int) := by
        rw [Int.tdiv_eq_ediv_of_nonneg (by omega), IntWalk.i64_left]
        exact IntWalk.wrap64_in _ ⟨by have := Int.ediv_nonneg (a := (b : Int)) (b := (m : Int)) (by omega) (by omega); omega, by have := Int.ediv_le_self (a := (b : Int)) (m : Int) (by omega); omega⟩
      go_wp2_with fail
      refine Reg.wp_region_seq (by kernel_rfl) (by kernel_rfl) ?_
      simp only
      iterate 7
        apply Reg.SeqOK.val
        · intro γ W hW K hK
          obtain ⟨hc, hf, _⟩ := bcell hW
          simp only [Act.put, List.setIfInBounds_toArray, List.set_cons_zero, List.set_cons_succ] at hK
          unfold Reg.Does
          go_simp
          try simp only [IntWalk.i64_left]
          first
            | exact hK _ (Below.refl _ _)
        simp only [Act.put, List.setIfInBounds_toArray, List.set_cons_zero, List.set_cons_succ, List.nil_append, List.cons_append, Nat.reduceAdd, Nat.zero_add]
      refine Reg.SeqOK.last (by kernel_rfl) (by kernel_rfl) (fun γ W hW _ _ _ => ?_)
      have hw0 : Below w.heap.size w W := ((Below.refl _ _).alloc (Nat.le_refl _) _).trans (hW.mono (by simp))
      obtain ⟨hc, hf, _⟩ := bcell hW
      clear hW
      unfold Reg.Does
      go_wp2
      refine bodyPost_ret (v := .agg #[.int .i64 ((a : Int) / (Nat.gcd a b : Nat)), .int .i64 ((b : Int) / (Nat.gcd a b : Nat))]) (by rw [Hg.out]; simp [results, Try.results69, go_sem, hc, r1.out, r2.out]) rfl ⟨rfl, ?_⟩
      repeat (first | exact Below.refl _ _ | assumption | (refine Below.setCell ?_ (by first | (simp; done) | (simp; omega) | omega) _) | (refine Below.alloc ?_ (by first | (simp; done) | (simp; omega) | omega) _) | (refine Below.drew ?_))
    · have h1' : (1 : Int) ≤ (n : Int) := by omega
      have h2' : (0 : Int) ≤ (m : Int) := by omega
      clear hpos
      go_wp2_with fail
      have hmod : (m : Int) % (n : Int) = ((m % n : Nat) : Int) := by simp
      have hlt2 : m % n < n := Nat.mod_lt _ (by omega)
      go_roundw
      case rel => exact ⟨n, m % n, rfl, by rw [hmod], hn, by omega, .inl (by omega), by rw [← Hgcd.out, Nat.gcd_comm m n, Nat.gcd_rec n m, Nat.gcd_comm], by first | rfl | trivial⟩
      case measure => simp only [intOf, hmod]; omega
theorem low_any (a b : Int) (w : World) (ha : 0 ≤ a) (ha' : a ≤ 9223372036854775807) (h1 : 1 ≤ b) (hb : b ≤ 9223372036854775807) :
    Calls Try.prog 69 #[.int .i64 a, .int .i64 b] w fun e w' => e = .returned (.agg #[.int .i64 (lowI a b).1, .int .i64 (lowI a b).2.1]) ∧ Below w.heap.size w w' := by
  obtain ⟨m, rfl⟩ := Int.eq_ofNat_of_zero_le ha
  obtain ⟨n, rfl⟩ := Int.eq_ofNat_of_zero_le (by omega : 0 ≤ b)
  exact low_nat m n w (by omega) (by omega) (by omega)
theorem sq_up {n : Int} (h : -2147352578 ≤ n ∧ n ≤ 2147352578) : n * n ≤ 4611123094243246084 := by
  have h1 := Int.mul_nonneg (a := 2147352578 - n) (b := 2147352578 + n) (by omega) (by omega)
  grind
/-- Foot of points on the grid, in the reference's words. -/
def rfootO (al all ar da db : Int) : Rat3 × Rat3 :=
  if al ≤ 0 then (lowI 0 1, lowI da 1) else if all ≤ al then (lowI 1 1, lowI db 1) else (lowI al all, lowI (ar * ar) all)
theorem rfoot_eq {px py ax ay bx by' : Int} (h1 : InG px) (h2 : InG py) (h3 : InG ax) (h4 : InG ay) (h5 : InG bx) (h6 : InG by') :
    footI px py ax ay bx by' = rfootO (alongI (wrap64 (px - ax)) (wrap64 (py - ay)) (wrap64 (bx - ax)) (wrap64 (by' - ay))) (distI ax ay bx by') (areaW ax ay bx by' px py) (distI px py ax ay) (distI px py bx by') ∧
    (0 ≤ distI ax ay bx by' ∧ distI ax ay bx by' ≤ 2147352578) ∧ (0 ≤ distI px py ax ay ∧ distI px py ax ay ≤ 2147352578) ∧ (0 ≤ distI px py bx by' ∧ distI px py bx by' ≤ 2147352578) ∧
    (-2147352578 ≤ areaW ax ay bx by' px py ∧ areaW ax ay bx by' px py ≤ 2147352578) ∧ 0 ≤ areaW ax ay bx by' px py * areaW ax ay bx by' px py ∧ areaW ax ay bx by' px py * areaW ax ay bx by' px py ≤ 4611123094243246084 := by
  have e1 : alongI (wrap64 (bx - ax)) (wrap64 (by' - ay)) (wrap64 (bx - ax)) (wrap64 (by' - ay)) = distI ax ay bx by' := by
    unfold distI on2
    rw [onB_in h3 h4, onB_in h5 h6]; rfl
  have e2 : alongI (wrap64 (bx - ax)) (wrap64 (by' - ay)) (wrap64 (px - ax)) (wrap64 (py - ay)) = alongI (wrap64 (px - ax)) (wrap64 (py - ay)) (wrap64 (bx - ax)) (wrap64 (by' - ay)) := by
    unfold alongI; rw [Int.mul_comm (wrap64 (bx - ax)), Int.mul_comm (wrap64 (by' - ay))]
  have e3 : areaI (wrap64 (bx - ax)) (wrap64 (by' - ay)) (wrap64 (px - ax)) (wrap64 (py - ay)) = areaW ax ay bx by' px py := rfl
  have d1 := distP_bd h3 h4 h5 h6
  have d2 := distP_bd h1 h2 h3 h4
  have d3 := distP_bd h1 h2 h5 h6
  rw [← dist_in h3 h4 h5 h6] at d1
  rw [← dist_in h1 h2 h3 h4] at d2
  rw [← dist_in h1 h2 h5 h6] at d3
  have a1 : -2147352578 ≤ areaW ax ay bx by' px py ∧ areaW ax ay bx by' px py ≤ 2147352578 := by
    have := areaW_in h3 h4 h5 h6 h1 h2
    unfold areaW
    rw [this]
    unfold areaP InG at *
    have m1 := mul_bd (x := bx - ax) (y := py - ay) (by omega) (by omega)
    have m2 := mul_bd (x := by' - ay) (y := px - ax) (by omega) (by omega)
    omega
  have a2 := sq_nn (areaW ax ay bx by' px py)
  have a3 : areaW ax ay bx by' px py * areaW ax ay bx by' px py ≤ 4611123094243246084 := sq_up a1
  have l1 := alongI_bd (wrap64 (px - ax)) (wrap64 (py - ay)) (wrap64 (bx - ax)) (wrap64 (by' - ay))
  refine ⟨?_, d1, d2, d3, a1, a2, a3⟩
  unfold footI on3
  rw [onB_in h1 h2, onB_in h3 h4, onB_in h5 h6]
  simp only [Bool.and_self, if_true]
  rw [e1, e2, e3]
  unfold footO rfootO
  have k0 : most = 4611686018427387904 := rfl
  by_cases c1 : alongI (wrap64 (px - ax)) (wrap64 (py - ay)) (wrap64 (bx - ax)) (wrap64 (by' - ay)) ≤ 0
  · rw [if_pos c1, if_pos c1, of_low (by omega) (by omega) (by omega) (by omega), of_low (by omega) (by omega) (by omega) (by omega)]
  · rw [if_neg c1, if_neg c1]
    by_cases c2 : distI ax ay bx by' ≤ alongI (wrap64 (px - ax)) (wrap64 (py - ay)) (wrap64 (bx - ax)) (wrap64 (by' - ay))
    · rw [if_pos c2, if_pos c2, of_low (by omega) (by omega) (by omega) (by omega), of_low (by omega) (by omega) (by omega) (by omega)]
    · rw [if_neg c2, if_neg c2, of_low (by omega) (by omega) (by omega) (by omega), IntWalk.wrap64_in (areaW ax ay bx by' px py * areaW ax ay bx by' px py) (by omega), of_low (by omega) (by omega) (by omega) (by omega)]
def alP (px py ax ay bx by' : Int) : Int := (bx - ax) * (px - ax) + (by' - ay) * (py - ay)
theorem foot_in {px py ax ay bx by' : Int} (h1 : InG px) (h2 : InG py) (h3 : InG ax) (h4 : InG ay) (h5 : InG bx) (h6 : InG by') :
    footI px py ax ay bx by' = rfootO (alP px py ax ay bx by') (distP ax ay bx by') (areaP ax ay bx by' px py) (distP px py ax ay) (distP px py bx by') := by
  rw [(rfoot_eq h1 h2 h3 h4 h5 h6).1, dist_in h3 h4 h5 h6, dist_in h1 h2 h3 h4, dist_in h1 h2 h5 h6]
  have e1 : areaW ax ay bx by' px py = areaP ax ay bx by' px py := areaW_in h3 h4 h5 h6 h1 h2
  have e2 : alongI (wrap64 (px - ax)) (wrap64 (py - ay)) (wrap64 (bx - ax)) (wrap64 (by' - ay)) = alP px py ax ay bx by' := by
    unfold InG at *
    rw [wsub px ax h1 h3, wsub py ay h2 h4, wsub bx ax h5 h3, wsub by' ay h6 h4, alongI_in (by omega) (by omega) (by omega) (by omega)]
    unfold alP; grind
  rw [e1, e2]
theorem area_sq {ax ay bx by' px py : Int} (h1 : InG px) (h2 : InG py) (h3 : InG ax) (h4 : InG ay) (h5 : InG bx) (h6 : InG by') :
    0 ≤ areaP ax ay bx by' px py * areaP ax ay bx by' px py ∧ areaP ax ay bx by' px py * areaP ax ay bx by' px py ≤ 4611123094243246084 := by
  obtain ⟨_, _, _, _, _, a2, a3⟩ := rfoot_eq h1 h2 h3 h4 h5 h6
  have e1 : areaW ax ay bx by' px py = areaP ax ay bx by' px py := areaW_in h3 h4 h5 h6 h1 h2
  rw [e1] at a2 a3
  exact ⟨a2, a3⟩
theorem low_spec {num den : Int} (h1 : 0 ≤ num) (h2 : 1 ≤ den) (h3 : num ≤ 4611686018427387904) (h4 : den ≤ 4611686018427387904) :
    validI (lowI num den).1 (lowI num den).2.1 = true ∧ ∃ g, 1 ≤ g ∧ (lowI num den).1 * g = num ∧ (lowI num den).2.1 * g = den ∧ 0 ≤ (lowI num den).1 ∧ 1 ≤ (lowI num den).2.1 := by
  obtain ⟨m, rfl⟩ := Int.eq_ofNat_of_zero_le h1
  obtain ⟨n, rfl⟩ := Int.eq_ofNat_of_zero_le (by omega : 0 ≤ den)
  have hn : 0 < n := by omega
  have hg : 0 < Nat.gcd m n := Nat.gcd_pos_of_pos_right _ hn
  have e : lowI (m : Int) (n : Int) = (((m / Nat.gcd m n : Nat) : Int), ((n / Nat.gcd m n : Nat) : Int), 0) := by
    unfold lowI gcdI; simp
  rw [e]
  have d1 : m / Nat.gcd m n * Nat.gcd m n = m := Nat.div_mul_cancel (Nat.gcd_dvd_left _ _)
  have d2 : n / Nat.gcd m n * Nat.gcd m n = n := Nat.div_mul_cancel (Nat.gcd_dvd_right _ _)
  have q1 : m / Nat.gcd m n ≤ m := Nat.div_le_self _ _
  have q2 : n / Nat.gcd m n ≤ n := Nat.div_le_self _ _
  have q3 : 1 ≤ n / Nat.gcd m n := by
    rcases Nat.eq_zero_or_pos (n / Nat.gcd m n) with h | h
    · rw [h] at d2; omega
    · exact h
  refine ⟨?_, Nat.gcd m n, by omega, by rw [← Int.natCast_mul, d1], by rw [← Int.natCast_mul, d2], Int.natCast_nonneg _, Int.ofNat_le.2 q3⟩
  have c : Nat.gcd (m / Nat.gcd m n) (n / Nat.gcd m n) = 1 := Nat.coprime_div_gcd_div_gcd hg
  simp only
  generalize m / Nat.gcd m n = a at *
  generalize n / Nat.gcd m n = b at *
  have a1 : absI (a : Int) = a := by have := absI_spec (a : Int); omega
  have a2 : absI (b : Int) = b := by have := absI_spec (b : Int); omega
  unfold validI
  rw [a1, a2]
  unfold gcdI
  simp [c]
  omega
theorem valid_one {n : Int} (h1 : 0 ≤ n) (h2 : n ≤ 4611686018427387904) : validI n 1 = true := by
  have a1 : absI n = n := by have := absI_spec n; omega
  unfold validI gcdI
  rw [a1]
  simp [absI]
  omega
theorem cmp_le {n1 d1 n2 d2 : Int} (h1 : validI n1 d1 = true) (h2 : validI n2 d2 = true) : cmpI n1 d1 n2 d2 ≤ 0 ↔ n1 * d2 ≤ n2 * d1 := by
  unfold cmpI
  cases h : ptEq n1 d1 n2 d2
  · have hx : n1 * d2 ≠ n2 * d1 := fun e => by
      obtain ⟨rfl, rfl⟩ := cross_eq h1 h2 e
      simp [ptEq] at h
    simp only [Bool.false_eq_true, if_false]
    split <;> omega
  · simp only [ptEq, Bool.and_eq_true, decide_eq_true_eq] at h
    obtain ⟨rfl, rfl⟩ := h
    simp
/-- A low fraction against a whole number. -/
theorem low_cmp {num den D : Int} (h1 : 0 ≤ num) (h2 : 1 ≤ den) (h3 : num ≤ 4611686018427387904) (h4 : den ≤ 4611686018427387904) (h5 : 0 ≤ D) (h6 : D ≤ 4611686018427387904) (h : num ≤ D * den) :
    (compareI (lowI num den).1 (lowI num den).2.1 D 1).2 = 0 ∧ (compareI (lowI num den).1 (lowI num den).2.1 D 1).1 ≤ 0 := by
  obtain ⟨v, g, hg, e1, e2, p1, p2⟩ := low_spec h1 h2 h3 h4
  have v1 := valid_one h5 h6
  unfold compareI
  rw [v, v1]
  simp only [Bool.and_self, if_true, true_and]
  rw [cmp_le v v1]
  generalize (lowI num den).1 = n at *
  generalize (lowI num den).2.1 = d at *
  rcases Int.lt_or_le (D * d) (n * 1) with k | k
  · have := Int.mul_lt_mul_of_pos_right k (by omega : 0 < g)
    have e3 : D * d * g = D * den := by rw [← e2]; grind
    have e4 : n * 1 * g = num := by rw [← e1]; grind
    omega
  · exact k
theorem lagrange (ux uy vx vy : Int) : (ux * vy - uy * vx) * (ux * vy - uy * vx) ≤ (ux * ux + uy * uy) * (vx * vx + vy * vy) := by
  have h := sq_nn (ux * vx + uy * vy)
  have e : (ux * ux + uy * uy) * (vx * vx + vy * vy) = (ux * vy - uy * vx) * (ux * vy - uy * vx) + (ux * vx + uy * vy) * (ux * vx + uy * vy) := by grind
  omega
/-- A point between two others: the numbers. -/
theorem between_bd {b v n k : Int} (hb : InG b) (hc : InG (b + n * v)) (hk : 0 ≤ k) (hkn : k ≤ n) : InG (b + v * k) := by
  unfold InG at *
  rcases Int.lt_or_le v 0 with h | h
  · have h1 := Int.mul_nonneg (a := -v) (b := k) (by omega) hk
    have h2 := Int.mul_nonneg (a := -v) (b := n - k) (by omega) (by omega)
    have e1 : -v * k = -(v * k) := by grind
    have e2 : -v * (n - k) = -(n * v) + v * k := by grind
    omega
  · have h1 := Int.mul_nonneg (a := v) (b := k) (by omega) hk
    have h2 := Int.mul_nonneg (a := v) (b := n - k) (by omega) (by omega)
    have e2 : v * (n - k) = n * v - v * k := by grind
    omega
theorem near_in {bx by' vx vy n k : Int} (h3 : InG bx) (h4 : InG by') (h5 : InG (bx + n * vx)) (h6 : InG (by' + n * vy)) (hn : 1 ≤ n) (hv : vx ≠ 0 ∨ vy ≠ 0) (hk : 0 ≤ k) (hkn : k ≤ n) :
    InG (bx + vx * k) ∧ InG (by' + vy * k) ∧ betwI (bx + vx * k) (by' + vy * k) bx by' (bx + n * vx) (by' + n * vy) = true := by
  have hx := between_bd h3 h5 hk hkn
  have hy := between_bd h4 h6 hk hkn
  refine ⟨hx, hy, ?_⟩
  rw [betw_in hx hy h3 h4 h5 h6]
  by_cases k0 : k = 0
  · subst k0; exact .inl ⟨by simp, by simp⟩
  by_cases k1 : k = n
  · subst k1; exact .inr (.inl ⟨by grind, by grind⟩)
  refine .inr (.inr ⟨by unfold areaP; grind, ?_⟩)
  have e : dotP (bx + vx * k) (by' + vy * k) bx by' (bx + n * vx) (by' + n * vy) = -((k * (n - k)) * (vx * vx + vy * vy)) := by unfold dotP; grind
  have p1 : 0 < k * (n - k) := Int.mul_pos (by omega) (by omega)
  have p2 : 0 < vx * vx + vy * vy := by
    have s1 := sq_nn vx
    have s2 := sq_nn vy
    rcases hv with h | h
    · have : vx * vx ≠ 0 := by simp [h]
      omega
    · have : vy * vy ≠ 0 := by simp [h]
      omega
  have := Int.mul_pos p1 p2
  omega
/-- The foot is not farther than such a point. -/
theorem near_cmp {ax ay bx by' vx vy n k : Int} (h1 : InG ax) (h2 : InG ay) (h3 : InG bx) (h4 : InG by') (h5 : InG (bx + n * vx)) (h6 : InG (by' + n * vy)) (hn : 1 ≤ n) (hv : vx ≠ 0 ∨ vy ≠ 0) (hk : 0 ≤ k) (hkn : k ≤ n) :
    (footI ax ay bx by' (bx + n * vx) (by' + n * vy)).2.2.2 = 0 ∧
    (compareI (footI ax ay bx by' (bx + n * vx) (by' + n * vy)).2.1 (footI ax ay bx by' (bx + n * vx) (by' + n * vy)).2.2.1 (distP ax ay (bx + vx * k) (by' + vy * k)) 1).2 = 0 ∧
    (compareI (footI ax ay bx by' (bx + n * vx) (by' + n * vy)).2.1 (footI ax ay bx by' (bx + n * vx) (by' + n * vy)).2.2.1 (distP ax ay (bx + vx * k) (by' + vy * k)) 1).1 ≤ 0 := by
  obtain ⟨hx, hy, _⟩ := near_in h3 h4 h5 h6 hn hv hk hkn
  have dD := distP_bd h1 h2 hx hy
  have d1 := distP_bd h3 h4 h5 h6
  have d2 := distP_bd h1 h2 h3 h4
  have d3 := distP_bd h1 h2 h5 h6
  have aq := area_sq h1 h2 h3 h4 h5 h6
  rw [foot_in h1 h2 h3 h4 h5 h6]
  unfold rfootO
  have sv : 0 ≤ vx * vx + vy * vy := by have := sq_nn vx; have := sq_nn vy; omega
  split
  · rename_i c
    refine ⟨rfl, low_cmp (by omega) (by omega) (by omega) (by omega) (by omega) (by omega) ?_⟩
    have e1 : n * (vx * (ax - bx) + vy * (ay - by')) = alP ax ay bx by' (bx + n * vx) (by' + n * vy) := by unfold alP; grind
    have e2 : vx * (ax - bx) + vy * (ay - by') ≤ 0 := by
      rcases Int.lt_or_le 0 (vx * (ax - bx) + vy * (ay - by')) with h | h
      · have := Int.mul_pos (by omega : 0 < n) h
        omega
      · exact h
    have e3 : distP ax ay (bx + vx * k) (by' + vy * k) = distP ax ay bx by' + 2 * (k * -(vx * (ax - bx) + vy * (ay - by'))) + k * k * (vx * vx + vy * vy) := by unfold distP; grind
    have m1 := Int.mul_nonneg hk (by omega : 0 ≤ -(vx * (ax - bx) + vy * (ay - by')))
    have m2 := Int.mul_nonneg (sq_nn k) sv
    omega
  · split
    · rename_i _ c
      refine ⟨rfl, low_cmp (by omega) (by omega) (by omega) (by omega) (by omega) (by omega) ?_⟩
      have e1 : n * (vx * (ax - (bx + n * vx)) + vy * (ay - (by' + n * vy))) = alP ax ay bx by' (bx + n * vx) (by' + n * vy) - distP bx by' (bx + n * vx) (by' + n * vy) := by unfold alP distP; grind
      have e2 : 0 ≤ vx * (ax - (bx + n * vx)) + vy * (ay - (by' + n * vy)) := by
        rcases Int.lt_or_le (vx * (ax - (bx + n * vx)) + vy * (ay - (by' + n * vy))) 0 with h | h
        · have := Int.mul_neg_of_pos_of_neg (by omega : 0 < n) h
          omega
        · exact h
      have e3 : distP ax ay (bx + vx * k) (by' + vy * k) = distP ax ay (bx + n * vx) (by' + n * vy) + 2 * ((n - k) * (vx * (ax - (bx + n * vx)) + vy * (ay - (by' + n * vy)))) + (n - k) * (n - k) * (vx * vx + vy * vy) := by unfold distP; grind
      have m1 := Int.mul_nonneg (by omega : 0 ≤ n - k) e2
      have m2 := Int.mul_nonneg (sq_nn (n - k)) sv
      omega
    · rename_i c1 c2
      have dp : 1 ≤ distP bx by' (bx + n * vx) (by' + n * vy) := by omega
      refine ⟨rfl, low_cmp (by omega) dp (by omega) (by omega) (by omega) (by omega) ?_⟩
      have l := lagrange (n * vx) (n * vy) (ax - (bx + vx * k)) (ay - (by' + vy * k))
      have e1 : n * vx * (ay - (by' + vy * k)) - n * vy * (ax - (bx + vx * k)) = areaP bx by' (bx + n * vx) (by' + n * vy) ax ay := by unfold areaP; grind
      have e2 : (n * vx * (n * vx) + n * vy * (n * vy)) * ((ax - (bx + vx * k)) * (ax - (bx + vx * k)) + (ay - (by' + vy * k)) * (ay - (by' + vy * k))) = distP ax ay (bx + vx * k) (by' + vy * k) * distP bx by' (bx + n * vx) (by' + n * vy) := by unfold distP; grind
      rw [e1, e2] at l
      exact l
theorem foot_ok {px py ax ay bx by' : Int} (h1 : InG px) (h2 : InG py) (h3 : InG ax) (h4 : InG ay) (h5 : InG bx) (h6 : InG by') : (footI px py ax ay bx by').2.2.2 = 0 := by
  rw [foot_in h1 h2 h3 h4 h5 h6]; unfold rfootO; split
  · rfl
  · split <;> rfl
theorem low_one {n : Int} (h : 0 ≤ n) : lowI n 1 = (n, 1, 0) := by
  have g : gcdI n 1 = 1 := by unfold gcdI; simp
  unfold lowI; rw [g]; simp
theorem foot_same {ax ay bx by' : Int} (h1 : InG ax) (h2 : InG ay) (h3 : InG bx) (h4 : InG by') : footI ax ay bx by' bx by' = ((0, 1, 0), (distI ax ay bx by', 1, 0)) := by
  rw [foot_in h1 h2 h3 h4 h3 h4, dist_in h1 h2 h3 h4]
  have d := distP_bd h1 h2 h3 h4
  have e : alP ax ay bx by' bx by' = 0 := by unfold alP; grind
  unfold rfootO
  rw [e, if_pos (by omega), low_one (by omega), low_one (by omega)]
theorem low_bd {num den : Int} (h1 : 0 ≤ num) (h2 : 0 ≤ den) : (0 ≤ (lowI num den).1 ∧ (lowI num den).1 ≤ num) ∧ (0 ≤ (lowI num den).2.1 ∧ (lowI num den).2.1 ≤ den) := by
  have hg : 0 ≤ gcdI num den := by unfold gcdI; omega
  exact ⟨⟨Int.ediv_nonneg h1 hg, Int.ediv_le_self _ h1⟩, ⟨Int.ediv_nonneg h2 hg, Int.ediv_le_self _ h2⟩⟩
theorem foot_bd {px py ax ay bx by' : Int} (h1 : InG px) (h2 : InG py) (h3 : InG ax) (h4 : InG ay) (h5 : InG bx) (h6 : InG by') :
    (0 ≤ (footI px py ax ay bx by').1.1 ∧ (footI px py ax ay bx by').1.1 ≤ 2147352578) ∧ (0 ≤ (footI px py ax ay bx by').1.2.1 ∧ (footI px py ax ay bx by').1.2.1 ≤ 2147352578) ∧
    (0 ≤ (footI px py ax ay bx by').2.1 ∧ (footI px py ax ay bx by').2.1 ≤ 4611123094243246084) ∧ (0 ≤ (footI px py ax ay bx by').2.2.1 ∧ (footI px py ax ay bx by').2.2.1 ≤ 2147352578) := by
  have d1 := distP_bd h3 h4 h5 h6
  have d2 := distP_bd h1 h2 h3 h4
  have d3 := distP_bd h1 h2 h5 h6
  have aq := area_sq h1 h2 h3 h4 h5 h6
  rw [foot_in h1 h2 h3 h4 h5 h6]
  unfold rfootO
  split
  · have l1 := low_bd (num := 0) (den := 1) (by omega) (by omega)
    have l2 := low_bd (num := distP px py ax ay) (den := 1) (by omega) (by omega)
    simp only
    omega
  · split
    · have l1 := low_bd (num := 1) (den := 1) (by omega) (by omega)
      have l2 := low_bd (num := distP px py bx by') (den := 1) (by omega) (by omega)
      simp only
      omega
    · have l1 := low_bd (num := alP px py ax ay bx by') (den := distP ax ay bx by') (by omega) (by omega)
      have l2 := low_bd (num := areaP ax ay bx by' px py * areaP ax ay bx by' px py) (den := distP ax ay bx by') (by omega) (by omega)
      simp only
      omega
theorem distI_in {ax ay bx by' : Int} (h1 : InG ax) (h2 : InG ay) (h3 : InG bx) (h4 : InG by') : 0 ≤ distI ax ay bx by' ∧ distI ax ay bx by' ≤ 2147352578 := by
  rw [dist_in h1 h2 h3 h4]; exact distP_bd h1 h2 h3 h4
theorem al_back (px py ax ay bx by' : Int) : alP px py bx by' ax ay = distP ax ay bx by' - alP px py ax ay bx by' := by unfold alP distP; grind
theorem dist_back (ax ay bx by' : Int) : distP bx by' ax ay = distP ax ay bx by' := by unfold distP; grind
theorem area_back (px py ax ay bx by' : Int) : areaP bx by' ax ay px py = -areaP ax ay bx by' px py := by unfold areaP; grind
theorem foot_lag (px py ax ay bx by' : Int) : alP px py ax ay bx by' * alP px py ax ay bx by' + areaP ax ay bx by' px py * areaP ax ay bx by' px py = distP ax ay bx by' * distP px py ax ay := by
  unfold alP areaP distP; grind
theorem foot_lag2 (px py ax ay bx by' : Int) : (distP ax ay bx by' - alP px py ax ay bx by') * (distP ax ay bx by' - alP px py ax ay bx by') + areaP ax ay bx by' px py * areaP ax ay bx by' px py = distP ax ay bx by' * distP px py bx by' := by
  unfold alP areaP distP; grind
theorem dot_al (px py ax ay bx by' : Int) : dotP px py ax ay bx by' = distP px py ax ay - alP px py ax ay bx by' := by unfold dotP distP alP; grind
/-- One fraction is at most another one, and both are valid. -/
def LeF (n1 d1 n2 d2 : Int) : Prop := (compareI n1 d1 n2 d2).2 = 0 ∧ (compareI n1 d1 n2 d2).1 ≤ 0
theorem LeF.of {n1 d1 n2 d2 : Int} (h1 : validI n1 d1 = true) (h2 : validI n2 d2 = true) (h : n1 * d2 ≤ n2 * d1) : LeF n1 d1 n2 d2 := by
  unfold LeF compareI
  rw [h1, h2]
  simp only [Bool.and_self, if_true, true_and]
  exact (cmp_le h1 h2).2 h
theorem low_rest {al all : Int} (h1 : 0 ≤ al) (h2 : al ≤ all) (h3 : 1 ≤ all) : (lowI (all - al) all).2.1 = (lowI al all).2.1 ∧ (lowI al all).1 + (lowI (all - al) all).1 = (lowI al all).2.1 := by
  obtain ⟨m, rfl⟩ := Int.eq_ofNat_of_zero_le h1
  obtain ⟨n, rfl⟩ := Int.eq_ofNat_of_zero_le (by omega : 0 ≤ all)
  have hmn : m ≤ n := by omega
  obtain ⟨k, rfl⟩ : ∃ k, n = m + k := ⟨n - m, by omega⟩
  have e0 : ((m + k : Nat) : Int) - (m : Int) = (k : Int) := by omega
  rw [e0]
  have e1 : gcdI (k : Int) ((m + k : Nat) : Int) = (Nat.gcd m k : Nat) := by
    unfold gcdI; simp only [Int.toNat_natCast]; rw [Nat.gcd_add_self_right, Nat.gcd_comm]
  have e2 : gcdI (m : Int) ((m + k : Nat) : Int) = (Nat.gcd m k : Nat) := by
    unfold gcdI; simp only [Int.toNat_natCast]; rw [Nat.add_comm, Nat.gcd_add_self_right]
  have hg : 0 < Nat.gcd m k := by
    rcases Nat.eq_zero_or_pos m with h | h
    · exact Nat.gcd_pos_of_pos_right _ (by omega)
    · exact Nat.gcd_pos_of_pos_left _ h
  obtain ⟨a, ha⟩ := Nat.gcd_dvd_left m k
  obtain ⟨b, hb⟩ := Nat.gcd_dvd_right m k
  unfold lowI
  rw [e1, e2]
  simp only [true_and]
  generalize Nat.gcd m k = g at *
  subst ha hb
  rw [← Nat.mul_add]
  have q (x : Nat) : ((g * x : Nat) : Int) / (g : Int) = (x : Int) := by rw [← Int.natCast_ediv, Nat.mul_div_cancel_left _ hg]
  rw [q, q, q]; omega
theorem ptEq_iff {a b c d : Int} : ptEq a b c d = true ↔ a = c ∧ b = d := by simp [ptEq]
/-- What the law of the feet asks of the feet from both sides. -/
structure FeetOK (px py ax ay bx by' : Int) (F G : Rat3 × Rat3) : Prop where
  ok : F.2.2.2 = 0
  ok2 : G.2.2.2 = 0
  same : ptEq F.2.1 F.2.2.1 G.2.1 G.2.2.1 = true
  lo : LeF 0 1 F.1.1 F.1.2.1
  hi : LeF F.1.1 F.1.2.1 1 1
  aw : LeF 0 1 F.2.1 F.2.2.1
  da : LeF F.2.1 F.2.2.1 (distI px py ax ay) 1
  db : LeF F.2.1 F.2.2.1 (distI px py bx by') 1
  atA : ptEq F.1.1 F.1.2.1 0 1 = true → ptEq F.2.1 F.2.2.1 (distI px py ax ay) 1 = true
  atB : ptEq F.1.1 F.1.2.1 1 1 = true → ptEq F.2.1 F.2.2.1 (distI px py bx by') 1 = true
  on : ptEq F.2.1 F.2.2.1 0 1 = betwI px py ax ay bx by'
  one : ptEq ax ay bx by' = true → ptEq F.1.1 F.1.2.1 0 1 = true ∧ ptEq G.1.1 G.1.2.1 0 1 = true
  two : ptEq ax ay bx by' = false → G.1.2.1 = F.1.2.1 ∧ F.1.1 + G.1.1 = F.1.2.1 ∧ validI F.1.1 F.1.2.1 = true ∧ validI G.1.1 G.1.2.1 = true ∧ 0 ≤ F.1.1 ∧ 0 ≤ G.1.1 ∧ 1 ≤ F.1.2.1 ∧ F.1.2.1 ≤ 2147352578
theorem sq_pos {x : Int} (h : x ≠ 0) : 0 < x * x := by
  rcases Int.lt_or_lt_of_ne h with h | h
  · exact Int.mul_pos_of_neg_of_neg h h
  · exact Int.mul_pos h h
theorem low_zero {D : Int} (h : validI 0 D = true) : D = 1 := by
  obtain ⟨p1, _, _, c⟩ := valid_parts h
  have c' : Nat.gcd (0 : Int).natAbs D.natAbs = 1 := c
  simp at c'
  omega
set_option maxHeartbeats 2000000 in
theorem feet_alg {al all ar da db : Int} {pa pb ab : Prop} {bt : Bool} (D1 : 0 ≤ all ∧ all ≤ 2147352578) (D2 : 0 ≤ da ∧ da ≤ 2147352578) (D3 : 0 ≤ db ∧ db ≤ 2147352578)
    (Q : 0 ≤ ar * ar ∧ ar * ar ≤ 4611123094243246084) (L1 : al * al + ar * ar = all * da) (L2 : (all - al) * (all - al) + ar * ar = all * db)
    (Z1 : all = 0 ↔ ab) (Z2 : da = 0 ↔ pa) (Z3 : db = 0 ↔ pb) (eqd : all = 0 → da = db) (B : bt = true ↔ pa ∨ pb ∨ (ar = 0 ∧ da - al < 0)) :
    (rfootO al all ar da db).2.2.2 = 0 ∧ (rfootO (all - al) all (-ar) db da).2.2.2 = 0 ∧
    ptEq (rfootO al all ar da db).2.1 (rfootO al all ar da db).2.2.1 (rfootO (all - al) all (-ar) db da).2.1 (rfootO (all - al) all (-ar) db da).2.2.1 = true ∧
    LeF 0 1 (rfootO al all ar da db).1.1 (rfootO al all ar da db).1.2.1 ∧ LeF (rfootO al all ar da db).1.1 (rfootO al all ar da db).1.2.1 1 1 ∧
    LeF 0 1 (rfootO al all ar da db).2.1 (rfootO al all ar da db).2.2.1 ∧ LeF (rfootO al all ar da db).2.1 (rfootO al all ar da db).2.2.1 da 1 ∧ LeF (rfootO al all ar da db).2.1 (rfootO al all ar da db).2.2.1 db 1 ∧
    (ptEq (rfootO al all ar da db).1.1 (rfootO al all ar da db).1.2.1 0 1 = true → ptEq (rfootO al all ar da db).2.1 (rfootO al all ar da db).2.2.1 da 1 = true) ∧
    (ptEq (rfootO al all ar da db).1.1 (rfootO al all ar da db).1.2.1 1 1 = true → ptEq (rfootO al all ar da db).2.1 (rfootO al all ar da db).2.2.1 db 1 = true) ∧
    ptEq (rfootO al all ar da db).2.1 (rfootO al all ar da db).2.2.1 0 1 = bt ∧
    (ab → ptEq (rfootO al all ar da db).1.1 (rfootO al all ar da db).1.2.1 0 1 = true ∧ ptEq (rfootO (all - al) all (-ar) db da).1.1 (rfootO (all - al) all (-ar) db da).1.2.1 0 1 = true) ∧
    (¬ ab → (rfootO (all - al) all (-ar) db da).1.2.1 = (rfootO al all ar da db).1.2.1 ∧ (rfootO al all ar da db).1.1 + (rfootO (all - al) all (-ar) db da).1.1 = (rfootO al all ar da db).1.2.1 ∧
      validI (rfootO al all ar da db).1.1 (rfootO al all ar da db).1.2.1 = true ∧ validI (rfootO (all - al) all (-ar) db da).1.1 (rfootO (all - al) all (-ar) db da).1.2.1 = true ∧
      0 ≤ (rfootO al all ar da db).1.1 ∧ 0 ≤ (rfootO (all - al) all (-ar) db da).1.1 ∧ 1 ≤ (rfootO al all ar da db).1.2.1 ∧ (rfootO al all ar da db).1.2.1 ≤ 2147352578) := by
  have v01 : validI 0 1 = true := by decide
  have v11 : validI 1 1 = true := by decide
  have l01 : lowI 0 1 = (0, 1, 0) := by decide
  have l11 : lowI 1 1 = (1, 1, 0) := by decide
  have vda : validI da 1 = true := valid_one D2.1 (by omega)
  have vdb : validI db 1 = true := valid_one D3.1 (by omega)
  have lda : lowI da 1 = (da, 1, 0) := low_one D2.1
  have ldb : lowI db 1 = (db, 1, 0) := low_one D3.1
  have hal : 0 ≤ al * al := sq_nn al
  have sqe : -ar * -ar = ar * ar := Int.neg_mul_neg _ _
  have L2' : 0 ≤ (all - al) * (all - al) := sq_nn _
  have za : all = 0 → al = 0 := fun h => by
    rw [h, Int.zero_mul] at L1
    rcases (by omega : al < 0 ∨ 0 < al ∨ al = 0) with h | h | h
    · have := Int.mul_pos_of_neg_of_neg h h; omega
    · have := Int.mul_pos h h; omega
    · exact h
  have zda : da = 0 → al = 0 := fun h => by
    rw [h, Int.mul_zero] at L1
    rcases (by omega : al < 0 ∨ 0 < al ∨ al = 0) with h | h | h
    · have := Int.mul_pos_of_neg_of_neg h h; omega
    · have := Int.mul_pos h h; omega
    · exact h
  have zdb : db = 0 → all = al := fun h => by
    rw [h, Int.mul_zero] at L2
    rcases (by omega : all - al < 0 ∨ 0 < all - al ∨ all - al = 0) with h | h | h
    · have := Int.mul_pos_of_neg_of_neg h h; omega
    · have := Int.mul_pos h h; omega
    · omega
  by_cases c1 : al ≤ 0
  · have hF : rfootO al all ar da db = ((0, 1, 0), (da, 1, 0)) := by unfold rfootO; rw [if_pos c1, l01, lda]
    have hon : ptEq da 1 0 1 = bt := by
      rw [Bool.eq_iff_iff, ptEq_iff, B, ← Z2, ← Z3]
      constructor
      · exact fun h => .inl h.1
      · rintro (h | h | ⟨_, h⟩)
        · exact ⟨h, rfl⟩
        · have := zdb h; have := eqd (by omega); exact ⟨by omega, rfl⟩
        · omega
    by_cases c0 : all = 0
    · have al0 := za c0
      have e := eqd c0
      have hG : rfootO (all - al) all (-ar) db da = ((0, 1, 0), (db, 1, 0)) := by unfold rfootO; rw [if_pos (by omega), l01, ldb]
      rw [hF, hG]
      dsimp only
      refine ⟨rfl, rfl, by simp [ptEq, e], .of v01 v01 (by omega), .of v01 v11 (by omega), .of v01 vda (by omega), .of vda vda (by omega), .of vda vdb (by omega), fun _ => by simp [ptEq], fun h => by simp [ptEq] at h, hon, fun _ => ⟨rfl, rfl⟩, fun h => absurd (Z1.1 c0) h⟩
    · have hG : rfootO (all - al) all (-ar) db da = ((1, 1, 0), (da, 1, 0)) := by unfold rfootO; rw [if_neg (by omega), if_pos (by omega), l11, lda]
      have hdb : da ≤ db := by
        rcases Int.lt_or_le db da with h | h
        · have h2 := Int.mul_lt_mul_of_pos_left h (by omega : 0 < all)
          have h3 : (all - al) * (all - al) = al * al + all * (all - 2 * al) := by grind
          have h4 := Int.mul_nonneg (by omega : 0 ≤ all) (by omega : 0 ≤ all - 2 * al)
          omega
        · exact h
      rw [hF, hG]
      dsimp only
      refine ⟨rfl, rfl, by simp [ptEq], .of v01 v01 (by omega), .of v01 v11 (by omega), .of v01 vda (by omega), .of vda vda (by omega), .of vda vdb (by omega), fun _ => by simp [ptEq], fun h => by simp [ptEq] at h, hon, fun h => absurd (Z1.2 h) c0, fun _ => ⟨rfl, rfl, v01, v11, by simp, by simp, by simp, by simp⟩⟩
  have call : all ≠ 0 := fun h => by have := za h; omega
  by_cases c2 : all ≤ al
  · have hF : rfootO al all ar da db = ((1, 1, 0), (db, 1, 0)) := by unfold rfootO; rw [if_neg c1, if_pos c2, l11, ldb]
    have hG : rfootO (all - al) all (-ar) db da = ((0, 1, 0), (db, 1, 0)) := by unfold rfootO; rw [if_pos (by omega), l01, ldb]
    have hon : ptEq db 1 0 1 = bt := by
      rw [Bool.eq_iff_iff, ptEq_iff, B, ← Z2, ← Z3]
      constructor
      · exact fun h => .inr (.inl h.1)
      · rintro (h | h | ⟨h0, h⟩)
        · have := zda h; omega
        · exact ⟨h, rfl⟩
        · exfalso
          rw [h0] at L1
          have m1 := Int.mul_le_mul_of_nonneg_right c2 D2.1
          have m2 := Int.mul_lt_mul_of_pos_left (by omega : da < al) (by omega : 0 < al)
          omega
    have hdb : db ≤ da := by
      rcases Int.lt_or_le da db with h | h
      · have h2 := Int.mul_lt_mul_of_pos_left h (by omega : 0 < all)
        have h3 : (all - al) * (all - al) = al * al + all * (all - 2 * al) := by grind
        have h4 := Int.mul_nonneg (by omega : 0 ≤ all) (by omega : 0 ≤ 2 * al - all)
        have h5 : all * (all - 2 * al) = -(all * (2 * al - all)) := by grind
        omega
      · exact h
    rw [hF, hG]
    dsimp only
    refine ⟨rfl, rfl, by simp [ptEq], .of v01 v11 (by omega), .of v11 v11 (by omega), .of v01 vdb (by omega), .of vdb vda (by omega), .of vdb vdb (by omega), fun h => by simp [ptEq] at h, fun _ => by simp [ptEq], hon, fun h => absurd (Z1.2 h) call, fun _ => ⟨rfl, rfl, v11, v01, by simp, by simp, by simp, by simp⟩⟩
  have hF : rfootO al all ar da db = (lowI al all, lowI (ar * ar) all) := by unfold rfootO; rw [if_neg c1, if_neg c2]
  have hG : rfootO (all - al) all (-ar) db da = (lowI (all - al) all, lowI (ar * ar) all) := by unfold rfootO; rw [if_neg (by omega), if_neg (by omega), sqe]
  obtain ⟨v1, g1, hg1, a1, a2, a3, a4⟩ := low_spec (num := al) (den := all) (by omega) (by omega) (by omega) (by omega)
  obtain ⟨v2, g2, hg2, b1, b2, b3, b4⟩ := low_spec (num := ar * ar) (den := all) Q.1 (by omega) (by omega) (by omega)
  obtain ⟨v3, g3, hg3, k1, k2, k3, k4⟩ := low_spec (num := all - al) (den := all) (by omega) (by omega) (by omega) (by omega)
  obtain ⟨r1, r2⟩ := low_rest (al := al) (all := all) (by omega) (by omega) (by omega)
  have bd := (low_bd (num := al) (den := all) (by omega) (by omega)).2.2
  rw [hF, hG]
  dsimp only
  have z1 : (lowI al all).2.2 = 0 := rfl
  have z2 : (lowI (ar * ar) all).2.2 = 0 := rfl
  generalize lowI al all = A at *
  generalize lowI (ar * ar) all = W at *
  generalize lowI (all - al) all = A' at *
  obtain ⟨n, d, _⟩ := A
  obtain ⟨N, D, _⟩ := W
  obtain ⟨n', d', _⟩ := A'
  simp only at *
  have m1 : n ≤ d := by
    rcases Int.lt_or_le d n with h | h
    · have := Int.mul_lt_mul_of_pos_right h (by omega : 0 < g1); omega
    · exact h
  have m2 (X : Int) (h : ar * ar ≤ all * X) : N ≤ X * D := by
    rcases Int.lt_or_le (X * D) N with k | k
    · have e1 := Int.mul_lt_mul_of_pos_right k (by omega : 0 < g2)
      have e2 : X * D * g2 = all * X := by rw [← b2]; grind
      omega
    · exact k
  have m3 := m2 da (by omega)
  have m4 := m2 db (by omega)
  have hon : ptEq N D 0 1 = bt := by
    rw [Bool.eq_iff_iff, ptEq_iff, B, ← Z2, ← Z3]
    constructor
    · rintro ⟨h, _⟩
      have h0 : ar * ar = 0 := by rw [← b1, h]; simp
      have h1 : ar = 0 := by
        rcases (by omega : ar < 0 ∨ 0 < ar ∨ ar = 0) with k | k | k
        · have := Int.mul_pos_of_neg_of_neg k k; omega
        · have := Int.mul_pos k k; omega
        · exact k
      refine .inr (.inr ⟨h1, ?_⟩)
      rcases Int.lt_or_le da al with k | k
      · omega
      · have := Int.mul_le_mul_of_nonneg_left k D1.1
        have := Int.mul_lt_mul_of_pos_right (by omega : al < all) (by omega : 0 < al)
        omega
    · rintro (h | h | ⟨h0, h⟩)
      · have := zda h; omega
      · have := zdb h; omega
      · subst h0
        have hN : N = 0 := by
          rcases (by omega : N ≤ 0 ∨ 1 ≤ N) with k | k
          · omega
          · have := Int.mul_pos (by omega : 0 < N) (by omega : 0 < g2); omega
        subst hN
        exact ⟨rfl, low_zero v2⟩
  refine ⟨z2, z2, by simp [ptEq], .of v01 v1 (by omega), .of v1 v11 (by omega), .of v01 v2 (by omega), .of v2 vda (by omega), .of v2 vdb (by omega), fun h => ?_, fun h => ?_, hon, fun h => absurd (Z1.2 h) call, fun _ => ⟨r1, r2, v1, v3, a3, k3, a4, by omega⟩⟩
  · obtain ⟨h1, h2⟩ := ptEq_iff.1 h; subst h1; omega
  · obtain ⟨h1, h2⟩ := ptEq_iff.1 h; subst h1 h2; omega
theorem feet_all {px py ax ay bx by' : Int} (h1 : InG px) (h2 : InG py) (h3 : InG ax) (h4 : InG ay) (h5 : InG bx) (h6 : InG by') :
    FeetOK px py ax ay bx by' (footI px py ax ay bx by') (footI px py bx by' ax ay) := by
  have B := betw_in h1 h2 h3 h4 h5 h6
  rw [dot_al] at B
  have eqd : distP ax ay bx by' = 0 → distP px py ax ay = distP px py bx by' := fun h => by obtain ⟨rfl, rfl⟩ := (distP_zero _ _ _ _).1 h; rfl
  obtain ⟨q1, q2, q3, q4, q5, q6, q7, q8, q9, q10, q11, q12, q13⟩ := feet_alg (distP_bd h3 h4 h5 h6) (distP_bd h1 h2 h3 h4) (distP_bd h1 h2 h5 h6) (area_sq h1 h2 h3 h4 h5 h6) (foot_lag px py ax ay bx by') (foot_lag2 px py ax ay bx by')
    (distP_zero ax ay bx by') (distP_zero px py ax ay) (distP_zero px py bx by') eqd B
  rw [foot_in h1 h2 h3 h4 h5 h6, foot_in h1 h2 h5 h6 h3 h4, al_back px py ax ay bx by', dist_back ax ay bx by', area_back px py ax ay bx by']
  refine ⟨q1, q2, q3, q4, q5, q6, ?_, ?_, ?_, ?_, q11, fun h => q12 (ptEq_iff.1 h), fun h => q13 fun k => by rw [ptEq_iff.2 k] at h; cases h⟩
  · rw [dist_in h1 h2 h3 h4]; exact q7
  · rw [dist_in h1 h2 h5 h6]; exact q8
  · rw [dist_in h1 h2 h3 h4]; exact q9
  · rw [dist_in h1 h2 h5 h6]; exact q10

end G
end Go.Proofs.Ytjeapimjgojpoaa
