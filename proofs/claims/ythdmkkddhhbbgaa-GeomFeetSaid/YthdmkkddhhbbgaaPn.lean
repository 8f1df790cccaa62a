/- Geom: the plain law on the nearest place. -/
import Derived.Test.YthdmkkddhhbbgaaRt
import Derived.Test.YthdmkkddhhbbgaaFk
set_option linter.unusedSimpArgs false
set_option linter.unusedVariables false
set_option maxRecDepth 100000
namespace Go.Proofs.Ythdmkkddhhbbgaa
open Go.RowKit
namespace G

def alP (px py ax ay bx by' : Int) : Int := (bx - ax) * (px - ax) + (by' - ay) * (py - ay)
theorem foot_in {px py ax ay bx by' : Int} (h1 : InG px) (h2 : InG py) (h3 : InG ax) (h4 : InG ay) (h5 : InG bx) (h6 : InG by') :
    footI px py ax ay bx by' = rfootO (alP px py ax ay bx by') (distP ax ay bx by') (areaP ax ay bx by' px py) (distP px py ax ay) (distP px py bx by') := by
  rw [(rfoot_eq h1 h2 h3 h4 h5 h6).1, dist_in h3 h4 h5 h6, dist_in h1 h2 h3 h4, dist_in h1 h2 h5 h6]
  have e1 : areaW ax ay bx by' px py = areaP ax ay bx by' px py := areaW_in h3 h4 h5 h6 h1 h2
  have e2 : alongI (wrap64 (px - ax)) (wrap64 (py - ay)) (wrap64 (bx - ax)) (wrap64 (by' - ay)) = alP px py ax ay bx by' := by
    unfold InG at *
    rw [wsub px ax h1 h3, wsub py ay h2 h4, wsub bx ax h5 h3, wsub by' ay h6 h4, alongI_in (by omega) (by omega) (by omega) (by omega)]
    unfold alP; grind
  rw [e1, e2]
theorem area_sq {ax ay bx by' px py : Int} (h1 : InG px) (h2 : InG py) (h3 : InG ax) (h4 : InG ay) (h5 : InG bx) (h6 : InG by') :
    0 ≤ areaP ax ay bx by' px py * areaP ax ay bx by' px py ∧ areaP ax ay bx by' px py * areaP ax ay bx by' px py ≤ 4611123094243246084 := by
  obtain ⟨_, _, _, _, _, a2, a3⟩ := rfoot_eq h1 h2 h3 h4 h5 h6
  have e1 : areaW ax ay bx by' px py = areaP ax ay bx by' px py := areaW_in h3 h4 h5 h6 h1 h2
  rw [e1] at a2 a3
  exact ⟨a2, a3⟩

theorem low_spec {num den : Int} (h1 : 0 ≤ num) (h2 : 1 ≤ den) (h3 : num ≤ 4611686018427387904) (h4 : den ≤ 4611686018427387904) :
    validI (lowI num den).1 (lowI num den).2.1 = true ∧ ∃ g, 1 ≤ g ∧ (lowI num den).1 * g = num ∧ (lowI num den).2.1 * g = den ∧ 0 ≤ (lowI num den).1 ∧ 1 ≤ (lowI num den).2.1 := by
  obtain ⟨m, rfl⟩ := Int.eq_ofNat_of_zero_le h1
  obtain ⟨n, rfl⟩ := Int.eq_ofNat_of_zero_le (by omega : 0 ≤ den)
  have hn : 0 < n := by omega
  have hg : 0 < Nat.gcd m n := Nat.gcd_pos_of_pos_right _ hn
  have e : lowI (m : Int) (n : Int) = (((m / Nat.gcd m n : Nat) : Int), ((n / Nat.gcd m n : Nat) : Int), 0) := by
    unfold lowI gcdI; simp
  rw [e]
  have d1 : m / Nat.gcd m n * Nat.gcd m n = m := Nat.div_mul_cancel (Nat.gcd_dvd_left _ _)
  have d2 : n / Nat.gcd m n * Nat.gcd m n = n := Nat.div_mul_cancel (Nat.gcd_dvd_right _ _)
  have q1 : m / Nat.gcd m n ≤ m := Nat.div_le_self _ _
  have q2 : n / Nat.gcd m n ≤ n := Nat.div_le_self _ _
  have q3 : 1 ≤ n / Nat.gcd m n := by
    rcases Nat.eq_zero_or_pos (n / Nat.gcd m n) with h | h
    · rw [h] at d2; omega
    · exact h
  refine ⟨?_, Nat.gcd m n, by omega, by rw [← Int.natCast_mul, d1], by rw [← Int.natCast_mul, d2], Int.natCast_nonneg _, Int.ofNat_le.2 q3⟩
  have c : Nat.gcd (m / Nat.gcd m n) (n / Nat.gcd m n) = 1 := Nat.coprime_div_gcd_div_gcd hg
  simp only
  generalize m / Nat.gcd m n = a at *
  generalize n / Nat.gcd m n = b at *
  have a1 : absI (a : Int) = a := by have := absI_spec (a : Int); omega
  have a2 : absI (b : Int) = b := by have := absI_spec (b : Int); omega
  unfold validI
  rw [a1, a2]
  unfold gcdI
  simp [c]
  omega

theorem valid_one {n : Int} (h1 : 0 ≤ n) (h2 : n ≤ 4611686018427387904) : validI n 1 = true := by
  have a1 : absI n = n := by have := absI_spec n; omega
  unfold validI gcdI
  rw [a1]
  simp [absI]
  omega

theorem cmp_le {n1 d1 n2 d2 : Int} (h1 : validI n1 d1 = true) (h2 : validI n2 d2 = true) : cmpI n1 d1 n2 d2 ≤ 0 ↔ n1 * d2 ≤ n2 * d1 := by
  unfold cmpI
  cases h : ptEq n1 d1 n2 d2
  · have hx : n1 * d2 ≠ n2 * d1 := fun e => by
      obtain ⟨rfl, rfl⟩ := cross_eq h1 h2 e
      simp [ptEq] at h
    simp only [Bool.false_eq_true, if_false]
    split <;> omega
  · simp only [ptEq, Bool.and_eq_true, decide_eq_true_eq] at h
    obtain ⟨rfl, rfl⟩ := h
    simp

/-- A low fraction against a whole number. -/
theorem low_cmp {num den D : Int} (h1 : 0 ≤ num) (h2 : 1 ≤ den) (h3 : num ≤ 4611686018427387904) (h4 : den ≤ 4611686018427387904) (h5 : 0 ≤ D) (h6 : D ≤ 4611686018427387904) (h : num ≤ D * den) :
    (compareI (lowI num den).1 (lowI num den).2.1 D 1).2 = 0 ∧ (compareI (lowI num den).1 (lowI num den).2.1 D 1).1 ≤ 0 := by
  obtain ⟨v, g, hg, e1, e2, p1, p2⟩ := low_spec h1 h2 h3 h4
  have v1 := valid_one h5 h6
  unfold compareI
  rw [v, v1]
  simp only [Bool.and_self, if_true, true_and]
  rw [cmp_le v v1]
  generalize (lowI num den).1 = n at *
  generalize (lowI num den).2.1 = d at *
  rcases Int.lt_or_le (D * d) (n * 1) with k | k
  · have := Int.mul_lt_mul_of_pos_right k (by omega : 0 < g)
    have e3 : D * d * g = D * den := by rw [← e2]; grind
    have e4 : n * 1 * g = num := by rw [← e1]; grind
    omega
  · exact k

theorem lagrange (ux uy vx vy : Int) : (ux * vy - uy * vx) * (ux * vy - uy * vx) ≤ (ux * ux + uy * uy) * (vx * vx + vy * vy) := by
  have h := sq_nn (ux * vx + uy * vy)
  have e : (ux * ux + uy * uy) * (vx * vx + vy * vy) = (ux * vy - uy * vx) * (ux * vy - uy * vx) + (ux * vx + uy * vy) * (ux * vx + uy * vy) := by grind
  omega

/-- A point between two others: the numbers. -/
theorem between_bd {b v n k : Int} (hb : InG b) (hc : InG (b + n * v)) (hk : 0 ≤ k) (hkn : k ≤ n) : InG (b + v * k) := by
  unfold InG at *
  rcases Int.lt_or_le v 0 with h | h
  · have h1 := Int.mul_nonneg (a := -v) (b := k) (by omega) hk
    have h2 := Int.mul_nonneg (a := -v) (b := n - k) (by omega) (by omega)
    have e1 : -v * k = -(v * k) := by grind
    have e2 : -v * (n - k) = -(n * v) + v * k := by grind
    omega
  · have h1 := Int.mul_nonneg (a := v) (b := k) (by omega) hk
    have h2 := Int.mul_nonneg (a := v) (b := n - k) (by omega) (by omega)
    have e2 : v * (n - k) = n * v - v * k := by grind
    omega

theorem near_in {bx by' vx vy n k : Int} (h3 : InG bx) (h4 : InG by') (h5 : InG (bx + n * vx)) (h6 : InG (by' + n * vy)) (hn : 1 ≤ n) (hv : vx ≠ 0 ∨ vy ≠ 0) (hk : 0 ≤ k) (hkn : k ≤ n) :
    InG (bx + vx * k) ∧ InG (by' + vy * k) ∧ betwI (bx + vx * k) (by' + vy * k) bx by' (bx + n * vx) (by' + n * vy) = true := by
  have hx := between_bd h3 h5 hk hkn
  have hy := between_bd h4 h6 hk hkn
  refine ⟨hx, hy, ?_⟩
  rw [betw_in hx hy h3 h4 h5 h6]
  by_cases k0 : k = 0
  · subst k0; exact .inl ⟨by simp, by simp⟩
  by_cases k1 : k = n
  · subst k1; exact .inr (.inl ⟨by grind, by grind⟩)
  refine .inr (.inr ⟨by unfold areaP; grind, ?_⟩)
  have e : dotP (bx + vx * k) (by' + vy * k) bx by' (bx + n * vx) (by' + n * vy) = -((k * (n - k)) * (vx * vx + vy * vy)) := by unfold dotP; grind
  have p1 : 0 < k * (n - k) := Int.mul_pos (by omega) (by omega)
  have p2 : 0 < vx * vx + vy * vy := by
    have s1 := sq_nn vx
    have s2 := sq_nn vy
    rcases hv with h | h
    · have : vx * vx ≠ 0 := by simp [h]
      omega
    · have : vy * vy ≠ 0 := by simp [h]
      omega
  have := Int.mul_pos p1 p2
  omega

/-- The foot is not farther than such a point. -/
theorem near_cmp {ax ay bx by' vx vy n k : Int} (h1 : InG ax) (h2 : InG ay) (h3 : InG bx) (h4 : InG by') (h5 : InG (bx + n * vx)) (h6 : InG (by' + n * vy)) (hn : 1 ≤ n) (hv : vx ≠ 0 ∨ vy ≠ 0) (hk : 0 ≤ k) (hkn : k ≤ n) :
    (footI ax ay bx by' (bx + n * vx) (by' + n * vy)).2.2.2 = 0 ∧
    (compareI (footI ax ay bx by' (bx + n * vx) (by' + n * vy)).2.1 (footI ax ay bx by' (bx + n * vx) (by' + n * vy)).2.2.1 (distP ax ay (bx + vx * k) (by' + vy * k)) 1).2 = 0 ∧
    (compareI (footI ax ay bx by' (bx + n * vx) (by' + n * vy)).2.1 (footI ax ay bx by' (bx + n * vx) (by' + n * vy)).2.2.1 (distP ax ay (bx + vx * k) (by' + vy * k)) 1).1 ≤ 0 := by
  obtain ⟨hx, hy, _⟩ := near_in h3 h4 h5 h6 hn hv hk hkn
  have dD := distP_bd h1 h2 hx hy
  have d1 := distP_bd h3 h4 h5 h6
  have d2 := distP_bd h1 h2 h3 h4
  have d3 := distP_bd h1 h2 h5 h6
  have aq := area_sq h1 h2 h3 h4 h5 h6
  rw [foot_in h1 h2 h3 h4 h5 h6]
  unfold rfootO
  have sv : 0 ≤ vx * vx + vy * vy := by have := sq_nn vx; have := sq_nn vy; omega
  split
  · rename_i c
    refine ⟨rfl, low_cmp (by omega) (by omega) (by omega) (by omega) (by omega) (by omega) ?_⟩
    have e1 : n * (vx * (ax - bx) + vy * (ay - by')) = alP ax ay bx by' (bx + n * vx) (by' + n * vy) := by unfold alP; grind
    have e2 : vx * (ax - bx) + vy * (ay - by') ≤ 0 := by
      rcases Int.lt_or_le 0 (vx * (ax - bx) + vy * (ay - by')) with h | h
      · have := Int.mul_pos (by omega : 0 < n) h
        omega
      · exact h
    have e3 : distP ax ay (bx + vx * k) (by' + vy * k) = distP ax ay bx by' + 2 * (k * -(vx * (ax - bx) + vy * (ay - by'))) + k * k * (vx * vx + vy * vy) := by unfold distP; grind
    have m1 := Int.mul_nonneg hk (by omega : 0 ≤ -(vx * (ax - bx) + vy * (ay - by')))
    have m2 := Int.mul_nonneg (sq_nn k) sv
    omega
  · split
    · rename_i _ c
      refine ⟨rfl, low_cmp (by omega) (by omega) (by omega) (by omega) (by omega) (by omega) ?_⟩
      have e1 : n * (vx * (ax - (bx + n * vx)) + vy * (ay - (by' + n * vy))) = alP ax ay bx by' (bx + n * vx) (by' + n * vy) - distP bx by' (bx + n * vx) (by' + n * vy) := by unfold alP distP; grind
      have e2 : 0 ≤ vx * (ax - (bx + n * vx)) + vy * (ay - (by' + n * vy)) := by
        rcases Int.lt_or_le (vx * (ax - (bx + n * vx)) + vy * (ay - (by' + n * vy))) 0 with h | h
        · have := Int.mul_neg_of_pos_of_neg (by omega : 0 < n) h
          omega
        · exact h
      have e3 : distP ax ay (bx + vx * k) (by' + vy * k) = distP ax ay (bx + n * vx) (by' + n * vy) + 2 * ((n - k) * (vx * (ax - (bx + n * vx)) + vy * (ay - (by' + n * vy)))) + (n - k) * (n - k) * (vx * vx + vy * vy) := by unfold distP; grind
      have m1 := Int.mul_nonneg (by omega : 0 ≤ n - k) e2
      have m2 := Int.mul_nonneg (sq_nn (n - k)) sv
      omega
    · rename_i c1 c2
      have dp : 1 ≤ distP bx by' (bx + n * vx) (by' + n * vy) := by omega
      refine ⟨rfl, low_cmp (by omega) dp (by omega) (by omega) (by omega) (by omega) ?_⟩
      have l := lagrange (n * vx) (n * vy) (ax - (bx + vx * k)) (ay - (by' + vy * k))
      have e1 : n * vx * (ay - (by' + vy * k)) - n * vy * (ax - (bx + vx * k)) = areaP bx by' (bx + n * vx) (by' + n * vy) ax ay := by unfold areaP; grind
      have e2 : (n * vx * (n * vx) + n * vy * (n * vy)) * ((ax - (bx + vx * k)) * (ax - (bx + vx * k)) + (ay - (by' + vy * k)) * (ay - (by' + vy * k))) = distP ax ay (bx + vx * k) (by' + vy * k) * distP bx by' (bx + n * vx) (by' + n * vy) := by unfold distP; grind
      rw [e1, e2] at l
      exact l

theorem foot_ok {px py ax ay bx by' : Int} (h1 : InG px) (h2 : InG py) (h3 : InG ax) (h4 : InG ay) (h5 : InG bx) (h6 : InG by') : (footI px py ax ay bx by').2.2.2 = 0 := by
  rw [foot_in h1 h2 h3 h4 h5 h6]; unfold rfootO; split
  · rfl
  · split <;> rfl

theorem low_one {n : Int} (h : 0 ≤ n) : lowI n 1 = (n, 1, 0) := by
  have g : gcdI n 1 = 1 := by unfold gcdI; simp
  unfold lowI; rw [g]; simp
theorem foot_same {ax ay bx by' : Int} (h1 : InG ax) (h2 : InG ay) (h3 : InG bx) (h4 : InG by') : footI ax ay bx by' bx by' = ((0, 1, 0), (distI ax ay bx by', 1, 0)) := by
  rw [foot_in h1 h2 h3 h4 h3 h4, dist_in h1 h2 h3 h4]
  have d := distP_bd h1 h2 h3 h4
  have e : alP ax ay bx by' bx by' = 0 := by unfold alP; grind
  unfold rfootO
  rw [e, if_pos (by omega), low_one (by omega), low_one (by omega)]
/-- What the law of the nearest place asks. -/
theorem near_all {ax ay bx by' cx cy raw : Int} {M N m : Nat} (h1 : InG ax) (h2 : InG ay) (h3 : InG bx) (h4 : InG by') (h5 : InG cx) (h6 : InG cy)
    (hM : M = (cx - bx).natAbs) (hN : N = (cy - by').natAbs) (hg : Nat.gcd m 0 = Nat.gcd M N) (hm : m ≠ 0) (hr : 0 ≤ raw) :
    ∃ VX VY K PX PY X Y : Int, IntKind.i64.wrap ((cx - bx).tdiv m) = VX ∧ IntKind.i64.wrap ((cy - by').tdiv m) = VY ∧ raw % ((m : Int) + 1) = K ∧ IntKind.i64.wrap (VX * K) = PX ∧ IntKind.i64.wrap (VY * K) = PY ∧
      IntKind.i64.wrap (bx + PX) = X ∧ IntKind.i64.wrap (by' + PY) = Y ∧ (0 ≤ K ∧ K ≤ 32767) ∧ InG X ∧ InG Y ∧ betwI X Y bx by' cx cy = true ∧
      (compareI (footI ax ay bx by' cx cy).2.1 (footI ax ay bx by' cx cy).2.2.1 (distI ax ay X Y) 1).2 = 0 ∧ (compareI (footI ax ay bx by' cx cy).2.1 (footI ax ay bx by' cx cy).2.2.1 (distI ax ay X Y) 1).1 ≤ 0 := by
  rw [Nat.gcd_zero_right] at hg
  have dx : (m : Int) ∣ cx - bx := Int.ofNat_dvd_left.2 (by rw [← hM, hg]; exact Nat.gcd_dvd_left _ _)
  have dy : (m : Int) ∣ cy - by' := Int.ofNat_dvd_left.2 (by rw [← hN, hg]; exact Nat.gcd_dvd_right _ _)
  obtain ⟨vx, ex⟩ := dx
  obtain ⟨vy, ey⟩ := dy
  have m0 : (1 : Int) ≤ m := by omega
  have qx : (cx - bx).tdiv m = vx := by rw [ex, Int.mul_comm, Int.mul_tdiv_cancel _ (by omega)]
  have qy : (cy - by').tdiv m = vy := by rw [ey, Int.mul_comm, Int.mul_tdiv_cancel _ (by omega)]
  obtain rfl : cx = bx + m * vx := by omega
  obtain rfl : cy = by' + m * vy := by omega
  have hv : vx ≠ 0 ∨ vy ≠ 0 := by
    rcases Decidable.em (vx = 0) with e1 | e1
    · rcases Decidable.em (vy = 0) with e2 | e2
      · subst e1; subst e2; simp at hM hN; subst hM; subst hN; simp at hg; omega
      · exact .inr e2
    · exact .inl e1
  have hk0 : 0 ≤ raw % ((m : Int) + 1) := Int.emod_nonneg _ (by omega)
  have hk1 : raw % ((m : Int) + 1) < (m : Int) + 1 := Int.emod_lt_of_pos _ (by omega)
  generalize raw % ((m : Int) + 1) = K at *
  obtain ⟨hx, hy, hb⟩ := near_in h3 h4 h5 h6 m0 hv hk0 (by omega)
  have hc := near_cmp h1 h2 h3 h4 h5 h6 m0 hv hk0 (by omega)
  rw [← dist_in h1 h2 hx hy] at hc
  have bm : (m : Int) ≤ 32767 := by
    have : M ≤ 32767 ∧ N ≤ 32767 := by unfold InG at *; omega
    have : Nat.gcd M N ≤ 32767 := by
      rcases Nat.eq_zero_or_pos M with e | e
      · subst e; rw [Nat.gcd_zero_left]; omega
      · exact Nat.le_trans (Nat.gcd_le_left _ e) (by omega)
    omega
  have w1 : ∀ z : Int, -9223372036854775808 ≤ z ∧ z ≤ 9223372036854775807 → IntKind.i64.wrap z = z := fun z hz => by rw [IntWalk.i64_left]; exact IntWalk.wrap64_in _ hz
  unfold InG at h3 h4 h5 h6 hx hy
  have bvx : -32767 ≤ vx ∧ vx ≤ 32767 := by
    constructor
    · rcases Int.lt_or_le vx (-32767) with h | h
      · have := Int.mul_le_mul_of_nonneg_left (show vx ≤ -32768 by omega) (show (0 : Int) ≤ m by omega)
        omega
      · exact h
    · rcases Int.lt_or_le 32767 vx with h | h
      · have := Int.mul_le_mul_of_nonneg_left (show 32768 ≤ vx by omega) (show (0 : Int) ≤ m by omega)
        omega
      · exact h
  have bvy : -32767 ≤ vy ∧ vy ≤ 32767 := by
    constructor
    · rcases Int.lt_or_le vy (-32767) with h | h
      · have := Int.mul_le_mul_of_nonneg_left (show vy ≤ -32768 by omega) (show (0 : Int) ≤ m by omega)
        omega
      · exact h
    · rcases Int.lt_or_le 32767 vy with h | h
      · have := Int.mul_le_mul_of_nonneg_left (show 32768 ≤ vy by omega) (show (0 : Int) ≤ m by omega)
        omega
      · exact h
  refine ⟨vx, vy, K, vx * K, vy * K, bx + vx * K, by' + vy * K, by rw [qx, w1 _ (by omega)], by rw [qy, w1 _ (by omega)], rfl, w1 _ (by omega), w1 _ (by omega), w1 _ (by omega), w1 _ (by omega), by omega, hx, hy, hb, hc.2.1, hc.2.2⟩

theorem low_bd {num den : Int} (h1 : 0 ≤ num) (h2 : 0 ≤ den) : (0 ≤ (lowI num den).1 ∧ (lowI num den).1 ≤ num) ∧ (0 ≤ (lowI num den).2.1 ∧ (lowI num den).2.1 ≤ den) := by
  have hg : 0 ≤ gcdI num den := by unfold gcdI; omega
  exact ⟨⟨Int.ediv_nonneg h1 hg, Int.ediv_le_self _ h1⟩, ⟨Int.ediv_nonneg h2 hg, Int.ediv_le_self _ h2⟩⟩
theorem foot_bd {px py ax ay bx by' : Int} (h1 : InG px) (h2 : InG py) (h3 : InG ax) (h4 : InG ay) (h5 : InG bx) (h6 : InG by') :
    (0 ≤ (footI px py ax ay bx by').1.1 ∧ (footI px py ax ay bx by').1.1 ≤ 2147352578) ∧ (0 ≤ (footI px py ax ay bx by').1.2.1 ∧ (footI px py ax ay bx by').1.2.1 ≤ 2147352578) ∧
    (0 ≤ (footI px py ax ay bx by').2.1 ∧ (footI px py ax ay bx by').2.1 ≤ 4611123094243246084) ∧ (0 ≤ (footI px py ax ay bx by').2.2.1 ∧ (footI px py ax ay bx by').2.2.1 ≤ 2147352578) := by
  have d1 := distP_bd h3 h4 h5 h6
  have d2 := distP_bd h1 h2 h3 h4
  have d3 := distP_bd h1 h2 h5 h6
  have aq := area_sq h1 h2 h3 h4 h5 h6
  rw [foot_in h1 h2 h3 h4 h5 h6]
  unfold rfootO
  split
  · have l1 := low_bd (num := 0) (den := 1) (by omega) (by omega)
    have l2 := low_bd (num := distP px py ax ay) (den := 1) (by omega) (by omega)
    simp only
    omega
  · split
    · have l1 := low_bd (num := 1) (den := 1) (by omega) (by omega)
      have l2 := low_bd (num := distP px py bx by') (den := 1) (by omega) (by omega)
      simp only
      omega
    · have l1 := low_bd (num := alP px py ax ay bx by') (den := distP ax ay bx by') (by omega) (by omega)
      have l2 := low_bd (num := areaP ax ay bx by' px py * areaP ax ay bx by' px py) (den := distP ax ay bx by') (by omega) (by omega)
      simp only
      omega
theorem distI_in {ax ay bx by' : Int} (h1 : InG ax) (h2 : InG ay) (h3 : InG bx) (h4 : InG by') : 0 ≤ distI ax ay bx by' ∧ distI ax ay bx by' ≤ 2147352578 := by
  rw [dist_in h1 h2 h3 h4]; exact distP_bd h1 h2 h3 h4

end G
end Go.Proofs.Ythdmkkddhhbbgaa
