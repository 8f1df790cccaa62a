/- Fractions: 'Compare'. -/
import Derived.Test.YtjeapimjgojpoaaFc
set_option linter.unusedSimpArgs false
set_option linter.unusedVariables false
set_option maxRecDepth 100000
namespace Go.Proofs.Ytjeapimjgojpoaa
open Go.RowKit
namespace G

theorem timesI_any (a b : Int) (w : World) (ha : 0 ≤ a) (ha' : a < 18446744073709551616) (hb : 0 ≤ b) (hb' : b < 18446744073709551616) :
    Calls Try.prog 40 #[.int .u64 a, .int .u64 b] w fun e w' => e = .returned (.agg #[.int .u64 (hiI (a.toNat * b.toNat)), .int .u64 (loI (a.toNat * b.toNat))]) ∧ Below w.heap.size w w' := by
  obtain ⟨m, rfl⟩ := Int.eq_ofNat_of_zero_le ha
  obtain ⟨n, rfl⟩ := Int.eq_ofNat_of_zero_le hb
  exact times_any m n w (by omega) (by omega)

/-- The order of two fractions in lowest terms. -/
def cmpI (n1 d1 n2 d2 : Int) : Int := if ptEq n1 d1 n2 d2 = true then 0 else if n1 * d2 < n2 * d1 then -1 else 1

theorem valid_parts {n d : Int} (h : validI n d = true) : 0 < d ∧ d ≤ 4611686018427387904 ∧ absI n ≤ 4611686018427387904 ∧ Nat.Coprime n.natAbs d.natAbs := by
  unfold validI at h
  simp only [Bool.and_eq_true, decide_eq_true_eq, beq_iff_eq] at h
  obtain ⟨h1, h2, h3, h4⟩ := h
  refine ⟨h1, h2, h3, ?_⟩
  have e1 : (absI n).toNat = n.natAbs := by have := absI_spec n; omega
  have e2 : (absI d).toNat = d.natAbs := by have := absI_spec d; omega
  unfold gcdI at h4
  rw [e1, e2] at h4
  show Nat.gcd n.natAbs d.natAbs = 1
  omega

theorem cross_eq {n1 d1 n2 d2 : Int} (h1 : validI n1 d1 = true) (h2 : validI n2 d2 = true) (h : n1 * d2 = n2 * d1) : n1 = n2 ∧ d1 = d2 := by
  obtain ⟨p1, _, _, c1⟩ := valid_parts h1
  obtain ⟨p2, _, _, c2⟩ := valid_parts h2
  have hn : n1.natAbs * d2.natAbs = n2.natAbs * d1.natAbs := by rw [← Int.natAbs_mul, ← Int.natAbs_mul, h]
  have q1 : d1.natAbs ∣ d2.natAbs := c1.symm.dvd_of_dvd_mul_left (by rw [hn]; exact Nat.dvd_mul_left _ _)
  have q2 : d2.natAbs ∣ d1.natAbs := c2.symm.dvd_of_dvd_mul_left (by rw [← hn]; exact Nat.dvd_mul_left _ _)
  have e : d1 = d2 := by have := Nat.dvd_antisymm q1 q2; omega
  subst e
  exact ⟨Int.eq_of_mul_eq_mul_right (by omega) h, rfl⟩

theorem cmp_same {n1 d1 n2 d2 : Int} (h1 : validI n1 d1 = true) (h2 : validI n2 d2 = true) (hs : decide (n1 < 0) = decide (n2 < 0)) (hne : ptEq n1 d1 n2 d2 = false) :
    (decide ((absI n1).toNat * (absI d2).toNat < (absI n2).toNat * (absI d1).toNat) != decide (n1 < 0)) = decide (n1 * d2 < n2 * d1) := by
  obtain ⟨p1, _, _, _⟩ := valid_parts h1
  obtain ⟨p2, _, _, _⟩ := valid_parts h2
  have hx : n1 * d2 ≠ n2 * d1 := fun h => by
    obtain ⟨rfl, rfl⟩ := cross_eq h1 h2 h
    simp [ptEq] at hne
  have e1 : absI d1 = d1 := by have := absI_spec d1; omega
  have e2 : absI d2 = d2 := by have := absI_spec d2; omega
  rw [e1, e2]
  have key : (absI n1).toNat * d2.toNat < (absI n2).toNat * d1.toNat ↔ absI n1 * d2 < absI n2 * d1 := by
    have a1 : 0 ≤ absI n1 := by have := absI_spec n1; omega
    have a2 : 0 ≤ absI n2 := by have := absI_spec n2; omega
    have k1 : ((absI n1).toNat * d2.toNat : Nat) = (absI n1 * d2 : Int) := by rw [Int.natCast_mul, Int.toNat_of_nonneg a1, Int.toNat_of_nonneg (by omega)]
    have k2 : ((absI n2).toNat * d1.toNat : Nat) = (absI n2 * d1 : Int) := by rw [Int.natCast_mul, Int.toNat_of_nonneg a2, Int.toNat_of_nonneg (by omega)]
    omega
  rw [Bool.eq_iff_iff, bne_iff_ne]
  by_cases hn : n1 < 0
  · have hn2 : n2 < 0 := by simpa [hn] using hs.symm
    have m1 : absI n1 = -n1 := by have := absI_spec n1; omega
    have m2 : absI n2 = -n2 := by have := absI_spec n2; omega
    rw [m1, m2] at key ⊢
    simp only [hn, decide_true, decide_eq_true_eq, ne_eq, key, Int.neg_mul]
    omega
  · have hn2 : ¬ n2 < 0 := by simpa [hn] using hs.symm
    have m1 : absI n1 = n1 := by have := absI_spec n1; omega
    have m2 : absI n2 = n2 := by have := absI_spec n2; omega
    rw [m1, m2] at key ⊢
    simp only [hn, decide_false, decide_eq_true_eq, ne_eq, key, decide_eq_false_iff_not, Classical.not_not]
theorem cmp_diff {n1 d1 n2 d2 : Int} (h1 : validI n1 d1 = true) (h2 : validI n2 d2 = true) (hs : decide (n1 < 0) ≠ decide (n2 < 0)) : decide (n1 < 0) = decide (n1 * d2 < n2 * d1) := by
  obtain ⟨p1, _, _, _⟩ := valid_parts h1
  obtain ⟨p2, _, _, _⟩ := valid_parts h2
  rw [Bool.eq_iff_iff]
  simp only [decide_eq_true_eq]
  by_cases hn : n1 < 0
  · have hn2 : 0 ≤ n2 := by
      rcases Int.lt_or_le n2 0 with h | h
      · exact absurd (by simp [hn, h]) hs
      · exact h
    have m1 := Int.mul_neg_of_neg_of_pos hn p2
    have m2 := Int.mul_nonneg hn2 (by omega : 0 ≤ d1)
    omega
  · have hn2 : n2 < 0 := by
      rcases Int.lt_or_le n2 0 with h | h
      · exact h
      · exact absurd (by simp [hn]; omega) hs
    have m1 := Int.mul_nonneg (by omega : 0 ≤ n1) (by omega : 0 ≤ d2)
    have m2 := Int.mul_neg_of_neg_of_pos hn2 p1
    omega

theorem run_eql_fr (ax ay bx by' : Int) (w : World) : (binOp .eql 32 (.agg #[.int .i64 ax, .int .i64 ay]) (.agg #[.int .i64 bx, .int .i64 by'])).run Try.prog w = .ok (.bool (ptEq ax ay bx by')) w := by
  by_cases h1 : ax = bx <;> by_cases h2 : ay = by' <;> go_simp <;> simp [ptEq, h1, h2]

def compareI (n1 d1 n2 d2 : Int) : Int × Int := if (validI n1 d1 && validI n2 d2) = true then (cmpI n1 d1 n2 d2, 0) else (0, 1)

set_option maxHeartbeats 4000000 in
theorem compare_any (n1 d1 n2 d2 : Int) (w : World) (b1 : -9223372036854775808 ≤ n1 ∧ n1 ≤ 9223372036854775807) (b2 : -9223372036854775808 ≤ d1 ∧ d1 ≤ 9223372036854775807) (b3 : -9223372036854775808 ≤ n2 ∧ n2 ≤ 9223372036854775807) (b4 : -9223372036854775808 ≤ d2 ∧ d2 ≤ 9223372036854775807) :
    Calls Try.prog 17 #[.agg #[.int .i64 n1, .int .i64 d1], .agg #[.int .i64 n2, .int .i64 d2]] w fun e w' => e = .returned (.tuple #[.int .i64 (compareI n1 d1 n2 d2).1, .int .i64 (compareI n1 d1 n2 d2).2]) ∧ Below w.heap.size w w' := by
  obtain ⟨b1, b1'⟩ := b1
  obtain ⟨b2, b2'⟩ := b2
  obtain ⟨b3, b3'⟩ := b3
  obtain ⟨b4, b4'⟩ := b4
  have Hc : Hid (compareI n1 d1 n2 d2 = if (validI n1 d1 && validI n2 d2) = true then (cmpI n1 d1 n2 d2, 0) else (0, 1)) := by unfold Hid; rfl
  cases v1 : validI n1 d1
  case false =>
    have hT := Below.refl w.heap.size w
    have heqfr := run_eql_fr
    go_enter Try.func17, Try.ntmps17
    go_wp2_with fail
    first | (go_at_call 39; (with_reducible refine (valid_any _ _ _ (by omega) (by omega) (by omega) (by omega)).mono ?_); rintro e w' ⟨rfl, hb⟩; first | (replace hT := (hT).trans (hb.mono hT.size); clear hb) | (replace hT := (hT.alloc hT.size _).trans (hb.mono (Nat.le_trans hT.size (by simp; try omega))); clear hb) | (replace hT := ((hT.alloc hT.size _).alloc (Nat.le_trans hT.size (by simp; try omega)) _).trans (hb.mono (Nat.le_trans hT.size (by simp; try omega))); obtain ⟨kf, kg⟩ := Reg.Blk.new2 hb; obtain ⟨ckf, fkf, zkf⟩ := Reg.Blk.facts kf; obtain ⟨ckg, fkg, zkg⟩ := Reg.Blk.facts kg; clear hb) | (replace hT := (((hT.alloc hT.size _).alloc (Nat.le_trans hT.size (by simp; try omega)) _).alloc (Nat.le_trans hT.size (by simp; try omega)) _).trans (hb.mono (Nat.le_trans hT.size (by simp; try omega))); clear hb) | (replace hT := ((((hT.alloc hT.size _).alloc (Nat.le_trans hT.size (by simp; try omega)) _).alloc (Nat.le_trans hT.size (by simp; try omega)) _).alloc (Nat.le_trans hT.size (by simp; try omega)) _).trans (hb.mono (Nat.le_trans hT.size (by simp; try omega))); clear hb) | (replace hT := (((((hT.alloc hT.size _).alloc (Nat.le_trans hT.size (by simp; try omega)) _).alloc (Nat.le_trans hT.size (by simp; try omega)) _).alloc (Nat.le_trans hT.size (by simp; try omega)) _).alloc (Nat.le_trans hT.size (by simp; try omega)) _).trans (hb.mono (Nat.le_trans hT.size (by simp; try omega))); clear hb))
    go_wp2_with (first | (go_at_call 39; (with_reducible refine (valid_any _ _ _ (by omega) (by omega) (by omega) (by omega)).mono ?_); rintro e w' ⟨rfl, hb⟩; first | (replace hT := (hT).trans (hb.mono hT.size); replace kf := (kf).keep hb; clear ckf fkf zkf; obtain ⟨ckf, fkf, zkf⟩ := Reg.Blk.facts kf; replace kg := (kg).keep hb; clear ckg fkg zkg; obtain ⟨ckg, fkg, zkg⟩ := Reg.Blk.facts kg; clear hb) | (replace hT := (hT.alloc hT.size _).trans (hb.mono (Nat.le_trans hT.size (by simp; try omega))); replace kf := ((kf).alloc _).keep hb; clear ckf fkf zkf; obtain ⟨ckf, fkf, zkf⟩ := Reg.Blk.facts kf; replace kg := ((kg).alloc _).keep hb; clear ckg fkg zkg; obtain ⟨ckg, fkg, zkg⟩ := Reg.Blk.facts kg; clear hb) | (replace hT := ((hT.alloc hT.size _).alloc (Nat.le_trans hT.size (by simp; try omega)) _).trans (hb.mono (Nat.le_trans hT.size (by simp; try omega))); replace kf := (((kf).alloc _).alloc _).keep hb; clear ckf fkf zkf; obtain ⟨ckf, fkf, zkf⟩ := Reg.Blk.facts kf; replace kg := (((kg).alloc _).alloc _).keep hb; clear ckg fkg zkg; obtain ⟨ckg, fkg, zkg⟩ := Reg.Blk.facts kg; clear hb) | (replace hT := (((hT.alloc hT.size _).alloc (Nat.le_trans hT.size (by simp; try omega)) _).alloc (Nat.le_trans hT.size (by simp; try omega)) _).trans (hb.mono (Nat.le_trans hT.size (by simp; try omega))); replace kf := ((((kf).alloc _).alloc _).alloc _).keep hb; clear ckf fkf zkf; obtain ⟨ckf, fkf, zkf⟩ := Reg.Blk.facts kf; replace kg := ((((kg).alloc _).alloc _).alloc _).keep hb; clear ckg fkg zkg; obtain ⟨ckg, fkg, zkg⟩ := Reg.Blk.facts kg; clear hb) | (replace hT := ((((hT.alloc hT.size _).alloc (Nat.le_trans hT.size (by simp; try omega)) _).alloc (Nat.le_trans hT.size (by simp; try omega)) _).alloc (Nat.le_trans hT.size (by simp; try omega)) _).trans (hb.mono (Nat.le_trans hT.size (by simp; try omega))); replace kf := (((((kf).alloc _).alloc _).alloc _).alloc _).keep hb; clear ckf fkf zkf; obtain ⟨ckf, fkf, zkf⟩ := Reg.Blk.facts kf; replace kg := (((((kg).alloc _).alloc _).alloc _).alloc _).keep hb; clear ckg fkg zkg; obtain ⟨ckg, fkg, zkg⟩ := Reg.Blk.facts kg; clear hb) | (replace hT := (((((hT.alloc hT.size _).alloc (Nat.le_trans hT.size (by simp; try omega)) _).alloc (Nat.le_trans hT.size (by simp; try omega)) _).alloc (Nat.le_trans hT.size (by simp; try omega)) _).alloc (Nat.le_trans hT.size (by simp; try omega)) _).trans (hb.mono (Nat.le_trans hT.size (by simp; try omega))); replace kf := ((((((kf).alloc _).alloc _).alloc _).alloc _).alloc _).keep hb; clear ckf fkf zkf; obtain ⟨ckf, fkf, zkf⟩ := Reg.Blk.facts kf; replace kg := ((((((kg).alloc _).alloc _).alloc _).alloc _).alloc _).keep hb; clear ckg fkg zkg; obtain ⟨ckg, fkg, zkg⟩ := Reg.Blk.facts kg; clear hb)))
    go_ret2
    exact ⟨by rw [Hc.out]; simp [v1], hT⟩
  cases v2 : validI n2 d2
  case false =>
    have hT := Below.refl w.heap.size w
    have heqfr := run_eql_fr
    go_enter Try.func17, Try.ntmps17
    go_wp2_with fail
    first | (go_at_call 39; (with_reducible refine (valid_any _ _ _ (by omega) (by omega) (by omega) (by omega)).mono ?_); rintro e w' ⟨rfl, hb⟩; first | (replace hT := (hT).trans (hb.mono hT.size); clear hb) | (replace hT := (hT.alloc hT.size _).trans (hb.mono (Nat.le_trans hT.size (by simp; try omega))); clear hb) | (replace hT := ((hT.alloc hT.size _).alloc (Nat.le_trans hT.size (by simp; try omega)) _).trans (hb.mono (Nat.le_trans hT.size (by simp; try omega))); obtain ⟨kf, kg⟩ := Reg.Blk.new2 hb; obtain ⟨ckf, fkf, zkf⟩ := Reg.Blk.facts kf; obtain ⟨ckg, fkg, zkg⟩ := Reg.Blk.facts kg; clear hb) | (replace hT := (((hT.alloc hT.size _).alloc (Nat.le_trans hT.size (by simp; try omega)) _).alloc (Nat.le_trans hT.size (by simp; try omega)) _).trans (hb.mono (Nat.le_trans hT.size (by simp; try omega))); clear hb) | (replace hT := ((((hT.alloc hT.size _).alloc (Nat.le_trans hT.size (by simp; try omega)) _).alloc (Nat.le_trans hT.size (by simp; try omega)) _).alloc (Nat.le_trans hT.size (by simp; try omega)) _).trans (hb.mono (Nat.le_trans hT.size (by simp; try omega))); clear hb) | (replace hT := (((((hT.alloc hT.size _).alloc (Nat.le_trans hT.size (by simp; try omega)) _).alloc (Nat.le_trans hT.size (by simp; try omega)) _).alloc (Nat.le_trans hT.size (by simp; try omega)) _).alloc (Nat.le_trans hT.size (by simp; try omega)) _).trans (hb.mono (Nat.le_trans hT.size (by simp; try omega))); clear hb))
    go_wp2_with (first | (go_at_call 39; (with_reducible refine (valid_any _ _ _ (by omega) (by omega) (by omega) (by omega)).mono ?_); rintro e w' ⟨rfl, hb⟩; first | (replace hT := (hT).trans (hb.mono hT.size); replace kf := (kf).keep hb; clear ckf fkf zkf; obtain ⟨ckf, fkf, zkf⟩ := Reg.Blk.facts kf; replace kg := (kg).keep hb; clear ckg fkg zkg; obtain ⟨ckg, fkg, zkg⟩ := Reg.Blk.facts kg; clear hb) | (replace hT := (hT.alloc hT.size _).trans (hb.mono (Nat.le_trans hT.size (by simp; try omega))); replace kf := ((kf).alloc _).keep hb; clear ckf fkf zkf; obtain ⟨ckf, fkf, zkf⟩ := Reg.Blk.facts kf; replace kg := ((kg).alloc _).keep hb; clear ckg fkg zkg; obtain ⟨ckg, fkg, zkg⟩ := Reg.Blk.facts kg; clear hb) | (replace hT := ((hT.alloc hT.size _).alloc (Nat.le_trans hT.size (by simp; try omega)) _).trans (hb.mono (Nat.le_trans hT.size (by simp; try omega))); replace kf := (((kf).alloc _).alloc _).keep hb; clear ckf fkf zkf; obtain ⟨ckf, fkf, zkf⟩ := Reg.Blk.facts kf; replace kg := (((kg).alloc _).alloc _).keep hb; clear ckg fkg zkg; obtain ⟨ckg, fkg, zkg⟩ := Reg.Blk.facts kg; clear hb) | (replace hT := (((hT.alloc hT.size _).alloc (Nat.le_trans hT.size (by simp; try omega)) _).alloc (Nat.le_trans hT.size (by simp; try omega)) _).trans (hb.mono (Nat.le_trans hT.size (by simp; try omega))); replace kf := ((((kf).alloc _).alloc _).alloc _).keep hb; clear ckf fkf zkf; obtain ⟨ckf, fkf, zkf⟩ := Reg.Blk.facts kf; replace kg := ((((kg).alloc _).alloc _).alloc _).keep hb; clear ckg fkg zkg; obtain ⟨ckg, fkg, zkg⟩ := Reg.Blk.facts kg; clear hb) | (replace hT := ((((hT.alloc hT.size _).alloc (Nat.le_trans hT.size (by simp; try omega)) _).alloc (Nat.le_trans hT.size (by simp; try omega)) _).alloc (Nat.le_trans hT.size (by simp; try omega)) _).trans (hb.mono (Nat.le_trans hT.size (by simp; try omega))); replace kf := (((((kf).alloc _).alloc _).alloc _).alloc _).keep hb; clear ckf fkf zkf; obtain ⟨ckf, fkf, zkf⟩ := Reg.Blk.facts kf; replace kg := (((((kg).alloc _).alloc _).alloc _).alloc _).keep hb; clear ckg fkg zkg; obtain ⟨ckg, fkg, zkg⟩ := Reg.Blk.facts kg; clear hb) | (replace hT := (((((hT.alloc hT.size _).alloc (Nat.le_trans hT.size (by simp; try omega)) _).alloc (Nat.le_trans hT.size (by simp; try omega)) _).alloc (Nat.le_trans hT.size (by simp; try omega)) _).alloc (Nat.le_trans hT.size (by simp; try omega)) _).trans (hb.mono (Nat.le_trans hT.size (by simp; try omega))); replace kf := ((((((kf).alloc _).alloc _).alloc _).alloc _).alloc _).keep hb; clear ckf fkf zkf; obtain ⟨ckf, fkf, zkf⟩ := Reg.Blk.facts kf; replace kg := ((((((kg).alloc _).alloc _).alloc _).alloc _).alloc _).keep hb; clear ckg fkg zkg; obtain ⟨ckg, fkg, zkg⟩ := Reg.Blk.facts kg; clear hb)))
    go_ret2
    exact ⟨by rw [Hc.out]; simp [v1, v2], hT⟩
  cases he : ptEq n1 d1 n2 d2
  case true =>
    have hT := Below.refl w.heap.size w
    have heqfr := run_eql_fr
    go_enter Try.func17, Try.ntmps17
    go_wp2_with fail
    first | (go_at_call 39; (with_reducible refine (valid_any _ _ _ (by omega) (by omega) (by omega) (by omega)).mono ?_); rintro e w' ⟨rfl, hb⟩; first | (replace hT := (hT).trans (hb.mono hT.size); clear hb) | (replace hT := (hT.alloc hT.size _).trans (hb.mono (Nat.le_trans hT.size (by simp; try omega))); clear hb) | (replace hT := ((hT.alloc hT.size _).alloc (Nat.le_trans hT.size (by simp; try omega)) _).trans (hb.mono (Nat.le_trans hT.size (by simp; try omega))); obtain ⟨kf, kg⟩ := Reg.Blk.new2 hb; obtain ⟨ckf, fkf, zkf⟩ := Reg.Blk.facts kf; obtain ⟨ckg, fkg, zkg⟩ := Reg.Blk.facts kg; clear hb) | (replace hT := (((hT.alloc hT.size _).alloc (Nat.le_trans hT.size (by simp; try omega)) _).alloc (Nat.le_trans hT.size (by simp; try omega)) _).trans (hb.mono (Nat.le_trans hT.size (by simp; try omega))); clear hb) | (replace hT := ((((hT.alloc hT.size _).alloc (Nat.le_trans hT.size (by simp; try omega)) _).alloc (Nat.le_trans hT.size (by simp; try omega)) _).alloc (Nat.le_trans hT.size (by simp; try omega)) _).trans (hb.mono (Nat.le_trans hT.size (by simp; try omega))); clear hb) | (replace hT := (((((hT.alloc hT.size _).alloc (Nat.le_trans hT.size (by simp; try omega)) _).alloc (Nat.le_trans hT.size (by simp; try omega)) _).alloc (Nat.le_trans hT.size (by simp; try omega)) _).alloc (Nat.le_trans hT.size (by simp; try omega)) _).trans (hb.mono (Nat.le_trans hT.size (by simp; try omega))); clear hb))
    go_wp2_with (first | (go_at_call 39; (with_reducible refine (valid_any _ _ _ (by omega) (by omega) (by omega) (by omega)).mono ?_); rintro e w' ⟨rfl, hb⟩; first | (replace hT := (hT).trans (hb.mono hT.size); replace kf := (kf).keep hb; clear ckf fkf zkf; obtain ⟨ckf, fkf, zkf⟩ := Reg.Blk.facts kf; replace kg := (kg).keep hb; clear ckg fkg zkg; obtain ⟨ckg, fkg, zkg⟩ := Reg.Blk.facts kg; clear hb) | (replace hT := (hT.alloc hT.size _).trans (hb.mono (Nat.le_trans hT.size (by simp; try omega))); replace kf := ((kf).alloc _).keep hb; clear ckf fkf zkf; obtain ⟨ckf, fkf, zkf⟩ := Reg.Blk.facts kf; replace kg := ((kg).alloc _).keep hb; clear ckg fkg zkg; obtain ⟨ckg, fkg, zkg⟩ := Reg.Blk.facts kg; clear hb) | (replace hT := ((hT.alloc hT.size _).alloc (Nat.le_trans hT.size (by simp; try omega)) _).trans (hb.mono (Nat.le_trans hT.size (by simp; try omega))); replace kf := (((kf).alloc _).alloc _).keep hb; clear ckf fkf zkf; obtain ⟨ckf, fkf, zkf⟩ := Reg.Blk.facts kf; replace kg := (((kg).alloc _).alloc _).keep hb; clear ckg fkg zkg; obtain ⟨ckg, fkg, zkg⟩ := Reg.Blk.facts kg; clear hb) | (replace hT := (((hT.alloc hT.size _).alloc (Nat.le_trans hT.size (by simp; try omega)) _).alloc (Nat.le_trans hT.size (by simp; try omega)) _).trans (hb.mono (Nat.le_trans hT.size (by simp; try omega))); replace kf := ((((kf).alloc _).alloc _).alloc _).keep hb; clear ckf fkf zkf; obtain ⟨ckf, fkf, zkf⟩ := Reg.Blk.facts kf; replace kg := ((((kg).alloc _).alloc _).alloc _).keep hb; clear ckg fkg zkg; obtain ⟨ckg, fkg, zkg⟩ := Reg.Blk.facts kg; clear hb) | (replace hT := ((((hT.alloc hT.size _).alloc (Nat.le_trans hT.size (by simp; try omega)) _).alloc (Nat.le_trans hT.size (by simp; try omega)) _).alloc (Nat.le_trans hT.size (by simp; try omega)) _).trans (hb.mono (Nat.le_trans hT.size (by simp; try omega))); replace kf := (((((kf).alloc _).alloc _).alloc _).alloc _).keep hb; clear ckf fkf zkf; obtain ⟨ckf, fkf, zkf⟩ := Reg.Blk.facts kf; replace kg := (((((kg).alloc _).alloc _).alloc _).alloc _).keep hb; clear ckg fkg zkg; obtain ⟨ckg, fkg, zkg⟩ := Reg.Blk.facts kg; clear hb) | (replace hT := (((((hT.alloc hT.size _).alloc (Nat.le_trans hT.size (by simp; try omega)) _).alloc (Nat.le_trans hT.size (by simp; try omega)) _).alloc (Nat.le_trans hT.size (by simp; try omega)) _).alloc (Nat.le_trans hT.size (by simp; try omega)) _).trans (hb.mono (Nat.le_trans hT.size (by simp; try omega))); replace kf := ((((((kf).alloc _).alloc _).alloc _).alloc _).alloc _).keep hb; clear ckf fkf zkf; obtain ⟨ckf, fkf, zkf⟩ := Reg.Blk.facts kf; replace kg := ((((((kg).alloc _).alloc _).alloc _).alloc _).alloc _).keep hb; clear ckg fkg zkg; obtain ⟨ckg, fkg, zkg⟩ := Reg.Blk.facts kg; clear hb)))
    go_ret2
    exact ⟨by rw [Hc.out]; simp [v1, v2, cmpI, he], hT⟩
  have a1 := absI_spec n1
  have a2 := absI_spec d1
  have a3 := absI_spec n2
  have a4 := absI_spec d2
  have f1 : 0 ≤ absI n1 := by omega
  have f2 : absI n1 ≤ 9223372036854775808 := by omega
  have f3 : 0 ≤ absI d1 := by omega
  have f4 : absI d1 ≤ 9223372036854775808 := by omega
  have f5 : 0 ≤ absI n2 := by omega
  have f6 : absI n2 ≤ 9223372036854775808 := by omega
  have f7 : 0 ≤ absI d2 := by omega
  have f8 : absI d2 ≤ 9223372036854775808 := by omega
  clear a1 a2 a3 a4
  by_cases hs : decide (n1 < 0) = decide (n2 < 0)
  · have Hk := Lib.hid (cmp_same v1 v2 hs he)
    cases s1 : decide (n1 < 0)
    all_goals
      have s2 : decide (n2 < 0) = _ := hs.symm.trans s1
      rw [s1] at Hk
      have HK := Hk
      clear Hk hs
      have hT := Below.refl w.heap.size w
      have heqfr := run_eql_fr
      go_enter Try.func17, Try.ntmps17
      go_wp2_with fail
      first | (go_at_call 39; (with_reducible refine (valid_any _ _ _ (by omega) (by omega) (by omega) (by omega)).mono ?_); rintro e w' ⟨rfl, hb⟩; first | (replace hT := (hT).trans (hb.mono hT.size); clear hb) | (replace hT := (hT.alloc hT.size _).trans (hb.mono (Nat.le_trans hT.size (by simp; try omega))); clear hb) | (replace hT := ((hT.alloc hT.size _).alloc (Nat.le_trans hT.size (by simp; try omega)) _).trans (hb.mono (Nat.le_trans hT.size (by simp; try omega))); obtain ⟨kf, kg⟩ := Reg.Blk.new2 hb; obtain ⟨ckf, fkf, zkf⟩ := Reg.Blk.facts kf; obtain ⟨ckg, fkg, zkg⟩ := Reg.Blk.facts kg; clear hb) | (replace hT := (((hT.alloc hT.size _).alloc (Nat.le_trans hT.size (by simp; try omega)) _).alloc (Nat.le_trans hT.size (by simp; try omega)) _).trans (hb.mono (Nat.le_trans hT.size (by simp; try omega))); clear hb) | (replace hT := ((((hT.alloc hT.size _).alloc (Nat.le_trans hT.size (by simp; try omega)) _).alloc (Nat.le_trans hT.size (by simp; try omega)) _).alloc (Nat.le_trans hT.size (by simp; try omega)) _).trans (hb.mono (Nat.le_trans hT.size (by simp; try omega))); clear hb) | (replace hT := (((((hT.alloc hT.size _).alloc (Nat.le_trans hT.size (by simp; try omega)) _).alloc (Nat.le_trans hT.size (by simp; try omega)) _).alloc (Nat.le_trans hT.size (by simp; try omega)) _).alloc (Nat.le_trans hT.size (by simp; try omega)) _).trans (hb.mono (Nat.le_trans hT.size (by simp; try omega))); clear hb))
      go_wp2_with (first | (go_at_call 39; (with_reducible refine (valid_any _ _ _ (by omega) (by omega) (by omega) (by omega)).mono ?_); rintro e w' ⟨rfl, hb⟩; first | (replace hT := (hT).trans (hb.mono hT.size); replace kf := (kf).keep hb; clear ckf fkf zkf; obtain ⟨ckf, fkf, zkf⟩ := Reg.Blk.facts kf; replace kg := (kg).keep hb; clear ckg fkg zkg; obtain ⟨ckg, fkg, zkg⟩ := Reg.Blk.facts kg; clear hb) | (replace hT := (hT.alloc hT.size _).trans (hb.mono (Nat.le_trans hT.size (by simp; try omega))); replace kf := ((kf).alloc _).keep hb; clear ckf fkf zkf; obtain ⟨ckf, fkf, zkf⟩ := Reg.Blk.facts kf; replace kg := ((kg).alloc _).keep hb; clear ckg fkg zkg; obtain ⟨ckg, fkg, zkg⟩ := Reg.Blk.facts kg; clear hb) | (replace hT := ((hT.alloc hT.size _).alloc (Nat.le_trans hT.size (by simp; try omega)) _).trans (hb.mono (Nat.le_trans hT.size (by simp; try omega))); replace kf := (((kf).alloc _).alloc _).keep hb; clear ckf fkf zkf; obtain ⟨ckf, fkf, zkf⟩ := Reg.Blk.facts kf; replace kg := (((kg).alloc _).alloc _).keep hb; clear ckg fkg zkg; obtain ⟨ckg, fkg, zkg⟩ := Reg.Blk.facts kg; clear hb) | (replace hT := (((hT.alloc hT.size _).alloc (Nat.le_trans hT.size (by simp; try omega)) _).alloc (Nat.le_trans hT.size (by simp; try omega)) _).trans (hb.mono (Nat.le_trans hT.size (by simp; try omega))); replace kf := ((((kf).alloc _).alloc _).alloc _).keep hb; clear ckf fkf zkf; obtain ⟨ckf, fkf, zkf⟩ := Reg.Blk.facts kf; replace kg := ((((kg).alloc _).alloc _).alloc _).keep hb; clear ckg fkg zkg; obtain ⟨ckg, fkg, zkg⟩ := Reg.Blk.facts kg; clear hb) | (replace hT := ((((hT.alloc hT.size _).alloc (Nat.le_trans hT.size (by simp; try omega)) _).alloc (Nat.le_trans hT.size (by simp; try omega)) _).alloc (Nat.le_trans hT.size (by simp; try omega)) _).trans (hb.mono (Nat.le_trans hT.size (by simp; try omega))); replace kf := (((((kf).alloc _).alloc _).alloc _).alloc _).keep hb; clear ckf fkf zkf; obtain ⟨ckf, fkf, zkf⟩ := Reg.Blk.facts kf; replace kg := (((((kg).alloc _).alloc _).alloc _).alloc _).keep hb; clear ckg fkg zkg; obtain ⟨ckg, fkg, zkg⟩ := Reg.Blk.facts kg; clear hb) | (replace hT := (((((hT.alloc hT.size _).alloc (Nat.le_trans hT.size (by simp; try omega)) _).alloc (Nat.le_trans hT.size (by simp; try omega)) _).alloc (Nat.le_trans hT.size (by simp; try omega)) _).alloc (Nat.le_trans hT.size (by simp; try omega)) _).trans (hb.mono (Nat.le_trans hT.size (by simp; try omega))); replace kf := ((((((kf).alloc _).alloc _).alloc _).alloc _).alloc _).keep hb; clear ckf fkf zkf; obtain ⟨ckf, fkf, zkf⟩ := Reg.Blk.facts kf; replace kg := ((((((kg).alloc _).alloc _).alloc _).alloc _).alloc _).keep hb; clear ckg fkg zkg; obtain ⟨ckg, fkg, zkg⟩ := Reg.Blk.facts kg; clear hb)))
      refine Reg.wp_region_seq (by kernel_rfl) (by kernel_rfl) ?_
      simp only
      iterate 20
        apply Reg.SeqOK.val
        · intro γ W hW K hK
          obtain ⟨hc, hf, _⟩ := bcell hW
          simp only [Act.put, List.setIfInBounds_toArray, List.set_cons_zero, List.set_cons_succ] at hK
          unfold Reg.Does
          go_simp
          try simp only [IntWalk.i64_left]
          first
            | exact hK _ (Below.refl _ _)
            | (go_at_call 41; (with_reducible refine (size_any _ _ (by omega) (by omega)).mono ?_); rintro e w' ⟨rfl, hb⟩; exact hK _ hb)
            | (go_at_call 40; (with_reducible refine (timesI_any _ _ _ (by omega) (by omega) (by omega) (by omega)).mono ?_); rintro e w' ⟨rfl, hb⟩; exact hK _ hb)
            | (go_at_call 42; (with_reducible refine (less_any _ _ _).mono ?_); rintro e w' ⟨rfl, hb⟩; exact hK _ hb)
        simp only [Act.put, List.setIfInBounds_toArray, List.set_cons_zero, List.set_cons_succ, List.nil_append, List.cons_append, Nat.reduceAdd, Nat.zero_add]
      refine Reg.SeqOK.nil (by kernel_rfl) (fun γ W hW _ _ _ => ?_)
      replace hT := hT.trans (hW.mono hT.size)
      clear hW
      cases l1 : decide ((absI n1).toNat * (absI d2).toNat < (absI n2).toNat * (absI d1).toNat)
      all_goals
        have HL := HK.out
        rw [l1] at HL
        have HL2 := Lib.hid HL
        clear HL
        go_wp2_with fail
        go_ret2
        refine ⟨?_, hT⟩
        rw [Hc.out]
        have hl := HL2.out
        simp at hl
        simp [v1, v2, cmpI, he, hl]
  · have Hk := Lib.hid (cmp_diff v1 v2 hs)
    cases s1 : decide (n1 < 0)
    all_goals
      cases s2 : decide (n2 < 0)
    all_goals first | exact absurd (s1.trans s2.symm) hs | skip
    all_goals
      have HL := Hk.out
      rw [s1] at HL
      have HL2 := Lib.hid HL
      clear HL hs
      have hT := Below.refl w.heap.size w
      have heqfr := run_eql_fr
      go_enter Try.func17, Try.ntmps17
      go_wp2_with fail
      first | (go_at_call 39; (with_reducible refine (valid_any _ _ _ (by omega) (by omega) (by omega) (by omega)).mono ?_); rintro e w' ⟨rfl, hb⟩; first | (replace hT := (hT).trans (hb.mono hT.size); clear hb) | (replace hT := (hT.alloc hT.size _).trans (hb.mono (Nat.le_trans hT.size (by simp; try omega))); clear hb) | (replace hT := ((hT.alloc hT.size _).alloc (Nat.le_trans hT.size (by simp; try omega)) _).trans (hb.mono (Nat.le_trans hT.size (by simp; try omega))); obtain ⟨kf, kg⟩ := Reg.Blk.new2 hb; obtain ⟨ckf, fkf, zkf⟩ := Reg.Blk.facts kf; obtain ⟨ckg, fkg, zkg⟩ := Reg.Blk.facts kg; clear hb) | (replace hT := (((hT.alloc hT.size _).alloc (Nat.le_trans hT.size (by simp; try omega)) _).alloc (Nat.le_trans hT.size (by simp; try omega)) _).trans (hb.mono (Nat.le_trans hT.size (by simp; try omega))); clear hb) | (replace hT := ((((hT.alloc hT.size _).alloc (Nat.le_trans hT.size (by simp; try omega)) _).alloc (Nat.le_trans hT.size (by simp; try omega)) _).alloc (Nat.le_trans hT.size (by simp; try omega)) _).trans (hb.mono (Nat.le_trans hT.size (by simp; try omega))); clear hb) | (replace hT := (((((hT.alloc hT.size _).alloc (Nat.le_trans hT.size (by simp; try omega)) _).alloc (Nat.le_trans hT.size (by simp; try omega)) _).alloc (Nat.le_trans hT.size (by simp; try omega)) _).alloc (Nat.le_trans hT.size (by simp; try omega)) _).trans (hb.mono (Nat.le_trans hT.size (by simp; try omega))); clear hb))
      go_wp2_with (first | (go_at_call 39; (with_reducible refine (valid_any _ _ _ (by omega) (by omega) (by omega) (by omega)).mono ?_); rintro e w' ⟨rfl, hb⟩; first | (replace hT := (hT).trans (hb.mono hT.size); replace kf := (kf).keep hb; clear ckf fkf zkf; obtain ⟨ckf, fkf, zkf⟩ := Reg.Blk.facts kf; replace kg := (kg).keep hb; clear ckg fkg zkg; obtain ⟨ckg, fkg, zkg⟩ := Reg.Blk.facts kg; clear hb) | (replace hT := (hT.alloc hT.size _).trans (hb.mono (Nat.le_trans hT.size (by simp; try omega))); replace kf := ((kf).alloc _).keep hb; clear ckf fkf zkf; obtain ⟨ckf, fkf, zkf⟩ := Reg.Blk.facts kf; replace kg := ((kg).alloc _).keep hb; clear ckg fkg zkg; obtain ⟨ckg, fkg, zkg⟩ := Reg.Blk.facts kg; clear hb) | (replace hT := ((hT.alloc hT.size _).alloc (Nat.le_trans hT.size (by simp; try omega)) _).trans (hb.mono (Nat.le_trans hT.size (by simp; try omega))); replace kf := (((kf).alloc _).alloc _).keep hb; clear ckf fkf zkf; obtain ⟨ckf, fkf, zkf⟩ := Reg.Blk.facts kf; replace kg := (((kg).alloc _).alloc _).keep hb; clear ckg fkg zkg; obtain ⟨ckg, fkg, zkg⟩ := Reg.Blk.facts kg; clear hb) | (replace hT := (((hT.alloc hT.size _).alloc (Nat.le_trans hT.size (by simp; try omega)) _).alloc (Nat.le_trans hT.size (by simp; try omega)) _).trans (hb.mono (Nat.le_trans hT.size (by simp; try omega))); replace kf := ((((kf).alloc _).alloc _).alloc _).keep hb; clear ckf fkf zkf; obtain ⟨ckf, fkf, zkf⟩ := Reg.Blk.facts kf; replace kg := ((((kg).alloc _).alloc _).alloc _).keep hb; clear ckg fkg zkg; obtain ⟨ckg, fkg, zkg⟩ := Reg.Blk.facts kg; clear hb) | (replace hT := ((((hT.alloc hT.size _).alloc (Nat.le_trans hT.size (by simp; try omega)) _).alloc (Nat.le_trans hT.size (by simp; try omega)) _).alloc (Nat.le_trans hT.size (by simp; try omega)) _).trans (hb.mono (Nat.le_trans hT.size (by simp; try omega))); replace kf := (((((kf).alloc _).alloc _).alloc _).alloc _).keep hb; clear ckf fkf zkf; obtain ⟨ckf, fkf, zkf⟩ := Reg.Blk.facts kf; replace kg := (((((kg).alloc _).alloc _).alloc _).alloc _).keep hb; clear ckg fkg zkg; obtain ⟨ckg, fkg, zkg⟩ := Reg.Blk.facts kg; clear hb) | (replace hT := (((((hT.alloc hT.size _).alloc (Nat.le_trans hT.size (by simp; try omega)) _).alloc (Nat.le_trans hT.size (by simp; try omega)) _).alloc (Nat.le_trans hT.size (by simp; try omega)) _).alloc (Nat.le_trans hT.size (by simp; try omega)) _).trans (hb.mono (Nat.le_trans hT.size (by simp; try omega))); replace kf := ((((((kf).alloc _).alloc _).alloc _).alloc _).alloc _).keep hb; clear ckf fkf zkf; obtain ⟨ckf, fkf, zkf⟩ := Reg.Blk.facts kf; replace kg := ((((((kg).alloc _).alloc _).alloc _).alloc _).alloc _).keep hb; clear ckg fkg zkg; obtain ⟨ckg, fkg, zkg⟩ := Reg.Blk.facts kg; clear hb)))
      go_ret2
      refine ⟨?_, hT⟩
      rw [Hc.out]
      have hl := HL2.out
      simp at hl
      simp [v1, v2, cmpI, he, hl]

end G
end Go.Proofs.Ytjeapimjgojpoaa
