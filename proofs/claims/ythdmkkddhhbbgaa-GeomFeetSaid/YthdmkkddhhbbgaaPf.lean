/- Geom: the plain law on feet. -/
import Derived.Test.YthdmkkddhhbbgaaPn
set_option linter.unusedSimpArgs false
set_option linter.unusedVariables false
set_option maxRecDepth 100000
namespace Go.Proofs.Ythdmkkddhhbbgaa
open Go.RowKit
namespace G

theorem al_back (px py ax ay bx by' : Int) : alP px py bx by' ax ay = distP ax ay bx by' - alP px py ax ay bx by' := by unfold alP distP; grind
theorem dist_back (ax ay bx by' : Int) : distP bx by' ax ay = distP ax ay bx by' := by unfold distP; grind
theorem area_back (px py ax ay bx by' : Int) : areaP bx by' ax ay px py = -areaP ax ay bx by' px py := by unfold areaP; grind
theorem foot_lag (px py ax ay bx by' : Int) : alP px py ax ay bx by' * alP px py ax ay bx by' + areaP ax ay bx by' px py * areaP ax ay bx by' px py = distP ax ay bx by' * distP px py ax ay := by
  unfold alP areaP distP; grind
theorem foot_lag2 (px py ax ay bx by' : Int) : (distP ax ay bx by' - alP px py ax ay bx by') * (distP ax ay bx by' - alP px py ax ay bx by') + areaP ax ay bx by' px py * areaP ax ay bx by' px py = distP ax ay bx by' * distP px py bx by' := by
  unfold alP areaP distP; grind
theorem dot_al (px py ax ay bx by' : Int) : dotP px py ax ay bx by' = distP px py ax ay - alP px py ax ay bx by' := by unfold dotP distP alP; grind

/-- One fraction is at most another one, and both are valid. -/
def LeF (n1 d1 n2 d2 : Int) : Prop := (compareI n1 d1 n2 d2).2 = 0 ∧ (compareI n1 d1 n2 d2).1 ≤ 0
theorem LeF.of {n1 d1 n2 d2 : Int} (h1 : validI n1 d1 = true) (h2 : validI n2 d2 = true) (h : n1 * d2 ≤ n2 * d1) : LeF n1 d1 n2 d2 := by
  unfold LeF compareI
  rw [h1, h2]
  simp only [Bool.and_self, if_true, true_and]
  exact (cmp_le h1 h2).2 h

theorem low_rest {al all : Int} (h1 : 0 ≤ al) (h2 : al ≤ all) (h3 : 1 ≤ all) : (lowI (all - al) all).2.1 = (lowI al all).2.1 ∧ (lowI al all).1 + (lowI (all - al) all).1 = (lowI al all).2.1 := by
  obtain ⟨m, rfl⟩ := Int.eq_ofNat_of_zero_le h1
  obtain ⟨n, rfl⟩ := Int.eq_ofNat_of_zero_le (by omega : 0 ≤ all)
  have hmn : m ≤ n := by omega
  obtain ⟨k, rfl⟩ : ∃ k, n = m + k := ⟨n - m, by omega⟩
  have e0 : ((m + k : Nat) : Int) - (m : Int) = (k : Int) := by omega
  rw [e0]
  have e1 : gcdI (k : Int) ((m + k : Nat) : Int) = (Nat.gcd m k : Nat) := by
    unfold gcdI; simp only [Int.toNat_natCast]; rw [Nat.gcd_add_self_right, Nat.gcd_comm]
  have e2 : gcdI (m : Int) ((m + k : Nat) : Int) = (Nat.gcd m k : Nat) := by
    unfold gcdI; simp only [Int.toNat_natCast]; rw [Nat.add_comm, Nat.gcd_add_self_right]
  have hg : 0 < Nat.gcd m k := by
    rcases Nat.eq_zero_or_pos m with h | h
    · exact Nat.gcd_pos_of_pos_right _ (by omega)
    · exact Nat.gcd_pos_of_pos_left _ h
  obtain ⟨a, ha⟩ := Nat.gcd_dvd_left m k
  obtain ⟨b, hb⟩ := Nat.gcd_dvd_right m k
  unfold lowI
  rw [e1, e2]
  simp only [true_and]
  generalize Nat.gcd m k = g at *
  subst ha hb
  rw [← Nat.mul_add]
  have q (x : Nat) : ((g * x : Nat) : Int) / (g : Int) = (x : Int) := by rw [← Int.natCast_ediv, Nat.mul_div_cancel_left _ hg]
  rw [q, q, q]; omega

theorem ptEq_iff {a b c d : Int} : ptEq a b c d = true ↔ a = c ∧ b = d := by simp [ptEq]

/-- What the law of the feet asks of the feet from both sides. -/
structure FeetOK (px py ax ay bx by' : Int) (F G : Rat3 × Rat3) : Prop where
  ok : F.2.2.2 = 0
  ok2 : G.2.2.2 = 0
  same : ptEq F.2.1 F.2.2.1 G.2.1 G.2.2.1 = true
  lo : LeF 0 1 F.1.1 F.1.2.1
  hi : LeF F.1.1 F.1.2.1 1 1
  aw : LeF 0 1 F.2.1 F.2.2.1
  da : LeF F.2.1 F.2.2.1 (distI px py ax ay) 1
  db : LeF F.2.1 F.2.2.1 (distI px py bx by') 1
  atA : ptEq F.1.1 F.1.2.1 0 1 = true → ptEq F.2.1 F.2.2.1 (distI px py ax ay) 1 = true
  atB : ptEq F.1.1 F.1.2.1 1 1 = true → ptEq F.2.1 F.2.2.1 (distI px py bx by') 1 = true
  on : ptEq F.2.1 F.2.2.1 0 1 = betwI px py ax ay bx by'
  one : ptEq ax ay bx by' = true → ptEq F.1.1 F.1.2.1 0 1 = true ∧ ptEq G.1.1 G.1.2.1 0 1 = true
  two : ptEq ax ay bx by' = false → G.1.2.1 = F.1.2.1 ∧ F.1.1 + G.1.1 = F.1.2.1 ∧ validI F.1.1 F.1.2.1 = true ∧ validI G.1.1 G.1.2.1 = true ∧ 0 ≤ F.1.1 ∧ 0 ≤ G.1.1 ∧ 1 ≤ F.1.2.1 ∧ F.1.2.1 ≤ 2147352578

theorem sq_pos {x : Int} (h : x ≠ 0) : 0 < x * x := by
  rcases Int.lt_or_lt_of_ne h with h | h
  · exact Int.mul_pos_of_neg_of_neg h h
  · exact Int.mul_pos h h
theorem low_zero {D : Int} (h : validI 0 D = true) : D = 1 := by
  obtain ⟨p1, _, _, c⟩ := valid_parts h
  have c' : Nat.gcd (0 : Int).natAbs D.natAbs = 1 := c
  simp at c'
  omega

set_option maxHeartbeats 2000000 in
theorem feet_alg {al all ar da db : Int} {pa pb ab : Prop} {bt : Bool} (D1 : 0 ≤ all ∧ all ≤ 2147352578) (D2 : 0 ≤ da ∧ da ≤ 2147352578) (D3 : 0 ≤ db ∧ db ≤ 2147352578)
    (Q : 0 ≤ ar * ar ∧ ar * ar ≤ 4611123094243246084) (L1 : al * al + ar * ar = all * da) (L2 : (all - al) * (all - al) + ar * ar = all * db)
    (Z1 : all = 0 ↔ ab) (Z2 : da = 0 ↔ pa) (Z3 : db = 0 ↔ pb) (eqd : all = 0 → da = db) (B : bt = true ↔ pa ∨ pb ∨ (ar = 0 ∧ da - al < 0)) :
    (rfootO al all ar da db).2.2.2 = 0 ∧ (rfootO (all - al) all (-ar) db da).2.2.2 = 0 ∧
    ptEq (rfootO al all ar da db).2.1 (rfootO al all ar da db).2.2.1 (rfootO (all - al) all (-ar) db da).2.1 (rfootO (all - al) all (-ar) db da).2.2.1 = true ∧
    LeF 0 1 (rfootO al all ar da db).1.1 (rfootO al all ar da db).1.2.1 ∧ LeF (rfootO al all ar da db).1.1 (rfootO al all ar da db).1.2.1 1 1 ∧
    LeF 0 1 (rfootO al all ar da db).2.1 (rfootO al all ar da db).2.2.1 ∧ LeF (rfootO al all ar da db).2.1 (rfootO al all ar da db).2.2.1 da 1 ∧ LeF (rfootO al all ar da db).2.1 (rfootO al all ar da db).2.2.1 db 1 ∧
    (ptEq (rfootO al all ar da db).1.1 (rfootO al all ar da db).1.2.1 0 1 = true → ptEq (rfootO al all ar da db).2.1 (rfootO al all ar da db).2.2.1 da 1 = true) ∧
    (ptEq (rfootO al all ar da db).1.1 (rfootO al all ar da db).1.2.1 1 1 = true → ptEq (rfootO al all ar da db).2.1 (rfootO al all ar da db).2.2.1 db 1 = true) ∧
    ptEq (rfootO al all ar da db).2.1 (rfootO al all ar da db).2.2.1 0 1 = bt ∧
    (ab → ptEq (rfootO al all ar da db).1.1 (rfootO al all ar da db).1.2.1 0 1 = true ∧ ptEq (rfootO (all - al) all (-ar) db da).1.1 (rfootO (all - al) all (-ar) db da).1.2.1 0 1 = true) ∧
    (¬ ab → (rfootO (all - al) all (-ar) db da).1.2.1 = (rfootO al all ar da db).1.2.1 ∧ (rfootO al all ar da db).1.1 + (rfootO (all - al) all (-ar) db da).1.1 = (rfootO al all ar da db).1.2.1 ∧
      validI (rfootO al all ar da db).1.1 (rfootO al all ar da db).1.2.1 = true ∧ validI (rfootO (all - al) all (-ar) db da).1.1 (rfootO (all - al) all (-ar) db da).1.2.1 = true ∧
      0 ≤ (rfootO al all ar da db).1.1 ∧ 0 ≤ (rfootO (all - al) all (-ar) db da).1.1 ∧ 1 ≤ (rfootO al all ar da db).1.2.1 ∧ (rfootO al all ar da db).1.2.1 ≤ 2147352578) := by
  have v01 : validI 0 1 = true := by decide
  have v11 : validI 1 1 = true := by decide
  have l01 : lowI 0 1 = (0, 1, 0) := by decide
  have l11 : lowI 1 1 = (1, 1, 0) := by decide
  have vda : validI da 1 = true := valid_one D2.1 (by omega)
  have vdb : validI db 1 = true := valid_one D3.1 (by omega)
  have lda : lowI da 1 = (da, 1, 0) := low_one D2.1
  have ldb : lowI db 1 = (db, 1, 0) := low_one D3.1
  have hal : 0 ≤ al * al := sq_nn al
  have sqe : -ar * -ar = ar * ar := Int.neg_mul_neg _ _
  have L2' : 0 ≤ (all - al) * (all - al) := sq_nn _
  have za : all = 0 → al = 0 := fun h => by
    rw [h, Int.zero_mul] at L1
    rcases (by omega : al < 0 ∨ 0 < al ∨ al = 0) with h | h | h
    · have := Int.mul_pos_of_neg_of_neg h h; omega
    · have := Int.mul_pos h h; omega
    · exact h
  have zda : da = 0 → al = 0 := fun h => by
    rw [h, Int.mul_zero] at L1
    rcases (by omega : al < 0 ∨ 0 < al ∨ al = 0) with h | h | h
    · have := Int.mul_pos_of_neg_of_neg h h; omega
    · have := Int.mul_pos h h; omega
    · exact h
  have zdb : db = 0 → all = al := fun h => by
    rw [h, Int.mul_zero] at L2
    rcases (by omega : all - al < 0 ∨ 0 < all - al ∨ all - al = 0) with h | h | h
    · have := Int.mul_pos_of_neg_of_neg h h; omega
    · have := Int.mul_pos h h; omega
    · omega
  by_cases c1 : al ≤ 0
  · have hF : rfootO al all ar da db = ((0, 1, 0), (da, 1, 0)) := by unfold rfootO; rw [if_pos c1, l01, lda]
    have hon : ptEq da 1 0 1 = bt := by
      rw [Bool.eq_iff_iff, ptEq_iff, B, ← Z2, ← Z3]
      constructor
      · exact fun h => .inl h.1
      · rintro (h | h | ⟨_, h⟩)
        · exact ⟨h, rfl⟩
        · have := zdb h; have := eqd (by omega); exact ⟨by omega, rfl⟩
        · omega
    by_cases c0 : all = 0
    · have al0 := za c0
      have e := eqd c0
      have hG : rfootO (all - al) all (-ar) db da = ((0, 1, 0), (db, 1, 0)) := by unfold rfootO; rw [if_pos (by omega), l01, ldb]
      rw [hF, hG]
      dsimp only
      refine ⟨rfl, rfl, by simp [ptEq, e], .of v01 v01 (by omega), .of v01 v11 (by omega), .of v01 vda (by omega), .of vda vda (by omega), .of vda vdb (by omega), fun _ => by simp [ptEq], fun h => by simp [ptEq] at h, hon, fun _ => ⟨rfl, rfl⟩, fun h => absurd (Z1.1 c0) h⟩
    · have hG : rfootO (all - al) all (-ar) db da = ((1, 1, 0), (da, 1, 0)) := by unfold rfootO; rw [if_neg (by omega), if_pos (by omega), l11, lda]
      have hdb : da ≤ db := by
        rcases Int.lt_or_le db da with h | h
        · have h2 := Int.mul_lt_mul_of_pos_left h (by omega : 0 < all)
          have h3 : (all - al) * (all - al) = al * al + all * (all - 2 * al) := by grind
          have h4 := Int.mul_nonneg (by omega : 0 ≤ all) (by omega : 0 ≤ all - 2 * al)
          omega
        · exact h
      rw [hF, hG]
      dsimp only
      refine ⟨rfl, rfl, by simp [ptEq], .of v01 v01 (by omega), .of v01 v11 (by omega), .of v01 vda (by omega), .of vda vda (by omega), .of vda vdb (by omega), fun _ => by simp [ptEq], fun h => by simp [ptEq] at h, hon, fun h => absurd (Z1.2 h) c0, fun _ => ⟨rfl, rfl, v01, v11, by simp, by simp, by simp, by simp⟩⟩
  have call : all ≠ 0 := fun h => by have := za h; omega
  by_cases c2 : all ≤ al
  · have hF : rfootO al all ar da db = ((1, 1, 0), (db, 1, 0)) := by unfold rfootO; rw [if_neg c1, if_pos c2, l11, ldb]
    have hG : rfootO (all - al) all (-ar) db da = ((0, 1, 0), (db, 1, 0)) := by unfold rfootO; rw [if_pos (by omega), l01, ldb]
    have hon : ptEq db 1 0 1 = bt := by
      rw [Bool.eq_iff_iff, ptEq_iff, B, ← Z2, ← Z3]
      constructor
      · exact fun h => .inr (.inl h.1)
      · rintro (h | h | ⟨h0, h⟩)
        · have := zda h; omega
        · exact ⟨h, rfl⟩
        · exfalso
          rw [h0] at L1
          have m1 := Int.mul_le_mul_of_nonneg_right c2 D2.1
          have m2 := Int.mul_lt_mul_of_pos_left (by omega : da < al) (by omega : 0 < al)
          omega
    have hdb : db ≤ da := by
      rcases Int.lt_or_le da db with h | h
      · have h2 := Int.mul_lt_mul_of_pos_left h (by omega : 0 < all)
        have h3 : (all - al) * (all - al) = al * al + all * (all - 2 * al) := by grind
        have h4 := Int.mul_nonneg (by omega : 0 ≤ all) (by omega : 0 ≤ 2 * al - all)
        have h5 : all * (all - 2 * al) = -(all * (2 * al - all)) := by grind
        omega
      · exact h
    rw [hF, hG]
    dsimp only
    refine ⟨rfl, rfl, by simp [ptEq], .of v01 v11 (by omega), .of v11 v11 (by omega), .of v01 vdb (by omega), .of vdb vda (by omega), .of vdb vdb (by omega), fun h => by simp [ptEq] at h, fun _ => by simp [ptEq], hon, fun h => absurd (Z1.2 h) call, fun _ => ⟨rfl, rfl, v11, v01, by simp, by simp, by simp, by simp⟩⟩
  have hF : rfootO al all ar da db = (lowI al all, lowI (ar * ar) all) := by unfold rfootO; rw [if_neg c1, if_neg c2]
  have hG : rfootO (all - al) all (-ar) db da = (lowI (all - al) all, lowI (ar * ar) all) := by unfold rfootO; rw [if_neg (by omega), if_neg (by omega), sqe]
  obtain ⟨v1, g1, hg1, a1, a2, a3, a4⟩ := low_spec (num := al) (den := all) (by omega) (by omega) (by omega) (by omega)
  obtain ⟨v2, g2, hg2, b1, b2, b3, b4⟩ := low_spec (num := ar * ar) (den := all) Q.1 (by omega) (by omega) (by omega)
  obtain ⟨v3, g3, hg3, k1, k2, k3, k4⟩ := low_spec (num := all - al) (den := all) (by omega) (by omega) (by omega) (by omega)
  obtain ⟨r1, r2⟩ := low_rest (al := al) (all := all) (by omega) (by omega) (by omega)
  have bd := (low_bd (num := al) (den := all) (by omega) (by omega)).2.2
  rw [hF, hG]
  dsimp only
  have z1 : (lowI al all).2.2 = 0 := rfl
  have z2 : (lowI (ar * ar) all).2.2 = 0 := rfl
  generalize lowI al all = A at *
  generalize lowI (ar * ar) all = W at *
  generalize lowI (all - al) all = A' at *
  obtain ⟨n, d, _⟩ := A
  obtain ⟨N, D, _⟩ := W
  obtain ⟨n', d', _⟩ := A'
  simp only at *
  have m1 : n ≤ d := by
    rcases Int.lt_or_le d n with h | h
    · have := Int.mul_lt_mul_of_pos_right h (by omega : 0 < g1); omega
    · exact h
  have m2 (X : Int) (h : ar * ar ≤ all * X) : N ≤ X * D := by
    rcases Int.lt_or_le (X * D) N with k | k
    · have e1 := Int.mul_lt_mul_of_pos_right k (by omega : 0 < g2)
      have e2 : X * D * g2 = all * X := by rw [← b2]; grind
      omega
    · exact k
  have m3 := m2 da (by omega)
  have m4 := m2 db (by omega)
  have hon : ptEq N D 0 1 = bt := by
    rw [Bool.eq_iff_iff, ptEq_iff, B, ← Z2, ← Z3]
    constructor
    · rintro ⟨h, _⟩
      have h0 : ar * ar = 0 := by rw [← b1, h]; simp
      have h1 : ar = 0 := by
        rcases (by omega : ar < 0 ∨ 0 < ar ∨ ar = 0) with k | k | k
        · have := Int.mul_pos_of_neg_of_neg k k; omega
        · have := Int.mul_pos k k; omega
        · exact k
      refine .inr (.inr ⟨h1, ?_⟩)
      rcases Int.lt_or_le da al with k | k
      · omega
      · have := Int.mul_le_mul_of_nonneg_left k D1.1
        have := Int.mul_lt_mul_of_pos_right (by omega : al < all) (by omega : 0 < al)
        omega
    · rintro (h | h | ⟨h0, h⟩)
      · have := zda h; omega
      · have := zdb h; omega
      · subst h0
        have hN : N = 0 := by
          rcases (by omega : N ≤ 0 ∨ 1 ≤ N) with k | k
          · omega
          · have := Int.mul_pos (by omega : 0 < N) (by omega : 0 < g2); omega
        subst hN
        exact ⟨rfl, low_zero v2⟩
  refine ⟨z2, z2, by simp [ptEq], .of v01 v1 (by omega), .of v1 v11 (by omega), .of v01 v2 (by omega), .of v2 vda (by omega), .of v2 vdb (by omega), fun h => ?_, fun h => ?_, hon, fun h => absurd (Z1.2 h) call, fun _ => ⟨r1, r2, v1, v3, a3, k3, a4, by omega⟩⟩
  · obtain ⟨h1, h2⟩ := ptEq_iff.1 h; subst h1; omega
  · obtain ⟨h1, h2⟩ := ptEq_iff.1 h; subst h1 h2; omega

theorem feet_all {px py ax ay bx by' : Int} (h1 : InG px) (h2 : InG py) (h3 : InG ax) (h4 : InG ay) (h5 : InG bx) (h6 : InG by') :
    FeetOK px py ax ay bx by' (footI px py ax ay bx by') (footI px py bx by' ax ay) := by
  have B := betw_in h1 h2 h3 h4 h5 h6
  rw [dot_al] at B
  have eqd : distP ax ay bx by' = 0 → distP px py ax ay = distP px py bx by' := fun h => by obtain ⟨rfl, rfl⟩ := (distP_zero _ _ _ _).1 h; rfl
  obtain ⟨q1, q2, q3, q4, q5, q6, q7, q8, q9, q10, q11, q12, q13⟩ := feet_alg (distP_bd h3 h4 h5 h6) (distP_bd h1 h2 h3 h4) (distP_bd h1 h2 h5 h6) (area_sq h1 h2 h3 h4 h5 h6) (foot_lag px py ax ay bx by') (foot_lag2 px py ax ay bx by')
    (distP_zero ax ay bx by') (distP_zero px py ax ay) (distP_zero px py bx by') eqd B
  rw [foot_in h1 h2 h3 h4 h5 h6, foot_in h1 h2 h5 h6 h3 h4, al_back px py ax ay bx by', dist_back ax ay bx by', area_back px py ax ay bx by']
  refine ⟨q1, q2, q3, q4, q5, q6, ?_, ?_, ?_, ?_, q11, fun h => q12 (ptEq_iff.1 h), fun h => q13 fun k => by rw [ptEq_iff.2 k] at h; cases h⟩
  · rw [dist_in h1 h2 h3 h4]; exact q7
  · rw [dist_in h1 h2 h5 h6]; exact q8
  · rw [dist_in h1 h2 h3 h4]; exact q9
  · rw [dist_in h1 h2 h5 h6]; exact q10

end G
end Go.Proofs.Ythdmkkddhhbbgaa
