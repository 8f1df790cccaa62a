/- Lines: a point between divides a segment: the plain law. -/
import Derived.Test.YtjeapimjgojpoaaIr
set_option linter.unusedSimpArgs false
set_option linter.unusedVariables false
set_option maxRecDepth 100000
namespace Go.Proofs.Ytjeapimjgojpoaa
open Go.RowKit
namespace G

/-- The distance of a foot, over a common denominator. -/
theorem foot_K {D e x y al all ar da db : Int} (hD : 0 < D) (he : 0 < e) (h1 : D * all = e * e) (h2 : D * al = e * x) (h3 : D * ar = e * y)
    (hda : 0 ≤ da) (hdb : 0 ≤ db) (ha2 : all ≤ 4611686018427387904) (har : ar * ar ≤ 4611686018427387904) :
    (x ≤ 0 → (rfootO al all ar da db).2.1 * D = (D * da) * (rfootO al all ar da db).2.2.1) ∧ (0 < x → e ≤ x → (rfootO al all ar da db).2.1 * D = (D * db) * (rfootO al all ar da db).2.2.1) ∧
    (0 < x → x < e → (rfootO al all ar da db).2.1 * D = (y * y) * (rfootO al all ar da db).2.2.1) := by
  have hall : 0 < all := by
    rcases Int.lt_or_le 0 all with h | h
    · exact h
    · have := Int.mul_pos he he
      have := Int.mul_le_mul_of_nonneg_left h (by omega : 0 ≤ D); omega
  refine ⟨fun hx => ?_, fun hx hex => ?_, fun hx hex => ?_⟩
  · have : al ≤ 0 := by
      rcases Int.lt_or_le 0 al with h | h
      · have := Int.mul_pos hD h
        have := Int.mul_le_mul_of_nonneg_left hx (by omega : 0 ≤ e); omega
      · exact h
    unfold rfootO
    rw [if_pos this, low_one hda]
    simp only; grind
  · have hal : 0 < al := by
      rcases Int.lt_or_le 0 al with h | h
      · exact h
      · have := Int.mul_pos he hx
        have := Int.mul_le_mul_of_nonneg_left h (by omega : 0 ≤ D); omega
    have hge : all ≤ al := by
      have := Int.mul_le_mul_of_nonneg_left hex (by omega : 0 ≤ e)
      exact Int.le_of_mul_le_mul_left (by omega : D * all ≤ D * al) hD
    unfold rfootO
    rw [if_neg (by omega), if_pos hge, low_one hdb]
    simp only; grind
  · have hal : 0 < al := by
      rcases Int.lt_or_le 0 al with h | h
      · exact h
      · have := Int.mul_pos he hx
        have := Int.mul_le_mul_of_nonneg_left h (by omega : 0 ≤ D); omega
    have hlt : al < all := by
      have := Int.mul_lt_mul_of_pos_left hex he
      exact Int.lt_of_mul_lt_mul_left (by omega : D * al < D * all) (by omega)
    unfold rfootO
    rw [if_neg (by omega), if_neg (by omega)]
    simp only
    have hnn : 0 ≤ ar * ar := sq_nn ar
    obtain ⟨_, g, hg, q1, q2, q3, q4⟩ := low_spec (num := ar * ar) (den := all) hnn (by omega) har ha2
    generalize (lowI (ar * ar) all).1 = N at *
    generalize (lowI (ar * ar) all).2.1 = d at *
    have e1 : (N * D) * (g * D) = (y * y * d) * (g * D) := by
      have b1 : (N * D) * (g * D) = (N * g) * (D * D) := by grind
      have b2 : (ar * ar) * (D * D) = (D * ar) * (D * ar) := by grind
      have b3 : (e * y) * (e * y) = (e * e) * (y * y) := by grind
      have b4 : (D * (d * g)) * (y * y) = (y * y * d) * (g * D) := by grind
      rw [b1, q1, b2, h3, b3, ← h1, ← q2, b4]
    exact Int.eq_of_mul_eq_mul_right (Int.ne_of_gt (Int.mul_pos (by omega) hD)) e1

theorem sq_mono {a b : Int} (h : 0 ≤ a) (h2 : a ≤ b) : a * a ≤ b * b := by
  have h3 := Int.mul_le_mul_of_nonneg_left h2 h
  have h4 := Int.mul_le_mul_of_nonneg_right h2 (by omega : 0 ≤ b)
  omega
/-- A foot against another one, over a common denominator. -/
theorem K_le {D n d K n1 d1 K1 : Int} (hD : 0 < D) (h : n * D = K * d) (h1 : n1 * D = K1 * d1) (hd : 0 < d) (hd1 : 0 < d1) (hk : K ≤ K1) : n * d1 ≤ n1 * d := by
  have e1 : (n * d1) * D = K * (d * d1) := by rw [← Int.mul_assoc, ← h]; grind
  have e2 : (n1 * d) * D = K1 * (d * d1) := by
    have : K1 * (d * d1) = (K1 * d1) * d := by grind
    rw [this, ← h1]; grind
  have e3 := Int.mul_le_mul_of_nonneg_right hk (Int.le_of_lt (Int.mul_pos hd hd1))
  exact Int.le_of_mul_le_mul_right (by omega : (n * d1) * D ≤ (n1 * d) * D) hD
theorem K_eq {D n d K n1 d1 K1 : Int} (hD : 0 < D) (h : n * D = K * d) (h1 : n1 * D = K1 * d1) (hd : 0 < d) (hd1 : 0 < d1) (hk : K = K1) : n1 * d = n * d1 :=
  Int.le_antisymm (K_le hD h1 h hd1 hd (by omega)) (K_le hD h h1 hd hd1 (by omega))
/-- A segment that a point divides. -/
theorem divide_alg {D E AL AR da dq db n d n1 d1 n2 d2 : Int} (hD : 0 < D) (hE : 0 < E) (hED : E < D) (L1 : AL * AL + AR * AR = D * da) (L2 : (AL - E) * (AL - E) + AR * AR = D * dq) (L3 : (D - AL) * (D - AL) + AR * AR = D * db)
    (hd : 0 < d) (hd1 : 0 < d1) (hd2 : 0 < d2)
    (F : (AL ≤ 0 → n * D = (D * da) * d) ∧ (0 < AL → D ≤ AL → n * D = (D * db) * d) ∧ (0 < AL → AL < D → n * D = (AR * AR) * d))
    (F1 : (AL ≤ 0 → n1 * D = (D * da) * d1) ∧ (0 < AL → E ≤ AL → n1 * D = (D * dq) * d1) ∧ (0 < AL → AL < E → n1 * D = (AR * AR) * d1))
    (F2 : (AL - E ≤ 0 → n2 * D = (D * dq) * d2) ∧ (0 < AL - E → D - E ≤ AL - E → n2 * D = (D * db) * d2) ∧ (0 < AL - E → AL - E < D - E → n2 * D = (AR * AR) * d2)) :
    n * d1 ≤ n1 * d ∧ n * d2 ≤ n2 * d ∧ (n1 * d = n * d1 ∨ n2 * d = n * d2) := by
  have sq : 0 ≤ (AL - E) * (AL - E) := sq_nn _
  by_cases c1 : AL ≤ 0
  · have f := F.1 c1
    have f1 := F1.1 c1
    have f2 := F2.1 (by omega)
    have m : AL * AL ≤ (AL - E) * (AL - E) := by
      have := sq_mono (a := -AL) (b := -(AL - E)) (by omega) (by omega)
      have e1 := Int.neg_mul_neg AL AL
      have e2 := Int.neg_mul_neg (AL - E) (AL - E)
      omega
    exact ⟨K_le hD f f1 hd hd1 (by omega), K_le hD f f2 hd hd2 (by omega), .inl (K_eq hD f f1 hd hd1 rfl)⟩
  · by_cases c2 : D ≤ AL
    · have f := F.2.1 (by omega) c2
      have f1 := F1.2.1 (by omega) (by omega)
      have f2 := F2.2.1 (by omega) (by omega)
      have m : (D - AL) * (D - AL) ≤ (AL - E) * (AL - E) := by
        have := sq_mono (a := AL - D) (b := AL - E) (by omega) (by omega)
        have e1 := Int.neg_mul_neg (AL - D) (AL - D)
        rw [Int.neg_sub] at e1
        omega
      exact ⟨K_le hD f f1 hd hd1 (by omega), K_le hD f f2 hd hd2 (by omega), .inr (K_eq hD f f2 hd hd2 rfl)⟩
    · have f := F.2.2 (by omega) (by omega)
      by_cases c3 : AL < E
      · have f1 := F1.2.2 (by omega) c3
        have f2 := F2.1 (by omega)
        exact ⟨K_le hD f f1 hd hd1 (by omega), K_le hD f f2 hd hd2 (by omega), .inl (K_eq hD f f1 hd hd1 rfl)⟩
      · have f1 := F1.2.1 (by omega) (by omega)
        by_cases c4 : AL ≤ E
        · have f2 := F2.1 (by omega)
          have : (AL - E) * (AL - E) = 0 := by rw [show AL - E = 0 by omega]; rfl
          exact ⟨K_le hD f f1 hd hd1 (by omega), K_le hD f f2 hd hd2 (by omega), .inl (K_eq hD f f1 hd hd1 (by omega))⟩
        · have f2 := F2.2.2 (by omega) (by omega)
          exact ⟨K_le hD f f1 hd hd1 (by omega), K_le hD f f2 hd hd2 (by omega), .inr (K_eq hD f f2 hd hd2 rfl)⟩

/-- The distances of the parts of a segment from a point. -/
theorem divide_foot {px py ax ay bx bz qx qy : Int} (h1 : InG px) (h2 : InG py) (h3 : InG ax) (h4 : InG ay) (h5 : InG bx) (h6 : InG bz) (h7 : InG qx) (h8 : InG qy)
    (hb : betwI qx qy ax ay bx bz = true) (na : ptEq qx qy ax ay = false) (nb : ptEq qx qy bx bz = false)
    (o : 1 ≤ (footI px py ax ay bx bz).2.2.1) (o1 : 1 ≤ (footI px py ax ay qx qy).2.2.1) (o2 : 1 ≤ (footI px py qx qy bx bz).2.2.1) :
    (footI px py ax ay bx bz).2.1 * (footI px py ax ay qx qy).2.2.1 ≤ (footI px py ax ay qx qy).2.1 * (footI px py ax ay bx bz).2.2.1 ∧
    (footI px py ax ay bx bz).2.1 * (footI px py qx qy bx bz).2.2.1 ≤ (footI px py qx qy bx bz).2.1 * (footI px py ax ay bx bz).2.2.1 ∧
    ((footI px py ax ay qx qy).2.1 * (footI px py ax ay bx bz).2.2.1 = (footI px py ax ay bx bz).2.1 * (footI px py ax ay qx qy).2.2.1 ∨
     (footI px py qx qy bx bz).2.1 * (footI px py ax ay bx bz).2.2.1 = (footI px py ax ay bx bz).2.1 * (footI px py qx qy bx bz).2.2.1) := by
  obtain ⟨hA, hdot⟩ : areaP ax ay bx bz qx qy = 0 ∧ dotP qx qy ax ay bx bz < 0 := by
    rcases (betw_in h7 h8 h3 h4 h5 h6).1 hb with ⟨rfl, rfl⟩ | ⟨rfl, rfl⟩ | h
    · simp [ptEq] at na
    · simp [ptEq] at nb
    · exact h
  rw [dot_al] at hdot
  have LE := foot_lag qx qy ax ay bx bz
  have LW := foot_lag2 qx qy ax ay bx bz
  rw [hA] at LE LW
  simp only [Int.mul_zero, Int.add_zero] at LE LW
  have hV := distP_bd h7 h8 h3 h4
  have hW := distP_bd h7 h8 h5 h6
  have hDb := distP_bd h3 h4 h5 h6
  have hda := distP_bd h1 h2 h3 h4
  have hdb := distP_bd h1 h2 h5 h6
  have hdq := distP_bd h1 h2 h7 h8
  have q1 := area_sq h1 h2 h3 h4 h5 h6
  have q2 := area_sq h1 h2 h3 h4 h7 h8
  have q3 := area_sq h1 h2 h7 h8 h5 h6
  rw [foot_in h1 h2 h3 h4 h5 h6] at o ⊢
  rw [foot_in h1 h2 h3 h4 h7 h8] at o1 ⊢
  rw [foot_in h1 h2 h7 h8 h5 h6] at o2 ⊢
  have L1 := foot_lag px py ax ay bx bz
  have L3 := foot_lag2 px py ax ay bx bz
  have L2 : (alP px py ax ay bx bz - alP qx qy ax ay bx bz) * (alP px py ax ay bx bz - alP qx qy ax ay bx bz) + areaP ax ay bx bz px py * areaP ax ay bx bz px py = distP ax ay bx bz * distP px py qx qy := by
    have e1 : (alP px py ax ay bx bz - alP qx qy ax ay bx bz) * (alP px py ax ay bx bz - alP qx qy ax ay bx bz) + (areaP ax ay bx bz px py - areaP ax ay bx bz qx qy) * (areaP ax ay bx bz px py - areaP ax ay bx bz qx qy) = distP ax ay bx bz * distP px py qx qy := by
      unfold alP areaP distP; grind
    rw [hA, Int.sub_zero] at e1
    exact e1
  have M1 : distP ax ay bx bz * alP px py ax ay qx qy = alP qx qy ax ay bx bz * alP px py ax ay bx bz := by
    have e1 : distP ax ay bx bz * alP px py ax ay qx qy = alP qx qy ax ay bx bz * alP px py ax ay bx bz + areaP ax ay bx bz qx qy * areaP ax ay bx bz px py := by unfold alP areaP distP; grind
    rw [hA, Int.zero_mul, Int.add_zero] at e1; exact e1
  have M2 : distP ax ay bx bz * areaP ax ay qx qy px py = alP qx qy ax ay bx bz * areaP ax ay bx bz px py := by
    have e1 : distP ax ay bx bz * areaP ax ay qx qy px py = alP qx qy ax ay bx bz * areaP ax ay bx bz px py - areaP ax ay bx bz qx qy * alP px py ax ay bx bz := by unfold alP areaP distP; grind
    rw [hA, Int.zero_mul, Int.sub_zero] at e1; exact e1
  have M3 : distP ax ay bx bz * alP px py qx qy bx bz = (distP ax ay bx bz - alP qx qy ax ay bx bz) * (alP px py ax ay bx bz - alP qx qy ax ay bx bz) := by
    have e1 : distP ax ay bx bz * alP px py qx qy bx bz = (distP ax ay bx bz - alP qx qy ax ay bx bz) * (alP px py ax ay bx bz - alP qx qy ax ay bx bz) - areaP ax ay bx bz qx qy * (areaP ax ay bx bz px py - areaP ax ay bx bz qx qy) := by unfold alP areaP distP; grind
    rw [hA, Int.zero_mul, Int.sub_zero] at e1; exact e1
  have M4 : distP ax ay bx bz * areaP qx qy bx bz px py = (distP ax ay bx bz - alP qx qy ax ay bx bz) * areaP ax ay bx bz px py := by
    have e1 : distP ax ay bx bz * areaP qx qy bx bz px py = (distP ax ay bx bz - alP qx qy ax ay bx bz) * areaP ax ay bx bz px py - areaP ax ay bx bz qx qy * (distP ax ay bx bz - alP px py ax ay bx bz) := by unfold alP areaP distP; grind
    rw [hA, Int.zero_mul, Int.sub_zero] at e1; exact e1
  have hV2 : distP ax ay qx qy = distP qx qy ax ay := by unfold distP; grind
  have hW2 : distP qx qy bx bz = distP qx qy bx bz := rfl
  rw [hV2] at o1 ⊢
  generalize distP ax ay bx bz = D at *
  generalize alP qx qy ax ay bx bz = E at *
  generalize alP px py ax ay bx bz = AL at *
  generalize areaP ax ay bx bz px py = AR at *
  generalize distP px py ax ay = da at *
  generalize distP px py bx bz = db at *
  generalize distP px py qx qy = dq at *
  generalize distP qx qy ax ay = VV at *
  generalize distP qx qy bx bz = WW at *
  generalize alP px py ax ay qx qy = al1 at *
  generalize alP px py qx qy bx bz = al2 at *
  generalize areaP ax ay qx qy px py = ar1 at *
  generalize areaP qx qy bx bz px py = ar2 at *
  have hE : 0 < E := by omega
  have hD : 0 < D := by
    rcases Int.lt_or_le 0 D with h | h
    · exact h
    · have := Int.mul_pos hE hE
      have := Int.mul_le_mul_of_nonneg_right h hV.1
      omega
  have hED : E < D := by
    have h1 := Int.mul_lt_mul_of_pos_left (by omega : VV < E) hD
    exact Int.lt_of_mul_lt_mul_right (by omega : E * E < D * E) (by omega)
  have F := foot_K (D := D) (e := D) (x := AL) (y := AR) (all := D) (al := AL) (ar := AR) (da := da) (db := db) hD hD rfl rfl rfl hda.1 hdb.1 (by omega) (by omega)
  have F1 := foot_K (D := D) (e := E) (x := AL) (y := AR) (all := VV) (al := al1) (ar := ar1) (da := da) (db := dq) hD hE (by omega) (by omega) (by omega) hda.1 hdq.1 (by omega) (by omega)
  have F2 := foot_K (D := D) (e := D - E) (x := AL - E) (y := AR) (all := WW) (al := al2) (ar := ar2) (da := dq) (db := db) hD (by omega) (by omega) (by omega) (by omega) hdq.1 hdb.1 (by omega) (by omega)
  exact divide_alg hD hE hED L1 L2 L3 (by omega) (by omega) (by omega) F F1 F2

end G
end Go.Proofs.Ytjeapimjgojpoaa
