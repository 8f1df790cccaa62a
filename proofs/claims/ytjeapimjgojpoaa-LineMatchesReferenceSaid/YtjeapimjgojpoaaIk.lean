/- Lines: plain laws of the nearest place. -/
import Derived.Test.YtjeapimjgojpoaaIi
set_option linter.unusedSimpArgs false
set_option linter.unusedVariables false
set_option maxRecDepth 100000
namespace Go.Proofs.Ytjeapimjgojpoaa
open Go.RowKit
namespace G

theorem fr_lt_le {n1 d1 n2 d2 n3 d3 : Int} (h1 : 0 < d1) (h2 : 0 < d2) (h3 : 0 < d3) (h : n1 * d2 < n2 * d1) (k : n2 * d3 ≤ n3 * d2) : n1 * d3 < n3 * d1 := by
  have a1 : (n1 * d2) * d3 < (n2 * d1) * d3 := Int.mul_lt_mul_of_pos_right h h3
  have a2 : (n2 * d3) * d1 ≤ (n3 * d2) * d1 := Int.mul_le_mul_of_nonneg_right k (by omega)
  have e1 : (n1 * d2) * d3 = (n1 * d3) * d2 := by grind
  have e2 : (n2 * d1) * d3 = (n2 * d3) * d1 := by grind
  have e3 : (n3 * d2) * d1 = (n3 * d1) * d2 := by grind
  exact Int.lt_of_mul_lt_mul_right (by omega : (n1 * d3) * d2 < (n3 * d1) * d2) (by omega)
theorem fr_le_le {n1 d1 n2 d2 n3 d3 : Int} (h1 : 0 < d1) (h2 : 0 < d2) (h3 : 0 < d3) (h : n1 * d2 ≤ n2 * d1) (k : n2 * d3 ≤ n3 * d2) : n1 * d3 ≤ n3 * d1 := by
  have a1 : (n1 * d2) * d3 ≤ (n2 * d1) * d3 := Int.mul_le_mul_of_nonneg_right h (by omega)
  have a2 : (n2 * d3) * d1 ≤ (n3 * d2) * d1 := Int.mul_le_mul_of_nonneg_right k (by omega)
  have e1 : (n1 * d2) * d3 = (n1 * d3) * d2 := by grind
  have e2 : (n2 * d1) * d3 = (n2 * d3) * d1 := by grind
  have e3 : (n3 * d2) * d1 = (n3 * d1) * d2 := by grind
  exact Int.le_of_mul_le_mul_right (by omega : (n1 * d3) * d2 ≤ (n3 * d1) * d2) (by omega)
theorem fr_le_lt {n1 d1 n2 d2 n3 d3 : Int} (h1 : 0 < d1) (h2 : 0 < d2) (h3 : 0 < d3) (h : n1 * d2 ≤ n2 * d1) (k : n2 * d3 < n3 * d2) : n1 * d3 < n3 * d1 := by
  have a1 : (n1 * d2) * d3 ≤ (n2 * d1) * d3 := Int.mul_le_mul_of_nonneg_right h (by omega)
  have a2 : (n2 * d3) * d1 < (n3 * d2) * d1 := Int.mul_lt_mul_of_pos_right k h1
  have e1 : (n1 * d2) * d3 = (n1 * d3) * d2 := by grind
  have e2 : (n2 * d1) * d3 = (n2 * d3) * d1 := by grind
  have e3 : (n3 * d2) * d1 = (n3 * d1) * d2 := by grind
  exact Int.lt_of_mul_lt_mul_right (by omega : (n1 * d3) * d2 < (n3 * d1) * d2) (by omega)
/-- The place has a valid square of its distance, that is not negative. -/
def Spt.ok (s : Spt) : Prop := validI s.an s.ad = true ∧ 0 ≤ s.an ∧ 1 ≤ s.ad
theorem cmp_spec {n1 d1 n2 d2 : Int} (h1 : validI n1 d1 = true) (h2 : validI n2 d2 = true) : (compareI n1 d1 n2 d2).2 = 0 ∧ ((compareI n1 d1 n2 d2).1 < 0 ↔ n1 * d2 < n2 * d1) ∧ ((compareI n1 d1 n2 d2).1 = 0 ↔ n1 * d2 = n2 * d1) := by
  unfold compareI
  rw [h1, h2]
  simp only [Bool.and_self, if_true, true_and]
  unfold cmpI
  by_cases hp : ptEq n1 d1 n2 d2 = true
  · obtain ⟨rfl, rfl⟩ := ptEq_iff.1 hp
    rw [if_pos hp]; exact ⟨by omega, by omega⟩
  · rw [if_neg hp]
    have hne : n1 * d2 ≠ n2 * d1 := fun h => hp (ptEq_iff.2 (cross_eq h1 h2 h))
    split <;> constructor <;> omega
theorem less_iff {s b : Spt} (hs : s.ok) (hb : b.ok) : s.less b = true ↔ s.an * b.ad < b.an * s.ad := by
  unfold Spt.less; rw [decide_eq_true_iff]; exact (cmp_spec hs.1 hb.1).2.1
theorem spot_ok {l : List P2} {px py : Int} (h : validL l = true) (hon : onB px py = true) {k : Nat} (hk : k + 1 < l.length) : (spotI l px py k).ok := by
  obtain ⟨p1, p2⟩ := onB_out hon
  obtain ⟨a1, a2⟩ := valid_pt h (k := k) (by omega)
  obtain ⟨b1, b2⟩ := valid_pt h hk
  have hf := (feet_all p1 p2 a1 a2 b1 b2).aw
  unfold LeF at hf
  have hv : validI 0 1 = true ∧ validI (footI px py (pt l k).1 (pt l k).2 (pt l (k + 1)).1 (pt l (k + 1)).2).2.1 (footI px py (pt l k).1 (pt l k).2 (pt l (k + 1)).1 (pt l (k + 1)).2).2.2.1 = true := by
    have h1 := hf.1
    unfold compareI at h1
    split at h1
    · rename_i hh; simpa using hh
    · simp at h1
  obtain ⟨f1, f2, f3, f4⟩ := foot_bd p1 p2 a1 a2 b1 b2
  have := (valid_parts hv.2).1
  exact ⟨hv.2, f3.1, by unfold spotI; simp only; omega⟩
theorem eq0_false {s : Spt} (h : s.ok) : s.eqB spt0 = false := by
  unfold Spt.eqB spt0
  have : ¬ s.ad = 0 := by have := h.2.2; omega
  simp [this]
/-- The first nearest segment. -/
theorem best_spec {l : List P2} {px py : Int} (h : validL l = true) (hon : onB px py = true) : ∀ k, k + 1 < l.length → ∃ j, j ≤ k ∧ bestN l px py (k + 1) = spotI l px py j ∧
    (∀ i, i ≤ k → (spotI l px py j).an * (spotI l px py i).ad ≤ (spotI l px py i).an * (spotI l px py j).ad) ∧ (∀ i, i < j → (spotI l px py j).an * (spotI l px py i).ad < (spotI l px py i).an * (spotI l px py j).ad)
  | 0, hk => by
    refine ⟨0, Nat.le_refl _, ?_, fun i hi => ?_, fun i hi => by omega⟩
    · show keepS spt0 (spotI l px py 0) = _
      unfold keepS
      rw [if_pos (by simp [Spt.eqB])]
    · obtain rfl : i = 0 := by omega
      exact Int.le_refl _
  | k + 1, hk => by
    obtain ⟨j, hj, e, h1, h2⟩ := best_spec h hon k (by omega)
    have oj := spot_ok h hon (k := j) (by omega)
    have os := spot_ok h hon (k := k + 1) hk
    have e2 : bestN l px py (k + 1 + 1) = keepS (spotI l px py j) (spotI l px py (k + 1)) := by rw [← e]; rfl
    rw [e2]
    unfold keepS
    rw [eq0_false oj, Bool.false_or]
    by_cases hl : (spotI l px py (k + 1)).less (spotI l px py j) = true
    · rw [if_pos hl]
      have hl' := (less_iff os oj).1 hl
      refine ⟨k + 1, Nat.le_refl _, rfl, fun i hi => ?_, fun i hi => ?_⟩
      · rcases (by omega : i ≤ k ∨ i = k + 1) with hi | hi
        · have oi := spot_ok h hon (k := i) (by omega)
          exact Int.le_of_lt (fr_lt_le (by have := os.2.2; omega) (by have := oj.2.2; omega) (by have := oi.2.2; omega) hl' (h1 i hi))
        · subst hi; exact Int.le_refl _
      · have oi := spot_ok h hon (k := i) (by omega)
        exact fr_lt_le (by have := os.2.2; omega) (by have := oj.2.2; omega) (by have := oi.2.2; omega) hl' (h1 i (by omega))
    · rw [if_neg hl]
      refine ⟨j, by omega, rfl, fun i hi => ?_, h2⟩
      rcases (by omega : i ≤ k ∨ i = k + 1) with hi | hi
      · exact h1 i hi
      · subst hi
        exact Int.not_lt.1 fun hh => hl ((less_iff os oj).2 hh)
/-- All that is wanted of the place of a valid line. -/
structure Best (l : List P2) (px py : Int) (j : Nat) : Prop where
  lt : j + 1 < l.length
  eq : locS l px py = spotI l px py j
  err : locE l px py = 0
  near : ∀ i, i + 1 < l.length → (compareI (spotI l px py i).an (spotI l px py i).ad (spotI l px py j).an (spotI l px py j).ad).2 = 0 ∧ 0 ≤ (compareI (spotI l px py i).an (spotI l px py i).ad (spotI l px py j).an (spotI l px py j).ad).1
  first : ∀ i, i < j → (compareI (spotI l px py i).an (spotI l px py i).ad (spotI l px py j).an (spotI l px py j).ad).1 ≠ 0
theorem best_of {l : List P2} {px py : Int} (h : validL l = true) (hon : onB px py = true) : ∃ j, Best l px py j := by
  have hl := valid_len h
  obtain ⟨j, hj, e, h1, h2⟩ := best_spec h hon (l.length - 2) (by omega)
  have e2 : l.length - 2 + 1 = l.length - 1 := by omega
  rw [e2] at e
  have oj := spot_ok h hon (k := j) (by omega)
  refine ⟨j, by omega, by unfold locS; rw [h, hon]; exact e, by unfold locE; rw [h, hon]; rfl, fun i hi => ?_, fun i hi => ?_⟩
  · have oi := spot_ok h hon hi
    obtain ⟨c1, c2, c3⟩ := cmp_spec oi.1 oj.1
    have := h1 i (by omega)
    refine ⟨c1, ?_⟩
    rcases Int.lt_or_le (compareI (spotI l px py i).an (spotI l px py i).ad (spotI l px py j).an (spotI l px py j).ad).1 0 with hh | hh
    · have := c2.1 hh; omega
    · exact hh
  · have oi := spot_ok h hon (k := i) (by omega)
    obtain ⟨c1, c2, c3⟩ := cmp_spec oi.1 oj.1
    have := h2 i hi
    exact fun hh => by have := c3.1 hh; omega

/-- What the law of the nearest place asks of the place. -/
def onN (l : List P2) (px py : Int) : Nat → Bool
  | 0 => false
  | k + 1 => onN l px py k || betwI px py (pt l k).1 (pt l k).2 (pt l (k + 1)).1 (pt l (k + 1)).2
theorem onN_iff (l : List P2) (px py : Int) : ∀ n, onN l px py n = true ↔ ∃ i, i < n ∧ betwI px py (pt l i).1 (pt l i).2 (pt l (i + 1)).1 (pt l (i + 1)).2 = true
  | 0 => by simp [onN]
  | n + 1 => by
    simp only [onN, Bool.or_eq_true, onN_iff l px py n]
    constructor
    · rintro (⟨i, hi, h⟩ | h)
      · exact ⟨i, by omega, h⟩
      · exact ⟨n, by omega, h⟩
    · rintro ⟨i, hi, h⟩
      rcases (by omega : i < n ∨ i = n) with h2 | h2
      · exact .inl ⟨i, h2, h⟩
      · subst h2; exact .inr h
theorem spot_on {l : List P2} {px py : Int} (h : validL l = true) (hon : onB px py = true) {k : Nat} (hk : k + 1 < l.length) : ptEq (spotI l px py k).an (spotI l px py k).ad 0 1 = betwI px py (pt l k).1 (pt l k).2 (pt l (k + 1)).1 (pt l (k + 1)).2 := by
  obtain ⟨p1, p2⟩ := onB_out hon
  obtain ⟨a1, a2⟩ := valid_pt h (k := k) (by omega)
  obtain ⟨b1, b2⟩ := valid_pt h hk
  exact (feet_all p1 p2 a1 a2 b1 b2).on
theorem ok_zero {s : Spt} (h : s.ok) : (s.an = 0) ↔ ptEq s.an s.ad 0 1 = true := by
  rw [ptEq_iff]
  refine ⟨fun e => ⟨e, ?_⟩, fun e => e.1⟩
  have h1 := h.1
  rw [e] at h1
  exact low_zero h1
theorem betw_side {px py ax ay bx bz : Int} (h1 : InG px) (h2 : InG py) (h3 : InG ax) (h4 : InG ay) (h5 : InG bx) (h6 : InG bz) (h : betwI px py ax ay bx bz = true) : turnI ax ay bx bz px py = 0 := by
  rw [turn_in h3 h4 h5 h6 h1 h2]
  rcases (betw_in h1 h2 h3 h4 h5 h6).1 h with ⟨rfl, rfl⟩ | ⟨rfl, rfl⟩ | h
  · have : areaP px py bx bz px py = 0 := by unfold areaP; grind
    rw [this]; rfl
  · have : areaP ax ay px py px py = 0 := by unfold areaP; grind
    rw [this]; rfl
  · rw [h.1]; rfl
theorem inside_side {px py ax ay bx bz : Int} (h1 : InG px) (h2 : InG py) (h3 : InG ax) (h4 : InG ay) (h5 : InG bx) (h6 : InG bz)
    (hp : 0 < (footI px py ax ay bx bz).1.1) (hq : (footI px py ax ay bx bz).1.1 < (footI px py ax ay bx bz).1.2.1) (hs : turnI ax ay bx bz px py = 0) : (footI px py ax ay bx bz).2.1 = 0 := by
  rw [foot_in h1 h2 h3 h4 h5 h6] at hp hq ⊢
  rw [turn_in h3 h4 h5 h6 h1 h2] at hs
  have ha : areaP ax ay bx bz px py = 0 := by have := sgn_cases (areaP ax ay bx bz px py); omega
  unfold rfootO at hp hq ⊢
  split at hp
  · simp [lowI] at hp
  · rename_i hc1
    rw [if_neg hc1] at hq ⊢
    split at hp
    · rename_i hc2
      rw [if_pos hc2] at hq
      have : lowI 1 1 = (1, 1, 0) := by kernel_rfl
      rw [this] at hq
      simp at hq
    · rename_i hc2
      rw [if_neg hc2, ha]
      simp [lowI]
theorem near_law {l : List P2} {px py : Int} (h : validL l = true) (hon : onB px py = true) {j : Nat} (b : Best l px py j) :
    onN l px py (l.length - 1) = decide ((spotI l px py j).an = 0) ∧ (onN l px py (l.length - 1) = true → (spotI l px py j).side = 0) ∧
    (0 < (spotI l px py j).pn → (spotI l px py j).pn < (spotI l px py j).pd → decide ((spotI l px py j).side = 0) = onN l px py (l.length - 1)) := by
  obtain ⟨p1, p2⟩ := onB_out hon
  have oj := spot_ok h hon b.lt
  have e1 : onN l px py (l.length - 1) = decide ((spotI l px py j).an = 0) := by
    rw [Bool.eq_iff_iff, onN_iff, decide_eq_true_iff]
    constructor
    · rintro ⟨i, hi, hb⟩
      have oi := spot_ok h hon (k := i) (by omega)
      have hz := (ok_zero oi).2 (by rw [spot_on h hon (by omega)]; exact hb)
      obtain ⟨c1, c2, c3⟩ := cmp_spec oi.1 oj.1
      have hn := (b.near i (by omega)).2
      rcases Int.lt_or_le 0 (spotI l px py j).an with hh | hh
      · exfalso
        have : (spotI l px py i).an * (spotI l px py j).ad < (spotI l px py j).an * (spotI l px py i).ad := by
          rw [hz, Int.zero_mul]; exact Int.mul_pos hh (by have := oi.2.2; omega)
        have := c2.2 this; omega
      · have := oj.2.1; omega
    · intro hz
      exact ⟨j, by have := b.lt; omega, by rw [← spot_on h hon b.lt]; exact (ok_zero oj).1 hz⟩
  obtain ⟨a1, a2⟩ := valid_pt h (k := j) (by have := b.lt; omega)
  obtain ⟨b1, b2⟩ := valid_pt h b.lt
  have hside : onN l px py (l.length - 1) = true → (spotI l px py j).side = 0 := fun ho => by
    rw [e1, decide_eq_true_iff] at ho
    have hb := spot_on h hon b.lt
    rw [(ok_zero oj).1 ho] at hb
    exact betw_side p1 p2 a1 a2 b1 b2 hb.symm
  refine ⟨e1, hside, fun i1 i2 => ?_⟩
  rw [Bool.eq_iff_iff, decide_eq_true_iff]
  refine ⟨fun hs => ?_, hside⟩
  rw [e1, decide_eq_true_iff]
  exact inside_side p1 p2 a1 a2 b1 b2 i1 i2 hs

end G
end Go.Proofs.Ytjeapimjgojpoaa
