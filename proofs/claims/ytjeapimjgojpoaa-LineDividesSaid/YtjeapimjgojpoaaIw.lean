/- Lines: the line with a further point on one of its segments. -/
import Derived.Test.YtjeapimjgojpoaaIv
set_option linter.unusedSimpArgs false
set_option linter.unusedVariables false
set_option maxRecDepth 100000
namespace Go.Proofs.Ytjeapimjgojpoaa
open Go.RowKit
namespace G

def moreL (l : List P2) (q : P2) (i : Nat) : List P2 := (l.take (i + 1) ++ [q]) ++ l.drop (i + 1)
theorem more_len {l : List P2} {q : P2} {i : Nat} (hi : i + 1 < l.length) : (moreL l q i).length = l.length + 1 := by
  simp [moreL]; omega
theorem pt_lo {l : List P2} {q : P2} {i k : Nat} (hi : i + 1 < l.length) (hk : k ≤ i) : pt (moreL l q i) k = pt l k := by
  unfold pt moreL
  rw [List.append_assoc, List.getElem?_append_left (by simp; omega), List.getElem?_take, if_pos (by omega)]
theorem pt_mid {l : List P2} {q : P2} {i : Nat} (hi : i + 1 < l.length) : pt (moreL l q i) (i + 1) = q := by
  unfold pt moreL
  rw [List.append_assoc, List.getElem?_append_right (by simp; omega)]
  simp [Nat.min_eq_left (show i + 1 ≤ l.length by omega)]
theorem pt_hi {l : List P2} {q : P2} {i k : Nat} (hi : i + 1 < l.length) (hk : i + 1 < k) : pt (moreL l q i) k = pt l (k - 1) := by
  unfold pt moreL
  rw [List.getElem?_append_right (by simp; omega), List.getElem?_drop]
  congr 2
  simp [Nat.min_eq_left (show i + 1 ≤ l.length by omega)]; omega
theorem more_valid {l : List P2} {q : P2} {i : Nat} (hv : validL l = true) (h40 : l.length < 40) (hi : i + 1 < l.length) (hq : onB q.1 q.2 = true) (na : ptEq q.1 q.2 (pt l i).1 (pt l i).2 = false) (nb : ptEq q.1 q.2 (pt l (i + 1)).1 (pt l (i + 1)).2 = false) : validL (moreL l q i) = true := by
  have hl := valid_len hv
  unfold validL
  simp only [Bool.and_eq_true, decide_eq_true_eq, more_len hi]
  refine ⟨preOK_all _ fun k hk => ?_, by omega, by omega⟩
  rcases (by omega : k ≤ i ∨ k = i + 1 ∨ k = i + 2 ∨ i + 2 < k) with h | h | h | h
  · have h1 := valid_step hv (k := k) (by omega)
    unfold stepOK at h1 ⊢
    rw [pt_lo hi h, pt_lo hi (by omega : k - 1 ≤ i)]
    exact h1
  · subst h
    unfold stepOK
    rw [pt_mid hi, show i + 1 - 1 = i by omega, pt_lo hi (Nat.le_refl _), hq, na]
    simp
  · subst h
    have h1 := valid_step hv (k := i + 1) (by omega)
    unfold stepOK at h1 ⊢
    rw [pt_hi hi (by omega), show i + 2 - 1 = i + 1 by omega, pt_mid hi, ptEq_comm, nb]
    simp only [Bool.and_eq_true] at h1 ⊢
    exact ⟨h1.1, by simp⟩
  · have h1 := valid_step hv (k := k - 1) (by omega)
    unfold stepOK at h1 ⊢
    rw [pt_hi hi (by omega : i + 1 < k), pt_hi hi (by omega : i + 1 < k - 1)]
    simp only [Bool.and_eq_true] at h1 ⊢
    refine ⟨h1.1, ?_⟩
    have h2 := h1.2
    simp only [Bool.or_eq_true, decide_eq_true_eq] at h2 ⊢
    rcases h2 with h2 | h2
    · omega
    · exact .inr h2
theorem aw_lo {l : List P2} {q : P2} {i k : Nat} {px py : Int} (hi : i + 1 < l.length) (hk : k < i) : (spotI (moreL l q i) px py k).an = (spotI l px py k).an ∧ (spotI (moreL l q i) px py k).ad = (spotI l px py k).ad := by
  unfold spotI
  rw [pt_lo hi (by omega : k ≤ i), pt_lo hi (by omega : k + 1 ≤ i)]
  exact ⟨rfl, rfl⟩
theorem aw_hi {l : List P2} {q : P2} {i k : Nat} {px py : Int} (hi : i + 1 < l.length) (hk : i < k) : (spotI (moreL l q i) px py (k + 1)).an = (spotI l px py k).an ∧ (spotI (moreL l q i) px py (k + 1)).ad = (spotI l px py k).ad := by
  unfold spotI
  rw [pt_hi hi (by omega : i + 1 < k + 1), pt_hi hi (by omega : i + 1 < k + 1 + 1)]
  exact ⟨rfl, rfl⟩
theorem more_law {l : List P2} {q : P2} {i j j' : Nat} {px py : Int} (hv : validL l = true) (hon : onB px py = true) (h40 : l.length < 40) (hi : i + 1 < l.length)
    (hb : betwI q.1 q.2 (pt l i).1 (pt l i).2 (pt l (i + 1)).1 (pt l (i + 1)).2 = true) (na : ptEq q.1 q.2 (pt l i).1 (pt l i).2 = false) (nb : ptEq q.1 q.2 (pt l (i + 1)).1 (pt l (i + 1)).2 = false)
    (b : Best l px py j) (b' : Best (moreL l q i) px py j') : (spotI (moreL l q i) px py j').an = (spotI l px py j).an ∧ (spotI (moreL l q i) px py j').ad = (spotI l px py j).ad := by
  obtain ⟨p1, p2⟩ := onB_out hon
  obtain ⟨a1, a2⟩ := valid_pt hv (k := i) (by omega)
  obtain ⟨b1, b2⟩ := valid_pt hv hi
  have hq : onB q.1 q.2 = true := by
    unfold betwI on3 at hb
    simp only [Bool.and_eq_true] at hb
    exact hb.1.1.1
  obtain ⟨q1, q2⟩ := onB_out hq
  have hm := more_valid hv h40 hi hq na nb
  have hml := more_len (q := q) hi
  have oi := spot_ok hv hon hi
  have om := spot_ok hm hon (k := i) (by omega)
  have om' := spot_ok hm hon (k := i + 1) (by omega)
  have oj := spot_ok hv hon b.lt
  have oj' := spot_ok hm hon b'.lt
  have D := divide_foot p1 p2 a1 a2 b1 b2 q1 q2 hb na nb
  have e0 : (spotI (moreL l q i) px py i).an = (footI px py (pt l i).1 (pt l i).2 q.1 q.2).2.1 ∧ (spotI (moreL l q i) px py i).ad = (footI px py (pt l i).1 (pt l i).2 q.1 q.2).2.2.1 := by
    unfold spotI; rw [pt_lo hi (Nat.le_refl _), pt_mid hi]; exact ⟨rfl, rfl⟩
  have e1 : (spotI (moreL l q i) px py (i + 1)).an = (footI px py q.1 q.2 (pt l (i + 1)).1 (pt l (i + 1)).2).2.1 ∧ (spotI (moreL l q i) px py (i + 1)).ad = (footI px py q.1 q.2 (pt l (i + 1)).1 (pt l (i + 1)).2).2.2.1 := by
    unfold spotI; rw [pt_mid hi, pt_hi hi (by omega : i + 1 < i + 1 + 1)]; exact ⟨rfl, rfl⟩
  have e2 : (spotI l px py i).an = (footI px py (pt l i).1 (pt l i).2 (pt l (i + 1)).1 (pt l (i + 1)).2).2.1 ∧ (spotI l px py i).ad = (footI px py (pt l i).1 (pt l i).2 (pt l (i + 1)).1 (pt l (i + 1)).2).2.2.1 := ⟨rfl, rfl⟩
  rw [← e0.1, ← e0.2, ← e1.1, ← e1.2, ← e2.1, ← e2.2] at D
  obtain ⟨d1, d2, d3⟩ := D oi.2.2 om.2.2 om'.2.2
  have B := fun k hk => best_cross hv hon b (i := k) hk
  have B' := fun k hk => best_cross hm hon b' (i := k) hk
  have r1 : (spotI l px py j).an * (spotI (moreL l q i) px py j').ad ≤ (spotI (moreL l q i) px py j').an * (spotI l px py j).ad := by
    have hj' := b'.lt
    rcases (by omega : j' < i ∨ j' = i ∨ j' = i + 1 ∨ i + 1 < j') with h | h | h | h
    · obtain ⟨w1, w2⟩ := aw_lo (q := q) (px := px) (py := py) hi h
      rw [w1, w2]; exact B _ (by omega)
    · subst h
      exact fr_le_le (by have := oj.2.2; omega) (by have := oi.2.2; omega) (by have := om.2.2; omega) (B _ hi) d1
    · subst h
      exact fr_le_le (by have := oj.2.2; omega) (by have := oi.2.2; omega) (by have := om'.2.2; omega) (B _ hi) d2
    · obtain ⟨k, rfl⟩ : ∃ k, j' = k + 1 := ⟨j' - 1, by omega⟩
      obtain ⟨w1, w2⟩ := aw_hi (q := q) (px := px) (py := py) hi (k := k) (by omega)
      rw [w1, w2]; exact B _ (by omega)
  have r2 : (spotI (moreL l q i) px py j').an * (spotI l px py j).ad ≤ (spotI l px py j).an * (spotI (moreL l q i) px py j').ad := by
    have hj := b.lt
    rcases (by omega : j < i ∨ j = i ∨ i < j) with h | h | h
    · obtain ⟨w1, w2⟩ := aw_lo (q := q) (px := px) (py := py) hi h
      rw [← w1, ← w2]; exact B' _ (by omega)
    · subst h
      rcases d3 with d3 | d3
      · exact fr_le_le (by have := oj'.2.2; omega) (by have := om.2.2; omega) (by have := oi.2.2; omega) (B' j (by omega)) (by omega)
      · exact fr_le_le (by have := oj'.2.2; omega) (by have := om'.2.2; omega) (by have := oi.2.2; omega) (B' (j + 1) (by omega)) (by omega)
    · obtain ⟨w1, w2⟩ := aw_hi (q := q) (px := px) (py := py) hi h
      rw [← w1, ← w2]; exact B' _ (by omega)
  exact cross_eq oj'.1 oj.1 (Int.le_antisymm r2 r1)

end G
end Go.Proofs.Ytjeapimjgojpoaa
