/- Lines: plain laws of several lines; the reference's 'Few'. -/
import Derived.Test.YtjeapimjgojpoaaIk
set_option linter.unusedSimpArgs false
set_option linter.unusedVariables false
set_option maxRecDepth 100000
namespace Go.Proofs.Ytjeapimjgojpoaa
open Go.RowKit
namespace G

theorem locS_ok {l : List P2} {px py : Int} (h : validL l = true) (hon : onB px py = true) : (locS l px py).ok ∧ locE l px py = 0 := by
  obtain ⟨j, b⟩ := best_of h hon
  rw [b.eq]
  exact ⟨spot_ok h hon b.lt, b.err⟩
/-- The first nearest line. -/
theorem near_spec {L : List Ln} {px py : Int} (hg : ∀ i, i < L.length → validL (ln L i).l = true) (hon : onB px py = true) : ∀ k, k < L.length → ∃ j, j ≤ k ∧ nearN L px py (k + 1) = (j, locS (ln L j).l px py) ∧
    (∀ i, i ≤ k → (locS (ln L j).l px py).an * (locS (ln L i).l px py).ad ≤ (locS (ln L i).l px py).an * (locS (ln L j).l px py).ad) ∧ (∀ i, i < j → (locS (ln L j).l px py).an * (locS (ln L i).l px py).ad < (locS (ln L i).l px py).an * (locS (ln L j).l px py).ad)
  | 0, hk => by
    refine ⟨0, Nat.le_refl _, by unfold nearN; rw [if_pos (by simp)], fun i hi => ?_, fun i hi => by omega⟩
    obtain rfl : i = 0 := by omega
    exact Int.le_refl _
  | k + 1, hk => by
    obtain ⟨j, hj, e, h1, h2⟩ := near_spec hg hon k (by omega)
    have oj := (locS_ok (hg j (by omega)) hon).1
    have os := (locS_ok (hg (k + 1) hk) hon).1
    have e2 : nearN L px py (k + 1 + 1) = if (decide (k + 1 = 0) || (locS (ln L (k + 1)).l px py).less (nearN L px py (k + 1)).2) = true then (k + 1, locS (ln L (k + 1)).l px py) else nearN L px py (k + 1) := rfl
    rw [e2, e]
    simp only [Nat.add_eq_zero_iff, Nat.one_ne_zero, and_false, decide_false, Bool.false_or]
    by_cases hl : (locS (ln L (k + 1)).l px py).less (locS (ln L j).l px py) = true
    · rw [if_pos hl]
      have hl' := (less_iff os oj).1 hl
      refine ⟨k + 1, Nat.le_refl _, rfl, fun i hi => ?_, fun i hi => ?_⟩
      · rcases (by omega : i ≤ k ∨ i = k + 1) with hi | hi
        · have oi := (locS_ok (hg i (by omega)) hon).1
          exact Int.le_of_lt (fr_lt_le (by have := os.2.2; omega) (by have := oj.2.2; omega) (by have := oi.2.2; omega) hl' (h1 i hi))
        · subst hi; exact Int.le_refl _
      · have oi := (locS_ok (hg i (by omega)) hon).1
        exact fr_lt_le (by have := os.2.2; omega) (by have := oj.2.2; omega) (by have := oi.2.2; omega) hl' (h1 i (by omega))
    · rw [if_neg hl]
      refine ⟨j, by omega, rfl, fun i hi => ?_, h2⟩
      rcases (by omega : i ≤ k ∨ i = k + 1) with hi | hi
      · exact h1 i hi
      · subst hi
        exact Int.not_lt.1 fun hh => hl ((less_iff os oj).2 hh)
theorem ln_app1 (L M : List Ln) {i : Nat} (h : i < L.length) : ln (L ++ M) i = ln L i := by unfold ln; rw [List.getElem?_append_left h]
theorem ln_app2 (L : List Ln) (x : Ln) : ln (L ++ [x]) L.length = x := by unfold ln; simp
theorem goodN_app (L M : List Ln) : ∀ k, k ≤ L.length → goodN (L ++ M) k = goodN L k
  | 0, _ => rfl
  | k + 1, h => by simp only [goodN, goodN_app L M k (by omega), ln_app1 L M (show k < L.length by omega)]
theorem goodL_app (L : List Ln) (x : Ln) : goodL (L ++ [x]) = (goodL L && validL x.l) := by
  unfold goodL
  rw [show (L ++ [x]).length = L.length + 1 by simp]
  simp only [goodN, goodN_app L [x] _ (Nat.le_refl _), ln_app2]
theorem nearN_app (L M : List Ln) (px py : Int) : ∀ k, k ≤ L.length → nearN (L ++ M) px py k = nearN L px py k
  | 0, _ => rfl
  | k + 1, h => by simp only [nearN, nearN_app L M px py k (by omega), ln_app1 L M (show k < L.length by omega)]
theorem nearR_cases (L : List Ln) (px py : Int) (h : L.length ≤ 400) : (nearR L px py = (0, 1) ∧ (L.length = 0 ∨ onB px py = false ∨ goodL L = false)) ∨ (nearR L px py = (((nearN L px py L.length).1 : Int), 0) ∧ 0 < L.length ∧ onB px py = true ∧ goodL L = true) := by
  unfold nearR
  rw [if_neg (by omega)]
  by_cases hz : L.length = 0
  · left; rw [if_pos (by simp [hz])]; exact ⟨rfl, .inl hz⟩
  cases hon : onB px py with
  | false => left; rw [if_pos (by simp)]; exact ⟨rfl, .inr (.inl rfl)⟩
  | true =>
    cases hg : goodL L with
    | false => left; rw [if_pos (by simp)]; exact ⟨rfl, .inr (.inr rfl)⟩
    | true => right; rw [if_neg (by simp only [hz, decide_false, Bool.not_true, Bool.or_self]; decide)]; exact ⟨rfl, by omega, rfl, rfl⟩
/-- All that the law of several lines asks. -/
structure Several (L : List Ln) (px py : Int) (j : Nat) : Prop where
  lt : j < L.length
  res : nearR L px py = ((j : Int), 0)
  near : ∀ i, i < L.length → locE (ln L i).l px py = 0 ∧ 0 ≤ (compareI (locS (ln L i).l px py).an (locS (ln L i).l px py).ad (locS (ln L j).l px py).an (locS (ln L j).l px py).ad).1 ∧
    (i < j → (compareI (locS (ln L i).l px py).an (locS (ln L i).l px py).ad (locS (ln L j).l px py).an (locS (ln L j).l px py).ad).1 ≠ 0)
  more : ∀ f : Ln, L.length ≤ 399 → validL f.l = true → nearR (L ++ [f]) px py = ((if (compareI (locS f.l px py).an (locS f.l px py).ad (locS (ln L j).l px py).an (locS (ln L j).l px py).ad).1 < 0 then (L.length : Int) else (j : Int)), 0)
theorem several {L : List Ln} {px py : Int} (h4 : L.length ≤ 400) (h0 : 0 < L.length) (hon : onB px py = true) (hg : goodL L = true) : ∃ j, Several L px py j := by
  have hv : ∀ i, i < L.length → validL (ln L i).l = true := fun i hi => goodN_at _ hi hg
  obtain ⟨j, hj, e, h1, h2⟩ := near_spec hv hon (L.length - 1) (by omega)
  have hl : L.length - 1 + 1 = L.length := by omega
  rw [hl] at e
  have hr : nearR L px py = ((j : Int), 0) := by
    rcases nearR_cases L px py h4 with ⟨_, h | h | h⟩ | ⟨h, _⟩
    · omega
    · rw [hon] at h; cases h
    · rw [hg] at h; cases h
    · rw [h, e]
  have oj := (locS_ok (hv j (by omega)) hon).1
  refine ⟨j, by omega, hr, fun i hi => ?_, fun f h3 hf => ?_⟩
  · obtain ⟨oi, ei⟩ := locS_ok (hv i hi) hon
    obtain ⟨c1, c2, c3⟩ := cmp_spec oi.1 oj.1
    refine ⟨ei, Int.not_lt.1 fun hh => ?_, fun hij hh => ?_⟩
    · have := c2.1 hh; have := h1 i (by omega); omega
    · have := c3.1 hh; have := h2 i hij; omega
  · have of := (locS_ok hf hon).1
    obtain ⟨c1, c2, c3⟩ := cmp_spec of.1 oj.1
    have hla : (L ++ [f]).length = L.length + 1 := by simp
    have ea : nearN (L ++ [f]) px py (L ++ [f]).length = if (decide (L.length = 0) || (locS f.l px py).less (locS (ln L j).l px py)) = true then (L.length, locS f.l px py) else (j, locS (ln L j).l px py) := by
      rw [hla]
      show (if (decide (L.length = 0) || (locS (ln (L ++ [f]) L.length).l px py).less (nearN (L ++ [f]) px py L.length).2) = true then (L.length, locS (ln (L ++ [f]) L.length).l px py) else nearN (L ++ [f]) px py L.length) = _
      rw [nearN_app L [f] px py _ (Nat.le_refl _), e, ln_app2]
    rcases nearR_cases (L ++ [f]) px py (by omega) with ⟨_, h | h | h⟩ | ⟨h, _⟩
    · omega
    · rw [hon] at h; cases h
    · rw [goodL_app, hg, hf] at h; cases h
    · rw [h, ea]
      have hz : decide (L.length = 0) = false := decide_eq_false (by omega)
      rw [hz, Bool.false_or]
      by_cases hl : (locS f.l px py).less (locS (ln L j).l px py) = true
      · rw [if_pos hl, if_pos (by unfold Spt.less at hl; exact of_decide_eq_true hl)]
      · rw [if_neg hl, if_neg (fun hh => hl (by unfold Spt.less; exact decide_eq_true hh))]

def fewL (L : List Ln) : Bool := L.all (fun x => decide (x.l.length ≤ 60)) && decide (L.length ≤ 12)
theorem few_lines (A : Option Addr) (c : Nat) (L : List Ln) (w : World) (hl : LinesAt w A L) (hn : L.length ≤ 9223372036854775807) :
    Calls Try.prog 11 #[.slice A L.length c] w fun e w' => e = .returned (.bool (fewL L)) ∧ w' = w := by
  have HL := Lib.hid hl
  clear hl
  go_enter Try.func11, Try.ntmps11
  go_wp2_with fail
  go_loop [3] (fun i => ∃ k : Nat, k ≤ L.length ∧ i = .int .i64 k ∧ ∀ x ∈ L.take k, x.l.length ≤ 60) (fun i => L.length - (intOf i).toNat)
  case atStart => exact ⟨0, Nat.zero_le _, rfl, by simp⟩
  case round =>
    obtain ⟨k, hk, rfl, hall⟩ := hrel
    have HA := Lib.hid hall
    clear hall
    by_cases hlt : k < L.length
    · obtain ⟨b, off, hA, hb, c0, _, _⟩ := HL.out k hlt
      subst hA
      have hki : (k : Int) < (L.length : Int) := by omega
      have hk0 : (0 : Int) ≤ (k : Int) := by omega
      have HT : Hid (L.take (k + 1) = L.take k ++ [ln L k]) := by unfold Hid ln; rw [List.getElem?_eq_getElem hlt]; exact (List.take_append_getElem hlt).symm
      have HM : Hid (ln L k ∈ L) := by unfold Hid ln; rw [List.getElem?_eq_getElem hlt]; exact List.getElem_mem hlt
      generalize ln L k = x at *
      by_cases hm : (60 : Int) < (x.l.length : Int)
      · have HF : Hid (fewL L = false) := by
          unfold Hid fewL
          rw [Bool.and_eq_false_iff]; left
          rw [List.all_eq_false]
          exact ⟨x, HM.out, by simp; omega⟩
        go_wp2_with fail
        go_ret
        exact ⟨by rw [HF.out]; rfl, rfl⟩
      · have HX : Hid (x.l.length ≤ 60) := by unfold Hid; omega
        go_wp2_with fail
        refine ⟨⟨k + 1, by omega, by go_num, ?_⟩, by simp [intOf]; omega⟩
        intro t ht
        rw [HT.out, List.mem_append] at ht
        rcases ht with ht | ht
        · exact HA.out t ht
        · rw [List.mem_singleton.1 ht]; exact HX.out
    · obtain rfl : k = L.length := by omega
      have ha := HA.out
      rw [List.take_length] at ha
      have HF : Hid (fewL L = decide ((L.length : Int) ≤ 12)) := by
        unfold Hid fewL
        have : L.all (fun x => decide (x.l.length ≤ 60)) = true := by rw [List.all_eq_true]; intro x hx; exact decide_eq_true (ha x hx)
        rw [this, Bool.true_and]
        exact decide_eq_decide.2 (by omega)
      clear ha
      go_wp2_with fail
      go_ret
      exact ⟨by rw [HF.out]; rfl, rfl⟩

end G
end Go.Proofs.Ytjeapimjgojpoaa
