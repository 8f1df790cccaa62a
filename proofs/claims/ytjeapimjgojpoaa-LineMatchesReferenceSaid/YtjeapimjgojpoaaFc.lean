/- Fractions: 'times', 'less', 'Valid', 'Compare'. -/
import Derived.Test.YtjeapimjgojpoaaFo
import Derived.Test.YtjeapimjgojpoaaShelf
set_option linter.unusedSimpArgs false
set_option linter.unusedVariables false
set_option maxRecDepth 100000
namespace Go.Proofs.Ytjeapimjgojpoaa
open Go.RowKit
namespace G

def hiI (p : Nat) : Int := ((p / 18446744073709551616 : Nat) : Int)
def loI (p : Nat) : Int := ((p % 18446744073709551616 : Nat) : Int)
theorem mul64_any (x y : Nat) (w : World) (hx : x < 18446744073709551616) (hy : y < 18446744073709551616) :
    Calls Try.prog 67 #[.int .u64 x, .int .u64 y] w fun e w' => e = .returned (.tuple #[.int .u64 (hiI (x * y)), .int .u64 (loI (x * y))]) ∧ Below w.heap.size w w' :=
  (Try.bits_Mul64 x y hx hy w).mono fun e w' ⟨he, hw⟩ => ⟨he, by rw [hw]; exact Below.refl _ _⟩

theorem times_any (x y : Nat) (w : World) (hx : x < 18446744073709551616) (hy : y < 18446744073709551616) :
    Calls Try.prog 40 #[.int .u64 x, .int .u64 y] w fun e w' => e = .returned (.agg #[.int .u64 (hiI (x * y)), .int .u64 (loI (x * y))]) ∧ Below w.heap.size w w' := by
  have hT := Below.refl w.heap.size w
  go_enter Try.func40, Try.ntmps40
  go_wp2_with fail
  first | (go_at_call 67; (with_reducible refine (mul64_any _ _ _ (by assumption) (by assumption)).mono ?_); rintro e w' ⟨rfl, hb⟩; first | (replace hT := (hT).trans (hb.mono hT.size); clear hb) | (replace hT := (hT.alloc hT.size _).trans (hb.mono (Nat.le_trans hT.size (by simp; try omega))); have kf := Reg.Blk.new1 hb; obtain ⟨ckf, fkf, zkf⟩ := Reg.Blk.facts kf; clear hb) | (replace hT := ((hT.alloc hT.size _).alloc (Nat.le_trans hT.size (by simp; try omega)) _).trans (hb.mono (Nat.le_trans hT.size (by simp; try omega))); clear hb) | (replace hT := (((hT.alloc hT.size _).alloc (Nat.le_trans hT.size (by simp; try omega)) _).alloc (Nat.le_trans hT.size (by simp; try omega)) _).trans (hb.mono (Nat.le_trans hT.size (by simp; try omega))); clear hb) | (replace hT := ((((hT.alloc hT.size _).alloc (Nat.le_trans hT.size (by simp; try omega)) _).alloc (Nat.le_trans hT.size (by simp; try omega)) _).alloc (Nat.le_trans hT.size (by simp; try omega)) _).trans (hb.mono (Nat.le_trans hT.size (by simp; try omega))); clear hb) | (replace hT := (((((hT.alloc hT.size _).alloc (Nat.le_trans hT.size (by simp; try omega)) _).alloc (Nat.le_trans hT.size (by simp; try omega)) _).alloc (Nat.le_trans hT.size (by simp; try omega)) _).alloc (Nat.le_trans hT.size (by simp; try omega)) _).trans (hb.mono (Nat.le_trans hT.size (by simp; try omega))); clear hb))
  go_wp2_with (first | (go_at_call 67; (with_reducible refine (mul64_any _ _ _ (by assumption) (by assumption)).mono ?_); rintro e w' ⟨rfl, hb⟩; first | (replace hT := (hT).trans (hb.mono hT.size); replace kf := (kf).keep hb; clear ckf fkf zkf; obtain ⟨ckf, fkf, zkf⟩ := Reg.Blk.facts kf; clear hb) | (replace hT := (hT.alloc hT.size _).trans (hb.mono (Nat.le_trans hT.size (by simp; try omega))); replace kf := ((kf).alloc _).keep hb; clear ckf fkf zkf; obtain ⟨ckf, fkf, zkf⟩ := Reg.Blk.facts kf; clear hb) | (replace hT := ((hT.alloc hT.size _).alloc (Nat.le_trans hT.size (by simp; try omega)) _).trans (hb.mono (Nat.le_trans hT.size (by simp; try omega))); replace kf := (((kf).alloc _).alloc _).keep hb; clear ckf fkf zkf; obtain ⟨ckf, fkf, zkf⟩ := Reg.Blk.facts kf; clear hb) | (replace hT := (((hT.alloc hT.size _).alloc (Nat.le_trans hT.size (by simp; try omega)) _).alloc (Nat.le_trans hT.size (by simp; try omega)) _).trans (hb.mono (Nat.le_trans hT.size (by simp; try omega))); replace kf := ((((kf).alloc _).alloc _).alloc _).keep hb; clear ckf fkf zkf; obtain ⟨ckf, fkf, zkf⟩ := Reg.Blk.facts kf; clear hb) | (replace hT := ((((hT.alloc hT.size _).alloc (Nat.le_trans hT.size (by simp; try omega)) _).alloc (Nat.le_trans hT.size (by simp; try omega)) _).alloc (Nat.le_trans hT.size (by simp; try omega)) _).trans (hb.mono (Nat.le_trans hT.size (by simp; try omega))); replace kf := (((((kf).alloc _).alloc _).alloc _).alloc _).keep hb; clear ckf fkf zkf; obtain ⟨ckf, fkf, zkf⟩ := Reg.Blk.facts kf; clear hb) | (replace hT := (((((hT.alloc hT.size _).alloc (Nat.le_trans hT.size (by simp; try omega)) _).alloc (Nat.le_trans hT.size (by simp; try omega)) _).alloc (Nat.le_trans hT.size (by simp; try omega)) _).alloc (Nat.le_trans hT.size (by simp; try omega)) _).trans (hb.mono (Nat.le_trans hT.size (by simp; try omega))); replace kf := ((((((kf).alloc _).alloc _).alloc _).alloc _).alloc _).keep hb; clear ckf fkf zkf; obtain ⟨ckf, fkf, zkf⟩ := Reg.Blk.facts kf; clear hb)))
  refine bodyPost_ret (v := .agg #[.int .u64 (hiI (x * y)), .int .u64 (loI (x * y))]) (by simp [results, Try.results40, go_sem, *]) rfl ⟨rfl, ?_⟩
  repeat (first | exact Below.refl _ _ | assumption | (refine Below.setCell ?_ (by first | (simp; done) | (simp; omega) | omega) _) | (refine Below.alloc ?_ (by first | (simp; done) | (simp; omega) | omega) _) | (refine Below.drew ?_))

theorem lt_parts (p q : Nat) : p < q ↔ hiI p < hiI q ∨ (hiI p = hiI q ∧ loI p < loI q) := by
  unfold hiI loI; omega
theorem less_any (p q : Nat) (w : World) :
    Calls Try.prog 42 #[.agg #[.int .u64 (hiI p), .int .u64 (loI p)], .agg #[.int .u64 (hiI q), .int .u64 (loI q)]] w fun e w' => e = .returned (.bool (decide (p < q))) ∧ Below w.heap.size w w' := by
  have Hl := Lib.hid (lt_parts p q)
  go_enter Try.func42, Try.ntmps42
  go_wp2
  all_goals
    go_ret
    refine ⟨ret_bool ?_, ?_⟩
  all_goals first | (rw [Bool.eq_iff_iff]; simp [Hl.out]; omega) | skip
  all_goals
    repeat (first | exact Below.refl _ _ | assumption | (refine Below.setCell ?_ (by first | (simp; done) | (simp; omega) | omega) _) | (refine Below.alloc ?_ (by first | (simp; done) | (simp; omega) | omega) _) | (refine Below.drew ?_))

def validI (num den : Int) : Bool := decide (0 < den) && (decide (den ≤ 4611686018427387904) && (decide (absI num ≤ 4611686018427387904) && (gcdI (absI num) (absI den) == 1)))
set_option maxHeartbeats 4000000 in
theorem valid_any (num den : Int) (w : World) (h1 : -9223372036854775808 ≤ num) (h2 : num ≤ 9223372036854775807) (h3 : -9223372036854775808 ≤ den) (h4 : den ≤ 9223372036854775807) :
    Calls Try.prog 39 #[.agg #[.int .i64 num, .int .i64 den]] w fun e w' => e = .returned (.bool (validI num den)) ∧ Below w.heap.size w w' := by
  have Hv : Hid (validI num den = (decide (0 < den) && (decide (den ≤ 4611686018427387904) && (decide (absI num ≤ 4611686018427387904) && (gcdI (absI num) (absI den) == 1))))) := by unfold Hid; rfl
  have a1 := absI_spec num
  have a2 := absI_spec den
  have b1 : 0 ≤ absI num := by omega
  have b2 : absI num ≤ 9223372036854775808 := by omega
  have b3 : 0 ≤ absI den := by omega
  have b4 : absI den ≤ 9223372036854775808 := by omega
  clear a1 a2
  cases v1 : decide (0 < den)
  case false =>
    have hT := Below.refl w.heap.size w
    go_enter Try.func39, Try.ntmps39
    go_wp2_with fail
    refine Reg.wp_region_seq (by kernel_rfl) (by kernel_rfl) ?_
    simp only
    iterate 25
      apply Reg.SeqOK.val
      · intro γ W hW K hK
        obtain ⟨hc, hf, _⟩ := bcell hW
        simp only [Act.put, List.setIfInBounds_toArray, List.set_cons_zero, List.set_cons_succ] at hK
        unfold Reg.Does
        go_simp
        try simp only [IntWalk.i64_left]
        first
          | exact hK _ (Below.refl _ _)
          | (go_at_call 41; (with_reducible refine (size_any _ _ (by omega) (by omega)).mono ?_); rintro e w' ⟨rfl, hb⟩; exact hK _ hb)
          | (go_at_call 55; (with_reducible refine (divisorI_any _ _ _ (by omega) (by omega) (by omega) (by omega)).mono ?_); rintro e w' ⟨rfl, hb⟩; exact hK _ hb)
      simp only [Act.put, List.setIfInBounds_toArray, List.set_cons_zero, List.set_cons_succ, List.nil_append, List.cons_append, Nat.reduceAdd, Nat.zero_add]
    refine Reg.SeqOK.nil (by kernel_rfl) (fun γ W hW _ _ _ => ?_)
    have hw2 : Below w.heap.size w W := ((Below.refl _ _).alloc (Nat.le_refl _) _).trans (hW.mono (by simp))
    clear hW
    go_wp2
    go_ret
    exact ⟨ret_bool (by rw [Hv.out]; simp [v1]), hw2⟩
  cases v2 : decide (den ≤ 4611686018427387904)
  case false =>
    have hT := Below.refl w.heap.size w
    go_enter Try.func39, Try.ntmps39
    go_wp2_with fail
    refine Reg.wp_region_seq (by kernel_rfl) (by kernel_rfl) ?_
    simp only
    iterate 25
      apply Reg.SeqOK.val
      · intro γ W hW K hK
        obtain ⟨hc, hf, _⟩ := bcell hW
        simp only [Act.put, List.setIfInBounds_toArray, List.set_cons_zero, List.set_cons_succ] at hK
        unfold Reg.Does
        go_simp
        try simp only [IntWalk.i64_left]
        first
          | exact hK _ (Below.refl _ _)
          | (go_at_call 41; (with_reducible refine (size_any _ _ (by omega) (by omega)).mono ?_); rintro e w' ⟨rfl, hb⟩; exact hK _ hb)
          | (go_at_call 55; (with_reducible refine (divisorI_any _ _ _ (by omega) (by omega) (by omega) (by omega)).mono ?_); rintro e w' ⟨rfl, hb⟩; exact hK _ hb)
      simp only [Act.put, List.setIfInBounds_toArray, List.set_cons_zero, List.set_cons_succ, List.nil_append, List.cons_append, Nat.reduceAdd, Nat.zero_add]
    refine Reg.SeqOK.nil (by kernel_rfl) (fun γ W hW _ _ _ => ?_)
    have hw2 : Below w.heap.size w W := ((Below.refl _ _).alloc (Nat.le_refl _) _).trans (hW.mono (by simp))
    clear hW
    go_wp2
    go_ret
    exact ⟨ret_bool (by rw [Hv.out]; simp [v1, v2]), hw2⟩
  cases v3 : decide (absI num ≤ 4611686018427387904)
  all_goals
    have hT := Below.refl w.heap.size w
    go_enter Try.func39, Try.ntmps39
    go_wp2_with fail
    refine Reg.wp_region_seq (by kernel_rfl) (by kernel_rfl) ?_
    simp only
    iterate 25
      apply Reg.SeqOK.val
      · intro γ W hW K hK
        obtain ⟨hc, hf, _⟩ := bcell hW
        simp only [Act.put, List.setIfInBounds_toArray, List.set_cons_zero, List.set_cons_succ] at hK
        unfold Reg.Does
        go_simp
        try simp only [IntWalk.i64_left]
        first
          | exact hK _ (Below.refl _ _)
          | (go_at_call 41; (with_reducible refine (size_any _ _ (by omega) (by omega)).mono ?_); rintro e w' ⟨rfl, hb⟩; exact hK _ hb)
          | (go_at_call 55; (with_reducible refine (divisorI_any _ _ _ (by omega) (by omega) (by omega) (by omega)).mono ?_); rintro e w' ⟨rfl, hb⟩; exact hK _ hb)
      simp only [Act.put, List.setIfInBounds_toArray, List.set_cons_zero, List.set_cons_succ, List.nil_append, List.cons_append, Nat.reduceAdd, Nat.zero_add]
    refine Reg.SeqOK.nil (by kernel_rfl) (fun γ W hW _ _ _ => ?_)
    have hw2 : Below w.heap.size w W := ((Below.refl _ _).alloc (Nat.le_refl _) _).trans (hW.mono (by simp))
    clear hW
    go_wp2
    go_ret
    exact ⟨ret_bool (by rw [Hv.out]; simp [v1, v2, v3]), hw2⟩

end G
end Go.Proofs.Ytjeapimjgojpoaa
