/- Fractions: 'Of'. -/
import Derived.Test.YtjeapimjgojpoaaFr
set_option linter.unusedSimpArgs false
set_option linter.unusedVariables false
set_option maxRecDepth 100000
namespace Go.Proofs.Ytjeapimjgojpoaa
open Go.RowKit
namespace G

theorem tdiv_in {a b : Int} (ha : 0 ≤ a) (ha' : a < 18446744073709551616) (hb : 1 ≤ b) : IntKind.u64.wrap (a.tdiv b) = a / b := by
  rw [Int.tdiv_eq_ediv_of_nonneg ha]
  refine u64_in _ (Int.ediv_nonneg ha (by omega)) ?_
  exact Int.lt_of_le_of_lt (Int.ediv_le_self _ ha) ha'

theorem of_any (num den : Int) (w : World) (h1 : -9223372036854775808 ≤ num) (h2 : num ≤ 9223372036854775807) (h3 : -9223372036854775808 ≤ den) (h4 : den ≤ 9223372036854775807) :
    Calls Try.prog 49 #[.int .i64 num, .int .i64 den] w fun e w' => e = .returned (fracV (ofI num den)) ∧ Below w.heap.size w w' := by
  by_cases hd : den = 0
  · subst hd
    go_enter Try.func49, Try.ntmps49
    go_wp2_with fail
    refine bodyPost_ret (v := fracV (ofI num 0)) (by simp [results, Try.results49, go_sem, fracV, ofI]) rfl ⟨rfl, ?_⟩
    repeat (first | exact Below.refl _ _ | assumption | (refine Below.setCell ?_ (by first | (simp; done) | (simp; omega) | omega) _) | (refine Below.alloc ?_ (by first | (simp; done) | (simp; omega) | omega) _) | (refine Below.drew ?_))
  · have hd0 : (den == 0) = false := by simp [hd]
    have a1 := absI_spec num
    have a2 := absI_spec den
    have HO : Hid (ofI num den = madeI (decide (num < 0) != decide (den < 0)) (absI num / gcdI (absI num) (absI den)) (absI den / gcdI (absI num) (absI den))) := if_neg hd
    have b1 : 0 ≤ absI num := by omega
    have b2 : absI num ≤ 9223372036854775808 := by omega
    have b3 : 1 ≤ absI den := by omega
    have b4 : absI den ≤ 9223372036854775808 := by omega
    have g1 : 1 ≤ gcdI (absI num) (absI den) := by
      have : 0 < Nat.gcd (absI num).toNat (absI den).toNat := Nat.gcd_pos_of_pos_right _ (by omega)
      unfold gcdI; omega
    clear a1 a2
    go_enter Try.func49, Try.ntmps49
    go_wp2_with (first | (go_at_call 41; (with_reducible refine (size_any _ _ (by omega) (by omega)).mono ?_); rintro e w' ⟨rfl, hb⟩; first | (replace hT := hT.trans (hb.mono hT.size); clear hc hf hb; obtain ⟨hc, hf, _⟩ := bcell hT) | (replace hT := hT.trans (((Below.refl _ _).alloc hT.size _).trans (hb.mono (Nat.le_trans hT.size (by simp)))); clear hc hf hb; obtain ⟨hc, hf, _⟩ := bcell hT) | (have hT := hb; clear hb; obtain ⟨hc, hf, _⟩ := bcell hT)) | (go_at_call 55; (with_reducible refine (divisorI_any _ _ _ (by omega) (by omega) (by omega) (by omega)).mono ?_); rintro e w' ⟨rfl, hb⟩; first | (replace hT := hT.trans (hb.mono hT.size); clear hc hf hb; obtain ⟨hc, hf, _⟩ := bcell hT) | (replace hT := hT.trans (((Below.refl _ _).alloc hT.size _).trans (hb.mono (Nat.le_trans hT.size (by simp)))); clear hc hf hb; obtain ⟨hc, hf, _⟩ := bcell hT) | (have hT := hb; clear hb; obtain ⟨hc, hf, _⟩ := bcell hT)) | (go_at_call 59; (with_reducible refine (made_any _ _ _ _ (by omega) (by omega)).mono ?_); rintro e w' ⟨rfl, hb⟩; first | (replace hT := hT.trans (hb.mono hT.size); clear hc hf hb; obtain ⟨hc, hf, _⟩ := bcell hT) | (replace hT := hT.trans (((Below.refl _ _).alloc hT.size _).trans (hb.mono (Nat.le_trans hT.size (by simp)))); clear hc hf hb; obtain ⟨hc, hf, _⟩ := bcell hT) | (have hT := hb; clear hb; obtain ⟨hc, hf, _⟩ := bcell hT)))
    have hT' : Below w.heap.size w w' := ((Below.refl _ _).alloc (Nat.le_refl _) _).trans (hT.mono (by simp))
    have hg0 : w'.heap[w.heap.size]? = some (.cells #[.int .i64 0, .int .i64 0] 32 (0, 0)) := by
      rw [hT.block _ (by simp)]; exact Reg.heap_new _ _
    have hlt : w.heap.size < w'.heap.size := by have := hT.size; simp at this; omega
    clear hT hc hf
    have hne : ¬ gcdI (absI num) (absI den) = 0 := by omega
    have q1 : IntKind.u64.wrap ((absI num).tdiv (gcdI (absI num) (absI den))) = absI num / gcdI (absI num) (absI den) := tdiv_in b1 (by omega) g1
    have q2 : IntKind.u64.wrap ((absI den).tdiv (gcdI (absI num) (absI den))) = absI den / gcdI (absI num) (absI den) := tdiv_in (by omega) (by omega) g1
    have q3 : 0 ≤ absI num / gcdI (absI num) (absI den) := Int.ediv_nonneg (by omega) (by omega)
    have q4 : 0 ≤ absI den / gcdI (absI num) (absI den) := Int.ediv_nonneg (by omega) (by omega)
    have HT' := Lib.hid hT'
    clear hT'
    refine Reg.wp_region_seqB w.heap.size (by omega) (by kernel_rfl) (by kernel_rfl) ?_
    simp only
    iterate 16
      apply Reg.SeqOK.val
      · intro γ W hW K hK
        obtain ⟨hc, hf, _⟩ := bcell hW
        simp only [Act.put, List.setIfInBounds_toArray, List.set_cons_zero, List.set_cons_succ] at hK
        unfold Reg.Does
        go_simp
        try simp only [IntWalk.i64_left]
        first
          | exact hK _ (Below.refl _ _)
          | (go_at_call 41; (with_reducible refine (size_any _ _ (by omega) (by omega)).mono ?_); rintro e w' ⟨rfl, hb⟩; exact hK _ hb)
          | (go_at_call 59; (with_reducible refine (made_any _ _ _ _ (by omega) (by omega)).mono ?_); rintro e w' ⟨rfl, hb⟩; exact hK _ hb)
      simp only [Act.put, List.setIfInBounds_toArray, List.set_cons_zero, List.set_cons_succ, List.nil_append, List.cons_append, Nat.reduceAdd, Nat.zero_add]
    apply Reg.SeqOK.old (g := w.heap.size) (hB := (Reg.updB (Nat.le_refl _))) (hg := hg0) (hne := by simp [Reg.NotOld])
    · intro γ W hW hat K hK
      obtain ⟨hcl, hfr⟩ := Reg.cells_at hat
      simp only [Act.put, List.setIfInBounds_toArray, List.set_cons_zero, List.set_cons_succ] at hK
      unfold Reg.Does
      go_simp
      exact hK _ (Reg.upd2 hat)
    simp only [Act.put, List.setIfInBounds_toArray, List.set_cons_zero, List.set_cons_succ, List.nil_append, List.cons_append, Nat.reduceAdd, Nat.zero_add]
    iterate 1
      apply Reg.SeqOK.val
      · intro γ W hW K hK
        obtain ⟨hc, hf, _⟩ := bcell hW
        simp only [Act.put, List.setIfInBounds_toArray, List.set_cons_zero, List.set_cons_succ] at hK
        unfold Reg.Does
        go_simp
        try simp only [IntWalk.i64_left]
        first
          | exact hK _ (Below.refl _ _)
      simp only [Act.put, List.setIfInBounds_toArray, List.set_cons_zero, List.set_cons_succ, List.nil_append, List.cons_append, Nat.reduceAdd, Nat.zero_add]
    refine Reg.SeqOK.nil (by kernel_rfl) (fun γ W hW _ _ hO => ?_)
    simp only [Reg.Olds, and_true] at hO
    obtain ⟨cl, fr⟩ := Reg.cells_at hO
    have hw2 : Below w.heap.size w W := HT'.out.trans hW
    clear hW hO
    go_wp2
    refine bodyPost_ret (v := fracV (ofI num den)) (by rw [HO.out]; simp [results, Try.results49, go_sem, fracV, cl, bne]) rfl ⟨rfl, hw2⟩

end G
end Go.Proofs.Ytjeapimjgojpoaa
