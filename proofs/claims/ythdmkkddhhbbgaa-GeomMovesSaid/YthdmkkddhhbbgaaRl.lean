/- The reference's 'Lowest'. -/
import Derived.Test.YthdmkkddhhbbgaaPr
set_option linter.unusedSimpArgs false
set_option linter.unusedVariables false
set_option maxRecDepth 100000
namespace Go.Proofs.Ythdmkkddhhbbgaa
open Go.RowKit
namespace G

set_option maxHeartbeats 1000000 in
theorem low_nat (a b : Nat) (w : World) (ha : a ≤ 9223372036854775807) (hb : b ≤ 9223372036854775807) (h1 : 1 ≤ b) :
    Calls Try.prog 34 #[.int .i64 a, .int .i64 b] w fun e w' => e = .returned (.agg #[.int .i64 ((a : Int) / (Nat.gcd a b : Nat)), .int .i64 ((b : Int) / (Nat.gcd a b : Nat))]) ∧ Below w.heap.size w w' := by
  go_enter Try.func34, Try.ntmps34
  go_wp2_with fail
  go_loopw [5, 6, 7] (fun x y _ wr => ∃ m n : Nat, x = .int .i64 m ∧ y = .int .i64 n ∧ m ≤ 9223372036854775807 ∧ n ≤ 9223372036854775807 ∧ (1 ≤ m ∨ 1 ≤ n) ∧ Nat.gcd m n = Nat.gcd a b ∧ wr = w.alloc (.cells #[.int .i64 0, .int .i64 0] 26)) (fun _ y _ _ => (intOf y).toNat)
  case atStart => exact ⟨a, b, rfl, rfl, ha, hb, .inr h1, rfl, rfl⟩
  case round =>
    obtain ⟨m, n, rfl, rfl, hm, hn, hpos, hgcd, rfl⟩ := hrel
    have Hgcd := Lib.hid hgcd
    clear hgcd
    by_cases hlt : n = 0
    · subst hlt
      have hm1 : 1 ≤ m := by omega
      have hg : Nat.gcd a b = m := by rw [← Hgcd.out, Nat.gcd_zero_right]
      have Hg := Lib.hid hg
      clear hg hpos
      have hne : ¬ (m : Int) = 0 := by omega
      have hne2 : ¬ m = 0 := by omega
      have r1 : Hid (wrap64 ((a : Int) / (m : Int)) = (a : Int) / (m : Int)) := IntWalk.wrap64_in _ ⟨by have := Int.ediv_nonneg (a := (a : Int)) (b := (m : Int)) (by omega) (by omega); omega, by have := Int.ediv_le_self (a := (a : Int)) (m : Int) (by omega); omega⟩
      have r2 : Hid (wrap64 ((b : Int) / (m : Int)) = (b : Int) / (m : Int)) := IntWalk.wrap64_in _ ⟨by have := Int.ediv_nonneg (a := (b : Int)) (b := (m : Int)) (by omega) (by omega); omega, by have := Int.ediv_le_self (a := (b : Int)) (m : Int) (by omega); omega⟩
      have q1 : IntKind.i64.wrap ((a : Int).tdiv (m : Int)) = (a : Int) / (m : Int) := by
        rw [Int.tdiv_eq_ediv_of_nonneg (by omega), IntWalk.i64_left]
        exact IntWalk.wrap64_in _ ⟨by have := Int.ediv_nonneg (a := (a : Int)) (b := (m : Int)) (by omega) (by omega); omega, by have := Int.ediv_le_self (a := (a : Int)) (m : Int) (by omega); omega⟩
      have q2 : IntKind.i64.wrap ((b : Int).tdiv (m : Int)) = (b : Int) / (m : Int) := by
        rw [Int.tdiv_eq_ediv_of_nonneg (by omega), IntWalk.i64_left]
        exact IntWalk.wrap64_in _ ⟨by have := Int.ediv_nonneg (a := (b : Int)) (b := (m : Int)) (by omega) (by omega); omega, by have := Int.ediv_le_self (a := (b : Int)) (m : Int) (by omega); omega⟩
      go_wp2_with fail
      refine Reg.wp_region_seq (by kernel_rfl) (by kernel_rfl) ?_
      simp only
      iterate 7
        apply Reg.SeqOK.val
        · intro γ W hW K hK
          obtain ⟨hc, hf, _⟩ := bcell hW
          simp only [Act.put, List.setIfInBounds_toArray, List.set_cons_zero, List.set_cons_succ] at hK
          unfold Reg.Does
          go_simp
          try simp only [IntWalk.i64_left]
          first
            | exact hK _ (Below.refl _ _)
        simp only [Act.put, List.setIfInBounds_toArray, List.set_cons_zero, List.set_cons_succ, List.nil_append, List.cons_append, Nat.reduceAdd, Nat.zero_add]
      refine Reg.SeqOK.last (by kernel_rfl) (by kernel_rfl) (fun γ W hW _ _ _ => ?_)
      have hw0 : Below w.heap.size w W := ((Below.refl _ _).alloc (Nat.le_refl _) _).trans (hW.mono (by simp))
      obtain ⟨hc, hf, _⟩ := bcell hW
      clear hW
      unfold Reg.Does
      go_wp2
      refine bodyPost_ret (v := .agg #[.int .i64 ((a : Int) / (Nat.gcd a b : Nat)), .int .i64 ((b : Int) / (Nat.gcd a b : Nat))]) (by rw [Hg.out]; simp [results, Try.results34, go_sem, hc, r1.out, r2.out]) rfl ⟨rfl, ?_⟩
      repeat (first | exact Below.refl _ _ | assumption | (refine Below.setCell ?_ (by first | (simp; done) | (simp; omega) | omega) _) | (refine Below.alloc ?_ (by first | (simp; done) | (simp; omega) | omega) _) | (refine Below.drew ?_))
    · have h1' : (1 : Int) ≤ (n : Int) := by omega
      have h2' : (0 : Int) ≤ (m : Int) := by omega
      clear hpos
      go_wp2_with fail
      have hmod : (m : Int) % (n : Int) = ((m % n : Nat) : Int) := by simp
      have hlt2 : m % n < n := Nat.mod_lt _ (by omega)
      go_roundw
      case rel => exact ⟨n, m % n, rfl, by rw [hmod], hn, by omega, .inl (by omega), by rw [← Hgcd.out, Nat.gcd_comm m n, Nat.gcd_rec n m, Nat.gcd_comm], by first | rfl | trivial⟩
      case measure => simp only [intOf, hmod]; omega

theorem low_any (a b : Int) (w : World) (ha : 0 ≤ a) (ha' : a ≤ 9223372036854775807) (h1 : 1 ≤ b) (hb : b ≤ 9223372036854775807) :
    Calls Try.prog 34 #[.int .i64 a, .int .i64 b] w fun e w' => e = .returned (.agg #[.int .i64 (lowI a b).1, .int .i64 (lowI a b).2.1]) ∧ Below w.heap.size w w' := by
  obtain ⟨m, rfl⟩ := Int.eq_ofNat_of_zero_le ha
  obtain ⟨n, rfl⟩ := Int.eq_ofNat_of_zero_le (by omega : 0 ≤ b)
  exact low_nat m n w (by omega) (by omega) (by omega)

end G
end Go.Proofs.Ythdmkkddhhbbgaa
