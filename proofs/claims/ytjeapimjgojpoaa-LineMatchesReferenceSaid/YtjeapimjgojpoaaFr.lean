/- Fractions: contracts of 'size', 'divisor', 'made', 'Of'. -/
import Derived.Test.YtjeapimjgojpoaaGa
set_option linter.unusedSimpArgs false
set_option linter.unusedVariables false
set_option maxRecDepth 100000
namespace Go.Proofs.Ytjeapimjgojpoaa
open Go.RowKit
namespace G

def absI (n : Int) : Int := if n < 0 then -n else n
theorem absI_spec (n : Int) : (n < 0 ∧ absI n = -n) ∨ (0 ≤ n ∧ absI n = n) := by unfold absI; split <;> omega

theorem wrapneg (n : Int) (h1 : -9223372036854775808 ≤ n) (h : n < 0) : IntKind.u64.wrap (-IntKind.u64.wrap n) = -n := by
  simp only [IntKind.wrap, IntKind.signed, IntKind.bits]
  simp
  omega
theorem u64_in (n : Int) (h1 : 0 ≤ n) (h2 : n < 18446744073709551616) : IntKind.u64.wrap n = n := by
  simp only [IntKind.wrap, IntKind.signed, IntKind.bits]
  simp
  omega

theorem size_any (n : Int) (w : World) (h1 : -9223372036854775808 ≤ n) (h2 : n ≤ 9223372036854775807) :
    Calls Try.prog 41 #[.int .i64 n] w fun e w' => e = .returned (.int .u64 (absI n)) ∧ Below w.heap.size w w' := by
  by_cases hn : n < 0
  · have Hs : Hid (absI n = -n) := by unfold Hid absI; rw [if_pos hn]
    go_enter Try.func41, Try.ntmps41
    go_wp2
    go_ret
    exact ⟨ret_int (by rw [Hs.out]; exact wrapneg n h1 hn), Below.refl _ _⟩
  · have Hs : Hid (absI n = n) := by unfold Hid absI; rw [if_neg hn]
    go_enter Try.func41, Try.ntmps41
    go_wp2
    go_ret
    refine ⟨ret_int (by rw [Hs.out]), Below.refl _ _⟩

def gcdI (a b : Int) : Int := (Nat.gcd a.toNat b.toNat : Nat)

theorem divisor_any (a b : Nat) (w : World) (ha : a < 18446744073709551616) (hb : b < 18446744073709551616) :
    Calls Try.prog 55 #[.int .u64 a, .int .u64 b] w fun e w' => e = .returned (.int .u64 (Nat.gcd a b : Nat)) ∧ Below w.heap.size w w' := by
  have Hg : Hid (Nat.gcd a b = Nat.gcd a b) := rfl
  go_enter Try.func55, Try.ntmps55
  go_wp2_with fail
  go_loopw [0, 1] (fun x y wr => ∃ m n : Nat, x = .int .u64 m ∧ y = .int .u64 n ∧ m < 18446744073709551616 ∧ n < 18446744073709551616 ∧ Nat.gcd m n = Nat.gcd a b ∧ Below w.heap.size w wr) (fun _ y _ => (intOf y).toNat)
  case atStart => exact ⟨a, b, rfl, rfl, ha, hb, rfl, Below.refl _ _⟩
  case round =>
    obtain ⟨m, n, rfl, rfl, hm, hn, hgcd, hbw⟩ := hrel
    have Hgcd := Lib.hid hgcd
    clear hgcd
    by_cases hlt : n = 0
    · subst hlt
      go_wp2_with fail
      go_ret
      exact ⟨ret_int (by rw [← Hgcd.out, Nat.gcd_zero_right]), hbw⟩
    · have h0 : ((n : Int) == 0) = false := by simp [hlt]
      have h0' : ((n : Int) != 0) = true := by simp [hlt]
      have h1 : (1 : Int) ≤ (n : Int) := by omega
      have h2 : (0 : Int) ≤ (m : Int) := by omega
      go_wp2_with fail
      refine Reg.wp_region_seq (by kernel_rfl) (by kernel_rfl) ?_
      simp only
      iterate 6
        apply Reg.SeqOK.val
        · intro γ W hW K hK
          obtain ⟨hc, hf, _⟩ := bcell hW
          simp only [Act.put, List.setIfInBounds_toArray, List.set_cons_zero, List.set_cons_succ] at hK
          unfold Reg.Does
          go_simp
          try simp only [IntWalk.i64_left]
          first
            | exact hK _ (Below.refl _ _)
        simp only [Act.put, List.setIfInBounds_toArray, List.set_cons_zero, List.set_cons_succ, List.nil_append, List.cons_append, Nat.reduceAdd, Nat.zero_add]
      refine Reg.SeqOK.nil (by kernel_rfl) (fun γ W hW _ _ _ => ?_)
      have hw2 : Below w.heap.size w W := hbw.trans (hW.mono hbw.size)
      clear hW hbw
      go_wp2_with fail
      have hmod : (m : Int).tmod (n : Int) = ((m % n : Nat) : Int) := by rw [Int.tmod_eq_emod_of_nonneg (by omega)]; rfl
      have hlt2 : m % n < n := Nat.mod_lt _ (by omega)
      refine ⟨⟨n, m % n, rfl, by rw [hmod], hn, by omega, ?_, hw2⟩, by simp only [intOf, hmod]; omega⟩
      rw [← Hgcd.out, Nat.gcd_comm m n, Nat.gcd_rec n m, Nat.gcd_comm]

/-- 'divisor' at integers. -/
theorem divisorI_any (a b : Int) (w : World) (ha : 0 ≤ a) (ha' : a < 18446744073709551616) (hb : 0 ≤ b) (hb' : b < 18446744073709551616) :
    Calls Try.prog 55 #[.int .u64 a, .int .u64 b] w fun e w' => e = .returned (.int .u64 (gcdI a b)) ∧ Below w.heap.size w w' := by
  obtain ⟨m, rfl⟩ := Int.eq_ofNat_of_zero_le ha
  obtain ⟨n, rfl⟩ := Int.eq_ofNat_of_zero_le hb
  exact divisor_any m n w (by omega) (by omega)

def most : Int := 4611686018427387904
theorem term_ok (n : Int) (g : Nat) (w : World) (hn : 0 ≤ n) (hm : n ≤ most) (hc : w.cell? ⟨g, 0, none⟩ = some (.bool false)) (hf : w.frozen? ⟨g, 0, none⟩ = false) :
    Calls Try.prog 75 #[.int .u64 n, .pointer (some ⟨g, 0, none⟩)] w fun e w' => e = .returned (.int .i64 n) ∧ w' = w.setCell ⟨g, 0, none⟩ (.bool false) := by
  have hgt : (4611686018427387904 < n) = False := by simp only [most] at hm; simp; omega
  go_enter Try.func75, Try.ntmps75
  go_wp2_with fail
  go_ret
  exact ⟨ret_int (IntWalk.wrap64_in n (by simp only [most] at hm; omega)), rfl⟩

theorem term_big (n : Int) (g : Nat) (w : World) (hm : most < n) (hc : w.cell? ⟨g, 0, none⟩ = some (.bool false)) (hf : w.frozen? ⟨g, 0, none⟩ = false) :
    Calls Try.prog 75 #[.int .u64 n, .pointer (some ⟨g, 0, none⟩)] w fun e w' => e = .returned (.int .i64 0) ∧ w' = w.setCell ⟨g, 0, none⟩ (.bool true) := by
  have hgt : (4611686018427387904 < n) = True := by simp only [most] at hm; simp; omega
  go_enter Try.func75, Try.ntmps75
  go_wp2_with fail
  go_ret
  exact ⟨rfl, rfl⟩

theorem term_failed (n : Int) (g : Nat) (w : World) (hc : w.cell? ⟨g, 0, none⟩ = some (.bool true)) (hf : w.frozen? ⟨g, 0, none⟩ = false) :
    Calls Try.prog 75 #[.int .u64 n, .pointer (some ⟨g, 0, none⟩)] w fun e w' => e = .returned (.int .i64 0) ∧ w' = w.setCell ⟨g, 0, none⟩ (.bool true) := by
  go_enter Try.func75, Try.ntmps75
  go_wp2_with fail
  go_ret
  exact ⟨rfl, rfl⟩

/-- Numerator, denominator, error. -/
def madeI (neg : Bool) (num den : Int) : Int × Int × Int := if num ≤ most ∧ den ≤ most then (if neg then -num else num, den, 0) else (0, 0, 9)
def fracV (r : Int × Int × Int) : Value := .tuple #[.agg #[.int .i64 r.1, .int .i64 r.2.1], .int .i64 r.2.2]

theorem made_ok (neg : Bool) (num den : Int) (w : World) (h1 : 0 ≤ num) (h2 : 0 ≤ den) (m1 : num ≤ most) (m2 : den ≤ most) :
    Calls Try.prog 59 #[.bool neg, .int .u64 num, .int .u64 den] w fun e w' => e = .returned (fracV (madeI neg num den)) ∧ Below w.heap.size w w' := by
  have hm : madeI neg num den = (if neg then -num else num, den, 0) := if_pos ⟨m1, m2⟩
  have Hm := Lib.hid hm
  clear hm
  have HM1 := Lib.hid m1
  clear m1
  have HM2 := Lib.hid m2
  clear m2
  cases neg
  all_goals
    go_enter Try.func59, Try.ntmps59
    go_wp2_with (first | (go_at_call_of 75 (Value.int IntKind.u64 num); (with_reducible refine (term_ok _ _ _ h1 HM1.out (by simp) (by simp)).mono ?_); rintro e w1 ⟨rfl, rfl⟩) | (go_at_call_of 75 (Value.int IntKind.u64 den); (with_reducible refine (term_ok _ _ _ h2 HM2.out (by simp) (by simp)).mono ?_); rintro e w1 ⟨rfl, rfl⟩))
  · refine bodyPost_ret (v := fracV (madeI false num den)) (by rw [Hm.out]; simp [results, Try.results59, go_sem, fracV]) rfl ⟨rfl, ?_⟩
    repeat (first | exact Below.refl _ _ | assumption | (refine Below.setCell ?_ (by first | (simp; done) | (simp; omega) | omega) _) | (refine Below.alloc ?_ (by first | (simp; done) | (simp; omega) | omega) _) | (refine Below.drew ?_))
  · refine bodyPost_ret (v := fracV (madeI true num den)) (by rw [Hm.out]; simp [results, Try.results59, go_sem, fracV, IntWalk.wrap64_in (-num) (by have := HM1.out; simp only [most] at this; omega)]) rfl ⟨rfl, ?_⟩
    repeat (first | exact Below.refl _ _ | assumption | (refine Below.setCell ?_ (by first | (simp; done) | (simp; omega) | omega) _) | (refine Below.alloc ?_ (by first | (simp; done) | (simp; omega) | omega) _) | (refine Below.drew ?_))

theorem made_big1 (neg : Bool) (num den : Int) (w : World) (m1 : most < num) :
    Calls Try.prog 59 #[.bool neg, .int .u64 num, .int .u64 den] w fun e w' => e = .returned (fracV (madeI neg num den)) ∧ Below w.heap.size w w' := by
  have hm : madeI neg num den = (0, 0, 9) := if_neg (by omega)
  have Hm := Lib.hid hm
  clear hm
  have HM1 := Lib.hid m1
  clear m1
  go_enter Try.func59, Try.ntmps59
  go_wp2_with fail
  (with_reducible refine (term_big _ _ _ HM1.out (by simp) (by simp)).mono ?_); rintro e w1 ⟨rfl, rfl⟩
  go_wp2_with fail
  (with_reducible refine (term_failed _ _ _ (by simp) (by simp)).mono ?_); rintro e w1 ⟨rfl, rfl⟩
  go_wp2_with fail
  refine bodyPost_ret (v := fracV (madeI neg num den)) (by rw [Hm.out]; simp [results, Try.results59, go_sem, fracV]) rfl ⟨rfl, ?_⟩
  repeat (first | exact Below.refl _ _ | assumption | (refine Below.setCell ?_ (by first | (simp; done) | (simp; omega) | omega) _) | (refine Below.alloc ?_ (by first | (simp; done) | (simp; omega) | omega) _) | (refine Below.drew ?_))

theorem made_big2 (neg : Bool) (num den : Int) (w : World) (h1 : 0 ≤ num) (m1 : num ≤ most) (m2 : most < den) :
    Calls Try.prog 59 #[.bool neg, .int .u64 num, .int .u64 den] w fun e w' => e = .returned (fracV (madeI neg num den)) ∧ Below w.heap.size w w' := by
  have hm : madeI neg num den = (0, 0, 9) := if_neg (by omega)
  have Hm := Lib.hid hm
  clear hm
  have HM1 := Lib.hid m1
  clear m1
  have HM2 := Lib.hid m2
  clear m2
  go_enter Try.func59, Try.ntmps59
  go_wp2_with fail
  (with_reducible refine (term_ok _ _ _ h1 HM1.out (by simp) (by simp)).mono ?_); rintro e w1 ⟨rfl, rfl⟩
  go_wp2_with fail
  (with_reducible refine (term_big _ _ _ HM2.out (by simp) (by simp)).mono ?_); rintro e w1 ⟨rfl, rfl⟩
  go_wp2_with fail
  refine bodyPost_ret (v := fracV (madeI neg num den)) (by rw [Hm.out]; simp [results, Try.results59, go_sem, fracV]) rfl ⟨rfl, ?_⟩
  repeat (first | exact Below.refl _ _ | assumption | (refine Below.setCell ?_ (by first | (simp; done) | (simp; omega) | omega) _) | (refine Below.alloc ?_ (by first | (simp; done) | (simp; omega) | omega) _) | (refine Below.drew ?_))


theorem made_any (neg : Bool) (num den : Int) (w : World) (h1 : 0 ≤ num) (h2 : 0 ≤ den) :
    Calls Try.prog 59 #[.bool neg, .int .u64 num, .int .u64 den] w fun e w' => e = .returned (fracV (madeI neg num den)) ∧ Below w.heap.size w w' := by
  by_cases m1 : num ≤ most
  · by_cases m2 : den ≤ most
    · exact made_ok neg num den w h1 h2 m1 m2
    · exact made_big2 neg num den w h1 m1 (by omega)
  · exact made_big1 neg num den w (by omega)

/-- Of. -/
def ofI (num den : Int) : Int × Int × Int := if den = 0 then (0, 0, 14) else madeI (decide (num < 0) != decide (den < 0)) (absI num / gcdI (absI num) (absI den)) (absI den / gcdI (absI num) (absI den))
end G
end Go.Proofs.Ytjeapimjgojpoaa
