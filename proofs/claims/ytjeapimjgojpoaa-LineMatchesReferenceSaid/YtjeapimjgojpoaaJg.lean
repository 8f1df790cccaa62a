/- Fractions of the reference: 'Valid'. -/
import Derived.Test.YtjeapimjgojpoaaJf2
import Derived.Test.YtjeapimjgojpoaaReh
set_option linter.unusedSimpArgs false
set_option linter.unusedVariables false
set_option maxRecDepth 100000
namespace Go.Proofs.Ytjeapimjgojpoaa
open Go.RowKit
namespace G

theorem keepN {w w' : World} (h : Reg.Keep (fun _ => False) w w') : Below w.heap.size w w' := h.below fun _ hk => ⟨hk, fun h => h⟩
theorem digitsV (n : Int) (w : World) (hn : -9223372036854775808 < n ∧ n ≤ 9223372036854775807) :
    Calls Try.prog 63 #[.int .i64 n] w fun e w' => (∃ v, e = .returned v ∧ NumV w' v n.natAbs) ∧ Below w.heap.size w w' := by
  refine (digits_any n w hn).mono ?_
  rintro e w' ⟨⟨A, c, rfl, h⟩, hb⟩
  exact ⟨⟨_, rfl, A, c, rfl, h⟩, hb⟩
def vF (m n g : Nat) (d : Nat) (v : Value) (w : World) : Prop := (d = 2 ∨ d = 5 → NumV w v (if d = 2 then m else n)) ∧ (d = 6 → ∃ A c, v = .slice A g c)
theorem vF_s {m n g : Nat} : ∀ d v w w', vF m n g d v w → Reg.Keep (fun _ => False) w w' → vF m n g d v w' := fun _ _ _ _ h k => ⟨fun e => (h.1 e).below (keepN k), h.2⟩
theorem absI_nat (n : Int) : (absI n).toNat = n.natAbs := by have := absI_spec n; omega
theorem bits62 {n : Int} (h1 : -4611686018427387904 ≤ n) (h2 : n ≤ 4611686018427387904) : (bitsOf n.natAbs).length ≤ 63 := bits_len_le (by omega)

set_option maxHeartbeats 8000000 in
theorem rvalid_any (num den : Int) (w : World) (b1 : -9223372036854775808 ≤ num ∧ num ≤ 9223372036854775807) (b2 : -9223372036854775808 ≤ den ∧ den ≤ 9223372036854775807) :
    Calls Try.prog 36 #[.agg #[.int .i64 num, .int .i64 den]] w fun e w' => e = .returned (.bool (validI num den)) ∧ Below w.heap.size w w' := by
  obtain ⟨b1, b1'⟩ := b1
  obtain ⟨b2, b2'⟩ := b2
  have Hv : Hid (validI num den = (decide (0 < den) && (decide (den ≤ 4611686018427387904) && (decide (absI num ≤ 4611686018427387904) && (gcdI (absI num) (absI den) == 1))))) := by unfold Hid; rfl
  have ha := absI_spec num
  have k1 := Reg.Blk.new w #[.int .i64 num, .int .i64 den] 32
  have hal : Hid (Below w.heap.size w (w.alloc (.cells #[.int .i64 num, .int .i64 den] 32))) := (Below.refl _ _).alloc (Nat.le_refl _) _
  obtain ⟨c1, f1, z1⟩ := k1.facts
  clear k1
  by_cases v1 : den < 1
  · clear ha
    go_enter Try.func36, Try.ntmps36
    go_wp2_with fail
    go_ret
    exact ⟨ret_bool (by rw [Hv.out, decide_eq_false (by omega)]; rfl), hal.out⟩
  by_cases v2 : 4611686018427387904 < den
  · clear ha
    go_enter Try.func36, Try.ntmps36
    go_wp2_with fail
    go_ret
    exact ⟨ret_bool (by rw [Hv.out, decide_eq_false (p := den ≤ 4611686018427387904) (by omega)]; simp), hal.out⟩
  by_cases v3 : num < -4611686018427387904
  · have Hq : Hid (decide (absI num ≤ 4611686018427387904) = false) := decide_eq_false (by omega)
    clear ha
    go_enter Try.func36, Try.ntmps36
    go_wp2_with fail
    go_ret
    exact ⟨ret_bool (by rw [Hv.out, Hq.out]; simp), hal.out⟩
  by_cases v4 : 4611686018427387904 < num
  · have Hq : Hid (decide (absI num ≤ 4611686018427387904) = false) := decide_eq_false (by omega)
    clear ha
    go_enter Try.func36, Try.ntmps36
    go_wp2_with fail
    go_ret
    exact ⟨ret_bool (by rw [Hv.out, Hq.out]; simp), hal.out⟩
  have Hq : Hid (validI num den = decide ((bitsOf (Nat.gcd num.natAbs den.natAbs)).length = 1)) := by
    unfold Hid
    rw [Hv.out, decide_eq_true (p := absI num ≤ 4611686018427387904) (by omega), decide_eq_true (p := (0 : Int) < den) (by omega), decide_eq_true (p := den ≤ 4611686018427387904) (by omega)]
    simp only [Bool.true_and]
    unfold gcdI
    rw [absI_nat, absI_nat, Bool.eq_iff_iff, decide_eq_true_iff, bits_len_one, beq_iff_eq]
    omega
  have HD := Lib.hid (And.intro (bits62 (n := num) (by omega) (by omega)) (bits62 (n := den) (by omega) (by omega)))
  obtain ⟨m, hm⟩ : ∃ m, m = num.natAbs := ⟨_, rfl⟩
  obtain ⟨n, hn⟩ : ∃ n, n = den.natAbs := ⟨_, rfl⟩
  have H1 : Hid (∀ W, Calls Try.prog 63 #[.int .i64 num] W fun e w' => (∃ v, e = .returned v ∧ NumV w' v m) ∧ Below W.heap.size W w') := fun W => by rw [hm]; exact digitsV num W (by omega)
  have H2 : Hid (∀ W, Calls Try.prog 63 #[.int .i64 den] W fun e w' => (∃ v, e = .returned v ∧ NumV w' v n) ∧ Below W.heap.size W w') := fun W => by rw [hn]; exact digitsV den W (by omega)
  rw [← hm, ← hn] at Hq HD
  clear ha hm hn Hv
  go_enter Try.func36, Try.ntmps36
  go_wp2_with fail
  generalize hgw : w.heap.size = gw at *
  generalize w.alloc (.cells #[.int .i64 num, .int .i64 den] 32) = W0 at *
  refine Reg.wp_region_eff (fun _ => False) (vF m n (bitsOf (Nat.gcd m n)).length) (fun _ _ => True) (by kernel_rfl) (by kernel_rfl) vF_s (fun _ _ _ _ _ => trivial) trivial ?_
  simp only
  iterate 2
    apply Reg.SeqE.val
    rotate_left 2
    · intro δ W hW hkn K hK
      obtain ⟨hc, hf, _⟩ := Reg.kcell hW
      simp only [Act.put, List.setIfInBounds_toArray, List.set_cons_zero, List.set_cons_succ] at hK
      unfold Reg.Does
      go_simp
      try simp only [IntWalk.i64_left]
      first
        | exact hK _ (Below.refl _ _)
        | (trace_state; fail)
    rotate_left 1
    · intro δ δ' hd; first | rfl | (simp only [hd _ (show Reg.reach _ 12 _ _ = true by kernel_rfl)])
    · intro x w; first | exact trivial | (intro e; exact absurd e (by decide)) | exact ⟨fun e => absurd e (by decide), fun e => absurd e (by decide)⟩
    simp only [Act.put, List.setIfInBounds_toArray, List.set_cons_zero, List.set_cons_succ, List.nil_append, List.cons_append, Nat.reduceAdd, Nat.zero_add]
  refine Reg.SeqE.new (fun δ W hW hkn K hK => ?_) ?_
  · simp only [Act.put, List.setIfInBounds_toArray, List.set_cons_zero, List.set_cons_succ] at hK
    unfold Reg.Does
    go_simp
    (with_reducible refine (H1.out W).mono ?_); rintro e w' ⟨⟨v, rfl, hv⟩, hb⟩
    exact hK _ _ hb ⟨fun _ => hv, fun e => absurd e (by decide)⟩
  simp only [Act.put, List.setIfInBounds_toArray, List.set_cons_zero, List.set_cons_succ, List.nil_append, List.cons_append, Nat.reduceAdd, Nat.zero_add]
  iterate 2
    apply Reg.SeqE.val
    rotate_left 2
    · intro δ W hW hkn K hK
      obtain ⟨hc, hf, _⟩ := Reg.kcell hW
      simp only [Act.put, List.setIfInBounds_toArray, List.set_cons_zero, List.set_cons_succ] at hK
      unfold Reg.Does
      go_simp
      try simp only [IntWalk.i64_left]
      first
        | exact hK _ (Below.refl _ _)
        | (trace_state; fail)
    rotate_left 1
    · intro δ δ' hd; first | rfl | (simp only [hd _ (show Reg.reach _ 12 _ _ = true by kernel_rfl)])
    · intro x w; first | exact trivial | (intro e; exact absurd e (by decide)) | exact ⟨fun e => absurd e (by decide), fun e => absurd e (by decide)⟩
    simp only [Act.put, List.setIfInBounds_toArray, List.set_cons_zero, List.set_cons_succ, List.nil_append, List.cons_append, Nat.reduceAdd, Nat.zero_add]
  refine Reg.SeqE.new (fun δ W hW hkn K hK => ?_) ?_
  · simp only [Act.put, List.setIfInBounds_toArray, List.set_cons_zero, List.set_cons_succ] at hK
    unfold Reg.Does
    go_simp
    (with_reducible refine (H2.out W).mono ?_); rintro e w' ⟨⟨v, rfl, hv⟩, hb⟩
    exact hK _ _ hb ⟨fun _ => hv, fun e => absurd e (by decide)⟩
  simp only [Act.put, List.setIfInBounds_toArray, List.set_cons_zero, List.set_cons_succ, List.nil_append, List.cons_append, Nat.reduceAdd, Nat.zero_add]
  refine Reg.SeqE.new (fun δ W hW hkn K hK => ?_) ?_
  · have x2 := (hkn 2 (by kernel_rfl)).1 (.inl rfl)
    have x5 := (hkn 5 (by kernel_rfl)).1 (.inr rfl)
    have Q := Lib.hid (divV x2 x5 (by have := HD.out; simp; omega) (by have := HD.out; simp; omega))
    clear x2 x5
    simp only [Act.put, List.setIfInBounds_toArray, List.set_cons_zero, List.set_cons_succ] at hK
    unfold Reg.Does
    go_simp
    (with_reducible refine Q.out.mono ?_); rintro e w' ⟨⟨A', c', rfl⟩, hb⟩
    exact hK _ _ hb ⟨fun e => absurd e (by decide), fun _ => ⟨A', c', rfl⟩⟩
  simp only [Act.put, List.setIfInBounds_toArray, List.set_cons_zero, List.set_cons_succ, List.nil_append, List.cons_append, Nat.reduceAdd, Nat.zero_add]
  refine Reg.SeqE.val (fun δ => δ 6) (fun δ δ' hd => hd 6 (by kernel_rfl)) (fun _ _ => ⟨fun e => absurd e (by decide), fun e => absurd e (by decide)⟩) (fun δ W hW hkn K hK => ?_) ?_
  · simp only [Act.put, List.setIfInBounds_toArray, List.set_cons_zero, List.set_cons_succ] at hK
    unfold Reg.Does
    go_simp
    exact hK _ (Below.refl _ _)
  simp only [Act.put, List.setIfInBounds_toArray, List.set_cons_zero, List.set_cons_succ, List.nil_append, List.cons_append, Nat.reduceAdd, Nat.zero_add]
  refine Reg.SeqE.nil (fun δ W hW hkn _ => ?_)
  obtain ⟨A', c', e6⟩ := (hkn 6 (by decide)).2 rfl
  rw [e6]
  generalize δ 2 = u24
  generalize δ 5 = u27
  have HB : Hid (Below gw w W) := hal.out.trans ((keepN hW).mono (by rw [← hgw]; have := hal.out.size; omega))
  clear hW hkn e6 c1 f1 z1
  generalize hgl : (bitsOf (Nat.gcd m n)).length = gl at *
  go_wp2_with fail
  go_ret
  refine ⟨ret_bool ?_, by rw [hgw]; exact HB.out⟩
  rw [Hq.out, Bool.eq_iff_iff, beq_iff_eq, decide_eq_true_iff]
  omega
end G
end Go.Proofs.Ytjeapimjgojpoaa
