/- Fractions: 'Add' where two parts add up to one. -/
import Derived.Test.YtjeapimjgojpoaaFc
import Derived.Laws.Externs
set_option linter.unusedSimpArgs false
set_option linter.unusedVariables false
set_option maxRecDepth 100000
namespace Go.Proofs.Ytjeapimjgojpoaa
open Go.RowKit
namespace G

theorem run_add (x y c : Nat) (hc : c ≤ 1) (w : World) :
    (callFunc 72 #[.int .u64 x, .int .u64 y, .int .u64 c]).run Try.prog w = .ok (.value (.tuple #[.int .u64 (((x + y + c) % 18446744073709551616 : Nat) : Int), .int .u64 (((x + y + c) / 18446744073709551616 : Nat) : Int)])) w := by
  rw [run_callFunc_extern Try.func72 (by kernel_rfl) (by kernel_rfl) (by kernel_rfl) (e := add64Entry) (by kernel_rfl), run_add64 x y c (by omega) (by omega) (by omega) (by omega)]
  simp only [Result.andThen]
  congr 5 <;> omega
theorem run_addI (x y : Int) (hx : 0 ≤ x) (hy : 0 ≤ y) (h : x + y < 9223372036854775808) (w : World) :
    (callFunc 72 #[.int .u64 x, .int .u64 y, .int .u64 0]).run Try.prog w = .ok (.value (.tuple #[.int .u64 (x + y), .int .u64 0])) w := by
  obtain ⟨m, rfl⟩ := Int.eq_ofNat_of_zero_le hx
  obtain ⟨n, rfl⟩ := Int.eq_ofNat_of_zero_le hy
  have := run_add m n 0 (by omega) w
  rw [Nat.mod_eq_of_lt (by omega), Nat.div_eq_of_lt (by omega)] at this
  simpa using this

theorem plus_any (x y : Int) (w : World) (hx : 0 ≤ x) (hy : 0 ≤ y) (h : x + y < 9223372036854775808) :
    Calls Try.prog 56 #[.agg #[.int .u64 0, .int .u64 x], .agg #[.int .u64 0, .int .u64 y]] w fun e w' => e = .returned (.agg #[.int .u64 0, .int .u64 (x + y)]) ∧ Below w.heap.size w w' := by
  have r1 := run_addI x y hx hy h
  have r2 := run_addI 0 0 (by omega) (by omega) (by omega)
  go_enter Try.func56, Try.ntmps56
  go_wp2_with fail
  refine bodyPost_ret (v := .agg #[.int .u64 0, .int .u64 (x + y)]) (by simp [results, Try.results56, go_sem]) rfl ⟨rfl, ?_⟩
  repeat (first | exact Below.refl _ _ | assumption | (refine Below.setCell ?_ (by first | (simp; done) | (simp; omega) | omega) _) | (refine Below.alloc ?_ (by first | (simp; done) | (simp; omega) | omega) _) | (refine Below.drew ?_))

theorem times_one (x : Int) (w : World) (hx : 0 ≤ x) (h : x < 9223372036854775808) :
    Calls Try.prog 40 #[.int .u64 x, .int .u64 1] w fun e w' => e = .returned (.agg #[.int .u64 0, .int .u64 x]) ∧ Below w.heap.size w w' := by
  obtain ⟨m, rfl⟩ := Int.eq_ofNat_of_zero_le hx
  refine (times_any m 1 w (by omega) (by omega)).mono ?_
  rintro e w' ⟨rfl, hb⟩
  refine ⟨?_, hb⟩
  unfold hiI loI
  rw [Nat.mul_one, Nat.mod_eq_of_lt (by omega), Nat.div_eq_of_lt (by omega)]
  rfl

theorem div_any (x y : Int) (w : World) (hx : 0 ≤ x) (hx' : x < 9223372036854775808) (hy : 1 ≤ y) (hy' : y < 9223372036854775808) :
    Calls Try.prog 74 #[.int .u64 0, .int .u64 x, .int .u64 y] w fun e w' => e = .returned (.tuple #[.int .u64 (x / y), .int .u64 (x % y)]) ∧ Below w.heap.size w w' := by
  have q1 : IntKind.u64.wrap (x.tdiv y) = x / y := by
    rw [Int.tdiv_eq_ediv_of_nonneg hx]
    refine u64_in _ (Int.ediv_nonneg hx (by omega)) ?_
    exact Int.lt_of_le_of_lt (Int.ediv_le_self _ hx) (by omega)
  have q2 : x.tmod y = x % y := Int.tmod_eq_emod_of_nonneg hx
  have hy0 : (y == 0) = false := by simp; omega
  have hy1 : ¬ y = 0 := by omega
  have hle : ¬ y ≤ 0 := by omega
  go_enter Try.func74, Try.ntmps74
  go_wp2_with fail
  refine Reg.wp_region_seq (by kernel_rfl) (by kernel_rfl) ?_
  simp only
  iterate 8
    apply Reg.SeqOK.val
    · intro γ W hW K hK
      obtain ⟨hc, hf, _⟩ := bcell hW
      simp only [Act.put, List.setIfInBounds_toArray, List.set_cons_zero, List.set_cons_succ] at hK
      unfold Reg.Does
      go_simp
      try simp only [IntWalk.i64_left]
      first
        | exact hK _ (Below.refl _ _)
    simp only [Act.put, List.setIfInBounds_toArray, List.set_cons_zero, List.set_cons_succ, List.nil_append, List.cons_append, Nat.reduceAdd, Nat.zero_add]
  refine Reg.SeqOK.nil (by kernel_rfl) (fun γ W hW _ _ _ => ?_)
  go_wp2_with fail
  go_ret2
  exact ⟨rfl, hW⟩

theorem rem_any (x y : Int) (w : World) (hx : 0 ≤ x) (hx' : x < 9223372036854775808) (hy : 1 ≤ y) (hy' : y < 9223372036854775808) :
    Calls Try.prog 58 #[.int .u64 0, .int .u64 x, .int .u64 y] w fun e w' => e = .returned (.int .u64 (x % y)) ∧ Below w.heap.size w w' := by
  have hy1 : ¬ y = 0 := by omega
  have hT := Below.refl w.heap.size w
  go_enter Try.func58, Try.ntmps58
  go_wp2_with (first | (go_at_call 74; (with_reducible refine (div_any _ _ _ (by omega) (by omega) (by omega) (by omega)).mono ?_); rintro e w' ⟨rfl, hb⟩; first | (replace hT := hT.trans (hb.mono hT.size); clear hc hf hb; obtain ⟨hc, hf, _⟩ := bcell hT) | (replace hT := hT.trans (((Below.refl _ _).alloc hT.size _).trans (hb.mono (Nat.le_trans hT.size (by simp)))); clear hc hf hb; obtain ⟨hc, hf, _⟩ := bcell hT) | (have hT := hb; clear hb; obtain ⟨hc, hf, _⟩ := bcell hT)))
  go_ret
  exact ⟨rfl, hT⟩

theorem over_any (x y : Int) (w : World) (hx : 0 ≤ x) (hx' : x < 9223372036854775808) (hy : 1 ≤ y) (hy' : y < 9223372036854775808) :
    Calls Try.prog 60 #[.agg #[.int .u64 0, .int .u64 x], .int .u64 y] w fun e w' => e = .returned (.int .u64 (x / y)) ∧ Below w.heap.size w w' := by
  have hle : ¬ y ≤ 0 := by omega
  have hT := Below.refl w.heap.size w
  go_enter Try.func60, Try.ntmps60
  go_wp2_with fail
  (with_reducible refine (div_any x y _ hx hx' hy hy').mono ?_); rintro e w' ⟨rfl, hb⟩
  go_wp2_with fail
  go_ret
  exact ⟨rfl, ((Below.refl _ _).alloc (Nat.le_refl _) _).trans (hb.mono (by simp))⟩

theorem gcd_self (q : Int) (h : 0 ≤ q) : gcdI q q = q := by unfold gcdI; simp; omega
theorem gcd_zero (q : Int) (h : 0 ≤ q) : gcdI 0 q = q := by unfold gcdI; simp; omega
theorem absI_nn (n : Int) (h : 0 ≤ n) : absI n = n := by have := absI_spec n; omega

/-- What adding asks of its callees here. -/
theorem size_nn (n : Int) (w : World) (h1 : 0 ≤ n) (h2 : n ≤ 9223372036854775807) : Calls Try.prog 41 #[.int .i64 n] w fun e w' => e = .returned (.int .u64 n) ∧ Below w.heap.size w w' := by
  have h := size_any n w (by omega) h2
  rw [absI_nn n h1] at h
  exact h
theorem div_self (q : Int) (w : World) (h1 : 0 ≤ q) (h2 : q < 18446744073709551616) : Calls Try.prog 55 #[.int .u64 q, .int .u64 q] w fun e w' => e = .returned (.int .u64 q) ∧ Below w.heap.size w w' := by
  have h := divisorI_any q q w h1 h2 h1 h2
  rw [gcd_self q h1] at h
  exact h
theorem div_zero (q : Int) (w : World) (h1 : 0 ≤ q) (h2 : q < 18446744073709551616) : Calls Try.prog 55 #[.int .u64 0, .int .u64 q] w fun e w' => e = .returned (.int .u64 q) ∧ Below w.heap.size w w' := by
  have h := divisorI_any 0 q w (by omega) (by omega) h1 h2
  rw [gcd_zero q h1] at h
  exact h
theorem valid_t (n d : Int) (w : World) (h : validI n d = true) (h1 : -9223372036854775808 ≤ n ∧ n ≤ 9223372036854775807) (h2 : -9223372036854775808 ≤ d ∧ d ≤ 9223372036854775807) :
    Calls Try.prog 39 #[.agg #[.int .i64 n, .int .i64 d]] w fun e w' => e = .returned (.bool true) ∧ Below w.heap.size w w' := by
  have k := valid_any n d w h1.1 h1.2 h2.1 h2.2
  rw [h] at k
  exact k
theorem made_one (w : World) : Calls Try.prog 59 #[.bool false, .int .u64 1, .int .u64 1] w fun e w' => e = .returned (.tuple #[.agg #[.int .i64 1, .int .i64 1], .int .i64 0]) ∧ Below w.heap.size w w' :=
  made_any false 1 1 w (by omega) (by omega)
theorem over_self (q : Int) (w : World) (h1 : 1 ≤ q) (h2 : q < 9223372036854775808) : Calls Try.prog 60 #[.agg #[.int .u64 0, .int .u64 q], .int .u64 q] w fun e w' => e = .returned (.int .u64 1) ∧ Below w.heap.size w w' := by
  have h := over_any q q w (by omega) h2 h1 h2
  rw [Int.ediv_self (by omega)] at h
  exact h
theorem rem_self (q : Int) (w : World) (h1 : 1 ≤ q) (h2 : q < 9223372036854775808) : Calls Try.prog 58 #[.int .u64 0, .int .u64 q, .int .u64 q] w fun e w' => e = .returned (.int .u64 0) ∧ Below w.heap.size w w' := by
  have h := rem_any q q w (by omega) h2 h1 h2
  rw [Int.emod_self] at h
  exact h

set_option maxHeartbeats 4000000 in
theorem add_one (p r q : Int) (w : World) (h1 : 0 ≤ p) (h2 : 0 ≤ r) (h3 : 1 ≤ q) (h4 : q ≤ 2147352578) (h5 : p + r = q) (v1 : validI p q = true) (v2 : validI r q = true) :
    Calls Try.prog 29 #[.agg #[.int .i64 p, .int .i64 q], .agg #[.int .i64 r, .int .i64 q]] w fun e w' => e = .returned (.tuple #[.agg #[.int .i64 1, .int .i64 1], .int .i64 0]) ∧ Below w.heap.size w w' := by
  have hT := Below.refl w.heap.size w
  have k1 : validI p q = true := v1
  have q1 : IntKind.u64.wrap (q.tdiv q) = 1 := by rw [Int.tdiv_self (by omega)]; rfl
  have w1 : IntKind.u64.wrap 1 = 1 := rfl
  have hq0 : ¬ q = 0 := by omega
  have hqb : (q == 0) = false := by simp; omega
  have n1 : ¬ p < 0 := by omega
  have n2 : ¬ r < 0 := by omega
  have hp : p ≤ q := by omega
  have hr : r ≤ q := by omega
  have H5 := Lib.hid h5
  clear h5
  go_enter Try.func29, Try.ntmps29
  go_wp2_with fail
  first | (go_at_call 39; (with_reducible refine (valid_t _ _ _ (by assumption) (by omega) (by omega)).mono ?_); rintro e w' ⟨rfl, hb⟩; first | (replace hT := (hT).trans (hb.mono hT.size); clear hb) | (replace hT := (hT.alloc hT.size _).trans (hb.mono (Nat.le_trans hT.size (by simp; try omega))); clear hb) | (replace hT := ((hT.alloc hT.size _).alloc (Nat.le_trans hT.size (by simp; try omega)) _).trans (hb.mono (Nat.le_trans hT.size (by simp; try omega))); clear hb) | (replace hT := (((hT.alloc hT.size _).alloc (Nat.le_trans hT.size (by simp; try omega)) _).alloc (Nat.le_trans hT.size (by simp; try omega)) _).trans (hb.mono (Nat.le_trans hT.size (by simp; try omega))); obtain ⟨ka, kb, kc⟩ := Reg.Blk.new3 hb; obtain ⟨cka, fka, zka⟩ := Reg.Blk.facts ka; obtain ⟨ckb, fkb, zkb⟩ := Reg.Blk.facts kb; obtain ⟨ckc, fkc, zkc⟩ := Reg.Blk.facts kc; clear hb) | (replace hT := ((((hT.alloc hT.size _).alloc (Nat.le_trans hT.size (by simp; try omega)) _).alloc (Nat.le_trans hT.size (by simp; try omega)) _).alloc (Nat.le_trans hT.size (by simp; try omega)) _).trans (hb.mono (Nat.le_trans hT.size (by simp; try omega))); clear hb) | (replace hT := (((((hT.alloc hT.size _).alloc (Nat.le_trans hT.size (by simp; try omega)) _).alloc (Nat.le_trans hT.size (by simp; try omega)) _).alloc (Nat.le_trans hT.size (by simp; try omega)) _).alloc (Nat.le_trans hT.size (by simp; try omega)) _).trans (hb.mono (Nat.le_trans hT.size (by simp; try omega))); clear hb))
  go_wp2_with (first | (go_at_call 39; (with_reducible refine (valid_t _ _ _ (by assumption) (by omega) (by omega)).mono ?_); rintro e w' ⟨rfl, hb⟩; first | (replace hT := (hT).trans (hb.mono hT.size); replace ka := (ka).keep hb; clear cka fka zka; obtain ⟨cka, fka, zka⟩ := Reg.Blk.facts ka; replace kb := (kb).keep hb; clear ckb fkb zkb; obtain ⟨ckb, fkb, zkb⟩ := Reg.Blk.facts kb; replace kc := (kc).keep hb; clear ckc fkc zkc; obtain ⟨ckc, fkc, zkc⟩ := Reg.Blk.facts kc; clear hb) | (replace hT := (hT.alloc hT.size _).trans (hb.mono (Nat.le_trans hT.size (by simp; try omega))); replace ka := ((ka).alloc _).keep hb; clear cka fka zka; obtain ⟨cka, fka, zka⟩ := Reg.Blk.facts ka; replace kb := ((kb).alloc _).keep hb; clear ckb fkb zkb; obtain ⟨ckb, fkb, zkb⟩ := Reg.Blk.facts kb; replace kc := ((kc).alloc _).keep hb; clear ckc fkc zkc; obtain ⟨ckc, fkc, zkc⟩ := Reg.Blk.facts kc; clear hb) | (replace hT := ((hT.alloc hT.size _).alloc (Nat.le_trans hT.size (by simp; try omega)) _).trans (hb.mono (Nat.le_trans hT.size (by simp; try omega))); replace ka := (((ka).alloc _).alloc _).keep hb; clear cka fka zka; obtain ⟨cka, fka, zka⟩ := Reg.Blk.facts ka; replace kb := (((kb).alloc _).alloc _).keep hb; clear ckb fkb zkb; obtain ⟨ckb, fkb, zkb⟩ := Reg.Blk.facts kb; replace kc := (((kc).alloc _).alloc _).keep hb; clear ckc fkc zkc; obtain ⟨ckc, fkc, zkc⟩ := Reg.Blk.facts kc; clear hb) | (replace hT := (((hT.alloc hT.size _).alloc (Nat.le_trans hT.size (by simp; try omega)) _).alloc (Nat.le_trans hT.size (by simp; try omega)) _).trans (hb.mono (Nat.le_trans hT.size (by simp; try omega))); replace ka := ((((ka).alloc _).alloc _).alloc _).keep hb; clear cka fka zka; obtain ⟨cka, fka, zka⟩ := Reg.Blk.facts ka; replace kb := ((((kb).alloc _).alloc _).alloc _).keep hb; clear ckb fkb zkb; obtain ⟨ckb, fkb, zkb⟩ := Reg.Blk.facts kb; replace kc := ((((kc).alloc _).alloc _).alloc _).keep hb; clear ckc fkc zkc; obtain ⟨ckc, fkc, zkc⟩ := Reg.Blk.facts kc; clear hb) | (replace hT := ((((hT.alloc hT.size _).alloc (Nat.le_trans hT.size (by simp; try omega)) _).alloc (Nat.le_trans hT.size (by simp; try omega)) _).alloc (Nat.le_trans hT.size (by simp; try omega)) _).trans (hb.mono (Nat.le_trans hT.size (by simp; try omega))); replace ka := (((((ka).alloc _).alloc _).alloc _).alloc _).keep hb; clear cka fka zka; obtain ⟨cka, fka, zka⟩ := Reg.Blk.facts ka; replace kb := (((((kb).alloc _).alloc _).alloc _).alloc _).keep hb; clear ckb fkb zkb; obtain ⟨ckb, fkb, zkb⟩ := Reg.Blk.facts kb; replace kc := (((((kc).alloc _).alloc _).alloc _).alloc _).keep hb; clear ckc fkc zkc; obtain ⟨ckc, fkc, zkc⟩ := Reg.Blk.facts kc; clear hb) | (replace hT := (((((hT.alloc hT.size _).alloc (Nat.le_trans hT.size (by simp; try omega)) _).alloc (Nat.le_trans hT.size (by simp; try omega)) _).alloc (Nat.le_trans hT.size (by simp; try omega)) _).alloc (Nat.le_trans hT.size (by simp; try omega)) _).trans (hb.mono (Nat.le_trans hT.size (by simp; try omega))); replace ka := ((((((ka).alloc _).alloc _).alloc _).alloc _).alloc _).keep hb; clear cka fka zka; obtain ⟨cka, fka, zka⟩ := Reg.Blk.facts ka; replace kb := ((((((kb).alloc _).alloc _).alloc _).alloc _).alloc _).keep hb; clear ckb fkb zkb; obtain ⟨ckb, fkb, zkb⟩ := Reg.Blk.facts kb; replace kc := ((((((kc).alloc _).alloc _).alloc _).alloc _).alloc _).keep hb; clear ckc fkc zkc; obtain ⟨ckc, fkc, zkc⟩ := Reg.Blk.facts kc; clear hb)))
  refine Reg.wp_region_seq (by kernel_rfl) (by kernel_rfl) ?_
  simp only
  iterate 8
    apply Reg.SeqOK.val
    · intro γ W hW K hK
      obtain ⟨hc, hf, _⟩ := bcell hW
      simp only [Act.put, List.setIfInBounds_toArray, List.set_cons_zero, List.set_cons_succ] at hK
      unfold Reg.Does
      go_simp
      try simp only [IntWalk.i64_left]
      first
        | exact hK _ (Below.refl _ _)
        | (go_at_call 41; (with_reducible refine (size_nn _ _ (by omega) (by omega)).mono ?_); rintro e w' ⟨rfl, hb⟩; exact hK _ hb)
    simp only [Act.put, List.setIfInBounds_toArray, List.set_cons_zero, List.set_cons_succ, List.nil_append, List.cons_append, Nat.reduceAdd, Nat.zero_add]
  refine Reg.SeqOK.nil (by kernel_rfl) (fun γ W2 hW q1' q2' q3' => ?_)
  clear q1' q2' q3' γ
  have hb := hW
  clear hW
  first | (replace hT := (hT).trans (hb.mono hT.size); replace ka := (ka).keep hb; clear cka fka zka; obtain ⟨cka, fka, zka⟩ := Reg.Blk.facts ka; replace kb := (kb).keep hb; clear ckb fkb zkb; obtain ⟨ckb, fkb, zkb⟩ := Reg.Blk.facts kb; replace kc := (kc).keep hb; clear ckc fkc zkc; obtain ⟨ckc, fkc, zkc⟩ := Reg.Blk.facts kc; clear hb) | (replace hT := (hT.alloc hT.size _).trans (hb.mono (Nat.le_trans hT.size (by simp; try omega))); replace ka := ((ka).alloc _).keep hb; clear cka fka zka; obtain ⟨cka, fka, zka⟩ := Reg.Blk.facts ka; replace kb := ((kb).alloc _).keep hb; clear ckb fkb zkb; obtain ⟨ckb, fkb, zkb⟩ := Reg.Blk.facts kb; replace kc := ((kc).alloc _).keep hb; clear ckc fkc zkc; obtain ⟨ckc, fkc, zkc⟩ := Reg.Blk.facts kc; clear hb) | (replace hT := ((hT.alloc hT.size _).alloc (Nat.le_trans hT.size (by simp; try omega)) _).trans (hb.mono (Nat.le_trans hT.size (by simp; try omega))); replace ka := (((ka).alloc _).alloc _).keep hb; clear cka fka zka; obtain ⟨cka, fka, zka⟩ := Reg.Blk.facts ka; replace kb := (((kb).alloc _).alloc _).keep hb; clear ckb fkb zkb; obtain ⟨ckb, fkb, zkb⟩ := Reg.Blk.facts kb; replace kc := (((kc).alloc _).alloc _).keep hb; clear ckc fkc zkc; obtain ⟨ckc, fkc, zkc⟩ := Reg.Blk.facts kc; clear hb) | (replace hT := (((hT.alloc hT.size _).alloc (Nat.le_trans hT.size (by simp; try omega)) _).alloc (Nat.le_trans hT.size (by simp; try omega)) _).trans (hb.mono (Nat.le_trans hT.size (by simp; try omega))); replace ka := ((((ka).alloc _).alloc _).alloc _).keep hb; clear cka fka zka; obtain ⟨cka, fka, zka⟩ := Reg.Blk.facts ka; replace kb := ((((kb).alloc _).alloc _).alloc _).keep hb; clear ckb fkb zkb; obtain ⟨ckb, fkb, zkb⟩ := Reg.Blk.facts kb; replace kc := ((((kc).alloc _).alloc _).alloc _).keep hb; clear ckc fkc zkc; obtain ⟨ckc, fkc, zkc⟩ := Reg.Blk.facts kc; clear hb) | (replace hT := ((((hT.alloc hT.size _).alloc (Nat.le_trans hT.size (by simp; try omega)) _).alloc (Nat.le_trans hT.size (by simp; try omega)) _).alloc (Nat.le_trans hT.size (by simp; try omega)) _).trans (hb.mono (Nat.le_trans hT.size (by simp; try omega))); replace ka := (((((ka).alloc _).alloc _).alloc _).alloc _).keep hb; clear cka fka zka; obtain ⟨cka, fka, zka⟩ := Reg.Blk.facts ka; replace kb := (((((kb).alloc _).alloc _).alloc _).alloc _).keep hb; clear ckb fkb zkb; obtain ⟨ckb, fkb, zkb⟩ := Reg.Blk.facts kb; replace kc := (((((kc).alloc _).alloc _).alloc _).alloc _).keep hb; clear ckc fkc zkc; obtain ⟨ckc, fkc, zkc⟩ := Reg.Blk.facts kc; clear hb) | (replace hT := (((((hT.alloc hT.size _).alloc (Nat.le_trans hT.size (by simp; try omega)) _).alloc (Nat.le_trans hT.size (by simp; try omega)) _).alloc (Nat.le_trans hT.size (by simp; try omega)) _).alloc (Nat.le_trans hT.size (by simp; try omega)) _).trans (hb.mono (Nat.le_trans hT.size (by simp; try omega))); replace ka := ((((((ka).alloc _).alloc _).alloc _).alloc _).alloc _).keep hb; clear cka fka zka; obtain ⟨cka, fka, zka⟩ := Reg.Blk.facts ka; replace kb := ((((((kb).alloc _).alloc _).alloc _).alloc _).alloc _).keep hb; clear ckb fkb zkb; obtain ⟨ckb, fkb, zkb⟩ := Reg.Blk.facts kb; replace kc := ((((((kc).alloc _).alloc _).alloc _).alloc _).alloc _).keep hb; clear ckc fkc zkc; obtain ⟨ckc, fkc, zkc⟩ := Reg.Blk.facts kc; clear hb)
  go_wp2_with (first | (go_at_call 55; (with_reducible refine (div_self _ _ (by omega) (by omega)).mono ?_); rintro e w' ⟨rfl, hb⟩; first | (replace hT := (hT).trans (hb.mono hT.size); replace ka := (ka).keep hb; clear cka fka zka; obtain ⟨cka, fka, zka⟩ := Reg.Blk.facts ka; replace kb := (kb).keep hb; clear ckb fkb zkb; obtain ⟨ckb, fkb, zkb⟩ := Reg.Blk.facts kb; replace kc := (kc).keep hb; clear ckc fkc zkc; obtain ⟨ckc, fkc, zkc⟩ := Reg.Blk.facts kc; clear hb) | (replace hT := (hT.alloc hT.size _).trans (hb.mono (Nat.le_trans hT.size (by simp; try omega))); replace ka := ((ka).alloc _).keep hb; clear cka fka zka; obtain ⟨cka, fka, zka⟩ := Reg.Blk.facts ka; replace kb := ((kb).alloc _).keep hb; clear ckb fkb zkb; obtain ⟨ckb, fkb, zkb⟩ := Reg.Blk.facts kb; replace kc := ((kc).alloc _).keep hb; clear ckc fkc zkc; obtain ⟨ckc, fkc, zkc⟩ := Reg.Blk.facts kc; clear hb) | (replace hT := ((hT.alloc hT.size _).alloc (Nat.le_trans hT.size (by simp; try omega)) _).trans (hb.mono (Nat.le_trans hT.size (by simp; try omega))); replace ka := (((ka).alloc _).alloc _).keep hb; clear cka fka zka; obtain ⟨cka, fka, zka⟩ := Reg.Blk.facts ka; replace kb := (((kb).alloc _).alloc _).keep hb; clear ckb fkb zkb; obtain ⟨ckb, fkb, zkb⟩ := Reg.Blk.facts kb; replace kc := (((kc).alloc _).alloc _).keep hb; clear ckc fkc zkc; obtain ⟨ckc, fkc, zkc⟩ := Reg.Blk.facts kc; clear hb) | (replace hT := (((hT.alloc hT.size _).alloc (Nat.le_trans hT.size (by simp; try omega)) _).alloc (Nat.le_trans hT.size (by simp; try omega)) _).trans (hb.mono (Nat.le_trans hT.size (by simp; try omega))); replace ka := ((((ka).alloc _).alloc _).alloc _).keep hb; clear cka fka zka; obtain ⟨cka, fka, zka⟩ := Reg.Blk.facts ka; replace kb := ((((kb).alloc _).alloc _).alloc _).keep hb; clear ckb fkb zkb; obtain ⟨ckb, fkb, zkb⟩ := Reg.Blk.facts kb; replace kc := ((((kc).alloc _).alloc _).alloc _).keep hb; clear ckc fkc zkc; obtain ⟨ckc, fkc, zkc⟩ := Reg.Blk.facts kc; clear hb) | (replace hT := ((((hT.alloc hT.size _).alloc (Nat.le_trans hT.size (by simp; try omega)) _).alloc (Nat.le_trans hT.size (by simp; try omega)) _).alloc (Nat.le_trans hT.size (by simp; try omega)) _).trans (hb.mono (Nat.le_trans hT.size (by simp; try omega))); replace ka := (((((ka).alloc _).alloc _).alloc _).alloc _).keep hb; clear cka fka zka; obtain ⟨cka, fka, zka⟩ := Reg.Blk.facts ka; replace kb := (((((kb).alloc _).alloc _).alloc _).alloc _).keep hb; clear ckb fkb zkb; obtain ⟨ckb, fkb, zkb⟩ := Reg.Blk.facts kb; replace kc := (((((kc).alloc _).alloc _).alloc _).alloc _).keep hb; clear ckc fkc zkc; obtain ⟨ckc, fkc, zkc⟩ := Reg.Blk.facts kc; clear hb) | (replace hT := (((((hT.alloc hT.size _).alloc (Nat.le_trans hT.size (by simp; try omega)) _).alloc (Nat.le_trans hT.size (by simp; try omega)) _).alloc (Nat.le_trans hT.size (by simp; try omega)) _).alloc (Nat.le_trans hT.size (by simp; try omega)) _).trans (hb.mono (Nat.le_trans hT.size (by simp; try omega))); replace ka := ((((((ka).alloc _).alloc _).alloc _).alloc _).alloc _).keep hb; clear cka fka zka; obtain ⟨cka, fka, zka⟩ := Reg.Blk.facts ka; replace kb := ((((((kb).alloc _).alloc _).alloc _).alloc _).alloc _).keep hb; clear ckb fkb zkb; obtain ⟨ckb, fkb, zkb⟩ := Reg.Blk.facts kb; replace kc := ((((((kc).alloc _).alloc _).alloc _).alloc _).alloc _).keep hb; clear ckc fkc zkc; obtain ⟨ckc, fkc, zkc⟩ := Reg.Blk.facts kc; clear hb)))
  refine Reg.wp_region_seq (by kernel_rfl) (by kernel_rfl) ?_
  simp only
  iterate 14
    apply Reg.SeqOK.val
    · intro γ W hW K hK
      obtain ⟨hc, hf, _⟩ := bcell hW
      simp only [Act.put, List.setIfInBounds_toArray, List.set_cons_zero, List.set_cons_succ] at hK
      unfold Reg.Does
      go_simp
      try simp only [IntWalk.i64_left]
      first
        | exact hK _ (Below.refl _ _)
        | (go_at_call 41; (with_reducible refine (size_nn _ _ (by omega) (by omega)).mono ?_); rintro e w' ⟨rfl, hb⟩; exact hK _ hb)
        | (go_at_call 40; (with_reducible refine (times_one _ _ (by omega) (by omega)).mono ?_); rintro e w' ⟨rfl, hb⟩; exact hK _ hb)
    simp only [Act.put, List.setIfInBounds_toArray, List.set_cons_zero, List.set_cons_succ, List.nil_append, List.cons_append, Nat.reduceAdd, Nat.zero_add]
  iterate 2
    apply Reg.SeqOK.box
    · intro γ W hW K hK
      simp only [Act.put, List.setIfInBounds_toArray, List.set_cons_zero, List.set_cons_succ] at hK
      unfold Reg.Does
      go_simp
      exact hK
    simp only [Act.put, List.setIfInBounds_toArray, List.set_cons_zero, List.set_cons_succ, List.nil_append, List.cons_append, Nat.reduceAdd, Nat.zero_add]
  refine Reg.SeqOK.st 14 _ _ _ rfl (by kernel_rfl) ?_ ?_
  · intro γ W hW hge hat K hK
    obtain ⟨hcl, hfr⟩ := Reg.cells_at hat
    simp only [Act.put, List.setIfInBounds_toArray, List.set_cons_zero, List.set_cons_succ] at hK
    unfold Reg.Does
    go_simp
    exact hK _ (Reg.upd2 hat)
  simp only [Act.put, List.setIfInBounds_toArray, List.set_cons_zero, List.set_cons_succ, List.nil_append, List.cons_append, Nat.reduceAdd, Nat.zero_add]
  refine Reg.SeqOK.st 15 _ _ _ rfl (by kernel_rfl) ?_ ?_
  · intro γ W hW hge hat K hK
    obtain ⟨hcl, hfr⟩ := Reg.cells_at hat
    simp only [Act.put, List.setIfInBounds_toArray, List.set_cons_zero, List.set_cons_succ] at hK
    unfold Reg.Does
    go_simp
    exact hK _ (Reg.upd2 hat)
  simp only [Act.put, List.setIfInBounds_toArray, List.set_cons_zero, List.set_cons_succ, List.nil_append, List.cons_append, Nat.reduceAdd, Nat.zero_add]
  refine Reg.SeqOK.nil (by kernel_rfl) (fun γ W3 hW hBx hAp q3' => ?_)
  clear q3'
  simp only [Reg.Boxes, Reg.Apart, Reg.Differ, and_true, true_and, World.size_alloc, Nat.reduceAdd, Nat.zero_add] at hBx hAp
  obtain ⟨⟨gx1, _, at14⟩, gy1, _, at15⟩ := hBx
  generalize γ 14 = gx at *
  generalize γ 15 = gy at *
  have kx : Reg.Blk gx _ _ W3 := at14
  have ky : Reg.Blk gy _ _ W3 := at15
  clear at14 at15 hAp γ
  have zc := zkc
  have hb := hW
  clear hW
  first | (replace hT := (hT).trans (hb.mono hT.size); replace ka := (ka).keep hb; clear cka fka zka; obtain ⟨cka, fka, zka⟩ := Reg.Blk.facts ka; replace kb := (kb).keep hb; clear ckb fkb zkb; obtain ⟨ckb, fkb, zkb⟩ := Reg.Blk.facts kb; replace kc := (kc).keep hb; clear ckc fkc zkc; obtain ⟨ckc, fkc, zkc⟩ := Reg.Blk.facts kc; clear hb) | (replace hT := (hT.alloc hT.size _).trans (hb.mono (Nat.le_trans hT.size (by simp; try omega))); replace ka := ((ka).alloc _).keep hb; clear cka fka zka; obtain ⟨cka, fka, zka⟩ := Reg.Blk.facts ka; replace kb := ((kb).alloc _).keep hb; clear ckb fkb zkb; obtain ⟨ckb, fkb, zkb⟩ := Reg.Blk.facts kb; replace kc := ((kc).alloc _).keep hb; clear ckc fkc zkc; obtain ⟨ckc, fkc, zkc⟩ := Reg.Blk.facts kc; clear hb) | (replace hT := ((hT.alloc hT.size _).alloc (Nat.le_trans hT.size (by simp; try omega)) _).trans (hb.mono (Nat.le_trans hT.size (by simp; try omega))); replace ka := (((ka).alloc _).alloc _).keep hb; clear cka fka zka; obtain ⟨cka, fka, zka⟩ := Reg.Blk.facts ka; replace kb := (((kb).alloc _).alloc _).keep hb; clear ckb fkb zkb; obtain ⟨ckb, fkb, zkb⟩ := Reg.Blk.facts kb; replace kc := (((kc).alloc _).alloc _).keep hb; clear ckc fkc zkc; obtain ⟨ckc, fkc, zkc⟩ := Reg.Blk.facts kc; clear hb) | (replace hT := (((hT.alloc hT.size _).alloc (Nat.le_trans hT.size (by simp; try omega)) _).alloc (Nat.le_trans hT.size (by simp; try omega)) _).trans (hb.mono (Nat.le_trans hT.size (by simp; try omega))); replace ka := ((((ka).alloc _).alloc _).alloc _).keep hb; clear cka fka zka; obtain ⟨cka, fka, zka⟩ := Reg.Blk.facts ka; replace kb := ((((kb).alloc _).alloc _).alloc _).keep hb; clear ckb fkb zkb; obtain ⟨ckb, fkb, zkb⟩ := Reg.Blk.facts kb; replace kc := ((((kc).alloc _).alloc _).alloc _).keep hb; clear ckc fkc zkc; obtain ⟨ckc, fkc, zkc⟩ := Reg.Blk.facts kc; clear hb) | (replace hT := ((((hT.alloc hT.size _).alloc (Nat.le_trans hT.size (by simp; try omega)) _).alloc (Nat.le_trans hT.size (by simp; try omega)) _).alloc (Nat.le_trans hT.size (by simp; try omega)) _).trans (hb.mono (Nat.le_trans hT.size (by simp; try omega))); replace ka := (((((ka).alloc _).alloc _).alloc _).alloc _).keep hb; clear cka fka zka; obtain ⟨cka, fka, zka⟩ := Reg.Blk.facts ka; replace kb := (((((kb).alloc _).alloc _).alloc _).alloc _).keep hb; clear ckb fkb zkb; obtain ⟨ckb, fkb, zkb⟩ := Reg.Blk.facts kb; replace kc := (((((kc).alloc _).alloc _).alloc _).alloc _).keep hb; clear ckc fkc zkc; obtain ⟨ckc, fkc, zkc⟩ := Reg.Blk.facts kc; clear hb) | (replace hT := (((((hT.alloc hT.size _).alloc (Nat.le_trans hT.size (by simp; try omega)) _).alloc (Nat.le_trans hT.size (by simp; try omega)) _).alloc (Nat.le_trans hT.size (by simp; try omega)) _).alloc (Nat.le_trans hT.size (by simp; try omega)) _).trans (hb.mono (Nat.le_trans hT.size (by simp; try omega))); replace ka := ((((((ka).alloc _).alloc _).alloc _).alloc _).alloc _).keep hb; clear cka fka zka; obtain ⟨cka, fka, zka⟩ := Reg.Blk.facts ka; replace kb := ((((((kb).alloc _).alloc _).alloc _).alloc _).alloc _).keep hb; clear ckb fkb zkb; obtain ⟨ckb, fkb, zkb⟩ := Reg.Blk.facts kb; replace kc := ((((((kc).alloc _).alloc _).alloc _).alloc _).alloc _).keep hb; clear ckc fkc zkc; obtain ⟨ckc, fkc, zkc⟩ := Reg.Blk.facts kc; clear hb)
  obtain ⟨ckx, fkx, zkx⟩ := Reg.Blk.facts kx
  obtain ⟨cky, fky, zky⟩ := Reg.Blk.facts ky
  go_wp2_with fail
  refine Reg.wp_region_seq (by kernel_rfl) (by kernel_rfl) ?_
  simp only
  iterate 6
    apply Reg.SeqOK.val
    · intro γ W hW K hK
      obtain ⟨hc, hf, _⟩ := bcell hW
      simp only [Act.put, List.setIfInBounds_toArray, List.set_cons_zero, List.set_cons_succ] at hK
      unfold Reg.Does
      go_simp
      try simp only [IntWalk.i64_left]
      first
        | exact hK _ (Below.refl _ _)
        | (go_at_call 56; (with_reducible refine (plus_any _ _ _ (by omega) (by omega) (by omega)).mono ?_); rintro e w' ⟨rfl, hb⟩; exact hK _ hb)
    simp only [Act.put, List.setIfInBounds_toArray, List.set_cons_zero, List.set_cons_succ, List.nil_append, List.cons_append, Nat.reduceAdd, Nat.zero_add]
  iterate 1
    apply Reg.SeqOK.box
    · intro γ W hW K hK
      simp only [Act.put, List.setIfInBounds_toArray, List.set_cons_zero, List.set_cons_succ] at hK
      unfold Reg.Does
      go_simp
      exact hK
    simp only [Act.put, List.setIfInBounds_toArray, List.set_cons_zero, List.set_cons_succ, List.nil_append, List.cons_append, Nat.reduceAdd, Nat.zero_add]
  refine Reg.SeqOK.st 6 _ _ _ rfl (by kernel_rfl) ?_ ?_
  · intro γ W hW hge hat K hK
    obtain ⟨hcl, hfr⟩ := Reg.cells_at hat
    simp only [Act.put, List.setIfInBounds_toArray, List.set_cons_zero, List.set_cons_succ] at hK
    unfold Reg.Does
    go_simp
    exact hK _ (Reg.upd2 hat)
  simp only [Act.put, List.setIfInBounds_toArray, List.set_cons_zero, List.set_cons_succ, List.nil_append, List.cons_append, Nat.reduceAdd, Nat.zero_add]
  iterate 1
    apply Reg.SeqOK.val
    · intro γ W hW K hK
      obtain ⟨hc, hf, _⟩ := bcell hW
      simp only [Act.put, List.setIfInBounds_toArray, List.set_cons_zero, List.set_cons_succ] at hK
      unfold Reg.Does
      go_simp
      try simp only [IntWalk.i64_left]
      first
        | exact hK _ (Below.refl _ _)
    simp only [Act.put, List.setIfInBounds_toArray, List.set_cons_zero, List.set_cons_succ, List.nil_append, List.cons_append, Nat.reduceAdd, Nat.zero_add]
  refine Reg.SeqOK.nil (by kernel_rfl) (fun γ W4 hW hBx hAp q3' => ?_)
  clear q3' hAp
  simp only [Reg.Boxes, Reg.Apart, Reg.Differ, and_true, true_and, World.size_alloc, Nat.reduceAdd, Nat.zero_add] at hBx
  obtain ⟨gs1, _, at6⟩ := hBx
  generalize γ 6 = gs at *
  rw [H5.out] at at6
  have ks : Reg.Blk gs _ _ W4 := at6
  clear at6 γ
  have hb := hW
  clear hW
  first | (replace hT := (hT).trans (hb.mono hT.size); replace ka := (ka).keep hb; clear cka fka zka; obtain ⟨cka, fka, zka⟩ := Reg.Blk.facts ka; replace kb := (kb).keep hb; clear ckb fkb zkb; obtain ⟨ckb, fkb, zkb⟩ := Reg.Blk.facts kb; replace kc := (kc).keep hb; clear ckc fkc zkc; obtain ⟨ckc, fkc, zkc⟩ := Reg.Blk.facts kc; replace kx := (kx).keep hb; clear ckx fkx zkx; obtain ⟨ckx, fkx, zkx⟩ := Reg.Blk.facts kx; replace ky := (ky).keep hb; clear cky fky zky; obtain ⟨cky, fky, zky⟩ := Reg.Blk.facts ky; clear hb) | (replace hT := (hT.alloc hT.size _).trans (hb.mono (Nat.le_trans hT.size (by simp; try omega))); replace ka := ((ka).alloc _).keep hb; clear cka fka zka; obtain ⟨cka, fka, zka⟩ := Reg.Blk.facts ka; replace kb := ((kb).alloc _).keep hb; clear ckb fkb zkb; obtain ⟨ckb, fkb, zkb⟩ := Reg.Blk.facts kb; replace kc := ((kc).alloc _).keep hb; clear ckc fkc zkc; obtain ⟨ckc, fkc, zkc⟩ := Reg.Blk.facts kc; replace kx := ((kx).alloc _).keep hb; clear ckx fkx zkx; obtain ⟨ckx, fkx, zkx⟩ := Reg.Blk.facts kx; replace ky := ((ky).alloc _).keep hb; clear cky fky zky; obtain ⟨cky, fky, zky⟩ := Reg.Blk.facts ky; clear hb) | (replace hT := ((hT.alloc hT.size _).alloc (Nat.le_trans hT.size (by simp; try omega)) _).trans (hb.mono (Nat.le_trans hT.size (by simp; try omega))); replace ka := (((ka).alloc _).alloc _).keep hb; clear cka fka zka; obtain ⟨cka, fka, zka⟩ := Reg.Blk.facts ka; replace kb := (((kb).alloc _).alloc _).keep hb; clear ckb fkb zkb; obtain ⟨ckb, fkb, zkb⟩ := Reg.Blk.facts kb; replace kc := (((kc).alloc _).alloc _).keep hb; clear ckc fkc zkc; obtain ⟨ckc, fkc, zkc⟩ := Reg.Blk.facts kc; replace kx := (((kx).alloc _).alloc _).keep hb; clear ckx fkx zkx; obtain ⟨ckx, fkx, zkx⟩ := Reg.Blk.facts kx; replace ky := (((ky).alloc _).alloc _).keep hb; clear cky fky zky; obtain ⟨cky, fky, zky⟩ := Reg.Blk.facts ky; clear hb) | (replace hT := (((hT.alloc hT.size _).alloc (Nat.le_trans hT.size (by simp; try omega)) _).alloc (Nat.le_trans hT.size (by simp; try omega)) _).trans (hb.mono (Nat.le_trans hT.size (by simp; try omega))); replace ka := ((((ka).alloc _).alloc _).alloc _).keep hb; clear cka fka zka; obtain ⟨cka, fka, zka⟩ := Reg.Blk.facts ka; replace kb := ((((kb).alloc _).alloc _).alloc _).keep hb; clear ckb fkb zkb; obtain ⟨ckb, fkb, zkb⟩ := Reg.Blk.facts kb; replace kc := ((((kc).alloc _).alloc _).alloc _).keep hb; clear ckc fkc zkc; obtain ⟨ckc, fkc, zkc⟩ := Reg.Blk.facts kc; replace kx := ((((kx).alloc _).alloc _).alloc _).keep hb; clear ckx fkx zkx; obtain ⟨ckx, fkx, zkx⟩ := Reg.Blk.facts kx; replace ky := ((((ky).alloc _).alloc _).alloc _).keep hb; clear cky fky zky; obtain ⟨cky, fky, zky⟩ := Reg.Blk.facts ky; clear hb) | (replace hT := ((((hT.alloc hT.size _).alloc (Nat.le_trans hT.size (by simp; try omega)) _).alloc (Nat.le_trans hT.size (by simp; try omega)) _).alloc (Nat.le_trans hT.size (by simp; try omega)) _).trans (hb.mono (Nat.le_trans hT.size (by simp; try omega))); replace ka := (((((ka).alloc _).alloc _).alloc _).alloc _).keep hb; clear cka fka zka; obtain ⟨cka, fka, zka⟩ := Reg.Blk.facts ka; replace kb := (((((kb).alloc _).alloc _).alloc _).alloc _).keep hb; clear ckb fkb zkb; obtain ⟨ckb, fkb, zkb⟩ := Reg.Blk.facts kb; replace kc := (((((kc).alloc _).alloc _).alloc _).alloc _).keep hb; clear ckc fkc zkc; obtain ⟨ckc, fkc, zkc⟩ := Reg.Blk.facts kc; replace kx := (((((kx).alloc _).alloc _).alloc _).alloc _).keep hb; clear ckx fkx zkx; obtain ⟨ckx, fkx, zkx⟩ := Reg.Blk.facts kx; replace ky := (((((ky).alloc _).alloc _).alloc _).alloc _).keep hb; clear cky fky zky; obtain ⟨cky, fky, zky⟩ := Reg.Blk.facts ky; clear hb) | (replace hT := (((((hT.alloc hT.size _).alloc (Nat.le_trans hT.size (by simp; try omega)) _).alloc (Nat.le_trans hT.size (by simp; try omega)) _).alloc (Nat.le_trans hT.size (by simp; try omega)) _).alloc (Nat.le_trans hT.size (by simp; try omega)) _).trans (hb.mono (Nat.le_trans hT.size (by simp; try omega))); replace ka := ((((((ka).alloc _).alloc _).alloc _).alloc _).alloc _).keep hb; clear cka fka zka; obtain ⟨cka, fka, zka⟩ := Reg.Blk.facts ka; replace kb := ((((((kb).alloc _).alloc _).alloc _).alloc _).alloc _).keep hb; clear ckb fkb zkb; obtain ⟨ckb, fkb, zkb⟩ := Reg.Blk.facts kb; replace kc := ((((((kc).alloc _).alloc _).alloc _).alloc _).alloc _).keep hb; clear ckc fkc zkc; obtain ⟨ckc, fkc, zkc⟩ := Reg.Blk.facts kc; replace kx := ((((((kx).alloc _).alloc _).alloc _).alloc _).alloc _).keep hb; clear ckx fkx zkx; obtain ⟨ckx, fkx, zkx⟩ := Reg.Blk.facts kx; replace ky := ((((((ky).alloc _).alloc _).alloc _).alloc _).alloc _).keep hb; clear cky fky zky; obtain ⟨cky, fky, zky⟩ := Reg.Blk.facts ky; clear hb)
  obtain ⟨cks, fks, zks⟩ := Reg.Blk.facts ks
  rw [show decide (p < 0) = false by simp [n1]]
  go_wp2_with (first | (go_at_call 58; (with_reducible refine (rem_self _ _ (by omega) (by omega)).mono ?_); rintro e w' ⟨rfl, hb⟩; first | (replace hT := (hT).trans (hb.mono hT.size); replace ka := (ka).keep hb; clear cka fka zka; obtain ⟨cka, fka, zka⟩ := Reg.Blk.facts ka; replace kb := (kb).keep hb; clear ckb fkb zkb; obtain ⟨ckb, fkb, zkb⟩ := Reg.Blk.facts kb; replace kc := (kc).keep hb; clear ckc fkc zkc; obtain ⟨ckc, fkc, zkc⟩ := Reg.Blk.facts kc; replace kx := (kx).keep hb; clear ckx fkx zkx; obtain ⟨ckx, fkx, zkx⟩ := Reg.Blk.facts kx; replace ky := (ky).keep hb; clear cky fky zky; obtain ⟨cky, fky, zky⟩ := Reg.Blk.facts ky; replace ks := (ks).keep hb; clear cks fks zks; obtain ⟨cks, fks, zks⟩ := Reg.Blk.facts ks; clear hb) | (replace hT := (hT.alloc hT.size _).trans (hb.mono (Nat.le_trans hT.size (by simp; try omega))); replace ka := ((ka).alloc _).keep hb; clear cka fka zka; obtain ⟨cka, fka, zka⟩ := Reg.Blk.facts ka; replace kb := ((kb).alloc _).keep hb; clear ckb fkb zkb; obtain ⟨ckb, fkb, zkb⟩ := Reg.Blk.facts kb; replace kc := ((kc).alloc _).keep hb; clear ckc fkc zkc; obtain ⟨ckc, fkc, zkc⟩ := Reg.Blk.facts kc; replace kx := ((kx).alloc _).keep hb; clear ckx fkx zkx; obtain ⟨ckx, fkx, zkx⟩ := Reg.Blk.facts kx; replace ky := ((ky).alloc _).keep hb; clear cky fky zky; obtain ⟨cky, fky, zky⟩ := Reg.Blk.facts ky; replace ks := ((ks).alloc _).keep hb; clear cks fks zks; obtain ⟨cks, fks, zks⟩ := Reg.Blk.facts ks; clear hb) | (replace hT := ((hT.alloc hT.size _).alloc (Nat.le_trans hT.size (by simp; try omega)) _).trans (hb.mono (Nat.le_trans hT.size (by simp; try omega))); replace ka := (((ka).alloc _).alloc _).keep hb; clear cka fka zka; obtain ⟨cka, fka, zka⟩ := Reg.Blk.facts ka; replace kb := (((kb).alloc _).alloc _).keep hb; clear ckb fkb zkb; obtain ⟨ckb, fkb, zkb⟩ := Reg.Blk.facts kb; replace kc := (((kc).alloc _).alloc _).keep hb; clear ckc fkc zkc; obtain ⟨ckc, fkc, zkc⟩ := Reg.Blk.facts kc; replace kx := (((kx).alloc _).alloc _).keep hb; clear ckx fkx zkx; obtain ⟨ckx, fkx, zkx⟩ := Reg.Blk.facts kx; replace ky := (((ky).alloc _).alloc _).keep hb; clear cky fky zky; obtain ⟨cky, fky, zky⟩ := Reg.Blk.facts ky; replace ks := (((ks).alloc _).alloc _).keep hb; clear cks fks zks; obtain ⟨cks, fks, zks⟩ := Reg.Blk.facts ks; clear hb) | (replace hT := (((hT.alloc hT.size _).alloc (Nat.le_trans hT.size (by simp; try omega)) _).alloc (Nat.le_trans hT.size (by simp; try omega)) _).trans (hb.mono (Nat.le_trans hT.size (by simp; try omega))); replace ka := ((((ka).alloc _).alloc _).alloc _).keep hb; clear cka fka zka; obtain ⟨cka, fka, zka⟩ := Reg.Blk.facts ka; replace kb := ((((kb).alloc _).alloc _).alloc _).keep hb; clear ckb fkb zkb; obtain ⟨ckb, fkb, zkb⟩ := Reg.Blk.facts kb; replace kc := ((((kc).alloc _).alloc _).alloc _).keep hb; clear ckc fkc zkc; obtain ⟨ckc, fkc, zkc⟩ := Reg.Blk.facts kc; replace kx := ((((kx).alloc _).alloc _).alloc _).keep hb; clear ckx fkx zkx; obtain ⟨ckx, fkx, zkx⟩ := Reg.Blk.facts kx; replace ky := ((((ky).alloc _).alloc _).alloc _).keep hb; clear cky fky zky; obtain ⟨cky, fky, zky⟩ := Reg.Blk.facts ky; replace ks := ((((ks).alloc _).alloc _).alloc _).keep hb; clear cks fks zks; obtain ⟨cks, fks, zks⟩ := Reg.Blk.facts ks; clear hb) | (replace hT := ((((hT.alloc hT.size _).alloc (Nat.le_trans hT.size (by simp; try omega)) _).alloc (Nat.le_trans hT.size (by simp; try omega)) _).alloc (Nat.le_trans hT.size (by simp; try omega)) _).trans (hb.mono (Nat.le_trans hT.size (by simp; try omega))); replace ka := (((((ka).alloc _).alloc _).alloc _).alloc _).keep hb; clear cka fka zka; obtain ⟨cka, fka, zka⟩ := Reg.Blk.facts ka; replace kb := (((((kb).alloc _).alloc _).alloc _).alloc _).keep hb; clear ckb fkb zkb; obtain ⟨ckb, fkb, zkb⟩ := Reg.Blk.facts kb; replace kc := (((((kc).alloc _).alloc _).alloc _).alloc _).keep hb; clear ckc fkc zkc; obtain ⟨ckc, fkc, zkc⟩ := Reg.Blk.facts kc; replace kx := (((((kx).alloc _).alloc _).alloc _).alloc _).keep hb; clear ckx fkx zkx; obtain ⟨ckx, fkx, zkx⟩ := Reg.Blk.facts kx; replace ky := (((((ky).alloc _).alloc _).alloc _).alloc _).keep hb; clear cky fky zky; obtain ⟨cky, fky, zky⟩ := Reg.Blk.facts ky; replace ks := (((((ks).alloc _).alloc _).alloc _).alloc _).keep hb; clear cks fks zks; obtain ⟨cks, fks, zks⟩ := Reg.Blk.facts ks; clear hb) | (replace hT := (((((hT.alloc hT.size _).alloc (Nat.le_trans hT.size (by simp; try omega)) _).alloc (Nat.le_trans hT.size (by simp; try omega)) _).alloc (Nat.le_trans hT.size (by simp; try omega)) _).alloc (Nat.le_trans hT.size (by simp; try omega)) _).trans (hb.mono (Nat.le_trans hT.size (by simp; try omega))); replace ka := ((((((ka).alloc _).alloc _).alloc _).alloc _).alloc _).keep hb; clear cka fka zka; obtain ⟨cka, fka, zka⟩ := Reg.Blk.facts ka; replace kb := ((((((kb).alloc _).alloc _).alloc _).alloc _).alloc _).keep hb; clear ckb fkb zkb; obtain ⟨ckb, fkb, zkb⟩ := Reg.Blk.facts kb; replace kc := ((((((kc).alloc _).alloc _).alloc _).alloc _).alloc _).keep hb; clear ckc fkc zkc; obtain ⟨ckc, fkc, zkc⟩ := Reg.Blk.facts kc; replace kx := ((((((kx).alloc _).alloc _).alloc _).alloc _).alloc _).keep hb; clear ckx fkx zkx; obtain ⟨ckx, fkx, zkx⟩ := Reg.Blk.facts kx; replace ky := ((((((ky).alloc _).alloc _).alloc _).alloc _).alloc _).keep hb; clear cky fky zky; obtain ⟨cky, fky, zky⟩ := Reg.Blk.facts ky; replace ks := ((((((ks).alloc _).alloc _).alloc _).alloc _).alloc _).keep hb; clear cks fks zks; obtain ⟨cks, fks, zks⟩ := Reg.Blk.facts ks; clear hb)) | (go_at_call 55; (with_reducible refine (div_zero _ _ (by omega) (by omega)).mono ?_); rintro e w' ⟨rfl, hb⟩; first | (replace hT := (hT).trans (hb.mono hT.size); replace ka := (ka).keep hb; clear cka fka zka; obtain ⟨cka, fka, zka⟩ := Reg.Blk.facts ka; replace kb := (kb).keep hb; clear ckb fkb zkb; obtain ⟨ckb, fkb, zkb⟩ := Reg.Blk.facts kb; replace kc := (kc).keep hb; clear ckc fkc zkc; obtain ⟨ckc, fkc, zkc⟩ := Reg.Blk.facts kc; replace kx := (kx).keep hb; clear ckx fkx zkx; obtain ⟨ckx, fkx, zkx⟩ := Reg.Blk.facts kx; replace ky := (ky).keep hb; clear cky fky zky; obtain ⟨cky, fky, zky⟩ := Reg.Blk.facts ky; replace ks := (ks).keep hb; clear cks fks zks; obtain ⟨cks, fks, zks⟩ := Reg.Blk.facts ks; clear hb) | (replace hT := (hT.alloc hT.size _).trans (hb.mono (Nat.le_trans hT.size (by simp; try omega))); replace ka := ((ka).alloc _).keep hb; clear cka fka zka; obtain ⟨cka, fka, zka⟩ := Reg.Blk.facts ka; replace kb := ((kb).alloc _).keep hb; clear ckb fkb zkb; obtain ⟨ckb, fkb, zkb⟩ := Reg.Blk.facts kb; replace kc := ((kc).alloc _).keep hb; clear ckc fkc zkc; obtain ⟨ckc, fkc, zkc⟩ := Reg.Blk.facts kc; replace kx := ((kx).alloc _).keep hb; clear ckx fkx zkx; obtain ⟨ckx, fkx, zkx⟩ := Reg.Blk.facts kx; replace ky := ((ky).alloc _).keep hb; clear cky fky zky; obtain ⟨cky, fky, zky⟩ := Reg.Blk.facts ky; replace ks := ((ks).alloc _).keep hb; clear cks fks zks; obtain ⟨cks, fks, zks⟩ := Reg.Blk.facts ks; clear hb) | (replace hT := ((hT.alloc hT.size _).alloc (Nat.le_trans hT.size (by simp; try omega)) _).trans (hb.mono (Nat.le_trans hT.size (by simp; try omega))); replace ka := (((ka).alloc _).alloc _).keep hb; clear cka fka zka; obtain ⟨cka, fka, zka⟩ := Reg.Blk.facts ka; replace kb := (((kb).alloc _).alloc _).keep hb; clear ckb fkb zkb; obtain ⟨ckb, fkb, zkb⟩ := Reg.Blk.facts kb; replace kc := (((kc).alloc _).alloc _).keep hb; clear ckc fkc zkc; obtain ⟨ckc, fkc, zkc⟩ := Reg.Blk.facts kc; replace kx := (((kx).alloc _).alloc _).keep hb; clear ckx fkx zkx; obtain ⟨ckx, fkx, zkx⟩ := Reg.Blk.facts kx; replace ky := (((ky).alloc _).alloc _).keep hb; clear cky fky zky; obtain ⟨cky, fky, zky⟩ := Reg.Blk.facts ky; replace ks := (((ks).alloc _).alloc _).keep hb; clear cks fks zks; obtain ⟨cks, fks, zks⟩ := Reg.Blk.facts ks; clear hb) | (replace hT := (((hT.alloc hT.size _).alloc (Nat.le_trans hT.size (by simp; try omega)) _).alloc (Nat.le_trans hT.size (by simp; try omega)) _).trans (hb.mono (Nat.le_trans hT.size (by simp; try omega))); replace ka := ((((ka).alloc _).alloc _).alloc _).keep hb; clear cka fka zka; obtain ⟨cka, fka, zka⟩ := Reg.Blk.facts ka; replace kb := ((((kb).alloc _).alloc _).alloc _).keep hb; clear ckb fkb zkb; obtain ⟨ckb, fkb, zkb⟩ := Reg.Blk.facts kb; replace kc := ((((kc).alloc _).alloc _).alloc _).keep hb; clear ckc fkc zkc; obtain ⟨ckc, fkc, zkc⟩ := Reg.Blk.facts kc; replace kx := ((((kx).alloc _).alloc _).alloc _).keep hb; clear ckx fkx zkx; obtain ⟨ckx, fkx, zkx⟩ := Reg.Blk.facts kx; replace ky := ((((ky).alloc _).alloc _).alloc _).keep hb; clear cky fky zky; obtain ⟨cky, fky, zky⟩ := Reg.Blk.facts ky; replace ks := ((((ks).alloc _).alloc _).alloc _).keep hb; clear cks fks zks; obtain ⟨cks, fks, zks⟩ := Reg.Blk.facts ks; clear hb) | (replace hT := ((((hT.alloc hT.size _).alloc (Nat.le_trans hT.size (by simp; try omega)) _).alloc (Nat.le_trans hT.size (by simp; try omega)) _).alloc (Nat.le_trans hT.size (by simp; try omega)) _).trans (hb.mono (Nat.le_trans hT.size (by simp; try omega))); replace ka := (((((ka).alloc _).alloc _).alloc _).alloc _).keep hb; clear cka fka zka; obtain ⟨cka, fka, zka⟩ := Reg.Blk.facts ka; replace kb := (((((kb).alloc _).alloc _).alloc _).alloc _).keep hb; clear ckb fkb zkb; obtain ⟨ckb, fkb, zkb⟩ := Reg.Blk.facts kb; replace kc := (((((kc).alloc _).alloc _).alloc _).alloc _).keep hb; clear ckc fkc zkc; obtain ⟨ckc, fkc, zkc⟩ := Reg.Blk.facts kc; replace kx := (((((kx).alloc _).alloc _).alloc _).alloc _).keep hb; clear ckx fkx zkx; obtain ⟨ckx, fkx, zkx⟩ := Reg.Blk.facts kx; replace ky := (((((ky).alloc _).alloc _).alloc _).alloc _).keep hb; clear cky fky zky; obtain ⟨cky, fky, zky⟩ := Reg.Blk.facts ky; replace ks := (((((ks).alloc _).alloc _).alloc _).alloc _).keep hb; clear cks fks zks; obtain ⟨cks, fks, zks⟩ := Reg.Blk.facts ks; clear hb) | (replace hT := (((((hT.alloc hT.size _).alloc (Nat.le_trans hT.size (by simp; try omega)) _).alloc (Nat.le_trans hT.size (by simp; try omega)) _).alloc (Nat.le_trans hT.size (by simp; try omega)) _).alloc (Nat.le_trans hT.size (by simp; try omega)) _).trans (hb.mono (Nat.le_trans hT.size (by simp; try omega))); replace ka := ((((((ka).alloc _).alloc _).alloc _).alloc _).alloc _).keep hb; clear cka fka zka; obtain ⟨cka, fka, zka⟩ := Reg.Blk.facts ka; replace kb := ((((((kb).alloc _).alloc _).alloc _).alloc _).alloc _).keep hb; clear ckb fkb zkb; obtain ⟨ckb, fkb, zkb⟩ := Reg.Blk.facts kb; replace kc := ((((((kc).alloc _).alloc _).alloc _).alloc _).alloc _).keep hb; clear ckc fkc zkc; obtain ⟨ckc, fkc, zkc⟩ := Reg.Blk.facts kc; replace kx := ((((((kx).alloc _).alloc _).alloc _).alloc _).alloc _).keep hb; clear ckx fkx zkx; obtain ⟨ckx, fkx, zkx⟩ := Reg.Blk.facts kx; replace ky := ((((((ky).alloc _).alloc _).alloc _).alloc _).alloc _).keep hb; clear cky fky zky; obtain ⟨cky, fky, zky⟩ := Reg.Blk.facts ky; replace ks := ((((((ks).alloc _).alloc _).alloc _).alloc _).alloc _).keep hb; clear cks fks zks; obtain ⟨cks, fks, zks⟩ := Reg.Blk.facts ks; clear hb)))
  have hne1 : ¬ gx = w.heap.size + 1 + 1 := by omega
  have hne2 : ¬ gs = w.heap.size + 1 + 1 := by omega
  have hne3 : ¬ w.heap.size = w.heap.size + 1 + 1 := by omega
  have HT := Lib.hid hT
  have kc2 := kc
  refine Reg.wp_region_seqK (fun k => k = w.heap.size + 1 + 1) (by kernel_rfl) (by kernel_rfl) ?_
  simp only
  iterate 15
    apply Reg.SeqOK.val
    · intro γ W hW K hK
      obtain ⟨hc, hf, _⟩ := Reg.kcell hW
      simp only [Act.put, List.setIfInBounds_toArray, List.set_cons_zero, List.set_cons_succ] at hK
      unfold Reg.Does
      go_simp
      try simp only [IntWalk.i64_left]
      first
        | exact hK _ (Below.refl _ _)
        | (go_at_call 60; (with_reducible refine (over_self _ _ (by omega) (by omega)).mono ?_); rintro e w' ⟨rfl, hb⟩; exact hK _ hb)
        | (go_at_call 40; (with_reducible refine (times_one _ _ (by omega) (by omega)).mono ?_); rintro e w' ⟨rfl, hb⟩; exact hK _ hb)
        | (go_at_call 59; (with_reducible refine (made_one _).mono ?_); rintro e w' ⟨rfl, hb⟩; exact hK _ hb)
    simp only [Act.put, List.setIfInBounds_toArray, List.set_cons_zero, List.set_cons_succ, List.nil_append, List.cons_append, Nat.reduceAdd, Nat.zero_add]
  apply Reg.SeqOK.old (g := w.heap.size + 1 + 1) (hB := (Reg.updK (M := fun k => k = w.heap.size + 1 + 1) rfl)) (hg := kc2) (hne := by simp [Reg.NotOld])
  · intro γ W hW hat K hK
    obtain ⟨hcl, hfr⟩ := Reg.cells_at hat
    simp only [Act.put, List.setIfInBounds_toArray, List.set_cons_zero, List.set_cons_succ] at hK
    unfold Reg.Does
    go_simp
    exact hK _ (Reg.upd2 hat)
  simp only [Act.put, List.setIfInBounds_toArray, List.set_cons_zero, List.set_cons_succ, List.nil_append, List.cons_append, Nat.reduceAdd, Nat.zero_add]
  iterate 1
    apply Reg.SeqOK.val
    · intro γ W hW K hK
      obtain ⟨hc, hf, _⟩ := Reg.kcell hW
      simp only [Act.put, List.setIfInBounds_toArray, List.set_cons_zero, List.set_cons_succ] at hK
      unfold Reg.Does
      go_simp
      try simp only [IntWalk.i64_left]
      first
        | exact hK _ (Below.refl _ _)
    simp only [Act.put, List.setIfInBounds_toArray, List.set_cons_zero, List.set_cons_succ, List.nil_append, List.cons_append, Nat.reduceAdd, Nat.zero_add]
  refine Reg.SeqOK.nil (by kernel_rfl) (fun γ W5 hW _ _ hO => ?_)
  simp only [Reg.Olds, and_true] at hO
  obtain ⟨cl, _⟩ := Reg.cells_at hO
  have hw5 : Below w.heap.size w W5 := HT.out.trans (hW.below fun k hk => ⟨Nat.lt_of_lt_of_le hk HT.out.size, by omega⟩)
  clear hW hO cka fka zka ckb fkb zkb ckc fkc zkc ckx fkx zkx cky fky zky cks fks zks
  go_wp2_with fail
  refine bodyPost_ret (v := .tuple #[.agg #[.int .i64 1, .int .i64 1], .int .i64 0]) (by simp [results, Try.results29, go_sem, cl]) rfl ⟨rfl, hw5⟩

end G
end Go.Proofs.Ytjeapimjgojpoaa
