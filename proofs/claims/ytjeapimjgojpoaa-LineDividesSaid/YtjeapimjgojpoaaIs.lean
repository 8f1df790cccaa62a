/- Fractions: 'Add' of two fractions from 0 to 1: it returns. -/
import Derived.Test.YtjeapimjgojpoaaFa
import Derived.Test.YtjeapimjgojpoaaFo
set_option linter.unusedSimpArgs false
set_option linter.unusedVariables false
set_option maxRecDepth 100000
namespace Go.Proofs.Ytjeapimjgojpoaa
open Go.RowKit
namespace G

theorem times_nn (x y z : Int) (w : World) (hx : 0 ≤ x) (hx' : x < 18446744073709551616) (hy : 0 ≤ y) (hy' : y < 18446744073709551616) (hz : x * y = z) (h : z < 9223372036854775808) :
    Calls Try.prog 40 #[.int .u64 x, .int .u64 y] w fun e w' => e = .returned (.agg #[.int .u64 0, .int .u64 z]) ∧ Below w.heap.size w w' := by
  obtain ⟨m, rfl⟩ := Int.eq_ofNat_of_zero_le hx
  obtain ⟨n, rfl⟩ := Int.eq_ofNat_of_zero_le hy
  refine (times_any m n w (by omega) (by omega)).mono ?_
  rintro e w' ⟨rfl, hb⟩
  refine ⟨?_, hb⟩
  have e1 : ((m * n : Nat) : Int) = z := by rw [← hz]; simp
  unfold hiI loI
  rw [Nat.mod_eq_of_lt (by omega), Nat.div_eq_of_lt (by omega), ← e1]
  rfl
theorem gcd_bd {a b : Int} (ha : 0 ≤ a) (hb : 1 ≤ b) : 1 ≤ gcdI a b ∧ gcdI a b ≤ b := by
  obtain ⟨m, rfl⟩ := Int.eq_ofNat_of_zero_le ha
  obtain ⟨n, rfl⟩ := Int.eq_ofNat_of_zero_le (show 0 ≤ b by omega)
  unfold gcdI
  simp only [Int.toNat_natCast]
  have h1 : 0 < Nat.gcd m n := Nat.gcd_pos_of_pos_right _ (by omega)
  have h2 : Nat.gcd m n ≤ n := Nat.gcd_le_right _ (by omega)
  omega
theorem div_bd {a b : Int} (ha : 0 ≤ a) (hb : 1 ≤ b) : 0 ≤ a / b ∧ a / b ≤ a := ⟨Int.ediv_nonneg ha (by omega), Int.ediv_le_self _ ha⟩
theorem prod_bd {a b m : Int} (ha : 0 ≤ a) (ha' : a ≤ m) (hb : 0 ≤ b) (hb' : b ≤ m) : 0 ≤ a * b ∧ a * b ≤ m * m := ⟨Int.mul_nonneg ha hb, by
  have h1 : a * b ≤ m * b := Int.mul_le_mul_of_nonneg_right ha' hb
  have h2 : m * b ≤ m * m := Int.mul_le_mul_of_nonneg_left hb' (by omega)
  omega⟩

set_option maxHeartbeats 4000000 in
theorem add_gen (p1 q1 p2 q2 : Int) (w : World) (a1 : 0 ≤ p1 ∧ p1 ≤ q1) (a2 : 1 ≤ q1 ∧ q1 ≤ 2147352578) (b1 : 0 ≤ p2 ∧ p2 ≤ q2) (b2 : 1 ≤ q2 ∧ q2 ≤ 2147352578) (v1 : validI p1 q1 = true) (v2 : validI p2 q2 = true) :
    Calls Try.prog 29 #[.agg #[.int .i64 p1, .int .i64 q1], .agg #[.int .i64 p2, .int .i64 q2]] w fun e w' => (∃ x y g : Int, e = .returned (.tuple #[.agg #[.int .i64 x, .int .i64 y], .int .i64 g])) ∧ Below w.heap.size w w' := by
  have hT := Below.refl w.heap.size w
  have k1 : validI p1 q1 = true := v1
  obtain ⟨cm, hcm⟩ : ∃ cm, cm = gcdI q1 q2 := ⟨_, rfl⟩
  have hcb := gcd_bd (a := q1) (b := q2) (by omega) (by omega)
  rw [← hcm] at hcb
  have HDV := Lib.hid (fun W => divisorI_any q1 q2 W (by omega) (by omega) (by omega) (by omega))
  rw [← hcm] at HDV
  obtain ⟨u, hu⟩ : ∃ u, u = q2 / cm := ⟨_, rfl⟩
  obtain ⟨v, hv⟩ : ∃ v, v = q1 / cm := ⟨_, rfl⟩
  have hub := div_bd (a := q2) (b := cm) (by omega) (by omega)
  have hvb := div_bd (a := q1) (b := cm) (by omega) (by omega)
  rw [← hu] at hub
  rw [← hv] at hvb
  have t1 : IntKind.u64.wrap (q2.tdiv cm) = u := by rw [hu]; exact tdiv_in (by omega) (by omega) (by omega)
  have t2 : IntKind.u64.wrap (q1.tdiv cm) = v := by rw [hv]; exact tdiv_in (by omega) (by omega) (by omega)
  have hc0 : ¬ cm = 0 := by omega
  have hcz : (cm == 0) = false := by simp; omega
  obtain ⟨X, hX⟩ : ∃ X, X = p1 * u := ⟨_, rfl⟩
  obtain ⟨Y, hY⟩ : ∃ Y, Y = p2 * v := ⟨_, rfl⟩
  have hXb := prod_bd (a := p1) (b := u) (m := 2147352578) a1.1 (by omega) hub.1 (by omega)
  have hYb := prod_bd (a := p2) (b := v) (m := 2147352578) b1.1 (by omega) hvb.1 (by omega)
  rw [← hX] at hXb
  rw [← hY] at hYb
  have HTX := Lib.hid (fun W => times_nn p1 u X W (by omega) (by omega) (by omega) (by omega) hX.symm (by omega))
  have HTY := Lib.hid (fun W => times_nn p2 v Y W (by omega) (by omega) (by omega) (by omega) hY.symm (by omega))
  obtain ⟨S, hS⟩ : ∃ S, S = X + Y := ⟨_, rfl⟩
  have HPL := Lib.hid (fun W => plus_any X Y W (by omega) (by omega) (by omega))
  rw [← hS] at HPL
  obtain ⟨R, hR⟩ : ∃ R, R = S % cm := ⟨_, rfl⟩
  have hRb : 0 ≤ R ∧ R < cm := ⟨by rw [hR]; exact Int.emod_nonneg _ (by omega), by rw [hR]; exact Int.emod_lt_of_pos _ (by omega)⟩
  have HRM := Lib.hid (fun W => rem_any S cm W (by omega) (by omega) (by omega) (by omega))
  rw [← hR] at HRM
  obtain ⟨g, hg⟩ : ∃ g, g = gcdI R cm := ⟨_, rfl⟩
  have hgb := gcd_bd (a := R) (b := cm) (by omega) (by omega)
  rw [← hg] at hgb
  have HDV2 := Lib.hid (fun W => divisorI_any R cm W (by omega) (by omega) (by omega) (by omega))
  rw [← hg] at HDV2
  have n1 : ¬ p1 < 0 := by omega
  have n2 : ¬ p2 < 0 := by omega
  have n1d : decide (p1 < 0) = false := decide_eq_false n1
  have n2d : decide (p2 < 0) = false := decide_eq_false n2
  obtain ⟨N, hN⟩ : ∃ N, N = S / g := ⟨_, rfl⟩
  have hNb := div_bd (a := S) (b := g) (by omega) (by omega)
  have HOV := Lib.hid (fun W => over_any S g W (by omega) (by omega) (by omega) (by omega))
  rw [← hN] at HOV hNb
  obtain ⟨z, hz⟩ : ∃ z, z = q2 / g := ⟨_, rfl⟩
  have hzb := div_bd (a := q2) (b := g) (by omega) (by omega)
  have t3 : IntKind.u64.wrap (q2.tdiv g) = z := by rw [hz]; exact tdiv_in (by omega) (by omega) (by omega)
  rw [← hz] at hzb
  have hg0 : ¬ g = 0 := by omega
  have hgz : (g == 0) = false := by simp; omega
  obtain ⟨D, hD⟩ : ∃ D, D = v * z := ⟨_, rfl⟩
  have hDb := prod_bd (a := v) (b := z) (m := 2147352578) hvb.1 (by omega) hzb.1 (by omega)
  rw [← hD] at hDb
  have HTZ := Lib.hid (fun W => times_nn v z D W (by omega) (by omega) (by omega) (by omega) hD.symm (by omega))
  have HO1 := fun W => over_any D 1 W (by omega) (by omega) (by omega) (by omega)
  rw [Int.ediv_one] at HO1
  have HO1 := Lib.hid HO1
  have HMA := Lib.hid (fun W => made_any false N D W (by omega) (by omega))
  have hSb : 0 ≤ S := by omega
  clear hcm hu hv hX hY hS hR hg hN hz hD
  clear hXb hYb hRb hgb hNb hzb hDb hub hvb hcb
  go_enter Try.func29, Try.ntmps29
  go_wp2_with fail
  first | (go_at_call 39; (with_reducible refine (valid_t _ _ _ (by assumption) (by omega) (by omega)).mono ?_); rintro e w' ⟨rfl, hb⟩; first | (replace hT := (hT).trans (hb.mono hT.size); clear hb) | (replace hT := (hT.alloc hT.size _).trans (hb.mono (Nat.le_trans hT.size (by simp; try omega))); clear hb) | (replace hT := ((hT.alloc hT.size _).alloc (Nat.le_trans hT.size (by simp; try omega)) _).trans (hb.mono (Nat.le_trans hT.size (by simp; try omega))); clear hb) | (replace hT := (((hT.alloc hT.size _).alloc (Nat.le_trans hT.size (by simp; try omega)) _).alloc (Nat.le_trans hT.size (by simp; try omega)) _).trans (hb.mono (Nat.le_trans hT.size (by simp; try omega))); obtain ⟨ka, kb, kc⟩ := Reg.Blk.new3 hb; obtain ⟨cka, fka, zka⟩ := Reg.Blk.facts ka; obtain ⟨ckb, fkb, zkb⟩ := Reg.Blk.facts kb; obtain ⟨ckc, fkc, zkc⟩ := Reg.Blk.facts kc; clear hb) | (replace hT := ((((hT.alloc hT.size _).alloc (Nat.le_trans hT.size (by simp; try omega)) _).alloc (Nat.le_trans hT.size (by simp; try omega)) _).alloc (Nat.le_trans hT.size (by simp; try omega)) _).trans (hb.mono (Nat.le_trans hT.size (by simp; try omega))); clear hb) | (replace hT := (((((hT.alloc hT.size _).alloc (Nat.le_trans hT.size (by simp; try omega)) _).alloc (Nat.le_trans hT.size (by simp; try omega)) _).alloc (Nat.le_trans hT.size (by simp; try omega)) _).alloc (Nat.le_trans hT.size (by simp; try omega)) _).trans (hb.mono (Nat.le_trans hT.size (by simp; try omega))); clear hb))
  go_wp2_with (first | (go_at_call 39; (with_reducible refine (valid_t _ _ _ (by assumption) (by omega) (by omega)).mono ?_); rintro e w' ⟨rfl, hb⟩; first | (replace hT := (hT).trans (hb.mono hT.size); replace ka := (ka).keep hb; clear cka fka zka; obtain ⟨cka, fka, zka⟩ := Reg.Blk.facts ka; replace kb := (kb).keep hb; clear ckb fkb zkb; obtain ⟨ckb, fkb, zkb⟩ := Reg.Blk.facts kb; replace kc := (kc).keep hb; clear ckc fkc zkc; obtain ⟨ckc, fkc, zkc⟩ := Reg.Blk.facts kc; clear hb) | (replace hT := (hT.alloc hT.size _).trans (hb.mono (Nat.le_trans hT.size (by simp; try omega))); replace ka := ((ka).alloc _).keep hb; clear cka fka zka; obtain ⟨cka, fka, zka⟩ := Reg.Blk.facts ka; replace kb := ((kb).alloc _).keep hb; clear ckb fkb zkb; obtain ⟨ckb, fkb, zkb⟩ := Reg.Blk.facts kb; replace kc := ((kc).alloc _).keep hb; clear ckc fkc zkc; obtain ⟨ckc, fkc, zkc⟩ := Reg.Blk.facts kc; clear hb) | (replace hT := ((hT.alloc hT.size _).alloc (Nat.le_trans hT.size (by simp; try omega)) _).trans (hb.mono (Nat.le_trans hT.size (by simp; try omega))); replace ka := (((ka).alloc _).alloc _).keep hb; clear cka fka zka; obtain ⟨cka, fka, zka⟩ := Reg.Blk.facts ka; replace kb := (((kb).alloc _).alloc _).keep hb; clear ckb fkb zkb; obtain ⟨ckb, fkb, zkb⟩ := Reg.Blk.facts kb; replace kc := (((kc).alloc _).alloc _).keep hb; clear ckc fkc zkc; obtain ⟨ckc, fkc, zkc⟩ := Reg.Blk.facts kc; clear hb) | (replace hT := (((hT.alloc hT.size _).alloc (Nat.le_trans hT.size (by simp; try omega)) _).alloc (Nat.le_trans hT.size (by simp; try omega)) _).trans (hb.mono (Nat.le_trans hT.size (by simp; try omega))); replace ka := ((((ka).alloc _).alloc _).alloc _).keep hb; clear cka fka zka; obtain ⟨cka, fka, zka⟩ := Reg.Blk.facts ka; replace kb := ((((kb).alloc _).alloc _).alloc _).keep hb; clear ckb fkb zkb; obtain ⟨ckb, fkb, zkb⟩ := Reg.Blk.facts kb; replace kc := ((((kc).alloc _).alloc _).alloc _).keep hb; clear ckc fkc zkc; obtain ⟨ckc, fkc, zkc⟩ := Reg.Blk.facts kc; clear hb) | (replace hT := ((((hT.alloc hT.size _).alloc (Nat.le_trans hT.size (by simp; try omega)) _).alloc (Nat.le_trans hT.size (by simp; try omega)) _).alloc (Nat.le_trans hT.size (by simp; try omega)) _).trans (hb.mono (Nat.le_trans hT.size (by simp; try omega))); replace ka := (((((ka).alloc _).alloc _).alloc _).alloc _).keep hb; clear cka fka zka; obtain ⟨cka, fka, zka⟩ := Reg.Blk.facts ka; replace kb := (((((kb).alloc _).alloc _).alloc _).alloc _).keep hb; clear ckb fkb zkb; obtain ⟨ckb, fkb, zkb⟩ := Reg.Blk.facts kb; replace kc := (((((kc).alloc _).alloc _).alloc _).alloc _).keep hb; clear ckc fkc zkc; obtain ⟨ckc, fkc, zkc⟩ := Reg.Blk.facts kc; clear hb) | (replace hT := (((((hT.alloc hT.size _).alloc (Nat.le_trans hT.size (by simp; try omega)) _).alloc (Nat.le_trans hT.size (by simp; try omega)) _).alloc (Nat.le_trans hT.size (by simp; try omega)) _).alloc (Nat.le_trans hT.size (by simp; try omega)) _).trans (hb.mono (Nat.le_trans hT.size (by simp; try omega))); replace ka := ((((((ka).alloc _).alloc _).alloc _).alloc _).alloc _).keep hb; clear cka fka zka; obtain ⟨cka, fka, zka⟩ := Reg.Blk.facts ka; replace kb := ((((((kb).alloc _).alloc _).alloc _).alloc _).alloc _).keep hb; clear ckb fkb zkb; obtain ⟨ckb, fkb, zkb⟩ := Reg.Blk.facts kb; replace kc := ((((((kc).alloc _).alloc _).alloc _).alloc _).alloc _).keep hb; clear ckc fkc zkc; obtain ⟨ckc, fkc, zkc⟩ := Reg.Blk.facts kc; clear hb)))
  refine Reg.wp_region_seq (by kernel_rfl) (by kernel_rfl) ?_
  simp only
  iterate 8
    apply Reg.SeqOK.val
    · intro γ W hW K hK
      obtain ⟨hc, hf, _⟩ := bcell hW
      simp only [Act.put, List.setIfInBounds_toArray, List.set_cons_zero, List.set_cons_succ] at hK
      unfold Reg.Does
      go_simp
      try simp only [IntWalk.i64_left]
      first
        | exact hK _ (Below.refl _ _)
        | (go_at_call 41; (with_reducible refine (size_nn _ _ (by omega) (by omega)).mono ?_); rintro e w' ⟨rfl, hb⟩; exact hK _ hb)
    simp only [Act.put, List.setIfInBounds_toArray, List.set_cons_zero, List.set_cons_succ, List.nil_append, List.cons_append, Nat.reduceAdd, Nat.zero_add]
  refine Reg.SeqOK.nil (by kernel_rfl) (fun γ W2 hW q1' q2' q3' => ?_)
  clear q1' q2' q3' γ
  have hb := hW
  clear hW
  first | (replace hT := (hT).trans (hb.mono hT.size); replace ka := (ka).keep hb; clear cka fka zka; obtain ⟨cka, fka, zka⟩ := Reg.Blk.facts ka; replace kb := (kb).keep hb; clear ckb fkb zkb; obtain ⟨ckb, fkb, zkb⟩ := Reg.Blk.facts kb; replace kc := (kc).keep hb; clear ckc fkc zkc; obtain ⟨ckc, fkc, zkc⟩ := Reg.Blk.facts kc; clear hb) | (replace hT := (hT.alloc hT.size _).trans (hb.mono (Nat.le_trans hT.size (by simp; try omega))); replace ka := ((ka).alloc _).keep hb; clear cka fka zka; obtain ⟨cka, fka, zka⟩ := Reg.Blk.facts ka; replace kb := ((kb).alloc _).keep hb; clear ckb fkb zkb; obtain ⟨ckb, fkb, zkb⟩ := Reg.Blk.facts kb; replace kc := ((kc).alloc _).keep hb; clear ckc fkc zkc; obtain ⟨ckc, fkc, zkc⟩ := Reg.Blk.facts kc; clear hb) | (replace hT := ((hT.alloc hT.size _).alloc (Nat.le_trans hT.size (by simp; try omega)) _).trans (hb.mono (Nat.le_trans hT.size (by simp; try omega))); replace ka := (((ka).alloc _).alloc _).keep hb; clear cka fka zka; obtain ⟨cka, fka, zka⟩ := Reg.Blk.facts ka; replace kb := (((kb).alloc _).alloc _).keep hb; clear ckb fkb zkb; obtain ⟨ckb, fkb, zkb⟩ := Reg.Blk.facts kb; replace kc := (((kc).alloc _).alloc _).keep hb; clear ckc fkc zkc; obtain ⟨ckc, fkc, zkc⟩ := Reg.Blk.facts kc; clear hb) | (replace hT := (((hT.alloc hT.size _).alloc (Nat.le_trans hT.size (by simp; try omega)) _).alloc (Nat.le_trans hT.size (by simp; try omega)) _).trans (hb.mono (Nat.le_trans hT.size (by simp; try omega))); replace ka := ((((ka).alloc _).alloc _).alloc _).keep hb; clear cka fka zka; obtain ⟨cka, fka, zka⟩ := Reg.Blk.facts ka; replace kb := ((((kb).alloc _).alloc _).alloc _).keep hb; clear ckb fkb zkb; obtain ⟨ckb, fkb, zkb⟩ := Reg.Blk.facts kb; replace kc := ((((kc).alloc _).alloc _).alloc _).keep hb; clear ckc fkc zkc; obtain ⟨ckc, fkc, zkc⟩ := Reg.Blk.facts kc; clear hb) | (replace hT := ((((hT.alloc hT.size _).alloc (Nat.le_trans hT.size (by simp; try omega)) _).alloc (Nat.le_trans hT.size (by simp; try omega)) _).alloc (Nat.le_trans hT.size (by simp; try omega)) _).trans (hb.mono (Nat.le_trans hT.size (by simp; try omega))); replace ka := (((((ka).alloc _).alloc _).alloc _).alloc _).keep hb; clear cka fka zka; obtain ⟨cka, fka, zka⟩ := Reg.Blk.facts ka; replace kb := (((((kb).alloc _).alloc _).alloc _).alloc _).keep hb; clear ckb fkb zkb; obtain ⟨ckb, fkb, zkb⟩ := Reg.Blk.facts kb; replace kc := (((((kc).alloc _).alloc _).alloc _).alloc _).keep hb; clear ckc fkc zkc; obtain ⟨ckc, fkc, zkc⟩ := Reg.Blk.facts kc; clear hb) | (replace hT := (((((hT.alloc hT.size _).alloc (Nat.le_trans hT.size (by simp; try omega)) _).alloc (Nat.le_trans hT.size (by simp; try omega)) _).alloc (Nat.le_trans hT.size (by simp; try omega)) _).alloc (Nat.le_trans hT.size (by simp; try omega)) _).trans (hb.mono (Nat.le_trans hT.size (by simp; try omega))); replace ka := ((((((ka).alloc _).alloc _).alloc _).alloc _).alloc _).keep hb; clear cka fka zka; obtain ⟨cka, fka, zka⟩ := Reg.Blk.facts ka; replace kb := ((((((kb).alloc _).alloc _).alloc _).alloc _).alloc _).keep hb; clear ckb fkb zkb; obtain ⟨ckb, fkb, zkb⟩ := Reg.Blk.facts kb; replace kc := ((((((kc).alloc _).alloc _).alloc _).alloc _).alloc _).keep hb; clear ckc fkc zkc; obtain ⟨ckc, fkc, zkc⟩ := Reg.Blk.facts kc; clear hb)
  go_wp2_with (first | (go_at_call 55; (with_reducible refine (HDV.out _).mono ?_); rintro e w' ⟨rfl, hb⟩; first | (replace hT := (hT).trans (hb.mono hT.size); replace ka := (ka).keep hb; clear cka fka zka; obtain ⟨cka, fka, zka⟩ := Reg.Blk.facts ka; replace kb := (kb).keep hb; clear ckb fkb zkb; obtain ⟨ckb, fkb, zkb⟩ := Reg.Blk.facts kb; replace kc := (kc).keep hb; clear ckc fkc zkc; obtain ⟨ckc, fkc, zkc⟩ := Reg.Blk.facts kc; clear hb) | (replace hT := (hT.alloc hT.size _).trans (hb.mono (Nat.le_trans hT.size (by simp; try omega))); replace ka := ((ka).alloc _).keep hb; clear cka fka zka; obtain ⟨cka, fka, zka⟩ := Reg.Blk.facts ka; replace kb := ((kb).alloc _).keep hb; clear ckb fkb zkb; obtain ⟨ckb, fkb, zkb⟩ := Reg.Blk.facts kb; replace kc := ((kc).alloc _).keep hb; clear ckc fkc zkc; obtain ⟨ckc, fkc, zkc⟩ := Reg.Blk.facts kc; clear hb) | (replace hT := ((hT.alloc hT.size _).alloc (Nat.le_trans hT.size (by simp; try omega)) _).trans (hb.mono (Nat.le_trans hT.size (by simp; try omega))); replace ka := (((ka).alloc _).alloc _).keep hb; clear cka fka zka; obtain ⟨cka, fka, zka⟩ := Reg.Blk.facts ka; replace kb := (((kb).alloc _).alloc _).keep hb; clear ckb fkb zkb; obtain ⟨ckb, fkb, zkb⟩ := Reg.Blk.facts kb; replace kc := (((kc).alloc _).alloc _).keep hb; clear ckc fkc zkc; obtain ⟨ckc, fkc, zkc⟩ := Reg.Blk.facts kc; clear hb) | (replace hT := (((hT.alloc hT.size _).alloc (Nat.le_trans hT.size (by simp; try omega)) _).alloc (Nat.le_trans hT.size (by simp; try omega)) _).trans (hb.mono (Nat.le_trans hT.size (by simp; try omega))); replace ka := ((((ka).alloc _).alloc _).alloc _).keep hb; clear cka fka zka; obtain ⟨cka, fka, zka⟩ := Reg.Blk.facts ka; replace kb := ((((kb).alloc _).alloc _).alloc _).keep hb; clear ckb fkb zkb; obtain ⟨ckb, fkb, zkb⟩ := Reg.Blk.facts kb; replace kc := ((((kc).alloc _).alloc _).alloc _).keep hb; clear ckc fkc zkc; obtain ⟨ckc, fkc, zkc⟩ := Reg.Blk.facts kc; clear hb) | (replace hT := ((((hT.alloc hT.size _).alloc (Nat.le_trans hT.size (by simp; try omega)) _).alloc (Nat.le_trans hT.size (by simp; try omega)) _).alloc (Nat.le_trans hT.size (by simp; try omega)) _).trans (hb.mono (Nat.le_trans hT.size (by simp; try omega))); replace ka := (((((ka).alloc _).alloc _).alloc _).alloc _).keep hb; clear cka fka zka; obtain ⟨cka, fka, zka⟩ := Reg.Blk.facts ka; replace kb := (((((kb).alloc _).alloc _).alloc _).alloc _).keep hb; clear ckb fkb zkb; obtain ⟨ckb, fkb, zkb⟩ := Reg.Blk.facts kb; replace kc := (((((kc).alloc _).alloc _).alloc _).alloc _).keep hb; clear ckc fkc zkc; obtain ⟨ckc, fkc, zkc⟩ := Reg.Blk.facts kc; clear hb) | (replace hT := (((((hT.alloc hT.size _).alloc (Nat.le_trans hT.size (by simp; try omega)) _).alloc (Nat.le_trans hT.size (by simp; try omega)) _).alloc (Nat.le_trans hT.size (by simp; try omega)) _).alloc (Nat.le_trans hT.size (by simp; try omega)) _).trans (hb.mono (Nat.le_trans hT.size (by simp; try omega))); replace ka := ((((((ka).alloc _).alloc _).alloc _).alloc _).alloc _).keep hb; clear cka fka zka; obtain ⟨cka, fka, zka⟩ := Reg.Blk.facts ka; replace kb := ((((((kb).alloc _).alloc _).alloc _).alloc _).alloc _).keep hb; clear ckb fkb zkb; obtain ⟨ckb, fkb, zkb⟩ := Reg.Blk.facts kb; replace kc := ((((((kc).alloc _).alloc _).alloc _).alloc _).alloc _).keep hb; clear ckc fkc zkc; obtain ⟨ckc, fkc, zkc⟩ := Reg.Blk.facts kc; clear hb)))
  refine Reg.wp_region_seq (by kernel_rfl) (by kernel_rfl) ?_
  simp only
  iterate 14
    apply Reg.SeqOK.val
    · intro γ W hW K hK
      obtain ⟨hc, hf, _⟩ := bcell hW
      simp only [Act.put, List.setIfInBounds_toArray, List.set_cons_zero, List.set_cons_succ] at hK
      unfold Reg.Does
      go_simp
      try simp only [IntWalk.i64_left]
      first
        | exact hK _ (Below.refl _ _)
        | (go_at_call 41; (with_reducible refine (size_nn _ _ (by omega) (by omega)).mono ?_); rintro e w' ⟨rfl, hb⟩; exact hK _ hb)
        | (go_at_call 40; (with_reducible refine (HTX.out _).mono ?_); rintro e w' ⟨rfl, hb⟩; exact hK _ hb)
        | (go_at_call 40; (with_reducible refine (HTY.out _).mono ?_); rintro e w' ⟨rfl, hb⟩; exact hK _ hb)
        | (trace_state; fail)
    simp only [Act.put, List.setIfInBounds_toArray, List.set_cons_zero, List.set_cons_succ, List.nil_append, List.cons_append, Nat.reduceAdd, Nat.zero_add]
  iterate 2
    apply Reg.SeqOK.box
    · intro γ W hW K hK
      simp only [Act.put, List.setIfInBounds_toArray, List.set_cons_zero, List.set_cons_succ] at hK
      unfold Reg.Does
      go_simp
      exact hK
    simp only [Act.put, List.setIfInBounds_toArray, List.set_cons_zero, List.set_cons_succ, List.nil_append, List.cons_append, Nat.reduceAdd, Nat.zero_add]
  refine Reg.SeqOK.st 14 _ _ _ rfl (by kernel_rfl) ?_ ?_
  · intro γ W hW hge hat K hK
    obtain ⟨hcl, hfr⟩ := Reg.cells_at hat
    simp only [Act.put, List.setIfInBounds_toArray, List.set_cons_zero, List.set_cons_succ] at hK
    unfold Reg.Does
    go_simp
    exact hK _ (Reg.upd2 hat)
  simp only [Act.put, List.setIfInBounds_toArray, List.set_cons_zero, List.set_cons_succ, List.nil_append, List.cons_append, Nat.reduceAdd, Nat.zero_add]
  refine Reg.SeqOK.st 15 _ _ _ rfl (by kernel_rfl) ?_ ?_
  · intro γ W hW hge hat K hK
    obtain ⟨hcl, hfr⟩ := Reg.cells_at hat
    simp only [Act.put, List.setIfInBounds_toArray, List.set_cons_zero, List.set_cons_succ] at hK
    unfold Reg.Does
    go_simp
    exact hK _ (Reg.upd2 hat)
  simp only [Act.put, List.setIfInBounds_toArray, List.set_cons_zero, List.set_cons_succ, List.nil_append, List.cons_append, Nat.reduceAdd, Nat.zero_add]
  refine Reg.SeqOK.nil (by kernel_rfl) (fun γ W3 hW hBx hAp q3' => ?_)
  clear q3'
  simp only [Reg.Boxes, Reg.Apart, Reg.Differ, and_true, true_and, World.size_alloc, Nat.reduceAdd, Nat.zero_add] at hBx hAp
  obtain ⟨⟨gx1, _, at14⟩, gy1, _, at15⟩ := hBx
  generalize γ 14 = gx at *
  generalize γ 15 = gy at *
  have kx : Reg.Blk gx _ _ W3 := at14
  have ky : Reg.Blk gy _ _ W3 := at15
  clear at14 at15 hAp γ
  have zc := zkc
  have hb := hW
  clear hW
  first | (replace hT := (hT).trans (hb.mono hT.size); replace ka := (ka).keep hb; clear cka fka zka; obtain ⟨cka, fka, zka⟩ := Reg.Blk.facts ka; replace kb := (kb).keep hb; clear ckb fkb zkb; obtain ⟨ckb, fkb, zkb⟩ := Reg.Blk.facts kb; replace kc := (kc).keep hb; clear ckc fkc zkc; obtain ⟨ckc, fkc, zkc⟩ := Reg.Blk.facts kc; clear hb) | (replace hT := (hT.alloc hT.size _).trans (hb.mono (Nat.le_trans hT.size (by simp; try omega))); replace ka := ((ka).alloc _).keep hb; clear cka fka zka; obtain ⟨cka, fka, zka⟩ := Reg.Blk.facts ka; replace kb := ((kb).alloc _).keep hb; clear ckb fkb zkb; obtain ⟨ckb, fkb, zkb⟩ := Reg.Blk.facts kb; replace kc := ((kc).alloc _).keep hb; clear ckc fkc zkc; obtain ⟨ckc, fkc, zkc⟩ := Reg.Blk.facts kc; clear hb) | (replace hT := ((hT.alloc hT.size _).alloc (Nat.le_trans hT.size (by simp; try omega)) _).trans (hb.mono (Nat.le_trans hT.size (by simp; try omega))); replace ka := (((ka).alloc _).alloc _).keep hb; clear cka fka zka; obtain ⟨cka, fka, zka⟩ := Reg.Blk.facts ka; replace kb := (((kb).alloc _).alloc _).keep hb; clear ckb fkb zkb; obtain ⟨ckb, fkb, zkb⟩ := Reg.Blk.facts kb; replace kc := (((kc).alloc _).alloc _).keep hb; clear ckc fkc zkc; obtain ⟨ckc, fkc, zkc⟩ := Reg.Blk.facts kc; clear hb) | (replace hT := (((hT.alloc hT.size _).alloc (Nat.le_trans hT.size (by simp; try omega)) _).alloc (Nat.le_trans hT.size (by simp; try omega)) _).trans (hb.mono (Nat.le_trans hT.size (by simp; try omega))); replace ka := ((((ka).alloc _).alloc _).alloc _).keep hb; clear cka fka zka; obtain ⟨cka, fka, zka⟩ := Reg.Blk.facts ka; replace kb := ((((kb).alloc _).alloc _).alloc _).keep hb; clear ckb fkb zkb; obtain ⟨ckb, fkb, zkb⟩ := Reg.Blk.facts kb; replace kc := ((((kc).alloc _).alloc _).alloc _).keep hb; clear ckc fkc zkc; obtain ⟨ckc, fkc, zkc⟩ := Reg.Blk.facts kc; clear hb) | (replace hT := ((((hT.alloc hT.size _).alloc (Nat.le_trans hT.size (by simp; try omega)) _).alloc (Nat.le_trans hT.size (by simp; try omega)) _).alloc (Nat.le_trans hT.size (by simp; try omega)) _).trans (hb.mono (Nat.le_trans hT.size (by simp; try omega))); replace ka := (((((ka).alloc _).alloc _).alloc _).alloc _).keep hb; clear cka fka zka; obtain ⟨cka, fka, zka⟩ := Reg.Blk.facts ka; replace kb := (((((kb).alloc _).alloc _).alloc _).alloc _).keep hb; clear ckb fkb zkb; obtain ⟨ckb, fkb, zkb⟩ := Reg.Blk.facts kb; replace kc := (((((kc).alloc _).alloc _).alloc _).alloc _).keep hb; clear ckc fkc zkc; obtain ⟨ckc, fkc, zkc⟩ := Reg.Blk.facts kc; clear hb) | (replace hT := (((((hT.alloc hT.size _).alloc (Nat.le_trans hT.size (by simp; try omega)) _).alloc (Nat.le_trans hT.size (by simp; try omega)) _).alloc (Nat.le_trans hT.size (by simp; try omega)) _).alloc (Nat.le_trans hT.size (by simp; try omega)) _).trans (hb.mono (Nat.le_trans hT.size (by simp; try omega))); replace ka := ((((((ka).alloc _).alloc _).alloc _).alloc _).alloc _).keep hb; clear cka fka zka; obtain ⟨cka, fka, zka⟩ := Reg.Blk.facts ka; replace kb := ((((((kb).alloc _).alloc _).alloc _).alloc _).alloc _).keep hb; clear ckb fkb zkb; obtain ⟨ckb, fkb, zkb⟩ := Reg.Blk.facts kb; replace kc := ((((((kc).alloc _).alloc _).alloc _).alloc _).alloc _).keep hb; clear ckc fkc zkc; obtain ⟨ckc, fkc, zkc⟩ := Reg.Blk.facts kc; clear hb)
  obtain ⟨ckx, fkx, zkx⟩ := Reg.Blk.facts kx
  obtain ⟨cky, fky, zky⟩ := Reg.Blk.facts ky
  go_wp2_with fail
  refine Reg.wp_region_seq (by kernel_rfl) (by kernel_rfl) ?_
  simp only
  iterate 6
    apply Reg.SeqOK.val
    · intro γ W hW K hK
      obtain ⟨hc, hf, _⟩ := bcell hW
      simp only [Act.put, List.setIfInBounds_toArray, List.set_cons_zero, List.set_cons_succ] at hK
      unfold Reg.Does
      go_simp
      try simp only [IntWalk.i64_left]
      first
        | exact hK _ (Below.refl _ _)
        | (go_at_call 56; (with_reducible refine (HPL.out _).mono ?_); rintro e w' ⟨rfl, hb⟩; exact hK _ hb)
        | (trace_state; fail)
    simp only [Act.put, List.setIfInBounds_toArray, List.set_cons_zero, List.set_cons_succ, List.nil_append, List.cons_append, Nat.reduceAdd, Nat.zero_add]
  iterate 1
    apply Reg.SeqOK.box
    · intro γ W hW K hK
      simp only [Act.put, List.setIfInBounds_toArray, List.set_cons_zero, List.set_cons_succ] at hK
      unfold Reg.Does
      go_simp
      exact hK
    simp only [Act.put, List.setIfInBounds_toArray, List.set_cons_zero, List.set_cons_succ, List.nil_append, List.cons_append, Nat.reduceAdd, Nat.zero_add]
  refine Reg.SeqOK.st 6 _ _ _ rfl (by kernel_rfl) ?_ ?_
  · intro γ W hW hge hat K hK
    obtain ⟨hcl, hfr⟩ := Reg.cells_at hat
    simp only [Act.put, List.setIfInBounds_toArray, List.set_cons_zero, List.set_cons_succ] at hK
    unfold Reg.Does
    go_simp
    exact hK _ (Reg.upd2 hat)
  simp only [Act.put, List.setIfInBounds_toArray, List.set_cons_zero, List.set_cons_succ, List.nil_append, List.cons_append, Nat.reduceAdd, Nat.zero_add]
  iterate 1
    apply Reg.SeqOK.val
    · intro γ W hW K hK
      obtain ⟨hc, hf, _⟩ := bcell hW
      simp only [Act.put, List.setIfInBounds_toArray, List.set_cons_zero, List.set_cons_succ] at hK
      unfold Reg.Does
      go_simp
      try simp only [IntWalk.i64_left]
      first
        | exact hK _ (Below.refl _ _)
        | (trace_state; fail)
    simp only [Act.put, List.setIfInBounds_toArray, List.set_cons_zero, List.set_cons_succ, List.nil_append, List.cons_append, Nat.reduceAdd, Nat.zero_add]
  refine Reg.SeqOK.nil (by kernel_rfl) (fun γ W4 hW hBx hAp q3' => ?_)
  clear q3' hAp
  simp only [Reg.Boxes, Reg.Apart, Reg.Differ, and_true, true_and, World.size_alloc, Nat.reduceAdd, Nat.zero_add] at hBx
  obtain ⟨gs1, _, at6⟩ := hBx
  generalize γ 6 = gs at *
  have ks : Reg.Blk gs _ _ W4 := at6
  clear at6 γ
  have hb := hW
  clear hW
  first | (replace hT := (hT).trans (hb.mono hT.size); replace ka := (ka).keep hb; clear cka fka zka; obtain ⟨cka, fka, zka⟩ := Reg.Blk.facts ka; replace kb := (kb).keep hb; clear ckb fkb zkb; obtain ⟨ckb, fkb, zkb⟩ := Reg.Blk.facts kb; replace kc := (kc).keep hb; clear ckc fkc zkc; obtain ⟨ckc, fkc, zkc⟩ := Reg.Blk.facts kc; replace kx := (kx).keep hb; clear ckx fkx zkx; obtain ⟨ckx, fkx, zkx⟩ := Reg.Blk.facts kx; replace ky := (ky).keep hb; clear cky fky zky; obtain ⟨cky, fky, zky⟩ := Reg.Blk.facts ky; clear hb) | (replace hT := (hT.alloc hT.size _).trans (hb.mono (Nat.le_trans hT.size (by simp; try omega))); replace ka := ((ka).alloc _).keep hb; clear cka fka zka; obtain ⟨cka, fka, zka⟩ := Reg.Blk.facts ka; replace kb := ((kb).alloc _).keep hb; clear ckb fkb zkb; obtain ⟨ckb, fkb, zkb⟩ := Reg.Blk.facts kb; replace kc := ((kc).alloc _).keep hb; clear ckc fkc zkc; obtain ⟨ckc, fkc, zkc⟩ := Reg.Blk.facts kc; replace kx := ((kx).alloc _).keep hb; clear ckx fkx zkx; obtain ⟨ckx, fkx, zkx⟩ := Reg.Blk.facts kx; replace ky := ((ky).alloc _).keep hb; clear cky fky zky; obtain ⟨cky, fky, zky⟩ := Reg.Blk.facts ky; clear hb) | (replace hT := ((hT.alloc hT.size _).alloc (Nat.le_trans hT.size (by simp; try omega)) _).trans (hb.mono (Nat.le_trans hT.size (by simp; try omega))); replace ka := (((ka).alloc _).alloc _).keep hb; clear cka fka zka; obtain ⟨cka, fka, zka⟩ := Reg.Blk.facts ka; replace kb := (((kb).alloc _).alloc _).keep hb; clear ckb fkb zkb; obtain ⟨ckb, fkb, zkb⟩ := Reg.Blk.facts kb; replace kc := (((kc).alloc _).alloc _).keep hb; clear ckc fkc zkc; obtain ⟨ckc, fkc, zkc⟩ := Reg.Blk.facts kc; replace kx := (((kx).alloc _).alloc _).keep hb; clear ckx fkx zkx; obtain ⟨ckx, fkx, zkx⟩ := Reg.Blk.facts kx; replace ky := (((ky).alloc _).alloc _).keep hb; clear cky fky zky; obtain ⟨cky, fky, zky⟩ := Reg.Blk.facts ky; clear hb) | (replace hT := (((hT.alloc hT.size _).alloc (Nat.le_trans hT.size (by simp; try omega)) _).alloc (Nat.le_trans hT.size (by simp; try omega)) _).trans (hb.mono (Nat.le_trans hT.size (by simp; try omega))); replace ka := ((((ka).alloc _).alloc _).alloc _).keep hb; clear cka fka zka; obtain ⟨cka, fka, zka⟩ := Reg.Blk.facts ka; replace kb := ((((kb).alloc _).alloc _).alloc _).keep hb; clear ckb fkb zkb; obtain ⟨ckb, fkb, zkb⟩ := Reg.Blk.facts kb; replace kc := ((((kc).alloc _).alloc _).alloc _).keep hb; clear ckc fkc zkc; obtain ⟨ckc, fkc, zkc⟩ := Reg.Blk.facts kc; replace kx := ((((kx).alloc _).alloc _).alloc _).keep hb; clear ckx fkx zkx; obtain ⟨ckx, fkx, zkx⟩ := Reg.Blk.facts kx; replace ky := ((((ky).alloc _).alloc _).alloc _).keep hb; clear cky fky zky; obtain ⟨cky, fky, zky⟩ := Reg.Blk.facts ky; clear hb) | (replace hT := ((((hT.alloc hT.size _).alloc (Nat.le_trans hT.size (by simp; try omega)) _).alloc (Nat.le_trans hT.size (by simp; try omega)) _).alloc (Nat.le_trans hT.size (by simp; try omega)) _).trans (hb.mono (Nat.le_trans hT.size (by simp; try omega))); replace ka := (((((ka).alloc _).alloc _).alloc _).alloc _).keep hb; clear cka fka zka; obtain ⟨cka, fka, zka⟩ := Reg.Blk.facts ka; replace kb := (((((kb).alloc _).alloc _).alloc _).alloc _).keep hb; clear ckb fkb zkb; obtain ⟨ckb, fkb, zkb⟩ := Reg.Blk.facts kb; replace kc := (((((kc).alloc _).alloc _).alloc _).alloc _).keep hb; clear ckc fkc zkc; obtain ⟨ckc, fkc, zkc⟩ := Reg.Blk.facts kc; replace kx := (((((kx).alloc _).alloc _).alloc _).alloc _).keep hb; clear ckx fkx zkx; obtain ⟨ckx, fkx, zkx⟩ := Reg.Blk.facts kx; replace ky := (((((ky).alloc _).alloc _).alloc _).alloc _).keep hb; clear cky fky zky; obtain ⟨cky, fky, zky⟩ := Reg.Blk.facts ky; clear hb) | (replace hT := (((((hT.alloc hT.size _).alloc (Nat.le_trans hT.size (by simp; try omega)) _).alloc (Nat.le_trans hT.size (by simp; try omega)) _).alloc (Nat.le_trans hT.size (by simp; try omega)) _).alloc (Nat.le_trans hT.size (by simp; try omega)) _).trans (hb.mono (Nat.le_trans hT.size (by simp; try omega))); replace ka := ((((((ka).alloc _).alloc _).alloc _).alloc _).alloc _).keep hb; clear cka fka zka; obtain ⟨cka, fka, zka⟩ := Reg.Blk.facts ka; replace kb := ((((((kb).alloc _).alloc _).alloc _).alloc _).alloc _).keep hb; clear ckb fkb zkb; obtain ⟨ckb, fkb, zkb⟩ := Reg.Blk.facts kb; replace kc := ((((((kc).alloc _).alloc _).alloc _).alloc _).alloc _).keep hb; clear ckc fkc zkc; obtain ⟨ckc, fkc, zkc⟩ := Reg.Blk.facts kc; replace kx := ((((((kx).alloc _).alloc _).alloc _).alloc _).alloc _).keep hb; clear ckx fkx zkx; obtain ⟨ckx, fkx, zkx⟩ := Reg.Blk.facts kx; replace ky := ((((((ky).alloc _).alloc _).alloc _).alloc _).alloc _).keep hb; clear cky fky zky; obtain ⟨cky, fky, zky⟩ := Reg.Blk.facts ky; clear hb)
  obtain ⟨cks, fks, zks⟩ := Reg.Blk.facts ks
  try rw [n1d]
  by_cases hS0 : S = 0
  · subst hS0
    go_wp2_with fail
    have up := Reg.upd2 (x := .int .i64 0) (y := .int .i64 1) kc
    obtain ⟨cl, _⟩ := Reg.cells_at up.at_
    have hw5 := Reg.updB (B := w.heap.size) (show w.heap.size ≤ w.heap.size + 1 + 1 by omega) _ _ _ _ hT up
    refine bodyPost_ret (v := .tuple #[.agg #[.int .i64 0, .int .i64 1], .int .i64 0]) (by simp [results, Try.results29, go_sem, cl]) rfl ⟨⟨_, _, _, rfl⟩, hw5⟩
  · have hSz : (S == 0) = false := by simp; omega
    go_wp2_with (first | (go_at_call 58; (with_reducible refine (HRM.out _).mono ?_); rintro e w' ⟨rfl, hb⟩; first | (replace hT := (hT).trans (hb.mono hT.size); replace ka := (ka).keep hb; clear cka fka zka; obtain ⟨cka, fka, zka⟩ := Reg.Blk.facts ka; replace kb := (kb).keep hb; clear ckb fkb zkb; obtain ⟨ckb, fkb, zkb⟩ := Reg.Blk.facts kb; replace kc := (kc).keep hb; clear ckc fkc zkc; obtain ⟨ckc, fkc, zkc⟩ := Reg.Blk.facts kc; replace kx := (kx).keep hb; clear ckx fkx zkx; obtain ⟨ckx, fkx, zkx⟩ := Reg.Blk.facts kx; replace ky := (ky).keep hb; clear cky fky zky; obtain ⟨cky, fky, zky⟩ := Reg.Blk.facts ky; replace ks := (ks).keep hb; clear cks fks zks; obtain ⟨cks, fks, zks⟩ := Reg.Blk.facts ks; clear hb) | (replace hT := (hT.alloc hT.size _).trans (hb.mono (Nat.le_trans hT.size (by simp; try omega))); replace ka := ((ka).alloc _).keep hb; clear cka fka zka; obtain ⟨cka, fka, zka⟩ := Reg.Blk.facts ka; replace kb := ((kb).alloc _).keep hb; clear ckb fkb zkb; obtain ⟨ckb, fkb, zkb⟩ := Reg.Blk.facts kb; replace kc := ((kc).alloc _).keep hb; clear ckc fkc zkc; obtain ⟨ckc, fkc, zkc⟩ := Reg.Blk.facts kc; replace kx := ((kx).alloc _).keep hb; clear ckx fkx zkx; obtain ⟨ckx, fkx, zkx⟩ := Reg.Blk.facts kx; replace ky := ((ky).alloc _).keep hb; clear cky fky zky; obtain ⟨cky, fky, zky⟩ := Reg.Blk.facts ky; replace ks := ((ks).alloc _).keep hb; clear cks fks zks; obtain ⟨cks, fks, zks⟩ := Reg.Blk.facts ks; clear hb) | (replace hT := ((hT.alloc hT.size _).alloc (Nat.le_trans hT.size (by simp; try omega)) _).trans (hb.mono (Nat.le_trans hT.size (by simp; try omega))); replace ka := (((ka).alloc _).alloc _).keep hb; clear cka fka zka; obtain ⟨cka, fka, zka⟩ := Reg.Blk.facts ka; replace kb := (((kb).alloc _).alloc _).keep hb; clear ckb fkb zkb; obtain ⟨ckb, fkb, zkb⟩ := Reg.Blk.facts kb; replace kc := (((kc).alloc _).alloc _).keep hb; clear ckc fkc zkc; obtain ⟨ckc, fkc, zkc⟩ := Reg.Blk.facts kc; replace kx := (((kx).alloc _).alloc _).keep hb; clear ckx fkx zkx; obtain ⟨ckx, fkx, zkx⟩ := Reg.Blk.facts kx; replace ky := (((ky).alloc _).alloc _).keep hb; clear cky fky zky; obtain ⟨cky, fky, zky⟩ := Reg.Blk.facts ky; replace ks := (((ks).alloc _).alloc _).keep hb; clear cks fks zks; obtain ⟨cks, fks, zks⟩ := Reg.Blk.facts ks; clear hb) | (replace hT := (((hT.alloc hT.size _).alloc (Nat.le_trans hT.size (by simp; try omega)) _).alloc (Nat.le_trans hT.size (by simp; try omega)) _).trans (hb.mono (Nat.le_trans hT.size (by simp; try omega))); replace ka := ((((ka).alloc _).alloc _).alloc _).keep hb; clear cka fka zka; obtain ⟨cka, fka, zka⟩ := Reg.Blk.facts ka; replace kb := ((((kb).alloc _).alloc _).alloc _).keep hb; clear ckb fkb zkb; obtain ⟨ckb, fkb, zkb⟩ := Reg.Blk.facts kb; replace kc := ((((kc).alloc _).alloc _).alloc _).keep hb; clear ckc fkc zkc; obtain ⟨ckc, fkc, zkc⟩ := Reg.Blk.facts kc; replace kx := ((((kx).alloc _).alloc _).alloc _).keep hb; clear ckx fkx zkx; obtain ⟨ckx, fkx, zkx⟩ := Reg.Blk.facts kx; replace ky := ((((ky).alloc _).alloc _).alloc _).keep hb; clear cky fky zky; obtain ⟨cky, fky, zky⟩ := Reg.Blk.facts ky; replace ks := ((((ks).alloc _).alloc _).alloc _).keep hb; clear cks fks zks; obtain ⟨cks, fks, zks⟩ := Reg.Blk.facts ks; clear hb) | (replace hT := ((((hT.alloc hT.size _).alloc (Nat.le_trans hT.size (by simp; try omega)) _).alloc (Nat.le_trans hT.size (by simp; try omega)) _).alloc (Nat.le_trans hT.size (by simp; try omega)) _).trans (hb.mono (Nat.le_trans hT.size (by simp; try omega))); replace ka := (((((ka).alloc _).alloc _).alloc _).alloc _).keep hb; clear cka fka zka; obtain ⟨cka, fka, zka⟩ := Reg.Blk.facts ka; replace kb := (((((kb).alloc _).alloc _).alloc _).alloc _).keep hb; clear ckb fkb zkb; obtain ⟨ckb, fkb, zkb⟩ := Reg.Blk.facts kb; replace kc := (((((kc).alloc _).alloc _).alloc _).alloc _).keep hb; clear ckc fkc zkc; obtain ⟨ckc, fkc, zkc⟩ := Reg.Blk.facts kc; replace kx := (((((kx).alloc _).alloc _).alloc _).alloc _).keep hb; clear ckx fkx zkx; obtain ⟨ckx, fkx, zkx⟩ := Reg.Blk.facts kx; replace ky := (((((ky).alloc _).alloc _).alloc _).alloc _).keep hb; clear cky fky zky; obtain ⟨cky, fky, zky⟩ := Reg.Blk.facts ky; replace ks := (((((ks).alloc _).alloc _).alloc _).alloc _).keep hb; clear cks fks zks; obtain ⟨cks, fks, zks⟩ := Reg.Blk.facts ks; clear hb) | (replace hT := (((((hT.alloc hT.size _).alloc (Nat.le_trans hT.size (by simp; try omega)) _).alloc (Nat.le_trans hT.size (by simp; try omega)) _).alloc (Nat.le_trans hT.size (by simp; try omega)) _).alloc (Nat.le_trans hT.size (by simp; try omega)) _).trans (hb.mono (Nat.le_trans hT.size (by simp; try omega))); replace ka := ((((((ka).alloc _).alloc _).alloc _).alloc _).alloc _).keep hb; clear cka fka zka; obtain ⟨cka, fka, zka⟩ := Reg.Blk.facts ka; replace kb := ((((((kb).alloc _).alloc _).alloc _).alloc _).alloc _).keep hb; clear ckb fkb zkb; obtain ⟨ckb, fkb, zkb⟩ := Reg.Blk.facts kb; replace kc := ((((((kc).alloc _).alloc _).alloc _).alloc _).alloc _).keep hb; clear ckc fkc zkc; obtain ⟨ckc, fkc, zkc⟩ := Reg.Blk.facts kc; replace kx := ((((((kx).alloc _).alloc _).alloc _).alloc _).alloc _).keep hb; clear ckx fkx zkx; obtain ⟨ckx, fkx, zkx⟩ := Reg.Blk.facts kx; replace ky := ((((((ky).alloc _).alloc _).alloc _).alloc _).alloc _).keep hb; clear cky fky zky; obtain ⟨cky, fky, zky⟩ := Reg.Blk.facts ky; replace ks := ((((((ks).alloc _).alloc _).alloc _).alloc _).alloc _).keep hb; clear cks fks zks; obtain ⟨cks, fks, zks⟩ := Reg.Blk.facts ks; clear hb)) | (go_at_call 55; (with_reducible refine (HDV2.out _).mono ?_); rintro e w' ⟨rfl, hb⟩; first | (replace hT := (hT).trans (hb.mono hT.size); replace ka := (ka).keep hb; clear cka fka zka; obtain ⟨cka, fka, zka⟩ := Reg.Blk.facts ka; replace kb := (kb).keep hb; clear ckb fkb zkb; obtain ⟨ckb, fkb, zkb⟩ := Reg.Blk.facts kb; replace kc := (kc).keep hb; clear ckc fkc zkc; obtain ⟨ckc, fkc, zkc⟩ := Reg.Blk.facts kc; replace kx := (kx).keep hb; clear ckx fkx zkx; obtain ⟨ckx, fkx, zkx⟩ := Reg.Blk.facts kx; replace ky := (ky).keep hb; clear cky fky zky; obtain ⟨cky, fky, zky⟩ := Reg.Blk.facts ky; replace ks := (ks).keep hb; clear cks fks zks; obtain ⟨cks, fks, zks⟩ := Reg.Blk.facts ks; clear hb) | (replace hT := (hT.alloc hT.size _).trans (hb.mono (Nat.le_trans hT.size (by simp; try omega))); replace ka := ((ka).alloc _).keep hb; clear cka fka zka; obtain ⟨cka, fka, zka⟩ := Reg.Blk.facts ka; replace kb := ((kb).alloc _).keep hb; clear ckb fkb zkb; obtain ⟨ckb, fkb, zkb⟩ := Reg.Blk.facts kb; replace kc := ((kc).alloc _).keep hb; clear ckc fkc zkc; obtain ⟨ckc, fkc, zkc⟩ := Reg.Blk.facts kc; replace kx := ((kx).alloc _).keep hb; clear ckx fkx zkx; obtain ⟨ckx, fkx, zkx⟩ := Reg.Blk.facts kx; replace ky := ((ky).alloc _).keep hb; clear cky fky zky; obtain ⟨cky, fky, zky⟩ := Reg.Blk.facts ky; replace ks := ((ks).alloc _).keep hb; clear cks fks zks; obtain ⟨cks, fks, zks⟩ := Reg.Blk.facts ks; clear hb) | (replace hT := ((hT.alloc hT.size _).alloc (Nat.le_trans hT.size (by simp; try omega)) _).trans (hb.mono (Nat.le_trans hT.size (by simp; try omega))); replace ka := (((ka).alloc _).alloc _).keep hb; clear cka fka zka; obtain ⟨cka, fka, zka⟩ := Reg.Blk.facts ka; replace kb := (((kb).alloc _).alloc _).keep hb; clear ckb fkb zkb; obtain ⟨ckb, fkb, zkb⟩ := Reg.Blk.facts kb; replace kc := (((kc).alloc _).alloc _).keep hb; clear ckc fkc zkc; obtain ⟨ckc, fkc, zkc⟩ := Reg.Blk.facts kc; replace kx := (((kx).alloc _).alloc _).keep hb; clear ckx fkx zkx; obtain ⟨ckx, fkx, zkx⟩ := Reg.Blk.facts kx; replace ky := (((ky).alloc _).alloc _).keep hb; clear cky fky zky; obtain ⟨cky, fky, zky⟩ := Reg.Blk.facts ky; replace ks := (((ks).alloc _).alloc _).keep hb; clear cks fks zks; obtain ⟨cks, fks, zks⟩ := Reg.Blk.facts ks; clear hb) | (replace hT := (((hT.alloc hT.size _).alloc (Nat.le_trans hT.size (by simp; try omega)) _).alloc (Nat.le_trans hT.size (by simp; try omega)) _).trans (hb.mono (Nat.le_trans hT.size (by simp; try omega))); replace ka := ((((ka).alloc _).alloc _).alloc _).keep hb; clear cka fka zka; obtain ⟨cka, fka, zka⟩ := Reg.Blk.facts ka; replace kb := ((((kb).alloc _).alloc _).alloc _).keep hb; clear ckb fkb zkb; obtain ⟨ckb, fkb, zkb⟩ := Reg.Blk.facts kb; replace kc := ((((kc).alloc _).alloc _).alloc _).keep hb; clear ckc fkc zkc; obtain ⟨ckc, fkc, zkc⟩ := Reg.Blk.facts kc; replace kx := ((((kx).alloc _).alloc _).alloc _).keep hb; clear ckx fkx zkx; obtain ⟨ckx, fkx, zkx⟩ := Reg.Blk.facts kx; replace ky := ((((ky).alloc _).alloc _).alloc _).keep hb; clear cky fky zky; obtain ⟨cky, fky, zky⟩ := Reg.Blk.facts ky; replace ks := ((((ks).alloc _).alloc _).alloc _).keep hb; clear cks fks zks; obtain ⟨cks, fks, zks⟩ := Reg.Blk.facts ks; clear hb) | (replace hT := ((((hT.alloc hT.size _).alloc (Nat.le_trans hT.size (by simp; try omega)) _).alloc (Nat.le_trans hT.size (by simp; try omega)) _).alloc (Nat.le_trans hT.size (by simp; try omega)) _).trans (hb.mono (Nat.le_trans hT.size (by simp; try omega))); replace ka := (((((ka).alloc _).alloc _).alloc _).alloc _).keep hb; clear cka fka zka; obtain ⟨cka, fka, zka⟩ := Reg.Blk.facts ka; replace kb := (((((kb).alloc _).alloc _).alloc _).alloc _).keep hb; clear ckb fkb zkb; obtain ⟨ckb, fkb, zkb⟩ := Reg.Blk.facts kb; replace kc := (((((kc).alloc _).alloc _).alloc _).alloc _).keep hb; clear ckc fkc zkc; obtain ⟨ckc, fkc, zkc⟩ := Reg.Blk.facts kc; replace kx := (((((kx).alloc _).alloc _).alloc _).alloc _).keep hb; clear ckx fkx zkx; obtain ⟨ckx, fkx, zkx⟩ := Reg.Blk.facts kx; replace ky := (((((ky).alloc _).alloc _).alloc _).alloc _).keep hb; clear cky fky zky; obtain ⟨cky, fky, zky⟩ := Reg.Blk.facts ky; replace ks := (((((ks).alloc _).alloc _).alloc _).alloc _).keep hb; clear cks fks zks; obtain ⟨cks, fks, zks⟩ := Reg.Blk.facts ks; clear hb) | (replace hT := (((((hT.alloc hT.size _).alloc (Nat.le_trans hT.size (by simp; try omega)) _).alloc (Nat.le_trans hT.size (by simp; try omega)) _).alloc (Nat.le_trans hT.size (by simp; try omega)) _).alloc (Nat.le_trans hT.size (by simp; try omega)) _).trans (hb.mono (Nat.le_trans hT.size (by simp; try omega))); replace ka := ((((((ka).alloc _).alloc _).alloc _).alloc _).alloc _).keep hb; clear cka fka zka; obtain ⟨cka, fka, zka⟩ := Reg.Blk.facts ka; replace kb := ((((((kb).alloc _).alloc _).alloc _).alloc _).alloc _).keep hb; clear ckb fkb zkb; obtain ⟨ckb, fkb, zkb⟩ := Reg.Blk.facts kb; replace kc := ((((((kc).alloc _).alloc _).alloc _).alloc _).alloc _).keep hb; clear ckc fkc zkc; obtain ⟨ckc, fkc, zkc⟩ := Reg.Blk.facts kc; replace kx := ((((((kx).alloc _).alloc _).alloc _).alloc _).alloc _).keep hb; clear ckx fkx zkx; obtain ⟨ckx, fkx, zkx⟩ := Reg.Blk.facts kx; replace ky := ((((((ky).alloc _).alloc _).alloc _).alloc _).alloc _).keep hb; clear cky fky zky; obtain ⟨cky, fky, zky⟩ := Reg.Blk.facts ky; replace ks := ((((((ks).alloc _).alloc _).alloc _).alloc _).alloc _).keep hb; clear cks fks zks; obtain ⟨cks, fks, zks⟩ := Reg.Blk.facts ks; clear hb)))
    have hne1 : ¬ gx = w.heap.size + 1 + 1 := by omega
    have hne2 : ¬ gs = w.heap.size + 1 + 1 := by omega
    have hne3 : ¬ w.heap.size = w.heap.size + 1 + 1 := by omega
    have HT := Lib.hid hT
    have kc2 := kc
    refine Reg.wp_region_seqK (fun k => k = w.heap.size + 1 + 1) (by kernel_rfl) (by kernel_rfl) ?_
    simp only
    iterate 15
      apply Reg.SeqOK.val
      · intro γ W hW K hK
        obtain ⟨hc, hf, _⟩ := Reg.kcell hW
        simp only [Act.put, List.setIfInBounds_toArray, List.set_cons_zero, List.set_cons_succ] at hK
        unfold Reg.Does
        go_simp
        try simp only [IntWalk.i64_left]
        first
          | exact hK _ (Below.refl _ _)
          | (go_at_call 60; (with_reducible refine (HOV.out _).mono ?_); rintro e w' ⟨rfl, hb⟩; exact hK _ hb)
          | (go_at_call 40; (with_reducible refine (HTZ.out _).mono ?_); rintro e w' ⟨rfl, hb⟩; exact hK _ hb)
          | (go_at_call 60; (with_reducible refine (HO1.out _).mono ?_); rintro e w' ⟨rfl, hb⟩; exact hK _ hb)
          | (go_at_call 59; (with_reducible refine (HMA.out _).mono ?_); rintro e w' ⟨rfl, hb⟩; exact hK _ hb)
          | (trace_state; fail)
      simp only [Act.put, List.setIfInBounds_toArray, List.set_cons_zero, List.set_cons_succ, List.nil_append, List.cons_append, Nat.reduceAdd, Nat.zero_add]
    apply Reg.SeqOK.old (g := w.heap.size + 1 + 1) (hB := (Reg.updK (M := fun k => k = w.heap.size + 1 + 1) rfl)) (hg := kc2) (hne := by simp [Reg.NotOld])
    · intro γ W hW hat K hK
      obtain ⟨hcl, hfr⟩ := Reg.cells_at hat
      simp only [Act.put, List.setIfInBounds_toArray, List.set_cons_zero, List.set_cons_succ] at hK
      unfold Reg.Does
      go_simp
      exact hK _ (Reg.upd2 hat)
    simp only [Act.put, List.setIfInBounds_toArray, List.set_cons_zero, List.set_cons_succ, List.nil_append, List.cons_append, Nat.reduceAdd, Nat.zero_add]
    iterate 1
      apply Reg.SeqOK.val
      · intro γ W hW K hK
        obtain ⟨hc, hf, _⟩ := Reg.kcell hW
        simp only [Act.put, List.setIfInBounds_toArray, List.set_cons_zero, List.set_cons_succ] at hK
        unfold Reg.Does
        go_simp
        try simp only [IntWalk.i64_left]
        first
          | exact hK _ (Below.refl _ _)
      simp only [Act.put, List.setIfInBounds_toArray, List.set_cons_zero, List.set_cons_succ, List.nil_append, List.cons_append, Nat.reduceAdd, Nat.zero_add]
    refine Reg.SeqOK.nil (by kernel_rfl) (fun γ W5 hW _ _ hO => ?_)
    simp only [Reg.Olds, and_true] at hO
    obtain ⟨cl, _⟩ := Reg.cells_at hO
    have hw5 : Below w.heap.size w W5 := HT.out.trans (hW.below fun k hk => ⟨Nat.lt_of_lt_of_le hk HT.out.size, by omega⟩)
    clear hW hO cka fka zka ckb fkb zkb ckc fkc zkc ckx fkx zkx cky fky zky cks fks zks
    go_wp2_with fail
    refine bodyPost_ret (v := .tuple #[.agg #[.int .i64 (madeI false N D).1, .int .i64 (madeI false N D).2.1], .int .i64 (madeI false N D).2.2]) (by simp [results, Try.results29, go_sem, cl]) rfl ⟨⟨_, _, _, rfl⟩, hw5⟩

end G
end Go.Proofs.Ytjeapimjgojpoaa
