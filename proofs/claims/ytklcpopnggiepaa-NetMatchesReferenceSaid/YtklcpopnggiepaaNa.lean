/- Net: 'knows'. -/
import Derived.Test.YtklcpopnggiepaaNe
set_option linter.unusedSimpArgs false
set_option linter.unusedVariables false
set_option maxRecDepth 100000
namespace Go.Proofs.Ytklcpopnggiepaa
open Go.RowKit
namespace N

def bad (n k : Int) : Bool := decide (k < 0) || decide (n ≤ k)
theorem odd_any (k : Int) (gn g : Nat) (n : Int) (w : World) (h1 : w.cell? ⟨gn, 0, none⟩ = some (.pointer (some ⟨g, 0, none⟩))) (h2 : w.cell? ⟨g, 0, none⟩ = some (.int .i64 n)) :
    Calls Try.prog 35 #[.int .i64 k, .pointer (some ⟨gn, 0, none⟩)] w fun e w' => e = .returned (.bool (bad n k)) ∧ w = w' := by
  by_cases hk : k < 0
  · have Hb : Hid (bad n k = true) := by unfold Hid bad; simp [hk]
    go_enter Try.func35, Try.ntmps35
    go_wp2
    go_ret
    exact ⟨ret_bool Hb.out.symm, rfl⟩
  · have hk' : decide (k < 0) = false := by simp; omega
    by_cases hn : n ≤ k
    · have Hb : Hid (bad n k = true) := by unfold Hid bad; simp [hn]
      go_enter Try.func35, Try.ntmps35
      go_wp2
      go_ret
      exact ⟨ret_bool Hb.out.symm, rfl⟩
    · have hn' : decide (n ≤ k) = false := by simp; omega
      have Hb : Hid (bad n k = false) := by unfold Hid bad; simp [hk', hn']
      go_enter Try.func35, Try.ntmps35
      go_wp2
      go_ret
      exact ⟨ret_bool Hb.out.symm, rfl⟩

def xs2 (a b : Int) : Nat → Int | 0 => a | _ => b
/-- The first of two that is odd. -/
def firstBad (n a b : Int) : Int := if bad n a = true then 0 else if bad n b = true then 1 else -1

set_option maxHeartbeats 400000 in
theorem index_any (a b : Int) (gw gn g : Nat) (n : Int) (w : World) (c0 : w.cell? ⟨gw, 0, none⟩ = some (.int .i64 a)) (c1 : w.cell? ⟨gw, 1, none⟩ = some (.int .i64 b))
    (h1 : w.cell? ⟨gn, 0, none⟩ = some (.pointer (some ⟨g, 0, none⟩))) (h2 : w.cell? ⟨g, 0, none⟩ = some (.int .i64 n)) :
    Calls Try.prog 37 #[.slice (some ⟨gw, 0, none⟩) 2 2, .func (.func 35) #[] #[.pointer (some ⟨gn, 0, none⟩)]] w fun e w' => e = .returned (.int .i64 (firstBad n a b)) ∧ w = w' := by
  have Ha := Lib.hid (odd_any a gn g n w h1 h2)
  have Hb := Lib.hid (odd_any b gn g n w h1 h2)
  have HF : Hid (firstBad n a b = if bad n a = true then 0 else if bad n b = true then 1 else -1) := by unfold Hid; rfl
  clear h1 h2
  go_enter Try.func37, Try.ntmps37
  go_wp2_with fail
  go_loop [8] (fun i => ∃ k : Nat, k ≤ 2 ∧ i = .int .i64 k ∧ (0 < k → bad n a = false) ∧ (1 < k → bad n b = false)) (fun i => 2 - (intOf i).toNat)
  case atStart => exact ⟨0, by omega, rfl, by omega, by omega⟩
  case round =>
    obtain ⟨k, hk, rfl, k1, k2⟩ := hrel
    have K1 := Lib.hid k1
    have K2 := Lib.hid k2
    clear k1 k2
    match k, hk with
    | 0, _ =>
      cases hba : bad n a
      · have Hba := Lib.hid hba
        go_wp2_with fail
        (with_reducible refine Ha.out.mono ?_); rw [hba]; clear hba; rintro e w' ⟨rfl, rfl⟩
        go_wp2_with fail
        go_round
        case rel => exact ⟨1, by omega, by go_num, fun _ => (by first | exact Hba.out | trivial), fun h => absurd h (by omega)⟩
        case measure => simp [intOf]
      · have Hba := Lib.hid hba
        go_wp2_with fail
        (with_reducible refine Ha.out.mono ?_); rw [hba]; clear hba; rintro e w' ⟨rfl, rfl⟩
        go_wp2_with fail
        go_ret
        exact ⟨ret_int (by rw [HF.out, Hba.out]; rfl), rfl⟩
    | 1, _ =>
      have ka := K1.out (by omega)
      have Ka := Lib.hid ka
      clear ka
      cases hbb : bad n b
      · have Hbb := Lib.hid hbb
        go_wp2_with fail
        (with_reducible refine Hb.out.mono ?_); rw [hbb]; clear hbb; rintro e w' ⟨rfl, rfl⟩
        go_wp2_with fail
        go_round
        case rel => exact ⟨2, by omega, by go_num, fun _ => Ka.out, fun _ => (by first | exact Hbb.out | trivial)⟩
        case measure => simp [intOf]
      · have Hbb := Lib.hid hbb
        go_wp2_with fail
        (with_reducible refine Hb.out.mono ?_); rw [hbb]; clear hbb; rintro e w' ⟨rfl, rfl⟩
        go_wp2_with fail
        go_ret
        exact ⟨ret_int (by rw [HF.out, Ka.out, Hbb.out]; rfl), rfl⟩
    | 2, _ =>
      have ka := K1.out (by omega)
      have kb := K2.out (by omega)
      have Ka := Lib.hid ka
      have Kb := Lib.hid kb
      clear ka kb
      go_wp2_with fail
      go_ret
      exact ⟨ret_int (by rw [HF.out, Ka.out, Kb.out]; rfl), rfl⟩

theorem contains_any (a b : Int) (gw gn g : Nat) (n : Int) (w : World) (c0 : w.cell? ⟨gw, 0, none⟩ = some (.int .i64 a)) (c1 : w.cell? ⟨gw, 1, none⟩ = some (.int .i64 b))
    (h1 : w.cell? ⟨gn, 0, none⟩ = some (.pointer (some ⟨g, 0, none⟩))) (h2 : w.cell? ⟨g, 0, none⟩ = some (.int .i64 n)) :
    Calls Try.prog 34 #[.slice (some ⟨gw, 0, none⟩) 2 2, .func (.func 35) #[] #[.pointer (some ⟨gn, 0, none⟩)]] w fun e w' => e = .returned (.bool (bad n a || bad n b)) ∧ w = w' := by
  have H := Lib.hid (index_any a b gw gn g n w c0 c1 h1 h2)
  have HF : Hid ((decide (0 ≤ firstBad n a b)) = (bad n a || bad n b)) := by
    unfold Hid firstBad; cases bad n a <;> cases bad n b <;> rfl
  clear c0 c1 h1 h2
  go_enter Try.func34, Try.ntmps34
  go_wp2_with fail
  (with_reducible refine H.out.mono ?_); rintro e w' ⟨rfl, rfl⟩
  go_wp2_with fail
  go_ret
  exact ⟨ret_bool HF.out, rfl⟩

theorem knows_nil (a b : Int) (w : World) : Calls Try.prog 23 #[.pointer none, way a b] w fun e w' => e = .returned (.bool false) ∧ Below w.heap.size w w' := by
  unfold way
  go_enter Try.func23, Try.ntmps23
  go_wp2
  go_ret
  exact ⟨rfl, ((Below.refl _ _).alloc (Nat.le_refl _) _).alloc (by simp) _⟩

theorem run_equalIn_way (n : Nat) (a b c d : Int) (w : World) : (Op.equalIn (n + 1 + 1) 59 (.agg #[.int .i64 a, .int .i64 b]) (.agg #[.int .i64 c, .int .i64 d])).run Try.prog w = .ok (decide (a = c) && decide (b = d)) w := by
  have hu := Try.underlying3
  have hs := Try.sizeOf3 w
  have ha := Try.isAgg3 w
  rw [Op.equalIn]
  simp only [Sem.run_bind, run_underlying under59, Result.andThen_ok, hs, Std.Legacy.Range.forIn_eq_forIn_range', Std.Legacy.Range.size, Nat.sub_zero, Nat.add_one_sub_one, Nat.div_one]
  by_cases h1 : a = c
  · by_cases h2 : b = d
    · simp [List.range', part, hu, ha, hs, Result.andThen, go_sem, h1, h2]
    · simp [List.range', part, hu, ha, hs, Result.andThen, go_sem, h1, h2]
  · simp [List.range', part, hu, ha, hs, Result.andThen, go_sem, h1]
theorem run_eql_way (a b c d : Int) (w : World) : (binOp .eql 59 (.agg #[.int .i64 a, .int .i64 b]) (.agg #[.int .i64 c, .int .i64 d])).run Try.prog w = .ok (.bool (decide (a = c) && decide (b = d))) w := by
  rw [run_eql_struct, run_equalIn_way 9998]; rfl
theorem knows_eq (a : Int) (g : Nat) (w : World) : Calls Try.prog 23 #[.pointer (some ⟨g, 0, none⟩), way a a] w fun e w' => e = .returned (.bool false) ∧ Below w.heap.size w w' := by
  have heq := run_eql_way
  unfold way
  go_enter Try.func23, Try.ntmps23
  go_wp2
  go_ret
  exact ⟨rfl, ((Below.refl _ _).alloc (Nat.le_refl _) _).alloc (by simp) _⟩
theorem knows_ne (a b : Int) (hab : a ≠ b) (g : Nat) (n : Int) (w : World) (h2 : w.cell? ⟨g, 0, none⟩ = some (.int .i64 n)) (hg : g < w.heap.size) :
    Calls Try.prog 23 #[.pointer (some ⟨g, 0, none⟩), way a b] w fun e w' => e = .returned (.bool (!bad n a && !bad n b)) ∧ Below w.heap.size w w' := by
  have heq := run_eql_way
  have h3 : decide (a = b) = false := by simp [hab]
  have h4 : decide (b = a) = false := by simp; exact fun h => hab h.symm
  unfold way
  go_enter Try.func23, Try.ntmps23
  go_wp2_with fail
  (with_reducible refine (contains_any a b (w.heap.size + 1) w.heap.size g n _ ?_ ?_ ?_ ?_).mono ?_)
  · simp
  · simp
  · simp
  · exact ((((Below.refl w.heap.size w).alloc (Nat.le_refl _) _).alloc (by simp) _).cell (p := ⟨g, 0, none⟩) hg).trans h2
  rintro e w' ⟨rfl, rfl⟩
  go_wp2
  go_ret
  exact ⟨rfl, ((Below.refl _ _).alloc (Nat.le_refl _) _).alloc (by simp) _⟩

theorem knows_any (a b : Int) (w : World) {B g : Nat} {M : Nat → Prop} {d : Nt} (hd : NetAt w B M g d) :
    Calls Try.prog 23 #[.pointer (some ⟨g, 0, none⟩), way a b] w fun e w' => e = .returned (.bool (okP d.n a b)) ∧ Below w.heap.size w w' := by
  obtain ⟨bq, bc, fq, fc, h⟩ := hd
  obtain ⟨hc, _, hl⟩ := h.blk.facts
  by_cases hab : a = b
  · subst hab
    refine (knows_eq a g w).mono fun e w' ⟨he, hb⟩ => ⟨?_, hb⟩
    rw [he]; simp [okP]
  · refine (knows_ne a b hab g d.n w (hc 0) hl).mono fun e w' ⟨he, hb⟩ => ⟨?_, hb⟩
    rw [he]; congr 2
    rw [Bool.eq_iff_iff, okP_iff]; simp [bad]; omega

end N
end Go.Proofs.Ytklcpopnggiepaa
