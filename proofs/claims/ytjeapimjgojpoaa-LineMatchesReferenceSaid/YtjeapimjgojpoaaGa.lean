/- Geom: contracts of the small functions. -/
import Derived.Test.YtjeapimjgojpoaaProg
import Derived.Test.YtjeapimjgojpoaaPlain
import Derived.Test.YtjeapimjgojpoaaReg
import Derived.WalkKit
import Derived.ProofKit
import Derived.WalkSpells
import Derived.WalkLawsBesides
import Derived.Deep.RegionHeld3
import Derived.Deep.DeepCutAuto
import Derived.KernelRfl
import Derived.Lib.Hide
set_option linter.unusedSimpArgs false
set_option linter.unusedVariables false
set_option maxRecDepth 100000
namespace Go.Proofs.Ytjeapimjgojpoaa
open Go.RowKit
namespace G

theorem bcell {B : Nat} {W w1 : World} (hb : Below B W w1) : (∀ b o, b < B → w1.cell? ⟨b, o, none⟩ = W.cell? ⟨b, o, none⟩) ∧ (∀ b o, b < B → w1.frozen? ⟨b, o, none⟩ = W.frozen? ⟨b, o, none⟩) ∧ B ≤ B :=
  ⟨fun b o h => hb.cell (p := ⟨b, o, none⟩) h, fun b o h => hb.frozen (p := ⟨b, o, none⟩) h, Nat.le_refl _⟩

theorem ret_bool {a b : Bool} (h : a = b) : Ending.returned (.bool a) = .returned (.bool b) := by rw [h]
theorem ret_int {k : IntKind} {a b : Int} (h : a = b) : Ending.returned (.int k a) = .returned (.int k b) := by rw [h]


theorem on_any (x y : Int) (w : World) :
    Calls Try.prog 19 #[.agg #[.int .i64 x, .int .i64 y]] w fun e w' => e = .returned (.bool (onB x y)) ∧ Below w.heap.size w w' := by
  go_enter Try.func19, Try.ntmps19
  go_wp2
  all_goals
    go_ret
    refine ⟨ret_bool ?_, (Below.refl _ _).alloc (Nat.le_refl _) _⟩
    rw [Bool.eq_iff_iff]
    simp [onB]
    omega

theorem from_any (ax ay bx by' : Int) (w : World) :
    Calls Try.prog 45 #[.agg #[.int .i64 ax, .int .i64 ay], .agg #[.int .i64 bx, .int .i64 by']] w fun e w' => e = .returned (.agg #[.int .i64 (wrap64 (bx - ax)), .int .i64 (wrap64 (by' - ay))]) ∧ Below w.heap.size w w' := by
  go_enter Try.func45, Try.ntmps45
  go_wp2
  refine bodyPost_ret (v := .agg #[.int .i64 (wrap64 (bx - ax)), .int .i64 (wrap64 (by' - ay))]) (by simp [results, Try.results45, go_sem]) rfl ⟨rfl, ?_⟩
  exact (((((Below.refl _ _).alloc (Nat.le_refl _) _).alloc (by simp) _).alloc (by simp; omega) _))

theorem open_any (ax ay bx by' : Int) (w : World) :
    Calls Try.prog 44 #[.agg #[.int .i64 ax, .int .i64 ay], .agg #[.int .i64 bx, .int .i64 by']] w fun e w' =>
      e = .returned (.agg #[.int .i64 ax, .int .i64 ay, .int .i64 bx, .int .i64 by', .int .i64 (wrap64 (bx - ax)), .int .i64 (wrap64 (by' - ay))]) ∧ Below w.heap.size w w' := by
  go_enter Try.func44, Try.ntmps44
  go_wp2_with fail
  refine Reg.wp_region_seq (by kernel_rfl) (by kernel_rfl) ?_
  simp only
  iterate 7
    apply Reg.SeqOK.val
    · intro γ W hW K hK
      obtain ⟨hc, hf, _⟩ := bcell hW
      simp only [Act.put, List.setIfInBounds_toArray, List.set_cons_zero, List.set_cons_succ] at hK
      unfold Reg.Does
      go_simp
      try simp only [IntWalk.i64_left]
      first
        | exact hK _ (Below.refl _ _)
        | (go_at_call 45; (with_reducible refine (from_any _ _ _ _ _).mono ?_); rintro e w' ⟨rfl, hb⟩; exact hK _ hb)
    simp only [Act.put, List.setIfInBounds_toArray, List.set_cons_zero, List.set_cons_succ, List.nil_append, List.cons_append, Nat.reduceAdd, Nat.zero_add]
  refine Reg.SeqOK.last (by kernel_rfl) (by kernel_rfl) (fun γ W hW _ _ _ => ?_)
  have hw0 : Below w.heap.size w W := (((((Below.refl _ _).alloc (Nat.le_refl _) _).alloc (by simp) _).alloc (by simp; omega) _)).trans (hW.mono (by simp; omega))
  obtain ⟨hc, hf, _⟩ := bcell hW
  unfold Reg.Does
  go_wp2
  refine bodyPost_ret (v := .agg #[.int .i64 ax, .int .i64 ay, .int .i64 bx, .int .i64 by', .int .i64 (wrap64 (bx - ax)), .int .i64 (wrap64 (by' - ay))]) (by simp [results, Try.results44, go_sem, hc]) rfl ⟨rfl, ?_⟩
  exact ((((hw0.setCell (by simp; omega) _).setCell (by simp; omega) _).setCell (by simp; omega) _).setCell (by simp; omega) _ |>.setCell (by simp; omega) _).setCell (by simp; omega) _

theorem area_any (vx vy wx wy : Int) (w : World) :
    Calls Try.prog 47 #[.agg #[.int .i64 vx, .int .i64 vy], .agg #[.int .i64 wx, .int .i64 wy]] w fun e w' =>
      e = .returned (.int .i64 (wrap64 (wrap64 (vx * wy) - wrap64 (vy * wx)))) ∧ Below w.heap.size w w' := by
  go_enter Try.func47, Try.ntmps47
  go_wp2_with fail
  go_ret
  refine ⟨rfl, ?_⟩
  exact (((Below.refl _ _).alloc (Nat.le_refl _) _).alloc (by simp) _)

theorem along_any (vx vy wx wy : Int) (w : World) :
    Calls Try.prog 46 #[.agg #[.int .i64 vx, .int .i64 vy], .agg #[.int .i64 wx, .int .i64 wy]] w fun e w' =>
      e = .returned (.int .i64 (wrap64 (wrap64 (vx * wx) + wrap64 (vy * wy)))) ∧ Below w.heap.size w w' := by
  go_enter Try.func46, Try.ntmps46
  go_wp2_with fail
  go_ret
  refine ⟨rfl, ?_⟩
  exact (((Below.refl _ _).alloc (Nat.le_refl _) _).alloc (by simp) _)

def ptEq (ax ay bx by' : Int) : Bool := decide (ax = bx) && decide (ay = by')
theorem run_eql_pt (ax ay bx by' : Int) (w : World) : (binOp .eql 24 (.agg #[.int .i64 ax, .int .i64 ay]) (.agg #[.int .i64 bx, .int .i64 by'])).run Try.prog w = .ok (.bool (ptEq ax ay bx by')) w := by
  by_cases h1 : ax = bx <;> by_cases h2 : ay = by' <;> go_simp <;> simp [ptEq, h1, h2]

def segSide (ax ay vx vy px py : Int) : Int := sgn (wrap64 (wrap64 (vx * wrap64 (py - ay)) - wrap64 (vy * wrap64 (px - ax))))

theorem side_any (ax ay bx by' vx vy px py : Int) (w : World) :
    Calls Try.prog 50 #[.agg #[.int .i64 ax, .int .i64 ay, .int .i64 bx, .int .i64 by', .int .i64 vx, .int .i64 vy], .agg #[.int .i64 px, .int .i64 py]] w fun e w' =>
      e = .returned (.int .i64 (segSide ax ay vx vy px py)) ∧ Below w.heap.size w w' := by
  go_enter Try.func50, Try.ntmps50
  go_wp2_with fail
  refine Reg.wp_region_seq (by kernel_rfl) (by kernel_rfl) ?_
  simp only
  iterate 9
    apply Reg.SeqOK.val
    · intro γ W hW K hK
      obtain ⟨hc, hf, _⟩ := bcell hW
      simp only [Act.put, List.setIfInBounds_toArray, List.set_cons_zero, List.set_cons_succ] at hK
      unfold Reg.Does
      go_simp
      try simp only [IntWalk.i64_left]
      first
        | exact hK _ (Below.refl _ _)
        | (go_at_call 45; (with_reducible refine (from_any _ _ _ _ _).mono ?_); rintro e w' ⟨rfl, hb⟩; exact hK _ hb)
        | (go_at_call 47; (with_reducible refine (area_any _ _ _ _ _).mono ?_); rintro e w' ⟨rfl, hb⟩; exact hK _ hb)
    simp only [Act.put, List.setIfInBounds_toArray, List.set_cons_zero, List.set_cons_succ, List.nil_append, List.cons_append, Nat.reduceAdd, Nat.zero_add]
  refine Reg.SeqOK.nil (by kernel_rfl) (fun γ W hW _ _ _ => ?_)
  have hw0 : Below w.heap.size w W := ((((Below.refl _ _).alloc (Nat.le_refl _) _).alloc (by simp) _)).trans (hW.mono (by simp; omega))
  have hsg : _ := sgn_cases (wrap64 (wrap64 (vx * wrap64 (py - ay)) - wrap64 (vy * wrap64 (px - ax))))
  clear hW
  go_wp2
  all_goals
    go_ret
    refine ⟨ret_int ?_, hw0⟩
    unfold segSide
    rcases hsg with h | h | h <;> omega

end G
end Go.Proofs.Ytjeapimjgojpoaa
