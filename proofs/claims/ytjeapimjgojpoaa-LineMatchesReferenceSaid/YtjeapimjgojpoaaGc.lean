/- Geom: 'Dist', 'Between', 'parted', 'Cross'. -/
import Derived.Test.YtjeapimjgojpoaaGb
set_option linter.unusedSimpArgs false
set_option linter.unusedVariables false
set_option maxRecDepth 100000
namespace Go.Proofs.Ytjeapimjgojpoaa
open Go.RowKit
namespace G

def alongI (vx vy wx wy : Int) : Int := wrap64 (wrap64 (vx * wx) + wrap64 (vy * wy))
def distI (ax ay bx by' : Int) : Int := if on2 ax ay bx by' = true then alongI (wrap64 (bx - ax)) (wrap64 (by' - ay)) (wrap64 (bx - ax)) (wrap64 (by' - ay)) else 0

theorem dist_any (ax ay bx by' : Int) (w : World) :
    Calls Try.prog 48 #[.agg #[.int .i64 ax, .int .i64 ay], .agg #[.int .i64 bx, .int .i64 by']] w fun e w' => e = .returned (.int .i64 (distI ax ay bx by')) ∧ Below w.heap.size w w' := by
  have Ht : Hid ((on2 ax ay bx by' = true → distI ax ay bx by' = alongI (wrap64 (bx - ax)) (wrap64 (by' - ay)) (wrap64 (bx - ax)) (wrap64 (by' - ay))) ∧ (on2 ax ay bx by' = false → distI ax ay bx by' = 0)) := by
    unfold Hid distI; exact ⟨fun h => if_pos h, fun h => if_neg (by simp [h])⟩
  cases hon : on2 ax ay bx by'
  all_goals
    have Hon := Lib.hid hon
    go_enter Try.func48, Try.ntmps48
    go_wp2_with (first | (go_at_call 43; (with_reducible refine (on2_any _ _ _ _ _ _ _ (by simp)).mono ?_); rw [hon]; clear hon; rintro e w' ⟨rfl, hb⟩; first | (replace hT := hT.trans (hb.mono hT.size); clear hc hf hb; obtain ⟨hc, hf, _⟩ := bcell hT) | (replace hT := hT.trans (((Below.refl _ _).alloc hT.size _).trans (hb.mono (Nat.le_trans hT.size (by simp)))); clear hc hf hb; obtain ⟨hc, hf, _⟩ := bcell hT) | (have hT := hb; clear hb; obtain ⟨hc, hf, _⟩ := bcell hT)) | (go_at_call 45; (with_reducible refine (from_any _ _ _ _ _).mono ?_); rintro e w' ⟨rfl, hb⟩; first | (replace hT := hT.trans (hb.mono hT.size); clear hc hf hb; obtain ⟨hc, hf, _⟩ := bcell hT) | (replace hT := hT.trans (((Below.refl _ _).alloc hT.size _).trans (hb.mono (Nat.le_trans hT.size (by simp)))); clear hc hf hb; obtain ⟨hc, hf, _⟩ := bcell hT) | (have hT := hb; clear hb; obtain ⟨hc, hf, _⟩ := bcell hT)) | (go_at_call 46; (with_reducible refine (along_any _ _ _ _ _).mono ?_); rintro e w' ⟨rfl, hb⟩; first | (replace hT := hT.trans (hb.mono hT.size); clear hc hf hb; obtain ⟨hc, hf, _⟩ := bcell hT) | (replace hT := hT.trans (((Below.refl _ _).alloc hT.size _).trans (hb.mono (Nat.le_trans hT.size (by simp)))); clear hc hf hb; obtain ⟨hc, hf, _⟩ := bcell hT) | (have hT := hb; clear hb; obtain ⟨hc, hf, _⟩ := bcell hT)))
    go_ret
  · refine ⟨ret_int (Ht.out.2 Hon.out).symm, ?_⟩
    exact (((Below.refl _ _).alloc (Nat.le_refl _) _).alloc (by simp) _).trans (hT.mono (by simp; omega))
  · refine ⟨ret_int (Ht.out.1 Hon.out).symm, ?_⟩
    exact (((Below.refl _ _).alloc (Nat.le_refl _) _).alloc (by simp) _).trans (hT.mono (by simp; omega))


def dotPt (px py ax ay bx by' : Int) : Int := alongI (wrap64 (ax - px)) (wrap64 (ay - py)) (wrap64 (bx - px)) (wrap64 (by' - py))
/-- Between, behind the look at the grid. -/
def betwO (px py ax ay bx by' : Int) : Bool := ptEq px py ax ay || ptEq px py bx by' || (sideI ax ay bx by' px py == 0 && decide (dotPt px py ax ay bx by' < 0))
def betwI (px py ax ay bx by' : Int) : Bool := on3 px py ax ay bx by' && betwO px py ax ay bx by'

theorem between_any (px py ax ay bx by' : Int) (w : World) :
    Calls Try.prog 22 #[.agg #[.int .i64 px, .int .i64 py], .agg #[.int .i64 ax, .int .i64 ay], .agg #[.int .i64 bx, .int .i64 by']] w fun e w' => e = .returned (.bool (betwI px py ax ay bx by')) ∧ Below w.heap.size w w' := by
  cases hon : on3 px py ax ay bx by'
  · have Hon := Lib.hid hon
    go_enter Try.func22, Try.ntmps22
    go_wp2_with (first | (go_at_call 43; (with_reducible refine (on3_any _ _ _ _ _ _ _ _ _ (by simp)).mono ?_); rw [hon]; clear hon; rintro e w' ⟨rfl, hb⟩; first | (replace hT := hT.trans (hb.mono hT.size); clear hc hf hb; obtain ⟨hc, hf, _⟩ := bcell hT) | (replace hT := hT.trans (((Below.refl _ _).alloc hT.size _).trans (hb.mono (Nat.le_trans hT.size (by simp)))); clear hc hf hb; obtain ⟨hc, hf, _⟩ := bcell hT) | (have hT := hb; clear hb; obtain ⟨hc, hf, _⟩ := bcell hT)) | (go_at_call 44; (with_reducible refine (open_any _ _ _ _ _).mono ?_); rintro e w' ⟨rfl, hb⟩; first | (replace hT := hT.trans (hb.mono hT.size); clear hc hf hb; obtain ⟨hc, hf, _⟩ := bcell hT) | (replace hT := hT.trans (((Below.refl _ _).alloc hT.size _).trans (hb.mono (Nat.le_trans hT.size (by simp)))); clear hc hf hb; obtain ⟨hc, hf, _⟩ := bcell hT) | (have hT := hb; clear hb; obtain ⟨hc, hf, _⟩ := bcell hT)))
    go_ret
    refine ⟨ret_bool (by simp [betwI, Hon.out]), ?_⟩
    exact ((((Below.refl _ _).alloc (Nat.le_refl _) _).alloc (by simp) _).alloc (by simp; omega) _).trans (hT.mono (by simp; omega))
  have Hon := Lib.hid hon
  have heqpt := run_eql_pt
  cases h1 : ptEq px py ax ay
  case true =>
    go_enter Try.func22, Try.ntmps22
    go_wp2_with (first | (go_at_call 43; (with_reducible refine (on3_any _ _ _ _ _ _ _ _ _ (by simp)).mono ?_); rw [hon]; clear hon; rintro e w' ⟨rfl, hb⟩; first | (replace hT := hT.trans (hb.mono hT.size); clear hc hf hb; obtain ⟨hc, hf, _⟩ := bcell hT) | (replace hT := hT.trans (((Below.refl _ _).alloc hT.size _).trans (hb.mono (Nat.le_trans hT.size (by simp)))); clear hc hf hb; obtain ⟨hc, hf, _⟩ := bcell hT) | (have hT := hb; clear hb; obtain ⟨hc, hf, _⟩ := bcell hT)) | (go_at_call 44; (with_reducible refine (open_any _ _ _ _ _).mono ?_); rintro e w' ⟨rfl, hb⟩; first | (replace hT := hT.trans (hb.mono hT.size); clear hc hf hb; obtain ⟨hc, hf, _⟩ := bcell hT) | (replace hT := hT.trans (((Below.refl _ _).alloc hT.size _).trans (hb.mono (Nat.le_trans hT.size (by simp)))); clear hc hf hb; obtain ⟨hc, hf, _⟩ := bcell hT) | (have hT := hb; clear hb; obtain ⟨hc, hf, _⟩ := bcell hT)))
    go_ret
    refine ⟨ret_bool (by simp [betwI, betwO, Hon.out, h1]), ?_⟩
    exact ((((Below.refl _ _).alloc (Nat.le_refl _) _).alloc (by simp) _).alloc (by simp; omega) _).trans (hT.mono (by simp; omega))
  cases h2 : ptEq px py bx by'
  case true =>
    go_enter Try.func22, Try.ntmps22
    go_wp2_with (first | (go_at_call 43; (with_reducible refine (on3_any _ _ _ _ _ _ _ _ _ (by simp)).mono ?_); rw [hon]; clear hon; rintro e w' ⟨rfl, hb⟩; first | (replace hT := hT.trans (hb.mono hT.size); clear hc hf hb; obtain ⟨hc, hf, _⟩ := bcell hT) | (replace hT := hT.trans (((Below.refl _ _).alloc hT.size _).trans (hb.mono (Nat.le_trans hT.size (by simp)))); clear hc hf hb; obtain ⟨hc, hf, _⟩ := bcell hT) | (have hT := hb; clear hb; obtain ⟨hc, hf, _⟩ := bcell hT)) | (go_at_call 44; (with_reducible refine (open_any _ _ _ _ _).mono ?_); rintro e w' ⟨rfl, hb⟩; first | (replace hT := hT.trans (hb.mono hT.size); clear hc hf hb; obtain ⟨hc, hf, _⟩ := bcell hT) | (replace hT := hT.trans (((Below.refl _ _).alloc hT.size _).trans (hb.mono (Nat.le_trans hT.size (by simp)))); clear hc hf hb; obtain ⟨hc, hf, _⟩ := bcell hT) | (have hT := hb; clear hb; obtain ⟨hc, hf, _⟩ := bcell hT)))
    go_ret
    refine ⟨ret_bool (by simp [betwI, betwO, Hon.out, h2]), ?_⟩
    exact ((((Below.refl _ _).alloc (Nat.le_refl _) _).alloc (by simp) _).alloc (by simp; omega) _).trans (hT.mono (by simp; omega))
  cases h3 : (segSide ax ay (wrap64 (bx - ax)) (wrap64 (by' - ay)) px py == 0)
  all_goals
    have Ht : Hid (betwI px py ax ay bx by' = ((segSide ax ay (wrap64 (bx - ax)) (wrap64 (by' - ay)) px py == 0) && decide (dotPt px py ax ay bx by' < 0))) := by
      unfold Hid; simp only [betwI, betwO, Hon.out, h1, h2, sideI, Bool.true_and, Bool.false_or]
    go_enter Try.func22, Try.ntmps22
    go_wp2_with (first | (go_at_call 43; (with_reducible refine (on3_any _ _ _ _ _ _ _ _ _ (by simp)).mono ?_); rw [hon]; clear hon; rintro e w' ⟨rfl, hb⟩; first | (replace hT := hT.trans (hb.mono hT.size); clear hc hf hb; obtain ⟨hc, hf, _⟩ := bcell hT) | (replace hT := hT.trans (((Below.refl _ _).alloc hT.size _).trans (hb.mono (Nat.le_trans hT.size (by simp)))); clear hc hf hb; obtain ⟨hc, hf, _⟩ := bcell hT) | (have hT := hb; clear hb; obtain ⟨hc, hf, _⟩ := bcell hT)) | (go_at_call 44; (with_reducible refine (open_any _ _ _ _ _).mono ?_); rintro e w' ⟨rfl, hb⟩; first | (replace hT := hT.trans (hb.mono hT.size); clear hc hf hb; obtain ⟨hc, hf, _⟩ := bcell hT) | (replace hT := hT.trans (((Below.refl _ _).alloc hT.size _).trans (hb.mono (Nat.le_trans hT.size (by simp)))); clear hc hf hb; obtain ⟨hc, hf, _⟩ := bcell hT) | (have hT := hb; clear hb; obtain ⟨hc, hf, _⟩ := bcell hT)))
  all_goals
    have hz := hT.size
    simp at hz
    have z0 : w.heap.size < w'.heap.size + 1 := by omega
    have z1 : w.heap.size + 1 < w'.heap.size + 1 := by omega
    have z2 : w.heap.size + 1 + 1 < w'.heap.size + 1 := by omega
    have hT2 := hT.alloc hT.size (.cells #[.int .i64 ax, .int .i64 ay, .int .i64 bx, .int .i64 by', .int .i64 (wrap64 (bx - ax)), .int .i64 (wrap64 (by' - ay))] 76)
    have hw2 : Below w.heap.size w (w'.alloc (.cells #[.int .i64 ax, .int .i64 ay, .int .i64 bx, .int .i64 by', .int .i64 (wrap64 (bx - ax)), .int .i64 (wrap64 (by' - ay))] 76)) := ((((Below.refl _ _).alloc (Nat.le_refl _) _).alloc (by simp) _).alloc (by simp; omega) _).trans (hT2.mono (by simp; omega))
    obtain ⟨hc2, hf2, _⟩ := bcell hT2
    clear hT hT2 hc hf h1 h2
    have Hw2 := Lib.hid hw2
    clear hw2
    refine Reg.wp_region_seq (by kernel_rfl) (by kernel_rfl) ?_
    simp only
    iterate 15
      apply Reg.SeqOK.val
      · intro γ W hW K hK
        obtain ⟨hc, hf, _⟩ := bcell hW
        simp only [Act.put, List.setIfInBounds_toArray, List.set_cons_zero, List.set_cons_succ] at hK
        unfold Reg.Does
        go_simp
        try simp only [IntWalk.i64_left]
        first
          | exact hK _ (Below.refl _ _)
          | (go_at_call 50; (with_reducible refine (side_any _ _ _ _ _ _ _ _ _).mono ?_); rintro e w' ⟨rfl, hb⟩; exact hK _ hb)
          | (go_at_call 45; (with_reducible refine (from_any _ _ _ _ _).mono ?_); rintro e w' ⟨rfl, hb⟩; exact hK _ hb)
          | (go_at_call 46; (with_reducible refine (along_any _ _ _ _ _).mono ?_); rintro e w' ⟨rfl, hb⟩; exact hK _ hb)
      simp only [Act.put, List.setIfInBounds_toArray, List.set_cons_zero, List.set_cons_succ, List.nil_append, List.cons_append, Nat.reduceAdd, Nat.zero_add]
    refine Reg.SeqOK.nil (by kernel_rfl) (fun γ W hW _ _ _ => ?_)
    have hw3 : Below w.heap.size w W := Hw2.out.trans (hW.mono (by simp; omega))
    clear hW
    go_wp2
    go_ret
    exact ⟨ret_bool (by rw [Ht.out, h3]; rfl), hw3⟩
end G
end Go.Proofs.Ytjeapimjgojpoaa
