/- Geom: 'Cross'. -/
import Derived.Test.YthdmkkddhhbbgaaGc
set_option linter.unusedSimpArgs false
set_option linter.unusedVariables false
set_option maxRecDepth 100000
namespace Go.Proofs.Ythdmkkddhhbbgaa
open Go.RowKit
namespace G

theorem parted_any (ax ay bx by' vx vy px py qx qy : Int) (w : World) :
    Calls Try.prog 38 #[.func (.func 36) #[.agg #[.int .i64 ax, .int .i64 ay, .int .i64 bx, .int .i64 by', .int .i64 vx, .int .i64 vy]] #[], .agg #[.int .i64 px, .int .i64 py], .agg #[.int .i64 qx, .int .i64 qy]] w fun e w' =>
      e = .returned (.bool (decide (wrap64 (segSide ax ay vx vy px py * segSide ax ay vx vy qx qy) < 0))) ∧ Below w.heap.size w w' := by
  go_enter Try.func38, Try.ntmps38
  go_wp2_with fail
  refine Reg.wp_region_seq (by kernel_rfl) (by kernel_rfl) ?_
  simp only
  iterate 9
    apply Reg.SeqOK.val
    · intro γ W hW K hK
      obtain ⟨hc, hf, _⟩ := bcell hW
      simp only [Act.put, List.setIfInBounds_toArray, List.set_cons_zero, List.set_cons_succ] at hK
      unfold Reg.Does
      go_simp
      try simp only [IntWalk.i64_left]
      first
        | exact hK _ (Below.refl _ _)
        | (go_at_call 36; (with_reducible refine (side_any _ _ _ _ _ _ _ _ _).mono ?_); rintro e w' ⟨rfl, hb⟩; exact hK _ hb)
    simp only [Act.put, List.setIfInBounds_toArray, List.set_cons_zero, List.set_cons_succ, List.nil_append, List.cons_append, Nat.reduceAdd, Nat.zero_add]
  refine Reg.SeqOK.nil (by kernel_rfl) (fun γ W hW _ _ _ => ?_)
  have hw2 : Below w.heap.size w W := (((Below.refl _ _).alloc (Nat.le_refl _) _).alloc (by simp) _).trans (hW.mono (by simp; omega))
  clear hW
  go_wp2
  go_ret
  exact ⟨rfl, hw2⟩

def partI (ax ay vx vy px py qx qy : Int) : Bool := decide (wrap64 (segSide ax ay vx vy px py * segSide ax ay vx vy qx qy) < 0)
def crossO (ax ay bx by' cx cy dx dy : Int) : Int :=
  if (betwI ax ay cx cy dx dy || betwI bx by' cx cy dx dy || betwI cx cy ax ay bx by' || betwI dx dy ax ay bx by') = true then 1
  else if (partI ax ay (wrap64 (bx - ax)) (wrap64 (by' - ay)) cx cy dx dy && partI cx cy (wrap64 (dx - cx)) (wrap64 (dy - cy)) ax ay bx by') = true then 2 else 0
def crossI (ax ay bx by' cx cy dx dy : Int) : Int := if on4 ax ay bx by' cx cy dx dy = true then crossO ax ay bx by' cx cy dx dy else 0

theorem parted2_any (ax ay bx by' vx vy px py qx qy : Int) (w : World) :
    Calls Try.prog 38 #[.func (.func 36) #[.agg #[.int .i64 ax, .int .i64 ay, .int .i64 bx, .int .i64 by', .int .i64 vx, .int .i64 vy]] #[], .agg #[.int .i64 px, .int .i64 py], .agg #[.int .i64 qx, .int .i64 qy]] w fun e w' =>
      e = .returned (.bool (partI ax ay vx vy px py qx qy)) ∧ Below w.heap.size w w' := parted_any ax ay bx by' vx vy px py qx qy w

set_option maxHeartbeats 1000000 in
theorem cross_any (ax ay bx by' cx cy dx dy : Int) (w : World) :
    Calls Try.prog 22 #[.agg #[.int .i64 ax, .int .i64 ay], .agg #[.int .i64 bx, .int .i64 by'], .agg #[.int .i64 cx, .int .i64 cy], .agg #[.int .i64 dx, .int .i64 dy]] w fun e w' => e = .returned (.int .i64 (crossI ax ay bx by' cx cy dx dy)) ∧ Below w.heap.size w w' := by
  go_enter Try.func22, Try.ntmps22
  go_wp2_with fail
  refine Reg.wp_region_seq (by kernel_rfl) (by kernel_rfl) ?_
  simp only
  iterate 6
    apply Reg.SeqOK.val
    · intro γ W hW K hK
      obtain ⟨hc, hf, _⟩ := bcell hW
      simp only [Act.put, List.setIfInBounds_toArray, List.set_cons_zero, List.set_cons_succ] at hK
      unfold Reg.Does
      go_simp
      try simp only [IntWalk.i64_left]
      first
        | exact hK _ (Below.refl _ _)
        | (go_at_call 29; (with_reducible refine (open_any _ _ _ _ _).mono ?_); rintro e w' ⟨rfl, hb⟩; exact hK _ hb)
    simp only [Act.put, List.setIfInBounds_toArray, List.set_cons_zero, List.set_cons_succ, List.nil_append, List.cons_append, Nat.reduceAdd, Nat.zero_add]
  iterate 2
    apply Reg.SeqOK.box
    · intro γ W hW K hK
      simp only [Act.put, List.setIfInBounds_toArray, List.set_cons_zero, List.set_cons_succ] at hK
      unfold Reg.Does
      go_simp
      exact hK
    simp only [Act.put, List.setIfInBounds_toArray, List.set_cons_zero, List.set_cons_succ, List.nil_append, List.cons_append, Nat.reduceAdd, Nat.zero_add]
  refine Reg.SeqOK.st 6 _ _ _ rfl (by kernel_rfl) ?_ ?_
  · intro γ W hW hge hat K hK
    obtain ⟨hcl, hfr⟩ := Reg.cells_at hat
    simp only [Act.put, List.setIfInBounds_toArray, List.set_cons_zero, List.set_cons_succ] at hK
    unfold Reg.Does
    go_simp
    exact hK _ (Reg.upd6 hat)
  simp only [Act.put, List.setIfInBounds_toArray, List.set_cons_zero, List.set_cons_succ, List.nil_append, List.cons_append, Nat.reduceAdd, Nat.zero_add]
  refine Reg.SeqOK.st 7 _ _ _ rfl (by kernel_rfl) ?_ ?_
  · intro γ W hW hge hat K hK
    obtain ⟨hcl, hfr⟩ := Reg.cells_at hat
    simp only [Act.put, List.setIfInBounds_toArray, List.set_cons_zero, List.set_cons_succ] at hK
    unfold Reg.Does
    go_simp
    exact hK _ (Reg.upd6 hat)
  simp only [Act.put, List.setIfInBounds_toArray, List.set_cons_zero, List.set_cons_succ, List.nil_append, List.cons_append, Nat.reduceAdd, Nat.zero_add]
  refine Reg.SeqOK.nil (by kernel_rfl) (fun γ W hW hBx hAp _ => ?_)
  simp only [Reg.Boxes, Reg.Apart, Reg.Differ, and_true, true_and, World.size_alloc, Nat.reduceAdd, Nat.zero_add] at hBx hAp
  obtain ⟨⟨ge6, lt6, at6⟩, ge7, lt7, at7⟩ := hBx
  obtain ⟨cl6, fr6⟩ := Reg.cells_at at6
  obtain ⟨cl7, fr7⟩ := Reg.cells_at at7
  generalize γ 6 = ga at *
  generalize γ 7 = gb at *
  have hw0 : Below w.heap.size w W := (((((Below.refl _ _).alloc (Nat.le_refl _) _).alloc (by simp) _).alloc (by simp; omega) _).alloc (by simp; omega) _).trans (hW.mono (by simp; omega))
  have hz := hW.size
  simp at hz
  have z0 : w.heap.size < W.heap.size := by omega
  have z1 : w.heap.size + 1 < W.heap.size := by omega
  have z2 : w.heap.size + 1 + 1 < W.heap.size := by omega
  have z3 : w.heap.size + 1 + 1 + 1 < W.heap.size := by omega
  obtain ⟨hc0, hf0, _⟩ := bcell hW
  clear hW at6 at7 ge6 ge7 hAp γ hz
  have Hw0 := Lib.hid hw0
  clear hw0
  have HX : Hid (crossI ax ay bx by' cx cy dx dy = if on4 ax ay bx by' cx cy dx dy = true then crossO ax ay bx by' cx cy dx dy else 0) := by unfold Hid; rfl
  have HO : Hid (crossO ax ay bx by' cx cy dx dy = if (betwI ax ay cx cy dx dy || betwI bx by' cx cy dx dy || betwI cx cy ax ay bx by' || betwI dx dy ax ay bx by') = true then 1 else if (partI ax ay (wrap64 (bx - ax)) (wrap64 (by' - ay)) cx cy dx dy && partI cx cy (wrap64 (dx - cx)) (wrap64 (dy - cy)) ax ay bx by') = true then 2 else 0) := by unfold Hid; rfl
  cases hon : on4 ax ay bx by' cx cy dx dy
  · have Hon := Lib.hid hon
    go_wp2_with (first | (go_at_call 28; (with_reducible refine (on4_any _ _ _ _ _ _ _ _ _ _ _ (by simp)).mono ?_); rw [hon]; clear hon; rintro e w' ⟨rfl, hb⟩; first | (replace hT := hT.trans (hb.mono hT.size); clear hc hf hb; obtain ⟨hc, hf, _⟩ := bcell hT) | (replace hT := hT.trans (((Below.refl _ _).alloc hT.size _).trans (hb.mono (Nat.le_trans hT.size (by simp)))); clear hc hf hb; obtain ⟨hc, hf, _⟩ := bcell hT) | (have hT := hb; clear hb; obtain ⟨hc, hf, _⟩ := bcell hT)) | (go_at_call 20; (with_reducible refine (between_any _ _ _ _ _ _ _).mono ?_); rintro e w' ⟨rfl, hb⟩; first | (replace hT := hT.trans (hb.mono hT.size); clear hc hf hb; obtain ⟨hc, hf, _⟩ := bcell hT) | (replace hT := hT.trans (((Below.refl _ _).alloc hT.size _).trans (hb.mono (Nat.le_trans hT.size (by simp)))); clear hc hf hb; obtain ⟨hc, hf, _⟩ := bcell hT) | (have hT := hb; clear hb; obtain ⟨hc, hf, _⟩ := bcell hT)) | (go_at_call 38; (with_reducible refine (parted2_any _ _ _ _ _ _ _ _ _ _ _).mono ?_); rintro e w' ⟨rfl, hb⟩; first | (replace hT := hT.trans (hb.mono hT.size); clear hc hf hb; obtain ⟨hc, hf, _⟩ := bcell hT) | (replace hT := hT.trans (((Below.refl _ _).alloc hT.size _).trans (hb.mono (Nat.le_trans hT.size (by simp)))); clear hc hf hb; obtain ⟨hc, hf, _⟩ := bcell hT) | (have hT := hb; clear hb; obtain ⟨hc, hf, _⟩ := bcell hT)))
    go_ret
    exact ⟨ret_int (by rw [HX.out, Hon.out]; rfl), Hw0.out.trans (hT.mono (by omega))⟩
  have Hon := Lib.hid hon
  cases b1 : betwI ax ay cx cy dx dy
  case true =>
    go_wp2_with (first | (go_at_call 28; (with_reducible refine (on4_any _ _ _ _ _ _ _ _ _ _ _ (by simp)).mono ?_); rw [hon]; clear hon; rintro e w' ⟨rfl, hb⟩; first | (replace hT := hT.trans (hb.mono hT.size); clear hc hf hb; obtain ⟨hc, hf, _⟩ := bcell hT) | (replace hT := hT.trans (((Below.refl _ _).alloc hT.size _).trans (hb.mono (Nat.le_trans hT.size (by simp)))); clear hc hf hb; obtain ⟨hc, hf, _⟩ := bcell hT) | (have hT := hb; clear hb; obtain ⟨hc, hf, _⟩ := bcell hT)) | (go_at_call 20; (with_reducible refine (between_any _ _ _ _ _ _ _).mono ?_); rintro e w' ⟨rfl, hb⟩; first | (replace hT := hT.trans (hb.mono hT.size); clear hc hf hb; obtain ⟨hc, hf, _⟩ := bcell hT) | (replace hT := hT.trans (((Below.refl _ _).alloc hT.size _).trans (hb.mono (Nat.le_trans hT.size (by simp)))); clear hc hf hb; obtain ⟨hc, hf, _⟩ := bcell hT) | (have hT := hb; clear hb; obtain ⟨hc, hf, _⟩ := bcell hT)) | (go_at_call 38; (with_reducible refine (parted2_any _ _ _ _ _ _ _ _ _ _ _).mono ?_); rintro e w' ⟨rfl, hb⟩; first | (replace hT := hT.trans (hb.mono hT.size); clear hc hf hb; obtain ⟨hc, hf, _⟩ := bcell hT) | (replace hT := hT.trans (((Below.refl _ _).alloc hT.size _).trans (hb.mono (Nat.le_trans hT.size (by simp)))); clear hc hf hb; obtain ⟨hc, hf, _⟩ := bcell hT) | (have hT := hb; clear hb; obtain ⟨hc, hf, _⟩ := bcell hT)))
    go_ret
    exact ⟨ret_int (by rw [HX.out, Hon.out, HO.out, b1]; rfl), Hw0.out.trans (hT.mono (by omega))⟩
  cases b2 : betwI bx by' cx cy dx dy
  case true =>
    go_wp2_with (first | (go_at_call 28; (with_reducible refine (on4_any _ _ _ _ _ _ _ _ _ _ _ (by simp)).mono ?_); rw [hon]; clear hon; rintro e w' ⟨rfl, hb⟩; first | (replace hT := hT.trans (hb.mono hT.size); clear hc hf hb; obtain ⟨hc, hf, _⟩ := bcell hT) | (replace hT := hT.trans (((Below.refl _ _).alloc hT.size _).trans (hb.mono (Nat.le_trans hT.size (by simp)))); clear hc hf hb; obtain ⟨hc, hf, _⟩ := bcell hT) | (have hT := hb; clear hb; obtain ⟨hc, hf, _⟩ := bcell hT)) | (go_at_call 20; (with_reducible refine (between_any _ _ _ _ _ _ _).mono ?_); rintro e w' ⟨rfl, hb⟩; first | (replace hT := hT.trans (hb.mono hT.size); clear hc hf hb; obtain ⟨hc, hf, _⟩ := bcell hT) | (replace hT := hT.trans (((Below.refl _ _).alloc hT.size _).trans (hb.mono (Nat.le_trans hT.size (by simp)))); clear hc hf hb; obtain ⟨hc, hf, _⟩ := bcell hT) | (have hT := hb; clear hb; obtain ⟨hc, hf, _⟩ := bcell hT)) | (go_at_call 38; (with_reducible refine (parted2_any _ _ _ _ _ _ _ _ _ _ _).mono ?_); rintro e w' ⟨rfl, hb⟩; first | (replace hT := hT.trans (hb.mono hT.size); clear hc hf hb; obtain ⟨hc, hf, _⟩ := bcell hT) | (replace hT := hT.trans (((Below.refl _ _).alloc hT.size _).trans (hb.mono (Nat.le_trans hT.size (by simp)))); clear hc hf hb; obtain ⟨hc, hf, _⟩ := bcell hT) | (have hT := hb; clear hb; obtain ⟨hc, hf, _⟩ := bcell hT)))
    go_ret
    exact ⟨ret_int (by rw [HX.out, Hon.out, HO.out, b1, b2]; rfl), Hw0.out.trans (hT.mono (by omega))⟩
  cases b3 : betwI cx cy ax ay bx by'
  case true =>
    go_wp2_with (first | (go_at_call 28; (with_reducible refine (on4_any _ _ _ _ _ _ _ _ _ _ _ (by simp)).mono ?_); rw [hon]; clear hon; rintro e w' ⟨rfl, hb⟩; first | (replace hT := hT.trans (hb.mono hT.size); clear hc hf hb; obtain ⟨hc, hf, _⟩ := bcell hT) | (replace hT := hT.trans (((Below.refl _ _).alloc hT.size _).trans (hb.mono (Nat.le_trans hT.size (by simp)))); clear hc hf hb; obtain ⟨hc, hf, _⟩ := bcell hT) | (have hT := hb; clear hb; obtain ⟨hc, hf, _⟩ := bcell hT)) | (go_at_call 20; (with_reducible refine (between_any _ _ _ _ _ _ _).mono ?_); rintro e w' ⟨rfl, hb⟩; first | (replace hT := hT.trans (hb.mono hT.size); clear hc hf hb; obtain ⟨hc, hf, _⟩ := bcell hT) | (replace hT := hT.trans (((Below.refl _ _).alloc hT.size _).trans (hb.mono (Nat.le_trans hT.size (by simp)))); clear hc hf hb; obtain ⟨hc, hf, _⟩ := bcell hT) | (have hT := hb; clear hb; obtain ⟨hc, hf, _⟩ := bcell hT)) | (go_at_call 38; (with_reducible refine (parted2_any _ _ _ _ _ _ _ _ _ _ _).mono ?_); rintro e w' ⟨rfl, hb⟩; first | (replace hT := hT.trans (hb.mono hT.size); clear hc hf hb; obtain ⟨hc, hf, _⟩ := bcell hT) | (replace hT := hT.trans (((Below.refl _ _).alloc hT.size _).trans (hb.mono (Nat.le_trans hT.size (by simp)))); clear hc hf hb; obtain ⟨hc, hf, _⟩ := bcell hT) | (have hT := hb; clear hb; obtain ⟨hc, hf, _⟩ := bcell hT)))
    go_ret
    exact ⟨ret_int (by rw [HX.out, Hon.out, HO.out, b1, b2, b3]; rfl), Hw0.out.trans (hT.mono (by omega))⟩
  cases b4 : betwI dx dy ax ay bx by'
  case true =>
    go_wp2_with (first | (go_at_call 28; (with_reducible refine (on4_any _ _ _ _ _ _ _ _ _ _ _ (by simp)).mono ?_); rw [hon]; clear hon; rintro e w' ⟨rfl, hb⟩; first | (replace hT := hT.trans (hb.mono hT.size); clear hc hf hb; obtain ⟨hc, hf, _⟩ := bcell hT) | (replace hT := hT.trans (((Below.refl _ _).alloc hT.size _).trans (hb.mono (Nat.le_trans hT.size (by simp)))); clear hc hf hb; obtain ⟨hc, hf, _⟩ := bcell hT) | (have hT := hb; clear hb; obtain ⟨hc, hf, _⟩ := bcell hT)) | (go_at_call 20; (with_reducible refine (between_any _ _ _ _ _ _ _).mono ?_); rintro e w' ⟨rfl, hb⟩; first | (replace hT := hT.trans (hb.mono hT.size); clear hc hf hb; obtain ⟨hc, hf, _⟩ := bcell hT) | (replace hT := hT.trans (((Below.refl _ _).alloc hT.size _).trans (hb.mono (Nat.le_trans hT.size (by simp)))); clear hc hf hb; obtain ⟨hc, hf, _⟩ := bcell hT) | (have hT := hb; clear hb; obtain ⟨hc, hf, _⟩ := bcell hT)) | (go_at_call 38; (with_reducible refine (parted2_any _ _ _ _ _ _ _ _ _ _ _).mono ?_); rintro e w' ⟨rfl, hb⟩; first | (replace hT := hT.trans (hb.mono hT.size); clear hc hf hb; obtain ⟨hc, hf, _⟩ := bcell hT) | (replace hT := hT.trans (((Below.refl _ _).alloc hT.size _).trans (hb.mono (Nat.le_trans hT.size (by simp)))); clear hc hf hb; obtain ⟨hc, hf, _⟩ := bcell hT) | (have hT := hb; clear hb; obtain ⟨hc, hf, _⟩ := bcell hT)))
    go_ret
    exact ⟨ret_int (by rw [HX.out, Hon.out, HO.out, b1, b2, b3, b4]; rfl), Hw0.out.trans (hT.mono (by omega))⟩
  cases p1 : partI ax ay (wrap64 (bx - ax)) (wrap64 (by' - ay)) cx cy dx dy
  case false =>
    go_wp2_with (first | (go_at_call 28; (with_reducible refine (on4_any _ _ _ _ _ _ _ _ _ _ _ (by simp)).mono ?_); rw [hon]; clear hon; rintro e w' ⟨rfl, hb⟩; first | (replace hT := hT.trans (hb.mono hT.size); clear hc hf hb; obtain ⟨hc, hf, _⟩ := bcell hT) | (replace hT := hT.trans (((Below.refl _ _).alloc hT.size _).trans (hb.mono (Nat.le_trans hT.size (by simp)))); clear hc hf hb; obtain ⟨hc, hf, _⟩ := bcell hT) | (have hT := hb; clear hb; obtain ⟨hc, hf, _⟩ := bcell hT)) | (go_at_call 20; (with_reducible refine (between_any _ _ _ _ _ _ _).mono ?_); rintro e w' ⟨rfl, hb⟩; first | (replace hT := hT.trans (hb.mono hT.size); clear hc hf hb; obtain ⟨hc, hf, _⟩ := bcell hT) | (replace hT := hT.trans (((Below.refl _ _).alloc hT.size _).trans (hb.mono (Nat.le_trans hT.size (by simp)))); clear hc hf hb; obtain ⟨hc, hf, _⟩ := bcell hT) | (have hT := hb; clear hb; obtain ⟨hc, hf, _⟩ := bcell hT)) | (go_at_call 38; (with_reducible refine (parted2_any _ _ _ _ _ _ _ _ _ _ _).mono ?_); rintro e w' ⟨rfl, hb⟩; first | (replace hT := hT.trans (hb.mono hT.size); clear hc hf hb; obtain ⟨hc, hf, _⟩ := bcell hT) | (replace hT := hT.trans (((Below.refl _ _).alloc hT.size _).trans (hb.mono (Nat.le_trans hT.size (by simp)))); clear hc hf hb; obtain ⟨hc, hf, _⟩ := bcell hT) | (have hT := hb; clear hb; obtain ⟨hc, hf, _⟩ := bcell hT)))
    go_ret
    exact ⟨ret_int (by rw [HX.out, Hon.out, HO.out, b1, b2, b3, b4, p1]; rfl), Hw0.out.trans (hT.mono (by omega))⟩
  cases p2 : partI cx cy (wrap64 (dx - cx)) (wrap64 (dy - cy)) ax ay bx by'
  all_goals
    go_wp2_with (first | (go_at_call 28; (with_reducible refine (on4_any _ _ _ _ _ _ _ _ _ _ _ (by simp)).mono ?_); rw [hon]; clear hon; rintro e w' ⟨rfl, hb⟩; first | (replace hT := hT.trans (hb.mono hT.size); clear hc hf hb; obtain ⟨hc, hf, _⟩ := bcell hT) | (replace hT := hT.trans (((Below.refl _ _).alloc hT.size _).trans (hb.mono (Nat.le_trans hT.size (by simp)))); clear hc hf hb; obtain ⟨hc, hf, _⟩ := bcell hT) | (have hT := hb; clear hb; obtain ⟨hc, hf, _⟩ := bcell hT)) | (go_at_call 20; (with_reducible refine (between_any _ _ _ _ _ _ _).mono ?_); rintro e w' ⟨rfl, hb⟩; first | (replace hT := hT.trans (hb.mono hT.size); clear hc hf hb; obtain ⟨hc, hf, _⟩ := bcell hT) | (replace hT := hT.trans (((Below.refl _ _).alloc hT.size _).trans (hb.mono (Nat.le_trans hT.size (by simp)))); clear hc hf hb; obtain ⟨hc, hf, _⟩ := bcell hT) | (have hT := hb; clear hb; obtain ⟨hc, hf, _⟩ := bcell hT)) | (go_at_call 38; (with_reducible refine (parted2_any _ _ _ _ _ _ _ _ _ _ _).mono ?_); rintro e w' ⟨rfl, hb⟩; first | (replace hT := hT.trans (hb.mono hT.size); clear hc hf hb; obtain ⟨hc, hf, _⟩ := bcell hT) | (replace hT := hT.trans (((Below.refl _ _).alloc hT.size _).trans (hb.mono (Nat.le_trans hT.size (by simp)))); clear hc hf hb; obtain ⟨hc, hf, _⟩ := bcell hT) | (have hT := hb; clear hb; obtain ⟨hc, hf, _⟩ := bcell hT)))
    go_ret
    exact ⟨ret_int (by rw [HX.out, Hon.out, HO.out, b1, b2, b3, b4, p1, p2]; rfl), Hw0.out.trans (hT.mono (by omega))⟩

end G
end Go.Proofs.Ythdmkkddhhbbgaa
