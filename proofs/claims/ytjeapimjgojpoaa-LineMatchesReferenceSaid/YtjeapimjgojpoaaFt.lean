/- Geom: 'Foot'. -/
import Derived.Test.YtjeapimjgojpoaaGc
import Derived.Test.YtjeapimjgojpoaaFo
set_option linter.unusedSimpArgs false
set_option linter.unusedVariables false
set_option maxRecDepth 100000
namespace Go.Proofs.Ytjeapimjgojpoaa
open Go.RowKit
namespace G

theorem wrap64_bd (n : Int) : -9223372036854775808 ≤ wrap64 n ∧ wrap64 n ≤ 9223372036854775807 := by unfold wrap64; omega
theorem alongI_bd (a b c d : Int) : -9223372036854775808 ≤ alongI a b c d ∧ alongI a b c d ≤ 9223372036854775807 := wrap64_bd _
def areaI (vx vy wx wy : Int) : Int := wrap64 (wrap64 (vx * wy) - wrap64 (vy * wx))
theorem distI_bd (a b c d : Int) : -9223372036854775808 ≤ distI a b c d ∧ distI a b c d ≤ 9223372036854775807 := by
  unfold distI; split
  · exact alongI_bd _ _ _ _
  · omega
theorem area2_any (vx vy wx wy : Int) (w : World) :
    Calls Try.prog 47 #[.agg #[.int .i64 vx, .int .i64 vy], .agg #[.int .i64 wx, .int .i64 wy]] w fun e w' => e = .returned (.int .i64 (areaI vx vy wx wy)) ∧ Below w.heap.size w w' := area_any vx vy wx wy w
theorem along2_any (vx vy wx wy : Int) (w : World) :
    Calls Try.prog 46 #[.agg #[.int .i64 vx, .int .i64 vy], .agg #[.int .i64 wx, .int .i64 wy]] w fun e w' => e = .returned (.int .i64 (alongI vx vy wx wy)) ∧ Below w.heap.size w w' := along_any vx vy wx wy w
theorem of2_any (num den : Int) (w : World) (h1 : -9223372036854775808 ≤ num) (h2 : num ≤ 9223372036854775807) (h3 : -9223372036854775808 ≤ den) (h4 : den ≤ 9223372036854775807) :
    Calls Try.prog 49 #[.int .i64 num, .int .i64 den] w fun e w' => e = .returned (.tuple #[.agg #[.int .i64 (ofI num den).1, .int .i64 (ofI num den).2.1], .int .i64 (ofI num den).2.2]) ∧ Below w.heap.size w w' := of_any num den w h1 h2 h3 h4

abbrev Rat3 := Int × Int × Int
/-- The part and the square of the distance, from along, all, area and the squares of the distances from both ends. -/
def footO (al all ar da db : Int) : Rat3 × Rat3 :=
  if al ≤ 0 then (ofI 0 1, ofI da 1) else if all ≤ al then (ofI 1 1, ofI db 1) else (ofI al all, ofI (wrap64 (ar * ar)) all)
def footI (px py ax ay bx by' : Int) : Rat3 × Rat3 :=
  if on3 px py ax ay bx by' = true then
    footO (alongI (wrap64 (bx - ax)) (wrap64 (by' - ay)) (wrap64 (px - ax)) (wrap64 (py - ay))) (alongI (wrap64 (bx - ax)) (wrap64 (by' - ay)) (wrap64 (bx - ax)) (wrap64 (by' - ay)))
      (areaI (wrap64 (bx - ax)) (wrap64 (by' - ay)) (wrap64 (px - ax)) (wrap64 (py - ay))) (distI px py ax ay) (distI px py bx by')
  else ((0, 0, 0), (0, 0, 1))
def footV (r : Rat3 × Rat3) : Value := .tuple #[.agg #[.int .i64 r.1.1, .int .i64 r.1.2.1], .agg #[.int .i64 r.2.1, .int .i64 r.2.2.1], .int .i64 r.2.2.2]

theorem foot_off (px py ax ay bx by' : Int) (w : World) (hon : on3 px py ax ay bx by' = false) :
    Calls Try.prog 20 #[.agg #[.int .i64 px, .int .i64 py], .agg #[.int .i64 ax, .int .i64 ay], .agg #[.int .i64 bx, .int .i64 by']] w fun e w' => e = .returned (footV (footI px py ax ay bx by')) ∧ Below w.heap.size w w' := by
  have Hon := Lib.hid hon
  have hf : footI px py ax ay bx by' = ((0, 0, 0), (0, 0, 1)) := if_neg (by simp [hon])
  have Hf := Lib.hid hf
  clear hf
  go_enter Try.func20, Try.ntmps20
  go_wp2_with (first | (go_at_call 43; (with_reducible refine (on3_any _ _ _ _ _ _ _ _ _ (by simp)).mono ?_); rw [hon]; clear hon; rintro e w' ⟨rfl, hb⟩; first | (replace hT := hT.trans (hb.mono hT.size); clear hc hf hb; obtain ⟨hc, hf, _⟩ := bcell hT) | (replace hT := hT.trans (((Below.refl _ _).alloc hT.size _).trans (hb.mono (Nat.le_trans hT.size (by simp)))); clear hc hf hb; obtain ⟨hc, hf, _⟩ := bcell hT) | (have hT := hb; clear hb; obtain ⟨hc, hf, _⟩ := bcell hT)))
  refine bodyPost_ret (v := footV (footI px py ax ay bx by')) (by rw [Hf.out]; simp [results, Try.results20, go_sem, footV, hc]) rfl ⟨rfl, ?_⟩
  have hw1 : Below w.heap.size w w' := ((((((Below.refl _ _).alloc (Nat.le_refl _) _).alloc (by simp) _).alloc (by simp; omega) _).alloc (by simp; omega) _).alloc (by simp; omega) _).trans (hT.mono (by simp; omega))
  repeat (first | exact Below.refl _ _ | assumption | (refine Below.setCell ?_ (by first | (simp; done) | (simp; omega) | omega) _) | (refine Below.alloc ?_ (by first | (simp; done) | (simp; omega) | omega) _) | (refine Below.drew ?_))

set_option maxHeartbeats 4000000 in
theorem foot_on (px py ax ay bx by' : Int) (w : World) (hon : on3 px py ax ay bx by' = true) :
    Calls Try.prog 20 #[.agg #[.int .i64 px, .int .i64 py], .agg #[.int .i64 ax, .int .i64 ay], .agg #[.int .i64 bx, .int .i64 by']] w fun e w' => e = .returned (footV (footI px py ax ay bx by')) ∧ Below w.heap.size w w' := by
  have Hon := Lib.hid hon
  go_enter Try.func20, Try.ntmps20
  go_wp2_with (first | (go_at_call 43; (with_reducible refine (on3_any _ _ _ _ _ _ _ _ _ (by simp)).mono ?_); rw [hon]; clear hon; rintro e w' ⟨rfl, hb⟩; first | (replace hT := hT.trans (hb.mono hT.size); clear hc hf hb; obtain ⟨hc, hf, _⟩ := bcell hT) | (replace hT := hT.trans (((Below.refl _ _).alloc hT.size _).trans (hb.mono (Nat.le_trans hT.size (by simp)))); clear hc hf hb; obtain ⟨hc, hf, _⟩ := bcell hT) | (have hT := hb; clear hb; obtain ⟨hc, hf, _⟩ := bcell hT)))
  have hw1 : Below w.heap.size w w' := ((((((Below.refl _ _).alloc (Nat.le_refl _) _).alloc (by simp) _).alloc (by simp; omega) _).alloc (by simp; omega) _).alloc (by simp; omega) _).trans (hT.mono (by simp; omega))
  have hz := hT.size
  simp at hz
  have z0 : w.heap.size < w'.heap.size := by omega
  have z1 : w.heap.size + 1 < w'.heap.size := by omega
  have z2 : w.heap.size + 1 + 1 < w'.heap.size := by omega
  have z3 : w.heap.size + 1 + 1 + 1 < w'.heap.size := by omega
  have z4 : w.heap.size + 1 + 1 + 1 + 1 < w'.heap.size := by omega
  have Hw1 := Lib.hid hw1
  clear hw1
  refine Reg.wp_region_seq (by kernel_rfl) (by kernel_rfl) ?_
  simp only
  iterate 6
    apply Reg.SeqOK.val
    · intro γ W hW K hK
      obtain ⟨hc, hf, _⟩ := bcell hW
      simp only [Act.put, List.setIfInBounds_toArray, List.set_cons_zero, List.set_cons_succ] at hK
      unfold Reg.Does
      go_simp
      try simp only [IntWalk.i64_left]
      first
        | exact hK _ (Below.refl _ _)
        | (go_at_call 44; (with_reducible refine (open_any _ _ _ _ _).mono ?_); rintro e w' ⟨rfl, hb⟩; exact hK _ hb)
        | (go_at_call 45; (with_reducible refine (from_any _ _ _ _ _).mono ?_); rintro e w' ⟨rfl, hb⟩; exact hK _ hb)
    simp only [Act.put, List.setIfInBounds_toArray, List.set_cons_zero, List.set_cons_succ, List.nil_append, List.cons_append, Nat.reduceAdd, Nat.zero_add]
  iterate 2
    apply Reg.SeqOK.box
    · intro γ W hW K hK
      simp only [Act.put, List.setIfInBounds_toArray, List.set_cons_zero, List.set_cons_succ] at hK
      unfold Reg.Does
      go_simp
      exact hK
    simp only [Act.put, List.setIfInBounds_toArray, List.set_cons_zero, List.set_cons_succ, List.nil_append, List.cons_append, Nat.reduceAdd, Nat.zero_add]
  refine Reg.SeqOK.st 6 _ _ _ rfl (by kernel_rfl) ?_ ?_
  · intro γ W hW hge hat K hK
    obtain ⟨hcl, hfr⟩ := Reg.cells_at hat
    simp only [Act.put, List.setIfInBounds_toArray, List.set_cons_zero, List.set_cons_succ] at hK
    unfold Reg.Does
    go_simp
    exact hK _ (Reg.upd6 hat)
  simp only [Act.put, List.setIfInBounds_toArray, List.set_cons_zero, List.set_cons_succ, List.nil_append, List.cons_append, Nat.reduceAdd, Nat.zero_add]
  refine Reg.SeqOK.st 7 _ _ _ rfl (by kernel_rfl) ?_ ?_
  · intro γ W hW hge hat K hK
    obtain ⟨hcl, hfr⟩ := Reg.cells_at hat
    simp only [Act.put, List.setIfInBounds_toArray, List.set_cons_zero, List.set_cons_succ] at hK
    unfold Reg.Does
    go_simp
    exact hK _ (Reg.upd2 hat)
  simp only [Act.put, List.setIfInBounds_toArray, List.set_cons_zero, List.set_cons_succ, List.nil_append, List.cons_append, Nat.reduceAdd, Nat.zero_add]
  refine Reg.SeqOK.nil (by kernel_rfl) (fun γ W hW hBx hAp _ => ?_)
  simp only [Reg.Boxes, Reg.Apart, Reg.Differ, and_true, true_and, World.size_alloc, Nat.reduceAdd, Nat.zero_add] at hBx hAp
  obtain ⟨⟨ge6, lt6, at6⟩, ge7, lt7, at7⟩ := hBx
  obtain ⟨cl6, fr6⟩ := Reg.cells_at at6
  obtain ⟨cl7, fr7⟩ := Reg.cells_at at7
  generalize γ 6 = ga at *
  generalize γ 7 = gb at *
  have hw2 : Below w.heap.size w W := Hw1.out.trans (hW.mono (by omega))
  have o0 : W.heap[w.heap.size]? = some (.cells #[.int .i64 px, .int .i64 py] 24 (0, 0)) := by
    rw [hW.block _ (by omega), hT.block _ (by first | (simp; done) | (simp; omega))]
    repeat (first | ((with_reducible refine Reg.heap_new' ?_); simp only [World.size_alloc]; done) | rw [Below.heap_alloc _ _ _ (by first | (simp; done) | (simp; omega))])
  have o1 : W.heap[w.heap.size + 1]? = some (.cells #[.int .i64 ax, .int .i64 ay] 24 (0, 0)) := by
    rw [hW.block _ (by omega), hT.block _ (by first | (simp; done) | (simp; omega))]
    repeat (first | ((with_reducible refine Reg.heap_new' ?_); simp only [World.size_alloc]; done) | rw [Below.heap_alloc _ _ _ (by first | (simp; done) | (simp; omega))])
  have o2 : W.heap[w.heap.size + 1 + 1]? = some (.cells #[.int .i64 bx, .int .i64 by'] 24 (0, 0)) := by
    rw [hW.block _ (by omega), hT.block _ (by first | (simp; done) | (simp; omega))]
    repeat (first | ((with_reducible refine Reg.heap_new' ?_); simp only [World.size_alloc]; done) | rw [Below.heap_alloc _ _ _ (by first | (simp; done) | (simp; omega))])
  have o3 : W.heap[w.heap.size + 1 + 1 + 1]? = some (.cells #[.int .i64 0, .int .i64 0] 32 (0, 0)) := by
    rw [hW.block _ (by omega), hT.block _ (by first | (simp; done) | (simp; omega))]
    repeat (first | ((with_reducible refine Reg.heap_new' ?_); simp only [World.size_alloc]; done) | rw [Below.heap_alloc _ _ _ (by first | (simp; done) | (simp; omega))])
  have o4 : W.heap[w.heap.size + 1 + 1 + 1 + 1]? = some (.cells #[.int .i64 0, .int .i64 0] 32 (0, 0)) := by
    rw [hW.block _ (by omega), hT.block _ (by first | (simp; done) | (simp; omega))]
    repeat (first | ((with_reducible refine Reg.heap_new' ?_); simp only [World.size_alloc]; done) | rw [Below.heap_alloc _ _ _ (by first | (simp; done) | (simp; omega))])
  obtain ⟨cp0, fp0⟩ := Reg.cells_at o0
  obtain ⟨cp1, fp1⟩ := Reg.cells_at o1
  obtain ⟨cp2, fp2⟩ := Reg.cells_at o2
  have hzW := hW.size
  have y0 : w.heap.size < W.heap.size := by omega
  have y1 : w.heap.size + 1 < W.heap.size := by omega
  have y2 : w.heap.size + 1 + 1 < W.heap.size := by omega
  have y3 : w.heap.size + 1 + 1 + 1 < W.heap.size := by omega
  have y4 : w.heap.size + 1 + 1 + 1 + 1 < W.heap.size := by omega
  have g6 : w.heap.size + 1 + 1 + 1 + 1 < ga := by omega
  have g7 : w.heap.size + 1 + 1 + 1 + 1 < gb := by omega
  clear hW hc hf hT hzW at6 at7 γ z0 z1 z2 z3 z4 hz Hw1 hAp ge6 ge7
  have hA : Hid (footI px py ax ay bx by' = footO (alongI (wrap64 (bx - ax)) (wrap64 (by' - ay)) (wrap64 (px - ax)) (wrap64 (py - ay))) (alongI (wrap64 (bx - ax)) (wrap64 (by' - ay)) (wrap64 (bx - ax)) (wrap64 (by' - ay)))
      (areaI (wrap64 (bx - ax)) (wrap64 (by' - ay)) (wrap64 (px - ax)) (wrap64 (py - ay))) (distI px py ax ay) (distI px py bx by')) := if_pos Hon.out
  have w1 := wrap64_bd (bx - ax)
  have l1 := alongI_bd (wrap64 (bx - ax)) (wrap64 (by' - ay)) (wrap64 (px - ax)) (wrap64 (py - ay))
  have l2 := alongI_bd (wrap64 (bx - ax)) (wrap64 (by' - ay)) (wrap64 (bx - ax)) (wrap64 (by' - ay))
  have l3 := wrap64_bd (areaI (wrap64 (bx - ax)) (wrap64 (by' - ay)) (wrap64 (px - ax)) (wrap64 (py - ay)) * areaI (wrap64 (bx - ax)) (wrap64 (by' - ay)) (wrap64 (px - ax)) (wrap64 (py - ay)))
  have l4 := distI_bd px py ax ay
  have l5 := distI_bd px py bx by'
  have hB := Below.refl W.heap.size W
  go_wp2_with fail
  refine Reg.wp_region_seq (by kernel_rfl) (by kernel_rfl) ?_
  simp only
  iterate 11
    apply Reg.SeqOK.val
    · intro γ W hW K hK
      obtain ⟨hc, hf, _⟩ := bcell hW
      simp only [Act.put, List.setIfInBounds_toArray, List.set_cons_zero, List.set_cons_succ] at hK
      unfold Reg.Does
      go_simp
      try simp only [IntWalk.i64_left]
      first
        | exact hK _ (Below.refl _ _)
        | (go_at_call 46; (with_reducible refine (along2_any _ _ _ _ _).mono ?_); rintro e w' ⟨rfl, hb⟩; exact hK _ hb)
    simp only [Act.put, List.setIfInBounds_toArray, List.set_cons_zero, List.set_cons_succ, List.nil_append, List.cons_append, Nat.reduceAdd, Nat.zero_add]
  refine Reg.SeqOK.nil (by kernel_rfl) (fun γ W2 hW _ _ _ => ?_)
  have hT := hW
  clear hW
  obtain ⟨hc, hf, _⟩ := bcell hT
  have hB2 := Lib.hid hT
  clear hB
  by_cases c1 : alongI (wrap64 (bx - ax)) (wrap64 (by' - ay)) (wrap64 (px - ax)) (wrap64 (py - ay)) ≤ 0
  · have Hr : Hid (footO (alongI (wrap64 (bx - ax)) (wrap64 (by' - ay)) (wrap64 (px - ax)) (wrap64 (py - ay))) (alongI (wrap64 (bx - ax)) (wrap64 (by' - ay)) (wrap64 (bx - ax)) (wrap64 (by' - ay))) (areaI (wrap64 (bx - ax)) (wrap64 (by' - ay)) (wrap64 (px - ax)) (wrap64 (py - ay))) (distI px py ax ay) (distI px py bx by') = (ofI 0 1, ofI (distI px py ax ay) 1)) := if_pos c1
    go_wp2_with (first | (go_at_call 47; (with_reducible refine (area2_any _ _ _ _ _).mono ?_); rintro e w' ⟨rfl, hb⟩; first | (replace hT := hT.trans (hb.mono hT.size); clear hc hf hb; obtain ⟨hc, hf, _⟩ := bcell hT) | (replace hT := hT.trans (((Below.refl _ _).alloc hT.size _).trans (hb.mono (Nat.le_trans hT.size (by simp)))); clear hc hf hb; obtain ⟨hc, hf, _⟩ := bcell hT) | (have hT := hb; clear hb; obtain ⟨hc, hf, _⟩ := bcell hT)) | (go_at_call 48; (with_reducible refine (dist_any _ _ _ _ _).mono ?_); rintro e w' ⟨rfl, hb⟩; first | (replace hT := hT.trans (hb.mono hT.size); clear hc hf hb; obtain ⟨hc, hf, _⟩ := bcell hT) | (replace hT := hT.trans (((Below.refl _ _).alloc hT.size _).trans (hb.mono (Nat.le_trans hT.size (by simp)))); clear hc hf hb; obtain ⟨hc, hf, _⟩ := bcell hT) | (have hT := hb; clear hb; obtain ⟨hc, hf, _⟩ := bcell hT)))
    ((with_reducible refine (of2_any _ _ _ (by omega) (by omega) (by omega) (by omega)).mono ?_); rintro e w3 ⟨rfl, hb3⟩)
    have hT3 := hT.trans (hb3.mono hT.size)
    have hs3 := hT3.size
    clear hT hc hf hb3
    go_wp2_with fail
    ((with_reducible refine (of2_any _ _ _ (by omega) (by omega) (by omega) (by omega)).mono ?_); rintro e w4 ⟨rfl, hb4⟩)
    have hs4 := hb4.size
    simp at hs4
    have o16 : w4.heap[w3.heap.size]? = some (.cells #[.int .i64 (ofI 0 1).1, .int .i64 (ofI 0 1).2.1] 32 (0, 0)) := by
      rw [hb4.block _ (by simp)]
      repeat (first | ((with_reducible refine Reg.heap_new' ?_); simp only [World.size_alloc]; done) | rw [Below.heap_alloc _ _ _ (by first | (simp; done) | (simp; omega))])
    have hT4 := hT3.trans (((Below.refl _ _).alloc hT3.size _).trans (hb4.mono (Nat.le_trans hT3.size (by simp))))
    clear hT3 hb4
    go_wp2_with fail
    have p3 : (w4.alloc (.cells #[.int .i64 (ofI (distI px py ax ay) 1).1, .int .i64 (ofI (distI px py ax ay) 1).2.1] 32)).heap[w.heap.size + 1 + 1 + 1]? = some (.cells #[.int .i64 0, .int .i64 0] 32 (0, 0)) := by rw [Below.heap_alloc _ _ _ (by omega), hT4.block _ (by omega)]; exact o3
    have p4 : (w4.alloc (.cells #[.int .i64 (ofI (distI px py ax ay) 1).1, .int .i64 (ofI (distI px py ax ay) 1).2.1] 32)).heap[w.heap.size + 1 + 1 + 1 + 1]? = some (.cells #[.int .i64 0, .int .i64 0] 32 (0, 0)) := by rw [Below.heap_alloc _ _ _ (by omega), hT4.block _ (by omega)]; exact o4
    have p16 : (w4.alloc (.cells #[.int .i64 (ofI (distI px py ax ay) 1).1, .int .i64 (ofI (distI px py ax ay) 1).2.1] 32)).heap[w3.heap.size]? = some (.cells #[.int .i64 (ofI 0 1).1, .int .i64 (ofI 0 1).2.1] 32 (0, 0)) := by rw [Below.heap_alloc _ _ _ (by omega)]; exact o16
    have p18 : (w4.alloc (.cells #[.int .i64 (ofI (distI px py ax ay) 1).1, .int .i64 (ofI (distI px py ax ay) 1).2.1] 32)).heap[w4.heap.size]? = some (.cells #[.int .i64 (ofI (distI px py ax ay) 1).1, .int .i64 (ofI (distI px py ax ay) 1).2.1] 32 (0, 0)) := Reg.heap_new _ _
    have hw5 : Below w.heap.size w (w4.alloc (.cells #[.int .i64 (ofI (distI px py ax ay) 1).1, .int .i64 (ofI (distI px py ax ay) 1).2.1] 32)) := (hw2.trans (hT4.mono (by omega))).alloc (by omega) _
    have n1 : ¬ w3.heap.size = w.heap.size + 1 + 1 + 1 := by omega
    have n2 : ¬ w3.heap.size = w.heap.size + 1 + 1 + 1 + 1 := by omega
    have n3 : ¬ w4.heap.size = w.heap.size + 1 + 1 + 1 := by omega
    have n4 : ¬ w4.heap.size = w.heap.size + 1 + 1 + 1 + 1 := by omega
    have n5 : w3.heap.size < w4.heap.size + 1 := by omega
    obtain ⟨cq16, _⟩ := Reg.cells_at p16
    obtain ⟨cq18, _⟩ := Reg.cells_at p18
    have Hw5 := Lib.hid hw5
    clear hw5 hT4 hw2 hB2 o16
    refine Reg.wp_region_seqK (fun k => k = w.heap.size + 1 + 1 + 1 ∨ k = w.heap.size + 1 + 1 + 1 + 1) (by kernel_rfl) (by kernel_rfl) ?_
    simp only
    iterate 3
      apply Reg.SeqOK.val
      · intro γ W hW K hK
        obtain ⟨hc, hf, _⟩ := Reg.kcell hW
        simp only [Act.put, List.setIfInBounds_toArray, List.set_cons_zero, List.set_cons_succ] at hK
        unfold Reg.Does
        go_simp
        try simp only [IntWalk.i64_left]
        first
          | exact hK _ (Below.refl _ _)
      simp only [Act.put, List.setIfInBounds_toArray, List.set_cons_zero, List.set_cons_succ, List.nil_append, List.cons_append, Nat.reduceAdd, Nat.zero_add]
    apply Reg.SeqOK.old (g := w.heap.size + 1 + 1 + 1) (hB := (Reg.updK (Or.inl rfl))) (hg := p3) (hne := by simp [Reg.NotOld])
    · intro γ W hW hat K hK
      obtain ⟨hcl, hfr⟩ := Reg.cells_at hat
      simp only [Act.put, List.setIfInBounds_toArray, List.set_cons_zero, List.set_cons_succ] at hK
      unfold Reg.Does
      go_simp
      exact hK _ (Reg.upd2 hat)
    simp only [Act.put, List.setIfInBounds_toArray, List.set_cons_zero, List.set_cons_succ, List.nil_append, List.cons_append, Nat.reduceAdd, Nat.zero_add]
    apply Reg.SeqOK.old (g := w.heap.size + 1 + 1 + 1 + 1) (hB := (Reg.updK (Or.inr rfl))) (hg := p4) (hne := by simp [Reg.NotOld])
    · intro γ W hW hat K hK
      obtain ⟨hcl, hfr⟩ := Reg.cells_at hat
      simp only [Act.put, List.setIfInBounds_toArray, List.set_cons_zero, List.set_cons_succ] at hK
      unfold Reg.Does
      go_simp
      exact hK _ (Reg.upd2 hat)
    simp only [Act.put, List.setIfInBounds_toArray, List.set_cons_zero, List.set_cons_succ, List.nil_append, List.cons_append, Nat.reduceAdd, Nat.zero_add]
    iterate 1
      apply Reg.SeqOK.val
      · intro γ W hW K hK
        obtain ⟨hc, hf, _⟩ := Reg.kcell hW
        simp only [Act.put, List.setIfInBounds_toArray, List.set_cons_zero, List.set_cons_succ] at hK
        unfold Reg.Does
        go_simp
        try simp only [IntWalk.i64_left]
        first
          | exact hK _ (Below.refl _ _)
      simp only [Act.put, List.setIfInBounds_toArray, List.set_cons_zero, List.set_cons_succ, List.nil_append, List.cons_append, Nat.reduceAdd, Nat.zero_add]
    refine Reg.SeqOK.nil (by kernel_rfl) (fun γ W5 hW _ _ hO => ?_)
    simp only [Reg.Olds, and_true] at hO
    obtain ⟨q3, q4⟩ := hO
    obtain ⟨k3, _⟩ := Reg.cells_at q3
    obtain ⟨k4, _⟩ := Reg.cells_at q4
    have hw6 : Below w.heap.size w W5 := Hw5.out.trans (hW.below fun k hk => ⟨by simp; omega, by omega⟩)
    clear hW q3 q4
    go_wp2_with fail
    refine bodyPost_ret (v := footV (footI px py ax ay bx by')) (by rw [hA.out, Hr.out]; simp [results, Try.results20, go_sem, footV, k3, k4]) rfl ⟨rfl, hw6⟩
  by_cases c2 : alongI (wrap64 (bx - ax)) (wrap64 (by' - ay)) (wrap64 (bx - ax)) (wrap64 (by' - ay)) ≤ alongI (wrap64 (bx - ax)) (wrap64 (by' - ay)) (wrap64 (px - ax)) (wrap64 (py - ay))
  · have Hr : Hid (footO (alongI (wrap64 (bx - ax)) (wrap64 (by' - ay)) (wrap64 (px - ax)) (wrap64 (py - ay))) (alongI (wrap64 (bx - ax)) (wrap64 (by' - ay)) (wrap64 (bx - ax)) (wrap64 (by' - ay))) (areaI (wrap64 (bx - ax)) (wrap64 (by' - ay)) (wrap64 (px - ax)) (wrap64 (py - ay))) (distI px py ax ay) (distI px py bx by') = (ofI 1 1, ofI (distI px py bx by') 1)) := by unfold Hid footO; rw [if_neg c1, if_pos c2]
    go_wp2_with (first | (go_at_call 47; (with_reducible refine (area2_any _ _ _ _ _).mono ?_); rintro e w' ⟨rfl, hb⟩; first | (replace hT := hT.trans (hb.mono hT.size); clear hc hf hb; obtain ⟨hc, hf, _⟩ := bcell hT) | (replace hT := hT.trans (((Below.refl _ _).alloc hT.size _).trans (hb.mono (Nat.le_trans hT.size (by simp)))); clear hc hf hb; obtain ⟨hc, hf, _⟩ := bcell hT) | (have hT := hb; clear hb; obtain ⟨hc, hf, _⟩ := bcell hT)) | (go_at_call 48; (with_reducible refine (dist_any _ _ _ _ _).mono ?_); rintro e w' ⟨rfl, hb⟩; first | (replace hT := hT.trans (hb.mono hT.size); clear hc hf hb; obtain ⟨hc, hf, _⟩ := bcell hT) | (replace hT := hT.trans (((Below.refl _ _).alloc hT.size _).trans (hb.mono (Nat.le_trans hT.size (by simp)))); clear hc hf hb; obtain ⟨hc, hf, _⟩ := bcell hT) | (have hT := hb; clear hb; obtain ⟨hc, hf, _⟩ := bcell hT)))
    ((with_reducible refine (of2_any _ _ _ (by omega) (by omega) (by omega) (by omega)).mono ?_); rintro e w3 ⟨rfl, hb3⟩)
    have hT3 := hT.trans (hb3.mono hT.size)
    have hs3 := hT3.size
    clear hT hc hf hb3
    go_wp2_with fail
    ((with_reducible refine (of2_any _ _ _ (by omega) (by omega) (by omega) (by omega)).mono ?_); rintro e w4 ⟨rfl, hb4⟩)
    have hs4 := hb4.size
    simp at hs4
    have o16 : w4.heap[w3.heap.size]? = some (.cells #[.int .i64 (ofI 1 1).1, .int .i64 (ofI 1 1).2.1] 32 (0, 0)) := by
      rw [hb4.block _ (by simp)]
      repeat (first | ((with_reducible refine Reg.heap_new' ?_); simp only [World.size_alloc]; done) | rw [Below.heap_alloc _ _ _ (by first | (simp; done) | (simp; omega))])
    have hT4 := hT3.trans (((Below.refl _ _).alloc hT3.size _).trans (hb4.mono (Nat.le_trans hT3.size (by simp))))
    clear hT3 hb4
    go_wp2_with fail
    have p3 : (w4.alloc (.cells #[.int .i64 (ofI (distI px py bx by') 1).1, .int .i64 (ofI (distI px py bx by') 1).2.1] 32)).heap[w.heap.size + 1 + 1 + 1]? = some (.cells #[.int .i64 0, .int .i64 0] 32 (0, 0)) := by rw [Below.heap_alloc _ _ _ (by omega), hT4.block _ (by omega)]; exact o3
    have p4 : (w4.alloc (.cells #[.int .i64 (ofI (distI px py bx by') 1).1, .int .i64 (ofI (distI px py bx by') 1).2.1] 32)).heap[w.heap.size + 1 + 1 + 1 + 1]? = some (.cells #[.int .i64 0, .int .i64 0] 32 (0, 0)) := by rw [Below.heap_alloc _ _ _ (by omega), hT4.block _ (by omega)]; exact o4
    have p16 : (w4.alloc (.cells #[.int .i64 (ofI (distI px py bx by') 1).1, .int .i64 (ofI (distI px py bx by') 1).2.1] 32)).heap[w3.heap.size]? = some (.cells #[.int .i64 (ofI 1 1).1, .int .i64 (ofI 1 1).2.1] 32 (0, 0)) := by rw [Below.heap_alloc _ _ _ (by omega)]; exact o16
    have p18 : (w4.alloc (.cells #[.int .i64 (ofI (distI px py bx by') 1).1, .int .i64 (ofI (distI px py bx by') 1).2.1] 32)).heap[w4.heap.size]? = some (.cells #[.int .i64 (ofI (distI px py bx by') 1).1, .int .i64 (ofI (distI px py bx by') 1).2.1] 32 (0, 0)) := Reg.heap_new _ _
    have hw5 : Below w.heap.size w (w4.alloc (.cells #[.int .i64 (ofI (distI px py bx by') 1).1, .int .i64 (ofI (distI px py bx by') 1).2.1] 32)) := (hw2.trans (hT4.mono (by omega))).alloc (by omega) _
    have n1 : ¬ w3.heap.size = w.heap.size + 1 + 1 + 1 := by omega
    have n2 : ¬ w3.heap.size = w.heap.size + 1 + 1 + 1 + 1 := by omega
    have n3 : ¬ w4.heap.size = w.heap.size + 1 + 1 + 1 := by omega
    have n4 : ¬ w4.heap.size = w.heap.size + 1 + 1 + 1 + 1 := by omega
    have n5 : w3.heap.size < w4.heap.size + 1 := by omega
    obtain ⟨cq16, _⟩ := Reg.cells_at p16
    obtain ⟨cq18, _⟩ := Reg.cells_at p18
    have Hw5 := Lib.hid hw5
    clear hw5 hT4 hw2 hB2 o16
    refine Reg.wp_region_seqK (fun k => k = w.heap.size + 1 + 1 + 1 ∨ k = w.heap.size + 1 + 1 + 1 + 1) (by kernel_rfl) (by kernel_rfl) ?_
    simp only
    iterate 3
      apply Reg.SeqOK.val
      · intro γ W hW K hK
        obtain ⟨hc, hf, _⟩ := Reg.kcell hW
        simp only [Act.put, List.setIfInBounds_toArray, List.set_cons_zero, List.set_cons_succ] at hK
        unfold Reg.Does
        go_simp
        try simp only [IntWalk.i64_left]
        first
          | exact hK _ (Below.refl _ _)
      simp only [Act.put, List.setIfInBounds_toArray, List.set_cons_zero, List.set_cons_succ, List.nil_append, List.cons_append, Nat.reduceAdd, Nat.zero_add]
    apply Reg.SeqOK.old (g := w.heap.size + 1 + 1 + 1) (hB := (Reg.updK (Or.inl rfl))) (hg := p3) (hne := by simp [Reg.NotOld])
    · intro γ W hW hat K hK
      obtain ⟨hcl, hfr⟩ := Reg.cells_at hat
      simp only [Act.put, List.setIfInBounds_toArray, List.set_cons_zero, List.set_cons_succ] at hK
      unfold Reg.Does
      go_simp
      exact hK _ (Reg.upd2 hat)
    simp only [Act.put, List.setIfInBounds_toArray, List.set_cons_zero, List.set_cons_succ, List.nil_append, List.cons_append, Nat.reduceAdd, Nat.zero_add]
    apply Reg.SeqOK.old (g := w.heap.size + 1 + 1 + 1 + 1) (hB := (Reg.updK (Or.inr rfl))) (hg := p4) (hne := by simp [Reg.NotOld])
    · intro γ W hW hat K hK
      obtain ⟨hcl, hfr⟩ := Reg.cells_at hat
      simp only [Act.put, List.setIfInBounds_toArray, List.set_cons_zero, List.set_cons_succ] at hK
      unfold Reg.Does
      go_simp
      exact hK _ (Reg.upd2 hat)
    simp only [Act.put, List.setIfInBounds_toArray, List.set_cons_zero, List.set_cons_succ, List.nil_append, List.cons_append, Nat.reduceAdd, Nat.zero_add]
    iterate 1
      apply Reg.SeqOK.val
      · intro γ W hW K hK
        obtain ⟨hc, hf, _⟩ := Reg.kcell hW
        simp only [Act.put, List.setIfInBounds_toArray, List.set_cons_zero, List.set_cons_succ] at hK
        unfold Reg.Does
        go_simp
        try simp only [IntWalk.i64_left]
        first
          | exact hK _ (Below.refl _ _)
      simp only [Act.put, List.setIfInBounds_toArray, List.set_cons_zero, List.set_cons_succ, List.nil_append, List.cons_append, Nat.reduceAdd, Nat.zero_add]
    refine Reg.SeqOK.nil (by kernel_rfl) (fun γ W5 hW _ _ hO => ?_)
    simp only [Reg.Olds, and_true] at hO
    obtain ⟨q3, q4⟩ := hO
    obtain ⟨k3, _⟩ := Reg.cells_at q3
    obtain ⟨k4, _⟩ := Reg.cells_at q4
    have hw6 : Below w.heap.size w W5 := Hw5.out.trans (hW.below fun k hk => ⟨by simp; omega, by omega⟩)
    clear hW q3 q4
    go_wp2_with fail
    refine bodyPost_ret (v := footV (footI px py ax ay bx by')) (by rw [hA.out, Hr.out]; simp [results, Try.results20, go_sem, footV, k3, k4]) rfl ⟨rfl, hw6⟩
  have Hr : Hid (footO (alongI (wrap64 (bx - ax)) (wrap64 (by' - ay)) (wrap64 (px - ax)) (wrap64 (py - ay))) (alongI (wrap64 (bx - ax)) (wrap64 (by' - ay)) (wrap64 (bx - ax)) (wrap64 (by' - ay))) (areaI (wrap64 (bx - ax)) (wrap64 (by' - ay)) (wrap64 (px - ax)) (wrap64 (py - ay))) (distI px py ax ay) (distI px py bx by') = (ofI (alongI (wrap64 (bx - ax)) (wrap64 (by' - ay)) (wrap64 (px - ax)) (wrap64 (py - ay))) (alongI (wrap64 (bx - ax)) (wrap64 (by' - ay)) (wrap64 (bx - ax)) (wrap64 (by' - ay))), ofI (wrap64 ((areaI (wrap64 (bx - ax)) (wrap64 (by' - ay)) (wrap64 (px - ax)) (wrap64 (py - ay))) * (areaI (wrap64 (bx - ax)) (wrap64 (by' - ay)) (wrap64 (px - ax)) (wrap64 (py - ay))))) (alongI (wrap64 (bx - ax)) (wrap64 (by' - ay)) (wrap64 (bx - ax)) (wrap64 (by' - ay))))) := by unfold Hid footO; rw [if_neg c1, if_neg c2]
  go_wp2_with (first | (go_at_call 47; (with_reducible refine (area2_any _ _ _ _ _).mono ?_); rintro e w' ⟨rfl, hb⟩; first | (replace hT := hT.trans (hb.mono hT.size); clear hc hf hb; obtain ⟨hc, hf, _⟩ := bcell hT) | (replace hT := hT.trans (((Below.refl _ _).alloc hT.size _).trans (hb.mono (Nat.le_trans hT.size (by simp)))); clear hc hf hb; obtain ⟨hc, hf, _⟩ := bcell hT) | (have hT := hb; clear hb; obtain ⟨hc, hf, _⟩ := bcell hT)) | (go_at_call 48; (with_reducible refine (dist_any _ _ _ _ _).mono ?_); rintro e w' ⟨rfl, hb⟩; first | (replace hT := hT.trans (hb.mono hT.size); clear hc hf hb; obtain ⟨hc, hf, _⟩ := bcell hT) | (replace hT := hT.trans (((Below.refl _ _).alloc hT.size _).trans (hb.mono (Nat.le_trans hT.size (by simp)))); clear hc hf hb; obtain ⟨hc, hf, _⟩ := bcell hT) | (have hT := hb; clear hb; obtain ⟨hc, hf, _⟩ := bcell hT)))
  ((with_reducible refine (of2_any _ _ _ (by omega) (by omega) (by omega) (by omega)).mono ?_); rintro e w3 ⟨rfl, hb3⟩)
  have hT3 := hT.trans (hb3.mono hT.size)
  have hs3 := hT3.size
  clear hT hc hf hb3
  go_wp2_with fail
  ((with_reducible refine (of2_any _ _ _ (by omega) (by omega) (by omega) (by omega)).mono ?_); rintro e w4 ⟨rfl, hb4⟩)
  have hs4 := hb4.size
  simp at hs4
  have o16 : w4.heap[w3.heap.size]? = some (.cells #[.int .i64 (ofI (alongI (wrap64 (bx - ax)) (wrap64 (by' - ay)) (wrap64 (px - ax)) (wrap64 (py - ay))) (alongI (wrap64 (bx - ax)) (wrap64 (by' - ay)) (wrap64 (bx - ax)) (wrap64 (by' - ay)))).1, .int .i64 (ofI (alongI (wrap64 (bx - ax)) (wrap64 (by' - ay)) (wrap64 (px - ax)) (wrap64 (py - ay))) (alongI (wrap64 (bx - ax)) (wrap64 (by' - ay)) (wrap64 (bx - ax)) (wrap64 (by' - ay)))).2.1] 32 (0, 0)) := by
    rw [hb4.block _ (by simp)]
    repeat (first | ((with_reducible refine Reg.heap_new' ?_); simp only [World.size_alloc]; done) | rw [Below.heap_alloc _ _ _ (by first | (simp; done) | (simp; omega))])
  have hT4 := hT3.trans (((Below.refl _ _).alloc hT3.size _).trans (hb4.mono (Nat.le_trans hT3.size (by simp))))
  clear hT3 hb4
  go_wp2_with fail
  have p3 : (w4.alloc (.cells #[.int .i64 (ofI (wrap64 ((areaI (wrap64 (bx - ax)) (wrap64 (by' - ay)) (wrap64 (px - ax)) (wrap64 (py - ay))) * (areaI (wrap64 (bx - ax)) (wrap64 (by' - ay)) (wrap64 (px - ax)) (wrap64 (py - ay))))) (alongI (wrap64 (bx - ax)) (wrap64 (by' - ay)) (wrap64 (bx - ax)) (wrap64 (by' - ay)))).1, .int .i64 (ofI (wrap64 ((areaI (wrap64 (bx - ax)) (wrap64 (by' - ay)) (wrap64 (px - ax)) (wrap64 (py - ay))) * (areaI (wrap64 (bx - ax)) (wrap64 (by' - ay)) (wrap64 (px - ax)) (wrap64 (py - ay))))) (alongI (wrap64 (bx - ax)) (wrap64 (by' - ay)) (wrap64 (bx - ax)) (wrap64 (by' - ay)))).2.1] 32)).heap[w.heap.size + 1 + 1 + 1]? = some (.cells #[.int .i64 0, .int .i64 0] 32 (0, 0)) := by rw [Below.heap_alloc _ _ _ (by omega), hT4.block _ (by omega)]; exact o3
  have p4 : (w4.alloc (.cells #[.int .i64 (ofI (wrap64 ((areaI (wrap64 (bx - ax)) (wrap64 (by' - ay)) (wrap64 (px - ax)) (wrap64 (py - ay))) * (areaI (wrap64 (bx - ax)) (wrap64 (by' - ay)) (wrap64 (px - ax)) (wrap64 (py - ay))))) (alongI (wrap64 (bx - ax)) (wrap64 (by' - ay)) (wrap64 (bx - ax)) (wrap64 (by' - ay)))).1, .int .i64 (ofI (wrap64 ((areaI (wrap64 (bx - ax)) (wrap64 (by' - ay)) (wrap64 (px - ax)) (wrap64 (py - ay))) * (areaI (wrap64 (bx - ax)) (wrap64 (by' - ay)) (wrap64 (px - ax)) (wrap64 (py - ay))))) (alongI (wrap64 (bx - ax)) (wrap64 (by' - ay)) (wrap64 (bx - ax)) (wrap64 (by' - ay)))).2.1] 32)).heap[w.heap.size + 1 + 1 + 1 + 1]? = some (.cells #[.int .i64 0, .int .i64 0] 32 (0, 0)) := by rw [Below.heap_alloc _ _ _ (by omega), hT4.block _ (by omega)]; exact o4
  have p16 : (w4.alloc (.cells #[.int .i64 (ofI (wrap64 ((areaI (wrap64 (bx - ax)) (wrap64 (by' - ay)) (wrap64 (px - ax)) (wrap64 (py - ay))) * (areaI (wrap64 (bx - ax)) (wrap64 (by' - ay)) (wrap64 (px - ax)) (wrap64 (py - ay))))) (alongI (wrap64 (bx - ax)) (wrap64 (by' - ay)) (wrap64 (bx - ax)) (wrap64 (by' - ay)))).1, .int .i64 (ofI (wrap64 ((areaI (wrap64 (bx - ax)) (wrap64 (by' - ay)) (wrap64 (px - ax)) (wrap64 (py - ay))) * (areaI (wrap64 (bx - ax)) (wrap64 (by' - ay)) (wrap64 (px - ax)) (wrap64 (py - ay))))) (alongI (wrap64 (bx - ax)) (wrap64 (by' - ay)) (wrap64 (bx - ax)) (wrap64 (by' - ay)))).2.1] 32)).heap[w3.heap.size]? = some (.cells #[.int .i64 (ofI (alongI (wrap64 (bx - ax)) (wrap64 (by' - ay)) (wrap64 (px - ax)) (wrap64 (py - ay))) (alongI (wrap64 (bx - ax)) (wrap64 (by' - ay)) (wrap64 (bx - ax)) (wrap64 (by' - ay)))).1, .int .i64 (ofI (alongI (wrap64 (bx - ax)) (wrap64 (by' - ay)) (wrap64 (px - ax)) (wrap64 (py - ay))) (alongI (wrap64 (bx - ax)) (wrap64 (by' - ay)) (wrap64 (bx - ax)) (wrap64 (by' - ay)))).2.1] 32 (0, 0)) := by rw [Below.heap_alloc _ _ _ (by omega)]; exact o16
  have p18 : (w4.alloc (.cells #[.int .i64 (ofI (wrap64 ((areaI (wrap64 (bx - ax)) (wrap64 (by' - ay)) (wrap64 (px - ax)) (wrap64 (py - ay))) * (areaI (wrap64 (bx - ax)) (wrap64 (by' - ay)) (wrap64 (px - ax)) (wrap64 (py - ay))))) (alongI (wrap64 (bx - ax)) (wrap64 (by' - ay)) (wrap64 (bx - ax)) (wrap64 (by' - ay)))).1, .int .i64 (ofI (wrap64 ((areaI (wrap64 (bx - ax)) (wrap64 (by' - ay)) (wrap64 (px - ax)) (wrap64 (py - ay))) * (areaI (wrap64 (bx - ax)) (wrap64 (by' - ay)) (wrap64 (px - ax)) (wrap64 (py - ay))))) (alongI (wrap64 (bx - ax)) (wrap64 (by' - ay)) (wrap64 (bx - ax)) (wrap64 (by' - ay)))).2.1] 32)).heap[w4.heap.size]? = some (.cells #[.int .i64 (ofI (wrap64 ((areaI (wrap64 (bx - ax)) (wrap64 (by' - ay)) (wrap64 (px - ax)) (wrap64 (py - ay))) * (areaI (wrap64 (bx - ax)) (wrap64 (by' - ay)) (wrap64 (px - ax)) (wrap64 (py - ay))))) (alongI (wrap64 (bx - ax)) (wrap64 (by' - ay)) (wrap64 (bx - ax)) (wrap64 (by' - ay)))).1, .int .i64 (ofI (wrap64 ((areaI (wrap64 (bx - ax)) (wrap64 (by' - ay)) (wrap64 (px - ax)) (wrap64 (py - ay))) * (areaI (wrap64 (bx - ax)) (wrap64 (by' - ay)) (wrap64 (px - ax)) (wrap64 (py - ay))))) (alongI (wrap64 (bx - ax)) (wrap64 (by' - ay)) (wrap64 (bx - ax)) (wrap64 (by' - ay)))).2.1] 32 (0, 0)) := Reg.heap_new _ _
  have hw5 : Below w.heap.size w (w4.alloc (.cells #[.int .i64 (ofI (wrap64 ((areaI (wrap64 (bx - ax)) (wrap64 (by' - ay)) (wrap64 (px - ax)) (wrap64 (py - ay))) * (areaI (wrap64 (bx - ax)) (wrap64 (by' - ay)) (wrap64 (px - ax)) (wrap64 (py - ay))))) (alongI (wrap64 (bx - ax)) (wrap64 (by' - ay)) (wrap64 (bx - ax)) (wrap64 (by' - ay)))).1, .int .i64 (ofI (wrap64 ((areaI (wrap64 (bx - ax)) (wrap64 (by' - ay)) (wrap64 (px - ax)) (wrap64 (py - ay))) * (areaI (wrap64 (bx - ax)) (wrap64 (by' - ay)) (wrap64 (px - ax)) (wrap64 (py - ay))))) (alongI (wrap64 (bx - ax)) (wrap64 (by' - ay)) (wrap64 (bx - ax)) (wrap64 (by' - ay)))).2.1] 32)) := (hw2.trans (hT4.mono (by omega))).alloc (by omega) _
  have n1 : ¬ w3.heap.size = w.heap.size + 1 + 1 + 1 := by omega
  have n2 : ¬ w3.heap.size = w.heap.size + 1 + 1 + 1 + 1 := by omega
  have n3 : ¬ w4.heap.size = w.heap.size + 1 + 1 + 1 := by omega
  have n4 : ¬ w4.heap.size = w.heap.size + 1 + 1 + 1 + 1 := by omega
  have n5 : w3.heap.size < w4.heap.size + 1 := by omega
  obtain ⟨cq16, _⟩ := Reg.cells_at p16
  obtain ⟨cq18, _⟩ := Reg.cells_at p18
  have Hw5 := Lib.hid hw5
  clear hw5 hT4 hw2 hB2 o16
  refine Reg.wp_region_seqK (fun k => k = w.heap.size + 1 + 1 + 1 ∨ k = w.heap.size + 1 + 1 + 1 + 1) (by kernel_rfl) (by kernel_rfl) ?_
  simp only
  iterate 3
    apply Reg.SeqOK.val
    · intro γ W hW K hK
      obtain ⟨hc, hf, _⟩ := Reg.kcell hW
      simp only [Act.put, List.setIfInBounds_toArray, List.set_cons_zero, List.set_cons_succ] at hK
      unfold Reg.Does
      go_simp
      try simp only [IntWalk.i64_left]
      first
        | exact hK _ (Below.refl _ _)
    simp only [Act.put, List.setIfInBounds_toArray, List.set_cons_zero, List.set_cons_succ, List.nil_append, List.cons_append, Nat.reduceAdd, Nat.zero_add]
  apply Reg.SeqOK.old (g := w.heap.size + 1 + 1 + 1) (hB := (Reg.updK (Or.inl rfl))) (hg := p3) (hne := by simp [Reg.NotOld])
  · intro γ W hW hat K hK
    obtain ⟨hcl, hfr⟩ := Reg.cells_at hat
    simp only [Act.put, List.setIfInBounds_toArray, List.set_cons_zero, List.set_cons_succ] at hK
    unfold Reg.Does
    go_simp
    exact hK _ (Reg.upd2 hat)
  simp only [Act.put, List.setIfInBounds_toArray, List.set_cons_zero, List.set_cons_succ, List.nil_append, List.cons_append, Nat.reduceAdd, Nat.zero_add]
  apply Reg.SeqOK.old (g := w.heap.size + 1 + 1 + 1 + 1) (hB := (Reg.updK (Or.inr rfl))) (hg := p4) (hne := by simp [Reg.NotOld])
  · intro γ W hW hat K hK
    obtain ⟨hcl, hfr⟩ := Reg.cells_at hat
    simp only [Act.put, List.setIfInBounds_toArray, List.set_cons_zero, List.set_cons_succ] at hK
    unfold Reg.Does
    go_simp
    exact hK _ (Reg.upd2 hat)
  simp only [Act.put, List.setIfInBounds_toArray, List.set_cons_zero, List.set_cons_succ, List.nil_append, List.cons_append, Nat.reduceAdd, Nat.zero_add]
  iterate 1
    apply Reg.SeqOK.val
    · intro γ W hW K hK
      obtain ⟨hc, hf, _⟩ := Reg.kcell hW
      simp only [Act.put, List.setIfInBounds_toArray, List.set_cons_zero, List.set_cons_succ] at hK
      unfold Reg.Does
      go_simp
      try simp only [IntWalk.i64_left]
      first
        | exact hK _ (Below.refl _ _)
    simp only [Act.put, List.setIfInBounds_toArray, List.set_cons_zero, List.set_cons_succ, List.nil_append, List.cons_append, Nat.reduceAdd, Nat.zero_add]
  refine Reg.SeqOK.nil (by kernel_rfl) (fun γ W5 hW _ _ hO => ?_)
  simp only [Reg.Olds, and_true] at hO
  obtain ⟨q3, q4⟩ := hO
  obtain ⟨k3, _⟩ := Reg.cells_at q3
  obtain ⟨k4, _⟩ := Reg.cells_at q4
  have hw6 : Below w.heap.size w W5 := Hw5.out.trans (hW.below fun k hk => ⟨by simp; omega, by omega⟩)
  clear hW q3 q4
  go_wp2_with fail
  refine bodyPost_ret (v := footV (footI px py ax ay bx by')) (by rw [hA.out, Hr.out]; simp [results, Try.results20, go_sem, footV, k3, k4]) rfl ⟨rfl, hw6⟩

theorem foot_any (px py ax ay bx by' : Int) (w : World) :
    Calls Try.prog 20 #[.agg #[.int .i64 px, .int .i64 py], .agg #[.int .i64 ax, .int .i64 ay], .agg #[.int .i64 bx, .int .i64 by']] w fun e w' =>
      e = .returned (.tuple #[.agg #[.int .i64 (footI px py ax ay bx by').1.1, .int .i64 (footI px py ax ay bx by').1.2.1], .agg #[.int .i64 (footI px py ax ay bx by').2.1, .int .i64 (footI px py ax ay bx by').2.2.1], .int .i64 (footI px py ax ay bx by').2.2.2]) ∧ Below w.heap.size w w' := by
  cases hon : on3 px py ax ay bx by'
  · exact foot_off px py ax ay bx by' w hon
  · exact foot_on px py ax ay bx by' w hon

end G
end Go.Proofs.Ytjeapimjgojpoaa
