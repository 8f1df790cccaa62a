/- Law 'GeomBetween': the walk. -/
import Derived.Test.YthdmkkddhhbbgaaPb
import Derived.Test.YthdmkkddhhbbgaaGr
namespace Go.Proofs.Ythdmkkddhhbbgaa
open Go.RowKit
namespace G

set_option maxHeartbeats 4000000 in
set_option maxRecDepth 100000 in
theorem between_walk (x1 y1 x2 y2 x3 y3 : Int) (w : World) (b1 : B64 x1) (b2 : B64 y1) (b3 : B64 x2) (b4 : B64 y2) (b5 : B64 x3) (b6 : B64 y3) :
    Calls Try.prog 6 #[.agg #[.int .i64 x1, .int .i64 y1], .agg #[.int .i64 x2, .int .i64 y2], .agg #[.int .i64 x3, .int .i64 y3]] w fun e w' => e = .returned (.bool true) ∧ Below w.heap.size w w' := by
  have hT := Below.refl w.heap.size w
  go_enter Try.func6, Try.ntmps6
  go_wp2_with fail
  first | (go_at_call 11; (with_reducible refine (head_any _).mono ?_); rintro e w' ⟨rfl, hb⟩; first | (replace hT := (hT).trans (hb.mono hT.size); clear hb) | (replace hT := (hT.alloc hT.size _).trans (hb.mono (Nat.le_trans hT.size (by simp; try omega))); clear hb) | (replace hT := ((hT.alloc hT.size _).alloc (Nat.le_trans hT.size (by simp; try omega)) _).trans (hb.mono (Nat.le_trans hT.size (by simp; try omega))); clear hb) | (replace hT := (((hT.alloc hT.size _).alloc (Nat.le_trans hT.size (by simp; try omega)) _).alloc (Nat.le_trans hT.size (by simp; try omega)) _).trans (hb.mono (Nat.le_trans hT.size (by simp; try omega))); obtain ⟨kp, kq, kr⟩ := Reg.Blk.new3 hb; obtain ⟨ckp, fkp, zkp⟩ := Reg.Blk.facts kp; obtain ⟨ckq, fkq, zkq⟩ := Reg.Blk.facts kq; obtain ⟨ckr, fkr, zkr⟩ := Reg.Blk.facts kr; clear hb) | (replace hT := ((((hT.alloc hT.size _).alloc (Nat.le_trans hT.size (by simp; try omega)) _).alloc (Nat.le_trans hT.size (by simp; try omega)) _).alloc (Nat.le_trans hT.size (by simp; try omega)) _).trans (hb.mono (Nat.le_trans hT.size (by simp; try omega))); clear hb))
  go_wp2_with (first | (go_at_call 11; (with_reducible refine (head_any _).mono ?_); rintro e w' ⟨rfl, hb⟩; first | (replace hT := (hT).trans (hb.mono hT.size); replace kp := (kp).keep hb; clear ckp fkp zkp; obtain ⟨ckp, fkp, zkp⟩ := Reg.Blk.facts kp; replace kq := (kq).keep hb; clear ckq fkq zkq; obtain ⟨ckq, fkq, zkq⟩ := Reg.Blk.facts kq; replace kr := (kr).keep hb; clear ckr fkr zkr; obtain ⟨ckr, fkr, zkr⟩ := Reg.Blk.facts kr; clear hb) | (replace hT := (hT.alloc hT.size _).trans (hb.mono (Nat.le_trans hT.size (by simp; try omega))); replace kp := ((kp).alloc _).keep hb; clear ckp fkp zkp; obtain ⟨ckp, fkp, zkp⟩ := Reg.Blk.facts kp; replace kq := ((kq).alloc _).keep hb; clear ckq fkq zkq; obtain ⟨ckq, fkq, zkq⟩ := Reg.Blk.facts kq; replace kr := ((kr).alloc _).keep hb; clear ckr fkr zkr; obtain ⟨ckr, fkr, zkr⟩ := Reg.Blk.facts kr; clear hb) | (replace hT := ((hT.alloc hT.size _).alloc (Nat.le_trans hT.size (by simp; try omega)) _).trans (hb.mono (Nat.le_trans hT.size (by simp; try omega))); replace kp := (((kp).alloc _).alloc _).keep hb; clear ckp fkp zkp; obtain ⟨ckp, fkp, zkp⟩ := Reg.Blk.facts kp; replace kq := (((kq).alloc _).alloc _).keep hb; clear ckq fkq zkq; obtain ⟨ckq, fkq, zkq⟩ := Reg.Blk.facts kq; replace kr := (((kr).alloc _).alloc _).keep hb; clear ckr fkr zkr; obtain ⟨ckr, fkr, zkr⟩ := Reg.Blk.facts kr; clear hb) | (replace hT := (((hT.alloc hT.size _).alloc (Nat.le_trans hT.size (by simp; try omega)) _).alloc (Nat.le_trans hT.size (by simp; try omega)) _).trans (hb.mono (Nat.le_trans hT.size (by simp; try omega))); replace kp := ((((kp).alloc _).alloc _).alloc _).keep hb; clear ckp fkp zkp; obtain ⟨ckp, fkp, zkp⟩ := Reg.Blk.facts kp; replace kq := ((((kq).alloc _).alloc _).alloc _).keep hb; clear ckq fkq zkq; obtain ⟨ckq, fkq, zkq⟩ := Reg.Blk.facts kq; replace kr := ((((kr).alloc _).alloc _).alloc _).keep hb; clear ckr fkr zkr; obtain ⟨ckr, fkr, zkr⟩ := Reg.Blk.facts kr; clear hb) | (replace hT := ((((hT.alloc hT.size _).alloc (Nat.le_trans hT.size (by simp; try omega)) _).alloc (Nat.le_trans hT.size (by simp; try omega)) _).alloc (Nat.le_trans hT.size (by simp; try omega)) _).trans (hb.mono (Nat.le_trans hT.size (by simp; try omega))); replace kp := (((((kp).alloc _).alloc _).alloc _).alloc _).keep hb; clear ckp fkp zkp; obtain ⟨ckp, fkp, zkp⟩ := Reg.Blk.facts kp; replace kq := (((((kq).alloc _).alloc _).alloc _).alloc _).keep hb; clear ckq fkq zkq; obtain ⟨ckq, fkq, zkq⟩ := Reg.Blk.facts kq; replace kr := (((((kr).alloc _).alloc _).alloc _).alloc _).keep hb; clear ckr fkr zkr; obtain ⟨ckr, fkr, zkr⟩ := Reg.Blk.facts kr; clear hb)))
  refine Reg.wp_region_seq (by kernel_rfl) (by kernel_rfl) ?_
  simp only
  iterate 6
    apply Reg.SeqOK.val
    · intro γ W hW K hK
      obtain ⟨hc, hf, _⟩ := bcell hW
      simp only [Act.put, List.setIfInBounds_toArray, List.set_cons_zero, List.set_cons_succ] at hK
      unfold Reg.Does
      go_simp
      try simp only [IntWalk.i64_left]
      first
        | exact hK _ (Below.refl _ _)
        | (go_at_call 24; (with_reducible refine (grid2_any _ _ _ (by assumption) (by assumption)).mono ?_); rintro e w' ⟨rfl, hb⟩; exact hK _ hb)
    simp only [Act.put, List.setIfInBounds_toArray, List.set_cons_zero, List.set_cons_succ, List.nil_append, List.cons_append, Nat.reduceAdd, Nat.zero_add]
  iterate 3
    apply Reg.SeqOK.box
    · intro γ W hW K hK
      simp only [Act.put, List.setIfInBounds_toArray, List.set_cons_zero, List.set_cons_succ] at hK
      unfold Reg.Does
      go_simp
      exact hK
    simp only [Act.put, List.setIfInBounds_toArray, List.set_cons_zero, List.set_cons_succ, List.nil_append, List.cons_append, Nat.reduceAdd, Nat.zero_add]
  refine Reg.SeqOK.st 6 _ _ _ rfl (by kernel_rfl) ?_ ?_
  · intro γ W hW hge hat K hK
    obtain ⟨hcl, hfr⟩ := Reg.cells_at hat
    simp only [Act.put, List.setIfInBounds_toArray, List.set_cons_zero, List.set_cons_succ] at hK
    unfold Reg.Does
    go_simp
    exact hK _ (Reg.upd2 hat)
  simp only [Act.put, List.setIfInBounds_toArray, List.set_cons_zero, List.set_cons_succ, List.nil_append, List.cons_append, Nat.reduceAdd, Nat.zero_add]
  refine Reg.SeqOK.st 7 _ _ _ rfl (by kernel_rfl) ?_ ?_
  · intro γ W hW hge hat K hK
    obtain ⟨hcl, hfr⟩ := Reg.cells_at hat
    simp only [Act.put, List.setIfInBounds_toArray, List.set_cons_zero, List.set_cons_succ] at hK
    unfold Reg.Does
    go_simp
    exact hK _ (Reg.upd2 hat)
  simp only [Act.put, List.setIfInBounds_toArray, List.set_cons_zero, List.set_cons_succ, List.nil_append, List.cons_append, Nat.reduceAdd, Nat.zero_add]
  refine Reg.SeqOK.st 8 _ _ _ rfl (by kernel_rfl) ?_ ?_
  · intro γ W hW hge hat K hK
    obtain ⟨hcl, hfr⟩ := Reg.cells_at hat
    simp only [Act.put, List.setIfInBounds_toArray, List.set_cons_zero, List.set_cons_succ] at hK
    unfold Reg.Does
    go_simp
    exact hK _ (Reg.upd2 hat)
  simp only [Act.put, List.setIfInBounds_toArray, List.set_cons_zero, List.set_cons_succ, List.nil_append, List.cons_append, Nat.reduceAdd, Nat.zero_add]
  refine Reg.SeqOK.nil (by kernel_rfl) (fun γ W hW hBx hAp _ => ?_)
  simp only [Reg.Boxes, Reg.Apart, Reg.Differ, and_true, true_and, World.size_alloc, Nat.reduceAdd, Nat.zero_add] at hBx hAp
  obtain ⟨⟨_, _, at0⟩, ⟨_, _, at1⟩, _, _, at2⟩ := hBx
  replace hT := hT.trans (hW.mono hT.size)
  generalize γ 6 = ga at *
  generalize γ 7 = gb at *
  generalize γ 8 = gc at *
  have ka : Reg.Blk ga _ _ W := at0
  have kb : Reg.Blk gb _ _ W := at1
  have kc : Reg.Blk gc _ _ W := at2
  clear at0 at1 at2 hAp hW γ ckp fkp zkp kp ckq fkq zkq kq ckr fkr zkr kr
  obtain ⟨cka, fka, zka⟩ := Reg.Blk.facts ka
  obtain ⟨ckb, fkb, zkb⟩ := Reg.Blk.facts kb
  obtain ⟨ckc, fkc, zkc⟩ := Reg.Blk.facts kc
  have t1 := betw_law (gm_in x1) (gm_in y1) (gm_in x2) (gm_in y2) (gm_in x3) (gm_in y3)
  have t2 := betw_swap (gm_in x1) (gm_in y1) (gm_in x2) (gm_in y2) (gm_in x3) (gm_in y3)
  obtain ⟨t3, t4⟩ := betw_end (gm_in x2) (gm_in y2) (gm_in x3) (gm_in y3)
  have q1 := distP_bd (gm_in x2) (gm_in y2) (gm_in x1) (gm_in y1)
  have q2 := distP_bd (gm_in x1) (gm_in y1) (gm_in x3) (gm_in y3)
  rw [← dist_in (gm_in x2) (gm_in y2) (gm_in x1) (gm_in y1)] at q1
  rw [← dist_in (gm_in x1) (gm_in y1) (gm_in x3) (gm_in y3)] at q2
  obtain ⟨q1, q1'⟩ := q1
  obtain ⟨q2, q2'⟩ := q2
  rw [t1] at t2
  have hsum : IntKind.i64.wrap (distI (gm x2) (gm y2) (gm x1) (gm y1) + distI (gm x1) (gm y1) (gm x3) (gm y3)) = distI (gm x2) (gm y2) (gm x1) (gm y1) + distI (gm x1) (gm y1) (gm x3) (gm y3) := by rw [IntWalk.i64_left]; exact IntWalk.wrap64_in _ (by omega)
  by_cases hz : turnI (gm x2) (gm y2) (gm x3) (gm y3) (gm x1) (gm y1) = 0
  · have hzb : (turnI (gm x2) (gm y2) (gm x3) (gm y3) (gm x1) (gm y1) == 0) = true := by simp [hz]
    simp only [hz, decide_true, Bool.true_and] at t1 t2
    clear hz
    go_wp2_with fail
    refine Reg.wp_region_seq (by kernel_rfl) (by kernel_rfl) ?_
    simp only
    iterate 19
      apply Reg.SeqOK.val
      · intro γ W hW K hK
        obtain ⟨hc, hf, _⟩ := bcell hW
        simp only [Act.put, List.setIfInBounds_toArray, List.set_cons_zero, List.set_cons_succ] at hK
        unfold Reg.Does
        go_simp
        try simp only [IntWalk.i64_left]
        first
          | exact hK _ (Below.refl _ _)
          | (go_at_call 16; (with_reducible refine (turn_any _ _ _ _ _ _ _).mono ?_); rintro e w' ⟨rfl, hb⟩; exact hK _ hb)
          | (go_at_call 18; (with_reducible refine (dist_any _ _ _ _ _).mono ?_); rintro e w' ⟨rfl, hb⟩; exact hK _ hb)
      simp only [Act.put, List.setIfInBounds_toArray, List.set_cons_zero, List.set_cons_succ, List.nil_append, List.cons_append, Nat.reduceAdd, Nat.zero_add]
    refine Reg.SeqOK.nil (by kernel_rfl) (fun γ W2 hW _ _ _ => ?_)
    replace hT := hT.trans (hW.mono hT.size)
    replace ka := ka.keep hW
    replace kb := kb.keep hW
    replace kc := kc.keep hW
    clear hW cka fka zka ckb fkb zkb ckc fkc zkc
    obtain ⟨cka, fka, zka⟩ := Reg.Blk.facts ka
    obtain ⟨ckb, fkb, zkb⟩ := Reg.Blk.facts kb
    obtain ⟨ckc, fkc, zkc⟩ := Reg.Blk.facts kc
    go_wp2_with (first | (go_at_call 20; (with_reducible refine (between_any _ _ _ _ _ _ _).mono ?_); rintro e w' ⟨rfl, hb⟩; first | (replace hT := (hT).trans (hb.mono hT.size); replace ka := (ka).keep hb; clear cka fka zka; obtain ⟨cka, fka, zka⟩ := Reg.Blk.facts ka; replace kb := (kb).keep hb; clear ckb fkb zkb; obtain ⟨ckb, fkb, zkb⟩ := Reg.Blk.facts kb; replace kc := (kc).keep hb; clear ckc fkc zkc; obtain ⟨ckc, fkc, zkc⟩ := Reg.Blk.facts kc; clear hb) | (replace hT := (hT.alloc hT.size _).trans (hb.mono (Nat.le_trans hT.size (by simp; try omega))); replace ka := ((ka).alloc _).keep hb; clear cka fka zka; obtain ⟨cka, fka, zka⟩ := Reg.Blk.facts ka; replace kb := ((kb).alloc _).keep hb; clear ckb fkb zkb; obtain ⟨ckb, fkb, zkb⟩ := Reg.Blk.facts kb; replace kc := ((kc).alloc _).keep hb; clear ckc fkc zkc; obtain ⟨ckc, fkc, zkc⟩ := Reg.Blk.facts kc; clear hb) | (replace hT := ((hT.alloc hT.size _).alloc (Nat.le_trans hT.size (by simp; try omega)) _).trans (hb.mono (Nat.le_trans hT.size (by simp; try omega))); replace ka := (((ka).alloc _).alloc _).keep hb; clear cka fka zka; obtain ⟨cka, fka, zka⟩ := Reg.Blk.facts ka; replace kb := (((kb).alloc _).alloc _).keep hb; clear ckb fkb zkb; obtain ⟨ckb, fkb, zkb⟩ := Reg.Blk.facts kb; replace kc := (((kc).alloc _).alloc _).keep hb; clear ckc fkc zkc; obtain ⟨ckc, fkc, zkc⟩ := Reg.Blk.facts kc; clear hb) | (replace hT := (((hT.alloc hT.size _).alloc (Nat.le_trans hT.size (by simp; try omega)) _).alloc (Nat.le_trans hT.size (by simp; try omega)) _).trans (hb.mono (Nat.le_trans hT.size (by simp; try omega))); replace ka := ((((ka).alloc _).alloc _).alloc _).keep hb; clear cka fka zka; obtain ⟨cka, fka, zka⟩ := Reg.Blk.facts ka; replace kb := ((((kb).alloc _).alloc _).alloc _).keep hb; clear ckb fkb zkb; obtain ⟨ckb, fkb, zkb⟩ := Reg.Blk.facts kb; replace kc := ((((kc).alloc _).alloc _).alloc _).keep hb; clear ckc fkc zkc; obtain ⟨ckc, fkc, zkc⟩ := Reg.Blk.facts kc; clear hb) | (replace hT := ((((hT.alloc hT.size _).alloc (Nat.le_trans hT.size (by simp; try omega)) _).alloc (Nat.le_trans hT.size (by simp; try omega)) _).alloc (Nat.le_trans hT.size (by simp; try omega)) _).trans (hb.mono (Nat.le_trans hT.size (by simp; try omega))); replace ka := (((((ka).alloc _).alloc _).alloc _).alloc _).keep hb; clear cka fka zka; obtain ⟨cka, fka, zka⟩ := Reg.Blk.facts ka; replace kb := (((((kb).alloc _).alloc _).alloc _).alloc _).keep hb; clear ckb fkb zkb; obtain ⟨ckb, fkb, zkb⟩ := Reg.Blk.facts kb; replace kc := (((((kc).alloc _).alloc _).alloc _).alloc _).keep hb; clear ckc fkc zkc; obtain ⟨ckc, fkc, zkc⟩ := Reg.Blk.facts kc; clear hb)))
    go_ret
    exact ⟨rfl, hT⟩
  · have hzb : (turnI (gm x2) (gm y2) (gm x3) (gm y3) (gm x1) (gm y1) == 0) = false := by simp [hz]
    simp only [hz, decide_false, Bool.false_and] at t1 t2
    clear hz
    go_wp2_with fail
    refine Reg.wp_region_seq (by kernel_rfl) (by kernel_rfl) ?_
    simp only
    iterate 19
      apply Reg.SeqOK.val
      · intro γ W hW K hK
        obtain ⟨hc, hf, _⟩ := bcell hW
        simp only [Act.put, List.setIfInBounds_toArray, List.set_cons_zero, List.set_cons_succ] at hK
        unfold Reg.Does
        go_simp
        try simp only [IntWalk.i64_left]
        first
          | exact hK _ (Below.refl _ _)
          | (go_at_call 16; (with_reducible refine (turn_any _ _ _ _ _ _ _).mono ?_); rintro e w' ⟨rfl, hb⟩; exact hK _ hb)
          | (go_at_call 18; (with_reducible refine (dist_any _ _ _ _ _).mono ?_); rintro e w' ⟨rfl, hb⟩; exact hK _ hb)
      simp only [Act.put, List.setIfInBounds_toArray, List.set_cons_zero, List.set_cons_succ, List.nil_append, List.cons_append, Nat.reduceAdd, Nat.zero_add]
    refine Reg.SeqOK.nil (by kernel_rfl) (fun γ W2 hW _ _ _ => ?_)
    replace hT := hT.trans (hW.mono hT.size)
    replace ka := ka.keep hW
    replace kb := kb.keep hW
    replace kc := kc.keep hW
    clear hW cka fka zka ckb fkb zkb ckc fkc zkc
    obtain ⟨cka, fka, zka⟩ := Reg.Blk.facts ka
    obtain ⟨ckb, fkb, zkb⟩ := Reg.Blk.facts kb
    obtain ⟨ckc, fkc, zkc⟩ := Reg.Blk.facts kc
    go_wp2_with (first | (go_at_call 20; (with_reducible refine (between_any _ _ _ _ _ _ _).mono ?_); rintro e w' ⟨rfl, hb⟩; first | (replace hT := (hT).trans (hb.mono hT.size); replace ka := (ka).keep hb; clear cka fka zka; obtain ⟨cka, fka, zka⟩ := Reg.Blk.facts ka; replace kb := (kb).keep hb; clear ckb fkb zkb; obtain ⟨ckb, fkb, zkb⟩ := Reg.Blk.facts kb; replace kc := (kc).keep hb; clear ckc fkc zkc; obtain ⟨ckc, fkc, zkc⟩ := Reg.Blk.facts kc; clear hb) | (replace hT := (hT.alloc hT.size _).trans (hb.mono (Nat.le_trans hT.size (by simp; try omega))); replace ka := ((ka).alloc _).keep hb; clear cka fka zka; obtain ⟨cka, fka, zka⟩ := Reg.Blk.facts ka; replace kb := ((kb).alloc _).keep hb; clear ckb fkb zkb; obtain ⟨ckb, fkb, zkb⟩ := Reg.Blk.facts kb; replace kc := ((kc).alloc _).keep hb; clear ckc fkc zkc; obtain ⟨ckc, fkc, zkc⟩ := Reg.Blk.facts kc; clear hb) | (replace hT := ((hT.alloc hT.size _).alloc (Nat.le_trans hT.size (by simp; try omega)) _).trans (hb.mono (Nat.le_trans hT.size (by simp; try omega))); replace ka := (((ka).alloc _).alloc _).keep hb; clear cka fka zka; obtain ⟨cka, fka, zka⟩ := Reg.Blk.facts ka; replace kb := (((kb).alloc _).alloc _).keep hb; clear ckb fkb zkb; obtain ⟨ckb, fkb, zkb⟩ := Reg.Blk.facts kb; replace kc := (((kc).alloc _).alloc _).keep hb; clear ckc fkc zkc; obtain ⟨ckc, fkc, zkc⟩ := Reg.Blk.facts kc; clear hb) | (replace hT := (((hT.alloc hT.size _).alloc (Nat.le_trans hT.size (by simp; try omega)) _).alloc (Nat.le_trans hT.size (by simp; try omega)) _).trans (hb.mono (Nat.le_trans hT.size (by simp; try omega))); replace ka := ((((ka).alloc _).alloc _).alloc _).keep hb; clear cka fka zka; obtain ⟨cka, fka, zka⟩ := Reg.Blk.facts ka; replace kb := ((((kb).alloc _).alloc _).alloc _).keep hb; clear ckb fkb zkb; obtain ⟨ckb, fkb, zkb⟩ := Reg.Blk.facts kb; replace kc := ((((kc).alloc _).alloc _).alloc _).keep hb; clear ckc fkc zkc; obtain ⟨ckc, fkc, zkc⟩ := Reg.Blk.facts kc; clear hb) | (replace hT := ((((hT.alloc hT.size _).alloc (Nat.le_trans hT.size (by simp; try omega)) _).alloc (Nat.le_trans hT.size (by simp; try omega)) _).alloc (Nat.le_trans hT.size (by simp; try omega)) _).trans (hb.mono (Nat.le_trans hT.size (by simp; try omega))); replace ka := (((((ka).alloc _).alloc _).alloc _).alloc _).keep hb; clear cka fka zka; obtain ⟨cka, fka, zka⟩ := Reg.Blk.facts ka; replace kb := (((((kb).alloc _).alloc _).alloc _).alloc _).keep hb; clear ckb fkb zkb; obtain ⟨ckb, fkb, zkb⟩ := Reg.Blk.facts kb; replace kc := (((((kc).alloc _).alloc _).alloc _).alloc _).keep hb; clear ckc fkc zkc; obtain ⟨ckc, fkc, zkc⟩ := Reg.Blk.facts kc; clear hb)))
    go_ret
    exact ⟨rfl, hT⟩

end G
end Go.Proofs.Ythdmkkddhhbbgaa
