/- Law 'GeomNearest': the walk. -/
import Derived.Test.YthdmkkddhhbbgaaPn
import Derived.Test.YthdmkkddhhbbgaaGr
set_option linter.unusedSimpArgs false
set_option linter.unusedVariables false
set_option maxRecDepth 100000
namespace Go.Proofs.Ythdmkkddhhbbgaa
open Go.RowKit
namespace G

theorem wsubI {a b : Int} (ha : InG a) (hb : InG b) : IntKind.i64.wrap (a - b) = a - b := by
  rw [IntWalk.i64_left]; exact wsub a b ha hb

set_option maxHeartbeats 40000000 in
theorem nearest_walk (x1 y1 x2 y2 x3 y3 raw : Int) (w : World) (b1 : B64 x1) (b2 : B64 y1) (b3 : B64 x2) (b4 : B64 y2) (b5 : B64 x3) (b6 : B64 y3) (b78 : 0 ≤ raw ∧ raw ≤ 65535) :
    Calls Try.prog 9 #[.agg #[.int .i64 x1, .int .i64 y1], .agg #[.int .i64 x2, .int .i64 y2], .agg #[.int .i64 x3, .int .i64 y3], .int .u16 raw] w fun e w' => e = .returned (.bool true) ∧ Below w.heap.size w w' := by
  obtain ⟨b7, b8⟩ := b78
  have hT := Below.refl w.heap.size w
  have heqfr := run_eql_fr
  go_enter Try.func9, Try.ntmps9
  go_wp2_with fail
  first | (go_at_call 11; (with_reducible refine (head_any _).mono ?_); rintro e w' ⟨rfl, hb⟩; first | (replace hT := (hT).trans (hb.mono hT.size); clear hb) | (replace hT := (hT.alloc hT.size _).trans (hb.mono (Nat.le_trans hT.size (by simp; try omega))); clear hb) | (replace hT := ((hT.alloc hT.size _).alloc (Nat.le_trans hT.size (by simp; try omega)) _).trans (hb.mono (Nat.le_trans hT.size (by simp; try omega))); clear hb) | (replace hT := (((hT.alloc hT.size _).alloc (Nat.le_trans hT.size (by simp; try omega)) _).alloc (Nat.le_trans hT.size (by simp; try omega)) _).trans (hb.mono (Nat.le_trans hT.size (by simp; try omega))); obtain ⟨kp, kq, kr⟩ := Reg.Blk.new3 hb; obtain ⟨ckp, fkp, zkp⟩ := Reg.Blk.facts kp; obtain ⟨ckq, fkq, zkq⟩ := Reg.Blk.facts kq; obtain ⟨ckr, fkr, zkr⟩ := Reg.Blk.facts kr; clear hb) | (replace hT := ((((hT.alloc hT.size _).alloc (Nat.le_trans hT.size (by simp; try omega)) _).alloc (Nat.le_trans hT.size (by simp; try omega)) _).alloc (Nat.le_trans hT.size (by simp; try omega)) _).trans (hb.mono (Nat.le_trans hT.size (by simp; try omega))); clear hb) | (replace hT := (((((hT.alloc hT.size _).alloc (Nat.le_trans hT.size (by simp; try omega)) _).alloc (Nat.le_trans hT.size (by simp; try omega)) _).alloc (Nat.le_trans hT.size (by simp; try omega)) _).alloc (Nat.le_trans hT.size (by simp; try omega)) _).trans (hb.mono (Nat.le_trans hT.size (by simp; try omega))); clear hb))
  go_wp2_with (first | (go_at_call 11; (with_reducible refine (head_any _).mono ?_); rintro e w' ⟨rfl, hb⟩; first | (replace hT := (hT).trans (hb.mono hT.size); replace kp := (kp).keep hb; clear ckp fkp zkp; obtain ⟨ckp, fkp, zkp⟩ := Reg.Blk.facts kp; replace kq := (kq).keep hb; clear ckq fkq zkq; obtain ⟨ckq, fkq, zkq⟩ := Reg.Blk.facts kq; replace kr := (kr).keep hb; clear ckr fkr zkr; obtain ⟨ckr, fkr, zkr⟩ := Reg.Blk.facts kr; clear hb) | (replace hT := (hT.alloc hT.size _).trans (hb.mono (Nat.le_trans hT.size (by simp; try omega))); replace kp := ((kp).alloc _).keep hb; clear ckp fkp zkp; obtain ⟨ckp, fkp, zkp⟩ := Reg.Blk.facts kp; replace kq := ((kq).alloc _).keep hb; clear ckq fkq zkq; obtain ⟨ckq, fkq, zkq⟩ := Reg.Blk.facts kq; replace kr := ((kr).alloc _).keep hb; clear ckr fkr zkr; obtain ⟨ckr, fkr, zkr⟩ := Reg.Blk.facts kr; clear hb) | (replace hT := ((hT.alloc hT.size _).alloc (Nat.le_trans hT.size (by simp; try omega)) _).trans (hb.mono (Nat.le_trans hT.size (by simp; try omega))); replace kp := (((kp).alloc _).alloc _).keep hb; clear ckp fkp zkp; obtain ⟨ckp, fkp, zkp⟩ := Reg.Blk.facts kp; replace kq := (((kq).alloc _).alloc _).keep hb; clear ckq fkq zkq; obtain ⟨ckq, fkq, zkq⟩ := Reg.Blk.facts kq; replace kr := (((kr).alloc _).alloc _).keep hb; clear ckr fkr zkr; obtain ⟨ckr, fkr, zkr⟩ := Reg.Blk.facts kr; clear hb) | (replace hT := (((hT.alloc hT.size _).alloc (Nat.le_trans hT.size (by simp; try omega)) _).alloc (Nat.le_trans hT.size (by simp; try omega)) _).trans (hb.mono (Nat.le_trans hT.size (by simp; try omega))); replace kp := ((((kp).alloc _).alloc _).alloc _).keep hb; clear ckp fkp zkp; obtain ⟨ckp, fkp, zkp⟩ := Reg.Blk.facts kp; replace kq := ((((kq).alloc _).alloc _).alloc _).keep hb; clear ckq fkq zkq; obtain ⟨ckq, fkq, zkq⟩ := Reg.Blk.facts kq; replace kr := ((((kr).alloc _).alloc _).alloc _).keep hb; clear ckr fkr zkr; obtain ⟨ckr, fkr, zkr⟩ := Reg.Blk.facts kr; clear hb) | (replace hT := ((((hT.alloc hT.size _).alloc (Nat.le_trans hT.size (by simp; try omega)) _).alloc (Nat.le_trans hT.size (by simp; try omega)) _).alloc (Nat.le_trans hT.size (by simp; try omega)) _).trans (hb.mono (Nat.le_trans hT.size (by simp; try omega))); replace kp := (((((kp).alloc _).alloc _).alloc _).alloc _).keep hb; clear ckp fkp zkp; obtain ⟨ckp, fkp, zkp⟩ := Reg.Blk.facts kp; replace kq := (((((kq).alloc _).alloc _).alloc _).alloc _).keep hb; clear ckq fkq zkq; obtain ⟨ckq, fkq, zkq⟩ := Reg.Blk.facts kq; replace kr := (((((kr).alloc _).alloc _).alloc _).alloc _).keep hb; clear ckr fkr zkr; obtain ⟨ckr, fkr, zkr⟩ := Reg.Blk.facts kr; clear hb) | (replace hT := (((((hT.alloc hT.size _).alloc (Nat.le_trans hT.size (by simp; try omega)) _).alloc (Nat.le_trans hT.size (by simp; try omega)) _).alloc (Nat.le_trans hT.size (by simp; try omega)) _).alloc (Nat.le_trans hT.size (by simp; try omega)) _).trans (hb.mono (Nat.le_trans hT.size (by simp; try omega))); replace kp := ((((((kp).alloc _).alloc _).alloc _).alloc _).alloc _).keep hb; clear ckp fkp zkp; obtain ⟨ckp, fkp, zkp⟩ := Reg.Blk.facts kp; replace kq := ((((((kq).alloc _).alloc _).alloc _).alloc _).alloc _).keep hb; clear ckq fkq zkq; obtain ⟨ckq, fkq, zkq⟩ := Reg.Blk.facts kq; replace kr := ((((((kr).alloc _).alloc _).alloc _).alloc _).alloc _).keep hb; clear ckr fkr zkr; obtain ⟨ckr, fkr, zkr⟩ := Reg.Blk.facts kr; clear hb)))
  refine Reg.wp_region_seq (by kernel_rfl) (by kernel_rfl) ?_
  simp only
  iterate 6
    apply Reg.SeqOK.val
    · intro γ W hW K hK
      obtain ⟨hc, hf, _⟩ := bcell hW
      simp only [Act.put, List.setIfInBounds_toArray, List.set_cons_zero, List.set_cons_succ] at hK
      unfold Reg.Does
      go_simp
      try simp only [IntWalk.i64_left]
      first
        | exact hK _ (Below.refl _ _)
        | (go_at_call 24; (with_reducible refine (grid2_any _ _ _ (by assumption) (by assumption)).mono ?_); rintro e w' ⟨rfl, hb⟩; exact hK _ hb)
    simp only [Act.put, List.setIfInBounds_toArray, List.set_cons_zero, List.set_cons_succ, List.nil_append, List.cons_append, Nat.reduceAdd, Nat.zero_add]
  iterate 3
    apply Reg.SeqOK.box
    · intro γ W hW K hK
      simp only [Act.put, List.setIfInBounds_toArray, List.set_cons_zero, List.set_cons_succ] at hK
      unfold Reg.Does
      go_simp
      exact hK
    simp only [Act.put, List.setIfInBounds_toArray, List.set_cons_zero, List.set_cons_succ, List.nil_append, List.cons_append, Nat.reduceAdd, Nat.zero_add]
  refine Reg.SeqOK.st 6 _ _ _ rfl (by kernel_rfl) ?_ ?_
  · intro γ W hW hge hat K hK
    obtain ⟨hcl, hfr⟩ := Reg.cells_at hat
    simp only [Act.put, List.setIfInBounds_toArray, List.set_cons_zero, List.set_cons_succ] at hK
    unfold Reg.Does
    go_simp
    exact hK _ (Reg.upd2 hat)
  simp only [Act.put, List.setIfInBounds_toArray, List.set_cons_zero, List.set_cons_succ, List.nil_append, List.cons_append, Nat.reduceAdd, Nat.zero_add]
  refine Reg.SeqOK.st 7 _ _ _ rfl (by kernel_rfl) ?_ ?_
  · intro γ W hW hge hat K hK
    obtain ⟨hcl, hfr⟩ := Reg.cells_at hat
    simp only [Act.put, List.setIfInBounds_toArray, List.set_cons_zero, List.set_cons_succ] at hK
    unfold Reg.Does
    go_simp
    exact hK _ (Reg.upd2 hat)
  simp only [Act.put, List.setIfInBounds_toArray, List.set_cons_zero, List.set_cons_succ, List.nil_append, List.cons_append, Nat.reduceAdd, Nat.zero_add]
  refine Reg.SeqOK.st 8 _ _ _ rfl (by kernel_rfl) ?_ ?_
  · intro γ W hW hge hat K hK
    obtain ⟨hcl, hfr⟩ := Reg.cells_at hat
    simp only [Act.put, List.setIfInBounds_toArray, List.set_cons_zero, List.set_cons_succ] at hK
    unfold Reg.Does
    go_simp
    exact hK _ (Reg.upd2 hat)
  simp only [Act.put, List.setIfInBounds_toArray, List.set_cons_zero, List.set_cons_succ, List.nil_append, List.cons_append, Nat.reduceAdd, Nat.zero_add]
  refine Reg.SeqOK.nil (by kernel_rfl) (fun γ W hW hBx hAp _ => ?_)
  simp only [Reg.Boxes, Reg.Apart, Reg.Differ, and_true, true_and, World.size_alloc, Nat.reduceAdd, Nat.zero_add] at hBx hAp
  obtain ⟨⟨_, _, at0⟩, ⟨_, _, at1⟩, _, _, at2⟩ := hBx
  replace hT := hT.trans (hW.mono hT.size)
  generalize γ 6 = ga at *
  generalize γ 7 = gb at *
  generalize γ 8 = gc at *
  have ka : Reg.Blk ga _ _ W := at0
  have kb : Reg.Blk gb _ _ W := at1
  have kc : Reg.Blk gc _ _ W := at2
  clear at0 at1 at2 hAp hW γ ckp fkp zkp kp ckq fkq zkq kq ckr fkr zkr kr
  obtain ⟨cka, fka, zka⟩ := Reg.Blk.facts ka
  obtain ⟨ckb, fkb, zkb⟩ := Reg.Blk.facts kb
  obtain ⟨ckc, fkc, zkc⟩ := Reg.Blk.facts kc
  have hfe := foot_ok (gm_in x1) (gm_in y1) (gm_in x2) (gm_in y2) (gm_in x3) (gm_in y3)
  go_wp2_with (first | (go_at_call 12; (with_reducible refine (foot_any _ _ _ _ _ _ _).mono ?_); rintro e w' ⟨rfl, hb⟩; first | (replace hT := (hT).trans (hb.mono hT.size); replace ka := (ka).keep hb; clear cka fka zka; obtain ⟨cka, fka, zka⟩ := Reg.Blk.facts ka; replace kb := (kb).keep hb; clear ckb fkb zkb; obtain ⟨ckb, fkb, zkb⟩ := Reg.Blk.facts kb; replace kc := (kc).keep hb; clear ckc fkc zkc; obtain ⟨ckc, fkc, zkc⟩ := Reg.Blk.facts kc; clear hb) | (replace hT := (hT.alloc hT.size _).trans (hb.mono (Nat.le_trans hT.size (by simp; try omega))); replace ka := ((ka).alloc _).keep hb; clear cka fka zka; obtain ⟨cka, fka, zka⟩ := Reg.Blk.facts ka; replace kb := ((kb).alloc _).keep hb; clear ckb fkb zkb; obtain ⟨ckb, fkb, zkb⟩ := Reg.Blk.facts kb; replace kc := ((kc).alloc _).keep hb; clear ckc fkc zkc; obtain ⟨ckc, fkc, zkc⟩ := Reg.Blk.facts kc; clear hb) | (replace hT := ((hT.alloc hT.size _).alloc (Nat.le_trans hT.size (by simp; try omega)) _).trans (hb.mono (Nat.le_trans hT.size (by simp; try omega))); replace ka := (((ka).alloc _).alloc _).keep hb; clear cka fka zka; obtain ⟨cka, fka, zka⟩ := Reg.Blk.facts ka; replace kb := (((kb).alloc _).alloc _).keep hb; clear ckb fkb zkb; obtain ⟨ckb, fkb, zkb⟩ := Reg.Blk.facts kb; replace kc := (((kc).alloc _).alloc _).keep hb; clear ckc fkc zkc; obtain ⟨ckc, fkc, zkc⟩ := Reg.Blk.facts kc; clear hb) | (replace hT := (((hT.alloc hT.size _).alloc (Nat.le_trans hT.size (by simp; try omega)) _).alloc (Nat.le_trans hT.size (by simp; try omega)) _).trans (hb.mono (Nat.le_trans hT.size (by simp; try omega))); replace ka := ((((ka).alloc _).alloc _).alloc _).keep hb; clear cka fka zka; obtain ⟨cka, fka, zka⟩ := Reg.Blk.facts ka; replace kb := ((((kb).alloc _).alloc _).alloc _).keep hb; clear ckb fkb zkb; obtain ⟨ckb, fkb, zkb⟩ := Reg.Blk.facts kb; replace kc := ((((kc).alloc _).alloc _).alloc _).keep hb; clear ckc fkc zkc; obtain ⟨ckc, fkc, zkc⟩ := Reg.Blk.facts kc; clear hb) | (replace hT := ((((hT.alloc hT.size _).alloc (Nat.le_trans hT.size (by simp; try omega)) _).alloc (Nat.le_trans hT.size (by simp; try omega)) _).alloc (Nat.le_trans hT.size (by simp; try omega)) _).trans (hb.mono (Nat.le_trans hT.size (by simp; try omega))); replace ka := (((((ka).alloc _).alloc _).alloc _).alloc _).keep hb; clear cka fka zka; obtain ⟨cka, fka, zka⟩ := Reg.Blk.facts ka; replace kb := (((((kb).alloc _).alloc _).alloc _).alloc _).keep hb; clear ckb fkb zkb; obtain ⟨ckb, fkb, zkb⟩ := Reg.Blk.facts kb; replace kc := (((((kc).alloc _).alloc _).alloc _).alloc _).keep hb; clear ckc fkc zkc; obtain ⟨ckc, fkc, zkc⟩ := Reg.Blk.facts kc; clear hb) | (replace hT := (((((hT.alloc hT.size _).alloc (Nat.le_trans hT.size (by simp; try omega)) _).alloc (Nat.le_trans hT.size (by simp; try omega)) _).alloc (Nat.le_trans hT.size (by simp; try omega)) _).alloc (Nat.le_trans hT.size (by simp; try omega)) _).trans (hb.mono (Nat.le_trans hT.size (by simp; try omega))); replace ka := ((((((ka).alloc _).alloc _).alloc _).alloc _).alloc _).keep hb; clear cka fka zka; obtain ⟨cka, fka, zka⟩ := Reg.Blk.facts ka; replace kb := ((((((kb).alloc _).alloc _).alloc _).alloc _).alloc _).keep hb; clear ckb fkb zkb; obtain ⟨ckb, fkb, zkb⟩ := Reg.Blk.facts kb; replace kc := ((((((kc).alloc _).alloc _).alloc _).alloc _).alloc _).keep hb; clear ckc fkc zkc; obtain ⟨ckc, fkc, zkc⟩ := Reg.Blk.facts kc; clear hb)))
  have s1 := wsubI (gm_in x2) (gm_in x3)
  have s2 := wsubI (gm_in x3) (gm_in x2)
  have s3 := wsubI (gm_in y2) (gm_in y3)
  have s4 := wsubI (gm_in y3) (gm_in y2)
  have yka := Nat.lt_add_one_of_lt (Nat.lt_add_one_of_lt (zka))
  have ykb := Nat.lt_add_one_of_lt (Nat.lt_add_one_of_lt (zkb))
  have ykc := Nat.lt_add_one_of_lt (Nat.lt_add_one_of_lt (zkc))
  refine Reg.wp_region_seq (by kernel_rfl) (by kernel_rfl) ?_
  simp only
  iterate 24
    apply Reg.SeqOK.val
    · intro γ W hW K hK
      obtain ⟨hc, hf, _⟩ := bcell hW
      simp only [Act.put, List.setIfInBounds_toArray, List.set_cons_zero, List.set_cons_succ] at hK
      unfold Reg.Does
      go_simp
      try simp only [IntWalk.i64_left]
      first
        | exact hK _ (Below.refl _ _)
    simp only [Act.put, List.setIfInBounds_toArray, List.set_cons_zero, List.set_cons_succ, List.nil_append, List.cons_append, Nat.reduceAdd, Nat.zero_add]
  refine Reg.SeqOK.nil (by kernel_rfl) (fun γ W2 hW _ _ _ => ?_)
  have hb := hW
  clear hW
  first | (replace hT := (hT).trans (hb.mono hT.size); replace ka := (ka).keep hb; clear cka fka zka; obtain ⟨cka, fka, zka⟩ := Reg.Blk.facts ka; replace kb := (kb).keep hb; clear ckb fkb zkb; obtain ⟨ckb, fkb, zkb⟩ := Reg.Blk.facts kb; replace kc := (kc).keep hb; clear ckc fkc zkc; obtain ⟨ckc, fkc, zkc⟩ := Reg.Blk.facts kc; clear hb) | (replace hT := (hT.alloc hT.size _).trans (hb.mono (Nat.le_trans hT.size (by simp; try omega))); replace ka := ((ka).alloc _).keep hb; clear cka fka zka; obtain ⟨cka, fka, zka⟩ := Reg.Blk.facts ka; replace kb := ((kb).alloc _).keep hb; clear ckb fkb zkb; obtain ⟨ckb, fkb, zkb⟩ := Reg.Blk.facts kb; replace kc := ((kc).alloc _).keep hb; clear ckc fkc zkc; obtain ⟨ckc, fkc, zkc⟩ := Reg.Blk.facts kc; clear hb) | (replace hT := ((hT.alloc hT.size _).alloc (Nat.le_trans hT.size (by simp; try omega)) _).trans (hb.mono (Nat.le_trans hT.size (by simp; try omega))); replace ka := (((ka).alloc _).alloc _).keep hb; clear cka fka zka; obtain ⟨cka, fka, zka⟩ := Reg.Blk.facts ka; replace kb := (((kb).alloc _).alloc _).keep hb; clear ckb fkb zkb; obtain ⟨ckb, fkb, zkb⟩ := Reg.Blk.facts kb; replace kc := (((kc).alloc _).alloc _).keep hb; clear ckc fkc zkc; obtain ⟨ckc, fkc, zkc⟩ := Reg.Blk.facts kc; obtain ⟨k1, k2⟩ := Reg.Blk.new2 hb; obtain ⟨ck1, fk1, zk1⟩ := Reg.Blk.facts k1; obtain ⟨ck2, fk2, zk2⟩ := Reg.Blk.facts k2; clear hb) | (replace hT := (((hT.alloc hT.size _).alloc (Nat.le_trans hT.size (by simp; try omega)) _).alloc (Nat.le_trans hT.size (by simp; try omega)) _).trans (hb.mono (Nat.le_trans hT.size (by simp; try omega))); replace ka := ((((ka).alloc _).alloc _).alloc _).keep hb; clear cka fka zka; obtain ⟨cka, fka, zka⟩ := Reg.Blk.facts ka; replace kb := ((((kb).alloc _).alloc _).alloc _).keep hb; clear ckb fkb zkb; obtain ⟨ckb, fkb, zkb⟩ := Reg.Blk.facts kb; replace kc := ((((kc).alloc _).alloc _).alloc _).keep hb; clear ckc fkc zkc; obtain ⟨ckc, fkc, zkc⟩ := Reg.Blk.facts kc; clear hb) | (replace hT := ((((hT.alloc hT.size _).alloc (Nat.le_trans hT.size (by simp; try omega)) _).alloc (Nat.le_trans hT.size (by simp; try omega)) _).alloc (Nat.le_trans hT.size (by simp; try omega)) _).trans (hb.mono (Nat.le_trans hT.size (by simp; try omega))); replace ka := (((((ka).alloc _).alloc _).alloc _).alloc _).keep hb; clear cka fka zka; obtain ⟨cka, fka, zka⟩ := Reg.Blk.facts ka; replace kb := (((((kb).alloc _).alloc _).alloc _).alloc _).keep hb; clear ckb fkb zkb; obtain ⟨ckb, fkb, zkb⟩ := Reg.Blk.facts kb; replace kc := (((((kc).alloc _).alloc _).alloc _).alloc _).keep hb; clear ckc fkc zkc; obtain ⟨ckc, fkc, zkc⟩ := Reg.Blk.facts kc; clear hb) | (replace hT := (((((hT.alloc hT.size _).alloc (Nat.le_trans hT.size (by simp; try omega)) _).alloc (Nat.le_trans hT.size (by simp; try omega)) _).alloc (Nat.le_trans hT.size (by simp; try omega)) _).alloc (Nat.le_trans hT.size (by simp; try omega)) _).trans (hb.mono (Nat.le_trans hT.size (by simp; try omega))); replace ka := ((((((ka).alloc _).alloc _).alloc _).alloc _).alloc _).keep hb; clear cka fka zka; obtain ⟨cka, fka, zka⟩ := Reg.Blk.facts ka; replace kb := ((((((kb).alloc _).alloc _).alloc _).alloc _).alloc _).keep hb; clear ckb fkb zkb; obtain ⟨ckb, fkb, zkb⟩ := Reg.Blk.facts kb; replace kc := ((((((kc).alloc _).alloc _).alloc _).alloc _).alloc _).keep hb; clear ckc fkc zkc; obtain ⟨ckc, fkc, zkc⟩ := Reg.Blk.facts kc; clear hb)
  clear s1 s2 s3 s4
  obtain ⟨M, hM⟩ : ∃ M : Nat, max (gm x2 - gm x3) (gm x3 - gm x2) = (M : Int) := Int.eq_ofNat_of_zero_le (by omega)
  obtain ⟨N, hN⟩ : ∃ N : Nat, max (gm y2 - gm y3) (gm y3 - gm y2) = (N : Int) := Int.eq_ofNat_of_zero_le (by omega)
  rw [hM, hN]
  have hMd : M = (gm x3 - gm x2).natAbs := by omega
  have hNd : N = (gm y3 - gm y2).natAbs := by omega
  have hMN : M ≤ 32767 ∧ N ≤ 32767 := by
    have := gm_in x2
    have := gm_in x3
    have := gm_in y2
    have := gm_in y3
    unfold InG at *
    omega
  have HM := Lib.hid hMd
  have HN := Lib.hid hNd
  clear hM hN hMd hNd
  clear cka fka zka ckb fkb zkb ckc fkc zkc ck1 fk1 zk1 ck2 fk2 zk2
  go_wp2_with fail
  go_loopw [16, 17] (fun x y wr => ∃ m n : Nat, x = .int .i64 m ∧ y = .int .i64 n ∧ m ≤ 32767 ∧ n ≤ 32767 ∧ Nat.gcd m n = Nat.gcd M N ∧ Below W2.heap.size W2 wr) (fun _ y _ => (intOf y).toNat)
  case atStart => exact ⟨M, N, rfl, rfl, hMN.1, hMN.2, rfl, Below.refl _ _⟩
  case round =>
    obtain ⟨m, n, rfl, rfl, hm, hn, hgcd, hW⟩ := hrel
    have Hgcd := Lib.hid hgcd
    clear hgcd
    by_cases hlt : n = 0
    · subst hlt
      by_cases hm0 : m = 0
      · subst hm0
        have eqs : gm x3 = gm x2 ∧ gm y3 = gm y2 := by
          have h := Hgcd.out
          have hM := HM.out
          have hN := HN.out
          simp only [Nat.gcd_zero_right] at h
          have h2 := Nat.gcd_eq_zero_iff.1 h.symm
          omega
        have hfs := Lib.hid (foot_same (gm_in x1) (gm_in y1) (gm_in x2) (gm_in y2))
        obtain ⟨eqx, eqy⟩ := eqs
        have Ex := Lib.hid eqx
        have Ey := Lib.hid eqy
        clear eqx eqy
        go_wp2_with fail
        obtain ⟨cka, fka, zka⟩ := Reg.Blk.facts ka
        obtain ⟨ckb, fkb, zkb⟩ := Reg.Blk.facts kb
        obtain ⟨ckc, fkc, zkc⟩ := Reg.Blk.facts kc
        obtain ⟨ck1, fk1, zk1⟩ := Reg.Blk.facts k1
        obtain ⟨ck2, fk2, zk2⟩ := Reg.Blk.facts k2
        have yka := zka
        have hb := hW
        clear hW
        first | (replace hT := (hT).trans (hb.mono hT.size); replace ka := (ka).keep hb; clear cka fka zka; obtain ⟨cka, fka, zka⟩ := Reg.Blk.facts ka; replace kb := (kb).keep hb; clear ckb fkb zkb; obtain ⟨ckb, fkb, zkb⟩ := Reg.Blk.facts kb; replace kc := (kc).keep hb; clear ckc fkc zkc; obtain ⟨ckc, fkc, zkc⟩ := Reg.Blk.facts kc; replace k1 := (k1).keep hb; clear ck1 fk1 zk1; obtain ⟨ck1, fk1, zk1⟩ := Reg.Blk.facts k1; replace k2 := (k2).keep hb; clear ck2 fk2 zk2; obtain ⟨ck2, fk2, zk2⟩ := Reg.Blk.facts k2; clear hb) | (replace hT := (hT.alloc hT.size _).trans (hb.mono (Nat.le_trans hT.size (by simp; try omega))); replace ka := ((ka).alloc _).keep hb; clear cka fka zka; obtain ⟨cka, fka, zka⟩ := Reg.Blk.facts ka; replace kb := ((kb).alloc _).keep hb; clear ckb fkb zkb; obtain ⟨ckb, fkb, zkb⟩ := Reg.Blk.facts kb; replace kc := ((kc).alloc _).keep hb; clear ckc fkc zkc; obtain ⟨ckc, fkc, zkc⟩ := Reg.Blk.facts kc; replace k1 := ((k1).alloc _).keep hb; clear ck1 fk1 zk1; obtain ⟨ck1, fk1, zk1⟩ := Reg.Blk.facts k1; replace k2 := ((k2).alloc _).keep hb; clear ck2 fk2 zk2; obtain ⟨ck2, fk2, zk2⟩ := Reg.Blk.facts k2; clear hb) | (replace hT := ((hT.alloc hT.size _).alloc (Nat.le_trans hT.size (by simp; try omega)) _).trans (hb.mono (Nat.le_trans hT.size (by simp; try omega))); replace ka := (((ka).alloc _).alloc _).keep hb; clear cka fka zka; obtain ⟨cka, fka, zka⟩ := Reg.Blk.facts ka; replace kb := (((kb).alloc _).alloc _).keep hb; clear ckb fkb zkb; obtain ⟨ckb, fkb, zkb⟩ := Reg.Blk.facts kb; replace kc := (((kc).alloc _).alloc _).keep hb; clear ckc fkc zkc; obtain ⟨ckc, fkc, zkc⟩ := Reg.Blk.facts kc; replace k1 := (((k1).alloc _).alloc _).keep hb; clear ck1 fk1 zk1; obtain ⟨ck1, fk1, zk1⟩ := Reg.Blk.facts k1; replace k2 := (((k2).alloc _).alloc _).keep hb; clear ck2 fk2 zk2; obtain ⟨ck2, fk2, zk2⟩ := Reg.Blk.facts k2; clear hb) | (replace hT := (((hT.alloc hT.size _).alloc (Nat.le_trans hT.size (by simp; try omega)) _).alloc (Nat.le_trans hT.size (by simp; try omega)) _).trans (hb.mono (Nat.le_trans hT.size (by simp; try omega))); replace ka := ((((ka).alloc _).alloc _).alloc _).keep hb; clear cka fka zka; obtain ⟨cka, fka, zka⟩ := Reg.Blk.facts ka; replace kb := ((((kb).alloc _).alloc _).alloc _).keep hb; clear ckb fkb zkb; obtain ⟨ckb, fkb, zkb⟩ := Reg.Blk.facts kb; replace kc := ((((kc).alloc _).alloc _).alloc _).keep hb; clear ckc fkc zkc; obtain ⟨ckc, fkc, zkc⟩ := Reg.Blk.facts kc; replace k1 := ((((k1).alloc _).alloc _).alloc _).keep hb; clear ck1 fk1 zk1; obtain ⟨ck1, fk1, zk1⟩ := Reg.Blk.facts k1; replace k2 := ((((k2).alloc _).alloc _).alloc _).keep hb; clear ck2 fk2 zk2; obtain ⟨ck2, fk2, zk2⟩ := Reg.Blk.facts k2; clear hb) | (replace hT := ((((hT.alloc hT.size _).alloc (Nat.le_trans hT.size (by simp; try omega)) _).alloc (Nat.le_trans hT.size (by simp; try omega)) _).alloc (Nat.le_trans hT.size (by simp; try omega)) _).trans (hb.mono (Nat.le_trans hT.size (by simp; try omega))); replace ka := (((((ka).alloc _).alloc _).alloc _).alloc _).keep hb; clear cka fka zka; obtain ⟨cka, fka, zka⟩ := Reg.Blk.facts ka; replace kb := (((((kb).alloc _).alloc _).alloc _).alloc _).keep hb; clear ckb fkb zkb; obtain ⟨ckb, fkb, zkb⟩ := Reg.Blk.facts kb; replace kc := (((((kc).alloc _).alloc _).alloc _).alloc _).keep hb; clear ckc fkc zkc; obtain ⟨ckc, fkc, zkc⟩ := Reg.Blk.facts kc; replace k1 := (((((k1).alloc _).alloc _).alloc _).alloc _).keep hb; clear ck1 fk1 zk1; obtain ⟨ck1, fk1, zk1⟩ := Reg.Blk.facts k1; replace k2 := (((((k2).alloc _).alloc _).alloc _).alloc _).keep hb; clear ck2 fk2 zk2; obtain ⟨ck2, fk2, zk2⟩ := Reg.Blk.facts k2; clear hb) | (replace hT := (((((hT.alloc hT.size _).alloc (Nat.le_trans hT.size (by simp; try omega)) _).alloc (Nat.le_trans hT.size (by simp; try omega)) _).alloc (Nat.le_trans hT.size (by simp; try omega)) _).alloc (Nat.le_trans hT.size (by simp; try omega)) _).trans (hb.mono (Nat.le_trans hT.size (by simp; try omega))); replace ka := ((((((ka).alloc _).alloc _).alloc _).alloc _).alloc _).keep hb; clear cka fka zka; obtain ⟨cka, fka, zka⟩ := Reg.Blk.facts ka; replace kb := ((((((kb).alloc _).alloc _).alloc _).alloc _).alloc _).keep hb; clear ckb fkb zkb; obtain ⟨ckb, fkb, zkb⟩ := Reg.Blk.facts kb; replace kc := ((((((kc).alloc _).alloc _).alloc _).alloc _).alloc _).keep hb; clear ckc fkc zkc; obtain ⟨ckc, fkc, zkc⟩ := Reg.Blk.facts kc; replace k1 := ((((((k1).alloc _).alloc _).alloc _).alloc _).alloc _).keep hb; clear ck1 fk1 zk1; obtain ⟨ck1, fk1, zk1⟩ := Reg.Blk.facts k1; replace k2 := ((((((k2).alloc _).alloc _).alloc _).alloc _).alloc _).keep hb; clear ck2 fk2 zk2; obtain ⟨ck2, fk2, zk2⟩ := Reg.Blk.facts k2; clear hb)
        refine Reg.wp_region_seq (by kernel_rfl) (by kernel_rfl) ?_
        simp only
        iterate 10
          apply Reg.SeqOK.val
          · intro γ W hW K hK
            obtain ⟨hc, hf, _⟩ := bcell hW
            simp only [Act.put, List.setIfInBounds_toArray, List.set_cons_zero, List.set_cons_succ] at hK
            unfold Reg.Does
            go_simp
            try simp only [IntWalk.i64_left]
            first
              | exact hK _ (Below.refl _ _)
              | (go_at_call 18; (with_reducible refine (dist_any _ _ _ _ _).mono ?_); rintro e w' ⟨rfl, hb⟩; exact hK _ hb)
          simp only [Act.put, List.setIfInBounds_toArray, List.set_cons_zero, List.set_cons_succ, List.nil_append, List.cons_append, Nat.reduceAdd, Nat.zero_add]
        refine Reg.SeqOK.nil (by kernel_rfl) (fun γ W hW _ _ _ => ?_)
        replace hT := hT.trans (hW.mono hT.size)
        clear hW
        go_wp2_with fail
        go_ret
        refine ⟨ret_bool ?_, hT⟩
        rw [Ex.out, Ey.out, hfs.out]
        simp [ptEq]
      · have h0n : decide (m = 0) = false := by simp; omega
        have h0m : ((m : Int) == 0) = false := by simp; omega
        have hne : ¬ (m : Int) = 0 := by omega
        obtain ⟨VX, VY, K, PX, PY, X, Y, q1, q2, q3, q4, q5, q6, q7, ⟨k0, k1'⟩, iX, iY, hb1, hb2, hb3⟩ := near_all (gm_in x1) (gm_in y1) (gm_in x2) (gm_in y2) (gm_in x3) (gm_in y3) HM.out HN.out Hgcd.out hm0 b7
        go_wp2_with fail
        obtain ⟨cka, fka, zka⟩ := Reg.Blk.facts ka
        obtain ⟨ckb, fkb, zkb⟩ := Reg.Blk.facts kb
        obtain ⟨ckc, fkc, zkc⟩ := Reg.Blk.facts kc
        obtain ⟨ck1, fk1, zk1⟩ := Reg.Blk.facts k1
        obtain ⟨ck2, fk2, zk2⟩ := Reg.Blk.facts k2
        have hb := hW
        clear hW
        first | (replace hT := (hT).trans (hb.mono hT.size); replace ka := (ka).keep hb; clear cka fka zka; obtain ⟨cka, fka, zka⟩ := Reg.Blk.facts ka; replace kb := (kb).keep hb; clear ckb fkb zkb; obtain ⟨ckb, fkb, zkb⟩ := Reg.Blk.facts kb; replace kc := (kc).keep hb; clear ckc fkc zkc; obtain ⟨ckc, fkc, zkc⟩ := Reg.Blk.facts kc; replace k1 := (k1).keep hb; clear ck1 fk1 zk1; obtain ⟨ck1, fk1, zk1⟩ := Reg.Blk.facts k1; replace k2 := (k2).keep hb; clear ck2 fk2 zk2; obtain ⟨ck2, fk2, zk2⟩ := Reg.Blk.facts k2; clear hb) | (replace hT := (hT.alloc hT.size _).trans (hb.mono (Nat.le_trans hT.size (by simp; try omega))); replace ka := ((ka).alloc _).keep hb; clear cka fka zka; obtain ⟨cka, fka, zka⟩ := Reg.Blk.facts ka; replace kb := ((kb).alloc _).keep hb; clear ckb fkb zkb; obtain ⟨ckb, fkb, zkb⟩ := Reg.Blk.facts kb; replace kc := ((kc).alloc _).keep hb; clear ckc fkc zkc; obtain ⟨ckc, fkc, zkc⟩ := Reg.Blk.facts kc; replace k1 := ((k1).alloc _).keep hb; clear ck1 fk1 zk1; obtain ⟨ck1, fk1, zk1⟩ := Reg.Blk.facts k1; replace k2 := ((k2).alloc _).keep hb; clear ck2 fk2 zk2; obtain ⟨ck2, fk2, zk2⟩ := Reg.Blk.facts k2; clear hb) | (replace hT := ((hT.alloc hT.size _).alloc (Nat.le_trans hT.size (by simp; try omega)) _).trans (hb.mono (Nat.le_trans hT.size (by simp; try omega))); replace ka := (((ka).alloc _).alloc _).keep hb; clear cka fka zka; obtain ⟨cka, fka, zka⟩ := Reg.Blk.facts ka; replace kb := (((kb).alloc _).alloc _).keep hb; clear ckb fkb zkb; obtain ⟨ckb, fkb, zkb⟩ := Reg.Blk.facts kb; replace kc := (((kc).alloc _).alloc _).keep hb; clear ckc fkc zkc; obtain ⟨ckc, fkc, zkc⟩ := Reg.Blk.facts kc; replace k1 := (((k1).alloc _).alloc _).keep hb; clear ck1 fk1 zk1; obtain ⟨ck1, fk1, zk1⟩ := Reg.Blk.facts k1; replace k2 := (((k2).alloc _).alloc _).keep hb; clear ck2 fk2 zk2; obtain ⟨ck2, fk2, zk2⟩ := Reg.Blk.facts k2; clear hb) | (replace hT := (((hT.alloc hT.size _).alloc (Nat.le_trans hT.size (by simp; try omega)) _).alloc (Nat.le_trans hT.size (by simp; try omega)) _).trans (hb.mono (Nat.le_trans hT.size (by simp; try omega))); replace ka := ((((ka).alloc _).alloc _).alloc _).keep hb; clear cka fka zka; obtain ⟨cka, fka, zka⟩ := Reg.Blk.facts ka; replace kb := ((((kb).alloc _).alloc _).alloc _).keep hb; clear ckb fkb zkb; obtain ⟨ckb, fkb, zkb⟩ := Reg.Blk.facts kb; replace kc := ((((kc).alloc _).alloc _).alloc _).keep hb; clear ckc fkc zkc; obtain ⟨ckc, fkc, zkc⟩ := Reg.Blk.facts kc; replace k1 := ((((k1).alloc _).alloc _).alloc _).keep hb; clear ck1 fk1 zk1; obtain ⟨ck1, fk1, zk1⟩ := Reg.Blk.facts k1; replace k2 := ((((k2).alloc _).alloc _).alloc _).keep hb; clear ck2 fk2 zk2; obtain ⟨ck2, fk2, zk2⟩ := Reg.Blk.facts k2; clear hb) | (replace hT := ((((hT.alloc hT.size _).alloc (Nat.le_trans hT.size (by simp; try omega)) _).alloc (Nat.le_trans hT.size (by simp; try omega)) _).alloc (Nat.le_trans hT.size (by simp; try omega)) _).trans (hb.mono (Nat.le_trans hT.size (by simp; try omega))); replace ka := (((((ka).alloc _).alloc _).alloc _).alloc _).keep hb; clear cka fka zka; obtain ⟨cka, fka, zka⟩ := Reg.Blk.facts ka; replace kb := (((((kb).alloc _).alloc _).alloc _).alloc _).keep hb; clear ckb fkb zkb; obtain ⟨ckb, fkb, zkb⟩ := Reg.Blk.facts kb; replace kc := (((((kc).alloc _).alloc _).alloc _).alloc _).keep hb; clear ckc fkc zkc; obtain ⟨ckc, fkc, zkc⟩ := Reg.Blk.facts kc; replace k1 := (((((k1).alloc _).alloc _).alloc _).alloc _).keep hb; clear ck1 fk1 zk1; obtain ⟨ck1, fk1, zk1⟩ := Reg.Blk.facts k1; replace k2 := (((((k2).alloc _).alloc _).alloc _).alloc _).keep hb; clear ck2 fk2 zk2; obtain ⟨ck2, fk2, zk2⟩ := Reg.Blk.facts k2; clear hb) | (replace hT := (((((hT.alloc hT.size _).alloc (Nat.le_trans hT.size (by simp; try omega)) _).alloc (Nat.le_trans hT.size (by simp; try omega)) _).alloc (Nat.le_trans hT.size (by simp; try omega)) _).alloc (Nat.le_trans hT.size (by simp; try omega)) _).trans (hb.mono (Nat.le_trans hT.size (by simp; try omega))); replace ka := ((((((ka).alloc _).alloc _).alloc _).alloc _).alloc _).keep hb; clear cka fka zka; obtain ⟨cka, fka, zka⟩ := Reg.Blk.facts ka; replace kb := ((((((kb).alloc _).alloc _).alloc _).alloc _).alloc _).keep hb; clear ckb fkb zkb; obtain ⟨ckb, fkb, zkb⟩ := Reg.Blk.facts kb; replace kc := ((((((kc).alloc _).alloc _).alloc _).alloc _).alloc _).keep hb; clear ckc fkc zkc; obtain ⟨ckc, fkc, zkc⟩ := Reg.Blk.facts kc; replace k1 := ((((((k1).alloc _).alloc _).alloc _).alloc _).alloc _).keep hb; clear ck1 fk1 zk1; obtain ⟨ck1, fk1, zk1⟩ := Reg.Blk.facts k1; replace k2 := ((((((k2).alloc _).alloc _).alloc _).alloc _).alloc _).keep hb; clear ck2 fk2 zk2; obtain ⟨ck2, fk2, zk2⟩ := Reg.Blk.facts k2; clear hb)
        have s2 := wsubI (gm_in x3) (gm_in x2)
        have s4 := wsubI (gm_in y3) (gm_in y2)
        have HH := Lib.hid h0m
        clear h0m hne h0n
        simp only [Int.natCast_zero, q3]
        clear q3
        refine Reg.wp_region_seq (by kernel_rfl) (by kernel_rfl) ?_
        simp only
        iterate 25
          apply Reg.SeqOK.val
          · intro γ W hW K hK
            obtain ⟨hc, hf, _⟩ := bcell hW
            simp only [Act.put, List.setIfInBounds_toArray, List.set_cons_zero, List.set_cons_succ] at hK
            unfold Reg.Does
            go_simp
            try simp only [IntWalk.i64_left]
            first
              | exact hK _ (Below.refl _ _)
              | (go_at_call 25; (with_reducible refine (at_any _ _ _).mono ?_); rintro e w' ⟨rfl, hb⟩; exact hK _ hb)
          simp only [Act.put, List.setIfInBounds_toArray, List.set_cons_zero, List.set_cons_succ, List.nil_append, List.cons_append, Nat.reduceAdd, Nat.zero_add]
        iterate 1
          apply Reg.SeqOK.box
          · intro γ W hW K hK
            simp only [Act.put, List.setIfInBounds_toArray, List.set_cons_zero, List.set_cons_succ] at hK
            unfold Reg.Does
            go_simp
            exact hK
          simp only [Act.put, List.setIfInBounds_toArray, List.set_cons_zero, List.set_cons_succ, List.nil_append, List.cons_append, Nat.reduceAdd, Nat.zero_add]
        refine Reg.SeqOK.st 25 _ _ _ rfl (by kernel_rfl) ?_ ?_
        · intro γ W hW hge hat K hK
          obtain ⟨hcl, hfr⟩ := Reg.cells_at hat
          simp only [Act.put, List.setIfInBounds_toArray, List.set_cons_zero, List.set_cons_succ] at hK
          unfold Reg.Does
          go_simp
          exact hK _ (Reg.upd2 hat)
        simp only [Act.put, List.setIfInBounds_toArray, List.set_cons_zero, List.set_cons_succ, List.nil_append, List.cons_append, Nat.reduceAdd, Nat.zero_add]
        refine Reg.SeqOK.nil (by kernel_rfl) (fun γ W hW hBx _ _ => ?_)
        simp only [Reg.Boxes, Reg.Apart, Reg.Differ, and_true, true_and, World.size_alloc, Nat.reduceAdd, Nat.zero_add] at hBx
        obtain ⟨_, _, at25⟩ := hBx
        generalize γ 25 = gx at *
        have kx : Reg.Blk gx _ _ W := at25
        clear at25
        have hb := hW
        clear hW
        first | (replace hT := (hT).trans (hb.mono hT.size); replace ka := (ka).keep hb; clear cka fka zka; obtain ⟨cka, fka, zka⟩ := Reg.Blk.facts ka; replace kb := (kb).keep hb; clear ckb fkb zkb; obtain ⟨ckb, fkb, zkb⟩ := Reg.Blk.facts kb; replace kc := (kc).keep hb; clear ckc fkc zkc; obtain ⟨ckc, fkc, zkc⟩ := Reg.Blk.facts kc; replace k1 := (k1).keep hb; clear ck1 fk1 zk1; obtain ⟨ck1, fk1, zk1⟩ := Reg.Blk.facts k1; replace k2 := (k2).keep hb; clear ck2 fk2 zk2; obtain ⟨ck2, fk2, zk2⟩ := Reg.Blk.facts k2; clear hb) | (replace hT := (hT.alloc hT.size _).trans (hb.mono (Nat.le_trans hT.size (by simp; try omega))); replace ka := ((ka).alloc _).keep hb; clear cka fka zka; obtain ⟨cka, fka, zka⟩ := Reg.Blk.facts ka; replace kb := ((kb).alloc _).keep hb; clear ckb fkb zkb; obtain ⟨ckb, fkb, zkb⟩ := Reg.Blk.facts kb; replace kc := ((kc).alloc _).keep hb; clear ckc fkc zkc; obtain ⟨ckc, fkc, zkc⟩ := Reg.Blk.facts kc; replace k1 := ((k1).alloc _).keep hb; clear ck1 fk1 zk1; obtain ⟨ck1, fk1, zk1⟩ := Reg.Blk.facts k1; replace k2 := ((k2).alloc _).keep hb; clear ck2 fk2 zk2; obtain ⟨ck2, fk2, zk2⟩ := Reg.Blk.facts k2; clear hb) | (replace hT := ((hT.alloc hT.size _).alloc (Nat.le_trans hT.size (by simp; try omega)) _).trans (hb.mono (Nat.le_trans hT.size (by simp; try omega))); replace ka := (((ka).alloc _).alloc _).keep hb; clear cka fka zka; obtain ⟨cka, fka, zka⟩ := Reg.Blk.facts ka; replace kb := (((kb).alloc _).alloc _).keep hb; clear ckb fkb zkb; obtain ⟨ckb, fkb, zkb⟩ := Reg.Blk.facts kb; replace kc := (((kc).alloc _).alloc _).keep hb; clear ckc fkc zkc; obtain ⟨ckc, fkc, zkc⟩ := Reg.Blk.facts kc; replace k1 := (((k1).alloc _).alloc _).keep hb; clear ck1 fk1 zk1; obtain ⟨ck1, fk1, zk1⟩ := Reg.Blk.facts k1; replace k2 := (((k2).alloc _).alloc _).keep hb; clear ck2 fk2 zk2; obtain ⟨ck2, fk2, zk2⟩ := Reg.Blk.facts k2; clear hb) | (replace hT := (((hT.alloc hT.size _).alloc (Nat.le_trans hT.size (by simp; try omega)) _).alloc (Nat.le_trans hT.size (by simp; try omega)) _).trans (hb.mono (Nat.le_trans hT.size (by simp; try omega))); replace ka := ((((ka).alloc _).alloc _).alloc _).keep hb; clear cka fka zka; obtain ⟨cka, fka, zka⟩ := Reg.Blk.facts ka; replace kb := ((((kb).alloc _).alloc _).alloc _).keep hb; clear ckb fkb zkb; obtain ⟨ckb, fkb, zkb⟩ := Reg.Blk.facts kb; replace kc := ((((kc).alloc _).alloc _).alloc _).keep hb; clear ckc fkc zkc; obtain ⟨ckc, fkc, zkc⟩ := Reg.Blk.facts kc; replace k1 := ((((k1).alloc _).alloc _).alloc _).keep hb; clear ck1 fk1 zk1; obtain ⟨ck1, fk1, zk1⟩ := Reg.Blk.facts k1; replace k2 := ((((k2).alloc _).alloc _).alloc _).keep hb; clear ck2 fk2 zk2; obtain ⟨ck2, fk2, zk2⟩ := Reg.Blk.facts k2; clear hb) | (replace hT := ((((hT.alloc hT.size _).alloc (Nat.le_trans hT.size (by simp; try omega)) _).alloc (Nat.le_trans hT.size (by simp; try omega)) _).alloc (Nat.le_trans hT.size (by simp; try omega)) _).trans (hb.mono (Nat.le_trans hT.size (by simp; try omega))); replace ka := (((((ka).alloc _).alloc _).alloc _).alloc _).keep hb; clear cka fka zka; obtain ⟨cka, fka, zka⟩ := Reg.Blk.facts ka; replace kb := (((((kb).alloc _).alloc _).alloc _).alloc _).keep hb; clear ckb fkb zkb; obtain ⟨ckb, fkb, zkb⟩ := Reg.Blk.facts kb; replace kc := (((((kc).alloc _).alloc _).alloc _).alloc _).keep hb; clear ckc fkc zkc; obtain ⟨ckc, fkc, zkc⟩ := Reg.Blk.facts kc; replace k1 := (((((k1).alloc _).alloc _).alloc _).alloc _).keep hb; clear ck1 fk1 zk1; obtain ⟨ck1, fk1, zk1⟩ := Reg.Blk.facts k1; replace k2 := (((((k2).alloc _).alloc _).alloc _).alloc _).keep hb; clear ck2 fk2 zk2; obtain ⟨ck2, fk2, zk2⟩ := Reg.Blk.facts k2; clear hb) | (replace hT := (((((hT.alloc hT.size _).alloc (Nat.le_trans hT.size (by simp; try omega)) _).alloc (Nat.le_trans hT.size (by simp; try omega)) _).alloc (Nat.le_trans hT.size (by simp; try omega)) _).alloc (Nat.le_trans hT.size (by simp; try omega)) _).trans (hb.mono (Nat.le_trans hT.size (by simp; try omega))); replace ka := ((((((ka).alloc _).alloc _).alloc _).alloc _).alloc _).keep hb; clear cka fka zka; obtain ⟨cka, fka, zka⟩ := Reg.Blk.facts ka; replace kb := ((((((kb).alloc _).alloc _).alloc _).alloc _).alloc _).keep hb; clear ckb fkb zkb; obtain ⟨ckb, fkb, zkb⟩ := Reg.Blk.facts kb; replace kc := ((((((kc).alloc _).alloc _).alloc _).alloc _).alloc _).keep hb; clear ckc fkc zkc; obtain ⟨ckc, fkc, zkc⟩ := Reg.Blk.facts kc; replace k1 := ((((((k1).alloc _).alloc _).alloc _).alloc _).alloc _).keep hb; clear ck1 fk1 zk1; obtain ⟨ck1, fk1, zk1⟩ := Reg.Blk.facts k1; replace k2 := ((((((k2).alloc _).alloc _).alloc _).alloc _).alloc _).keep hb; clear ck2 fk2 zk2; obtain ⟨ck2, fk2, zk2⟩ := Reg.Blk.facts k2; clear hb)
        obtain ⟨ckx, fkx, zkx⟩ := Reg.Blk.facts kx
        clear s2 s4 q1 q2 q4 q5 q6 q7
        obtain ⟨_, _, ⟨f1, f2⟩, ⟨f3, f4⟩⟩ := foot_bd (gm_in x1) (gm_in y1) (gm_in x2) (gm_in y2) (gm_in x3) (gm_in y3)
        obtain ⟨d1, d2⟩ := distI_in (gm_in x1) (gm_in y1) iX iY
        clear hfe
        go_wp2_with fail
        have HB2 := Lib.hid hb2
        clear hb2
        refine Reg.wp_region_seq (by kernel_rfl) (by kernel_rfl) ?_
        simp only
        iterate 11
          apply Reg.SeqOK.val
          · intro γ W hW K hK
            obtain ⟨hc, hf, _⟩ := bcell hW
            simp only [Act.put, List.setIfInBounds_toArray, List.set_cons_zero, List.set_cons_succ] at hK
            unfold Reg.Does
            go_simp
            try simp only [IntWalk.i64_left]
            first
              | exact hK _ (Below.refl _ _)
              | (go_at_call 18; (with_reducible refine (dist_any _ _ _ _ _).mono ?_); rintro e w' ⟨rfl, hb⟩; exact hK _ hb)
              | (go_at_call 26; (with_reducible refine (compare_any _ _ _ _ _ ⟨by omega, by omega⟩ ⟨by omega, by omega⟩ ⟨by omega, by omega⟩ ⟨by omega, by omega⟩).mono ?_); rintro e w' ⟨rfl, hb⟩; exact hK _ hb)
          simp only [Act.put, List.setIfInBounds_toArray, List.set_cons_zero, List.set_cons_succ, List.nil_append, List.cons_append, Nat.reduceAdd, Nat.zero_add]
        refine Reg.SeqOK.nil (by kernel_rfl) (fun γ W hW _ _ _ => ?_)
        have hb := hW
        clear hW
        first | (replace hT := (hT).trans (hb.mono hT.size); replace ka := (ka).keep hb; clear cka fka zka; obtain ⟨cka, fka, zka⟩ := Reg.Blk.facts ka; replace kb := (kb).keep hb; clear ckb fkb zkb; obtain ⟨ckb, fkb, zkb⟩ := Reg.Blk.facts kb; replace kc := (kc).keep hb; clear ckc fkc zkc; obtain ⟨ckc, fkc, zkc⟩ := Reg.Blk.facts kc; replace k1 := (k1).keep hb; clear ck1 fk1 zk1; obtain ⟨ck1, fk1, zk1⟩ := Reg.Blk.facts k1; replace k2 := (k2).keep hb; clear ck2 fk2 zk2; obtain ⟨ck2, fk2, zk2⟩ := Reg.Blk.facts k2; replace kx := (kx).keep hb; clear ckx fkx zkx; obtain ⟨ckx, fkx, zkx⟩ := Reg.Blk.facts kx; clear hb) | (replace hT := (hT.alloc hT.size _).trans (hb.mono (Nat.le_trans hT.size (by simp; try omega))); replace ka := ((ka).alloc _).keep hb; clear cka fka zka; obtain ⟨cka, fka, zka⟩ := Reg.Blk.facts ka; replace kb := ((kb).alloc _).keep hb; clear ckb fkb zkb; obtain ⟨ckb, fkb, zkb⟩ := Reg.Blk.facts kb; replace kc := ((kc).alloc _).keep hb; clear ckc fkc zkc; obtain ⟨ckc, fkc, zkc⟩ := Reg.Blk.facts kc; replace k1 := ((k1).alloc _).keep hb; clear ck1 fk1 zk1; obtain ⟨ck1, fk1, zk1⟩ := Reg.Blk.facts k1; replace k2 := ((k2).alloc _).keep hb; clear ck2 fk2 zk2; obtain ⟨ck2, fk2, zk2⟩ := Reg.Blk.facts k2; replace kx := ((kx).alloc _).keep hb; clear ckx fkx zkx; obtain ⟨ckx, fkx, zkx⟩ := Reg.Blk.facts kx; clear hb) | (replace hT := ((hT.alloc hT.size _).alloc (Nat.le_trans hT.size (by simp; try omega)) _).trans (hb.mono (Nat.le_trans hT.size (by simp; try omega))); replace ka := (((ka).alloc _).alloc _).keep hb; clear cka fka zka; obtain ⟨cka, fka, zka⟩ := Reg.Blk.facts ka; replace kb := (((kb).alloc _).alloc _).keep hb; clear ckb fkb zkb; obtain ⟨ckb, fkb, zkb⟩ := Reg.Blk.facts kb; replace kc := (((kc).alloc _).alloc _).keep hb; clear ckc fkc zkc; obtain ⟨ckc, fkc, zkc⟩ := Reg.Blk.facts kc; replace k1 := (((k1).alloc _).alloc _).keep hb; clear ck1 fk1 zk1; obtain ⟨ck1, fk1, zk1⟩ := Reg.Blk.facts k1; replace k2 := (((k2).alloc _).alloc _).keep hb; clear ck2 fk2 zk2; obtain ⟨ck2, fk2, zk2⟩ := Reg.Blk.facts k2; replace kx := (((kx).alloc _).alloc _).keep hb; clear ckx fkx zkx; obtain ⟨ckx, fkx, zkx⟩ := Reg.Blk.facts kx; clear hb) | (replace hT := (((hT.alloc hT.size _).alloc (Nat.le_trans hT.size (by simp; try omega)) _).alloc (Nat.le_trans hT.size (by simp; try omega)) _).trans (hb.mono (Nat.le_trans hT.size (by simp; try omega))); replace ka := ((((ka).alloc _).alloc _).alloc _).keep hb; clear cka fka zka; obtain ⟨cka, fka, zka⟩ := Reg.Blk.facts ka; replace kb := ((((kb).alloc _).alloc _).alloc _).keep hb; clear ckb fkb zkb; obtain ⟨ckb, fkb, zkb⟩ := Reg.Blk.facts kb; replace kc := ((((kc).alloc _).alloc _).alloc _).keep hb; clear ckc fkc zkc; obtain ⟨ckc, fkc, zkc⟩ := Reg.Blk.facts kc; replace k1 := ((((k1).alloc _).alloc _).alloc _).keep hb; clear ck1 fk1 zk1; obtain ⟨ck1, fk1, zk1⟩ := Reg.Blk.facts k1; replace k2 := ((((k2).alloc _).alloc _).alloc _).keep hb; clear ck2 fk2 zk2; obtain ⟨ck2, fk2, zk2⟩ := Reg.Blk.facts k2; replace kx := ((((kx).alloc _).alloc _).alloc _).keep hb; clear ckx fkx zkx; obtain ⟨ckx, fkx, zkx⟩ := Reg.Blk.facts kx; clear hb) | (replace hT := ((((hT.alloc hT.size _).alloc (Nat.le_trans hT.size (by simp; try omega)) _).alloc (Nat.le_trans hT.size (by simp; try omega)) _).alloc (Nat.le_trans hT.size (by simp; try omega)) _).trans (hb.mono (Nat.le_trans hT.size (by simp; try omega))); replace ka := (((((ka).alloc _).alloc _).alloc _).alloc _).keep hb; clear cka fka zka; obtain ⟨cka, fka, zka⟩ := Reg.Blk.facts ka; replace kb := (((((kb).alloc _).alloc _).alloc _).alloc _).keep hb; clear ckb fkb zkb; obtain ⟨ckb, fkb, zkb⟩ := Reg.Blk.facts kb; replace kc := (((((kc).alloc _).alloc _).alloc _).alloc _).keep hb; clear ckc fkc zkc; obtain ⟨ckc, fkc, zkc⟩ := Reg.Blk.facts kc; replace k1 := (((((k1).alloc _).alloc _).alloc _).alloc _).keep hb; clear ck1 fk1 zk1; obtain ⟨ck1, fk1, zk1⟩ := Reg.Blk.facts k1; replace k2 := (((((k2).alloc _).alloc _).alloc _).alloc _).keep hb; clear ck2 fk2 zk2; obtain ⟨ck2, fk2, zk2⟩ := Reg.Blk.facts k2; replace kx := (((((kx).alloc _).alloc _).alloc _).alloc _).keep hb; clear ckx fkx zkx; obtain ⟨ckx, fkx, zkx⟩ := Reg.Blk.facts kx; clear hb) | (replace hT := (((((hT.alloc hT.size _).alloc (Nat.le_trans hT.size (by simp; try omega)) _).alloc (Nat.le_trans hT.size (by simp; try omega)) _).alloc (Nat.le_trans hT.size (by simp; try omega)) _).alloc (Nat.le_trans hT.size (by simp; try omega)) _).trans (hb.mono (Nat.le_trans hT.size (by simp; try omega))); replace ka := ((((((ka).alloc _).alloc _).alloc _).alloc _).alloc _).keep hb; clear cka fka zka; obtain ⟨cka, fka, zka⟩ := Reg.Blk.facts ka; replace kb := ((((((kb).alloc _).alloc _).alloc _).alloc _).alloc _).keep hb; clear ckb fkb zkb; obtain ⟨ckb, fkb, zkb⟩ := Reg.Blk.facts kb; replace kc := ((((((kc).alloc _).alloc _).alloc _).alloc _).alloc _).keep hb; clear ckc fkc zkc; obtain ⟨ckc, fkc, zkc⟩ := Reg.Blk.facts kc; replace k1 := ((((((k1).alloc _).alloc _).alloc _).alloc _).alloc _).keep hb; clear ck1 fk1 zk1; obtain ⟨ck1, fk1, zk1⟩ := Reg.Blk.facts k1; replace k2 := ((((((k2).alloc _).alloc _).alloc _).alloc _).alloc _).keep hb; clear ck2 fk2 zk2; obtain ⟨ck2, fk2, zk2⟩ := Reg.Blk.facts k2; replace kx := ((((((kx).alloc _).alloc _).alloc _).alloc _).alloc _).keep hb; clear ckx fkx zkx; obtain ⟨ckx, fkx, zkx⟩ := Reg.Blk.facts kx; clear hb)
        have hb2 := HB2.out
        go_wp2_with (first | (go_at_call 20; (with_reducible refine (between_any _ _ _ _ _ _ _).mono ?_); rintro e w' ⟨rfl, hb⟩; first | (replace hT := (hT).trans (hb.mono hT.size); replace ka := (ka).keep hb; clear cka fka zka; obtain ⟨cka, fka, zka⟩ := Reg.Blk.facts ka; replace kb := (kb).keep hb; clear ckb fkb zkb; obtain ⟨ckb, fkb, zkb⟩ := Reg.Blk.facts kb; replace kc := (kc).keep hb; clear ckc fkc zkc; obtain ⟨ckc, fkc, zkc⟩ := Reg.Blk.facts kc; replace k1 := (k1).keep hb; clear ck1 fk1 zk1; obtain ⟨ck1, fk1, zk1⟩ := Reg.Blk.facts k1; replace k2 := (k2).keep hb; clear ck2 fk2 zk2; obtain ⟨ck2, fk2, zk2⟩ := Reg.Blk.facts k2; replace kx := (kx).keep hb; clear ckx fkx zkx; obtain ⟨ckx, fkx, zkx⟩ := Reg.Blk.facts kx; clear hb) | (replace hT := (hT.alloc hT.size _).trans (hb.mono (Nat.le_trans hT.size (by simp; try omega))); replace ka := ((ka).alloc _).keep hb; clear cka fka zka; obtain ⟨cka, fka, zka⟩ := Reg.Blk.facts ka; replace kb := ((kb).alloc _).keep hb; clear ckb fkb zkb; obtain ⟨ckb, fkb, zkb⟩ := Reg.Blk.facts kb; replace kc := ((kc).alloc _).keep hb; clear ckc fkc zkc; obtain ⟨ckc, fkc, zkc⟩ := Reg.Blk.facts kc; replace k1 := ((k1).alloc _).keep hb; clear ck1 fk1 zk1; obtain ⟨ck1, fk1, zk1⟩ := Reg.Blk.facts k1; replace k2 := ((k2).alloc _).keep hb; clear ck2 fk2 zk2; obtain ⟨ck2, fk2, zk2⟩ := Reg.Blk.facts k2; replace kx := ((kx).alloc _).keep hb; clear ckx fkx zkx; obtain ⟨ckx, fkx, zkx⟩ := Reg.Blk.facts kx; clear hb) | (replace hT := ((hT.alloc hT.size _).alloc (Nat.le_trans hT.size (by simp; try omega)) _).trans (hb.mono (Nat.le_trans hT.size (by simp; try omega))); replace ka := (((ka).alloc _).alloc _).keep hb; clear cka fka zka; obtain ⟨cka, fka, zka⟩ := Reg.Blk.facts ka; replace kb := (((kb).alloc _).alloc _).keep hb; clear ckb fkb zkb; obtain ⟨ckb, fkb, zkb⟩ := Reg.Blk.facts kb; replace kc := (((kc).alloc _).alloc _).keep hb; clear ckc fkc zkc; obtain ⟨ckc, fkc, zkc⟩ := Reg.Blk.facts kc; replace k1 := (((k1).alloc _).alloc _).keep hb; clear ck1 fk1 zk1; obtain ⟨ck1, fk1, zk1⟩ := Reg.Blk.facts k1; replace k2 := (((k2).alloc _).alloc _).keep hb; clear ck2 fk2 zk2; obtain ⟨ck2, fk2, zk2⟩ := Reg.Blk.facts k2; replace kx := (((kx).alloc _).alloc _).keep hb; clear ckx fkx zkx; obtain ⟨ckx, fkx, zkx⟩ := Reg.Blk.facts kx; clear hb) | (replace hT := (((hT.alloc hT.size _).alloc (Nat.le_trans hT.size (by simp; try omega)) _).alloc (Nat.le_trans hT.size (by simp; try omega)) _).trans (hb.mono (Nat.le_trans hT.size (by simp; try omega))); replace ka := ((((ka).alloc _).alloc _).alloc _).keep hb; clear cka fka zka; obtain ⟨cka, fka, zka⟩ := Reg.Blk.facts ka; replace kb := ((((kb).alloc _).alloc _).alloc _).keep hb; clear ckb fkb zkb; obtain ⟨ckb, fkb, zkb⟩ := Reg.Blk.facts kb; replace kc := ((((kc).alloc _).alloc _).alloc _).keep hb; clear ckc fkc zkc; obtain ⟨ckc, fkc, zkc⟩ := Reg.Blk.facts kc; replace k1 := ((((k1).alloc _).alloc _).alloc _).keep hb; clear ck1 fk1 zk1; obtain ⟨ck1, fk1, zk1⟩ := Reg.Blk.facts k1; replace k2 := ((((k2).alloc _).alloc _).alloc _).keep hb; clear ck2 fk2 zk2; obtain ⟨ck2, fk2, zk2⟩ := Reg.Blk.facts k2; replace kx := ((((kx).alloc _).alloc _).alloc _).keep hb; clear ckx fkx zkx; obtain ⟨ckx, fkx, zkx⟩ := Reg.Blk.facts kx; clear hb) | (replace hT := ((((hT.alloc hT.size _).alloc (Nat.le_trans hT.size (by simp; try omega)) _).alloc (Nat.le_trans hT.size (by simp; try omega)) _).alloc (Nat.le_trans hT.size (by simp; try omega)) _).trans (hb.mono (Nat.le_trans hT.size (by simp; try omega))); replace ka := (((((ka).alloc _).alloc _).alloc _).alloc _).keep hb; clear cka fka zka; obtain ⟨cka, fka, zka⟩ := Reg.Blk.facts ka; replace kb := (((((kb).alloc _).alloc _).alloc _).alloc _).keep hb; clear ckb fkb zkb; obtain ⟨ckb, fkb, zkb⟩ := Reg.Blk.facts kb; replace kc := (((((kc).alloc _).alloc _).alloc _).alloc _).keep hb; clear ckc fkc zkc; obtain ⟨ckc, fkc, zkc⟩ := Reg.Blk.facts kc; replace k1 := (((((k1).alloc _).alloc _).alloc _).alloc _).keep hb; clear ck1 fk1 zk1; obtain ⟨ck1, fk1, zk1⟩ := Reg.Blk.facts k1; replace k2 := (((((k2).alloc _).alloc _).alloc _).alloc _).keep hb; clear ck2 fk2 zk2; obtain ⟨ck2, fk2, zk2⟩ := Reg.Blk.facts k2; replace kx := (((((kx).alloc _).alloc _).alloc _).alloc _).keep hb; clear ckx fkx zkx; obtain ⟨ckx, fkx, zkx⟩ := Reg.Blk.facts kx; clear hb) | (replace hT := (((((hT.alloc hT.size _).alloc (Nat.le_trans hT.size (by simp; try omega)) _).alloc (Nat.le_trans hT.size (by simp; try omega)) _).alloc (Nat.le_trans hT.size (by simp; try omega)) _).alloc (Nat.le_trans hT.size (by simp; try omega)) _).trans (hb.mono (Nat.le_trans hT.size (by simp; try omega))); replace ka := ((((((ka).alloc _).alloc _).alloc _).alloc _).alloc _).keep hb; clear cka fka zka; obtain ⟨cka, fka, zka⟩ := Reg.Blk.facts ka; replace kb := ((((((kb).alloc _).alloc _).alloc _).alloc _).alloc _).keep hb; clear ckb fkb zkb; obtain ⟨ckb, fkb, zkb⟩ := Reg.Blk.facts kb; replace kc := ((((((kc).alloc _).alloc _).alloc _).alloc _).alloc _).keep hb; clear ckc fkc zkc; obtain ⟨ckc, fkc, zkc⟩ := Reg.Blk.facts kc; replace k1 := ((((((k1).alloc _).alloc _).alloc _).alloc _).alloc _).keep hb; clear ck1 fk1 zk1; obtain ⟨ck1, fk1, zk1⟩ := Reg.Blk.facts k1; replace k2 := ((((((k2).alloc _).alloc _).alloc _).alloc _).alloc _).keep hb; clear ck2 fk2 zk2; obtain ⟨ck2, fk2, zk2⟩ := Reg.Blk.facts k2; replace kx := ((((((kx).alloc _).alloc _).alloc _).alloc _).alloc _).keep hb; clear ckx fkx zkx; obtain ⟨ckx, fkx, zkx⟩ := Reg.Blk.facts kx; clear hb)))
        go_ret
        exact ⟨rfl, hT⟩
    · have h0 : decide ((0 : Int) < (n : Int)) = true := by simp; omega
      have h1 : (1 : Int) ≤ (n : Int) := by omega
      have h2 : (0 : Int) ≤ (m : Int) := by omega
      go_wp2_with fail
      have h0n : decide (0 < n) = true := by simp; omega
      try simp only [h0, h0n]
      clear h0n
      have hne : ¬ (n : Int) = 0 := by omega
      have hne2 : ¬ n = 0 := by omega
      clear h0 hfe
      have Hn := Lib.hid hlt
      clear hlt
      generalize hz : decide ((0 : Int) < (n : Int)) = z0
      clear hz
      refine Reg.wp_region_seq (by kernel_rfl) (by kernel_rfl) ?_
      simp only
      iterate 6
        apply Reg.SeqOK.val
        · intro γ W hW K hK
          obtain ⟨hc, hf, _⟩ := bcell hW
          simp only [Act.put, List.setIfInBounds_toArray, List.set_cons_zero, List.set_cons_succ] at hK
          unfold Reg.Does
          go_simp
          try simp only [IntWalk.i64_left]
          first
            | exact hK _ (Below.refl _ _)
        simp only [Act.put, List.setIfInBounds_toArray, List.set_cons_zero, List.set_cons_succ, List.nil_append, List.cons_append, Nat.reduceAdd, Nat.zero_add]
      refine Reg.SeqOK.nil (by kernel_rfl) (fun γ W hW2 _ _ _ => ?_)
      have hw2 : Below W2.heap.size W2 W := hW.trans (hW2.mono hW.size)
      clear hW hW2
      go_wp2_with fail
      have hmod : (m : Int).tmod (n : Int) = ((m % n : Nat) : Int) := by rw [Int.tmod_eq_emod_of_nonneg (by omega)]; rfl
      have hlt2 : m % n < n := Nat.mod_lt _ (by have := Hn.out; omega)
      refine ⟨⟨n, m % n, rfl, by rw [hmod], hn, by omega, ?_, hw2⟩, by simp only [intOf, hmod]; omega⟩
      rw [← Hgcd.out, Nat.gcd_comm m n, Nat.gcd_rec n m, Nat.gcd_comm]

end G
end Go.Proofs.Ythdmkkddhhbbgaa
