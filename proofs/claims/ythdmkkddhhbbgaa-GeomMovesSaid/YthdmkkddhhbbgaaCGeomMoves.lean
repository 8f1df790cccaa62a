/- 'GeomMovesSaid': the law returns true for every input, and its arguments read afterwards as before. No conditions. -/
import Derived.Test.YthdmkkddhhbbgaaRows
import Derived.Test.YthdmkkddhhbbgaaLV
import Derived.Test.YthdmkkddhhbbgaaFrame
set_option linter.unusedSimpArgs false
set_option linter.unusedVariables false
set_option maxRecDepth 100000
namespace Go.Proofs.Ythdmkkddhhbbgaa.geomMoves
open Go.ChangeShapes Go.WideShapes Go.ChangeAt Go.RowKit Go.Joins Go.Deep
set_option linter.unusedVariables false
set_option linter.unusedSimpArgs false

theorem own : ownKnob Try.prog.godebug = none := by kernel_rfl
theorem laidOut : laidOutB Try.prog = true := by kernel_rfl
theorem cellsPt : Try.prog.cellsOf 23 = 2 := by kernel_rfl

set_option maxRecDepth 100000 in
theorem lifted (os : Os) (started : os.Started) (H : Type) (enc : TypeId × Value → H) :
    ReturnsInHanded {} Try.checked os 8 .any (Rows.geomMovesSpec.pre6 enc Try.prog Try.f8 Rows.geomMovesRow.domain false) (Rows.geomMovesSpec.post enc Try.prog Try.f8 false true false false) := by
  refine returnsInHanded_of_change (C := Try.checked) own started (by kernel_rfl) Try.func8
    (ChangeSpec.witness6 (enc := enc) (C := Try.checked) false ⟨#[], #[.agg #[.int .i64 0, .int .i64 0], .agg #[.int .i64 0, .int .i64 0], .agg #[.int .i64 0, .int .i64 0], .agg #[.int .i64 0, .int .i64 0], .int .u16 0, .int .u16 0], []⟩ 8 (by kernel_rfl) (by kernel_rfl) (by kernel_rfl) (by kernel_rfl)) ?_
  intro W base args ds gs before hval0 hW hcnd _
  have hval : ∀ (j : Nat) t v, Try.f8.params[j]? = some t → args[j]? = some v → Value.okWide Try.prog W .any base t v := hval0
  have hW' := hW
  obtain ⟨p, q, hA0, hV, hpq, hfz, hnd⟩ := hW
  have hA : DataW.TrodAll enc Try.prog W 0 (fun _ => true) true Try.f8.params.toList args.toList ds p := hA0
  rw [Try.params8] at hA hval
  obtain ⟨v0, vs0, d0, ds0, p0, q0, hargs, rfl, rfl, h0, r0⟩ := trodAll_cons hA
  obtain ⟨v1, vs1, d1, ds1, p1, q1, rfl, rfl, rfl, h1, r1⟩ := trodAll_cons r0
  obtain ⟨v2, vs2, d2, ds2, p2, q2, rfl, rfl, rfl, h2, r2⟩ := trodAll_cons r1
  obtain ⟨v3, vs3, d3, ds3, p3, q3, rfl, rfl, rfl, h3, r3⟩ := trodAll_cons r2
  obtain ⟨v4, vs4, d4, ds4, p4, q4, rfl, rfl, rfl, h4, r4⟩ := trodAll_cons r3
  obtain ⟨v5, vs5, d5, ds5, p5, q5, rfl, rfl, rfl, h5, r5⟩ := trodAll_cons r4
  obtain ⟨rfl, rfl, rfl⟩ := trodAll_nil r5
  obtain rfl : args = #[v0, v1, v2, v3, v4, v5] := by cases args; simp_all
  obtain ⟨x0, y0, rfl, bx0, by0⟩ := Frame.open_pt Try.underlying23 (by kernel_rfl) cellsPt rfl rfl Try.underlying3 (hval 0 23 v0 rfl rfl) h0
  obtain ⟨x1, y1, rfl, bx1, by1⟩ := Frame.open_pt Try.underlying23 (by kernel_rfl) cellsPt rfl rfl Try.underlying3 (hval 1 23 v1 rfl rfl) h1
  obtain ⟨x2, y2, rfl, bx2, by2⟩ := Frame.open_pt Try.underlying23 (by kernel_rfl) cellsPt rfl rfl Try.underlying3 (hval 2 23 v2 rfl rfl) h2
  obtain ⟨x3, y3, rfl, bx3, by3⟩ := Frame.open_pt Try.underlying23 (by kernel_rfl) cellsPt rfl rfl Try.underlying3 (hval 3 23 v3 rfl rfl) h3
  obtain ⟨n4, rfl, _, _, wn4⟩ := open_int Try.underlying37 (hval 4 37 v4 rfl rfl) h4
  obtain ⟨n5, rfl, _, _, wn5⟩ := open_int Try.underlying37 (hval 5 37 v5 rfl rfl) h5
  refine (G.moves_walk x0 y0 x1 y1 x2 y2 x3 y3 n4 n5 W bx0 by0 bx1 by1 bx2 by2 bx3 by3 (Frame.u16_bd wn4) (Frame.u16_bd wn5)).mono fun e W' ⟨he, hb⟩ => ?_
  subst he
  exact ⟨_, rfl, Frame.law_post laidOut (by kernel_rfl) (by kernel_rfl : Try.f8.resultTypes = #[4]) Try.underlying4 rfl hW' (by kernel_rfl) hb⟩

theorem over : Rows.geomMovesRow.holds Try.pinned (OpenSpec.ofChange Rows.geomMovesSpec) :=
  OpenClaim.holds_of_wide 8 Try.f8 rfl rfl rfl rfl rfl rfl rfl ⟨rfl, rfl, rfl, rfl, rfl⟩ rfl rfl rfl rfl rfl (by kernel_rfl) Try.func8 (by kernel_rfl)
    (of_decide_eq_true (by kernel_rfl)) (by unfold Func.isWrapper; first | (rw [if_pos (by decide +kernel)]; kernel_rfl) | (rw [if_neg (by decide +kernel)]; exact ⟨rfl, rfl⟩))
    (fun os started H enc _ => lifted os started H enc)

theorem proved : Rows.GeomMovesSaid :=
  over
end Go.Proofs.Ythdmkkddhhbbgaa.geomMoves
