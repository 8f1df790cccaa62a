/- Lines: the arguments opened: a place. -/
import Derived.Test.YtjeapimjgojpoaaIo
import Derived.Test.YtjeapimjgojpoaaIg
set_option linter.unusedSimpArgs false
set_option linter.unusedVariables false
set_option maxRecDepth 100000
namespace Go.Proofs.Ytjeapimjgojpoaa.G
open Go Go.ChangeShapes Go.WideShapes Go.ChangeAt Go.RowKit Go.Joins Go.Deep

section
variable {H : Type} {enc : TypeId × Value → H} {w : World} {base : Nat} {spare : Nat → Bool} {held : Bool}
theorem fieldsFr : ∃ f0 f1, Try.prog.underlying 32 = some (.struct #[f0, f1]) ∧ f0.type = 3 ∧ f1.type = 3 ∧ f0.offset = 0 ∧ f1.offset = 1 :=
  ⟨_, _, Try.underlying32, rfl, rfl, rfl, rfl⟩
theorem fieldsSpot : ∃ f0 f1 f2 f3, Try.prog.underlying 34 = some (.struct #[f0, f1, f2, f3]) ∧ (f0.type = 3 ∧ f0.offset = 0) ∧ (f1.type = 32 ∧ f1.offset = 1) ∧ (f2.type = 3 ∧ f2.offset = 3) ∧ (f3.type = 32 ∧ f3.offset = 4) :=
  ⟨_, _, _, _, Try.underlying34, ⟨rfl, rfl⟩, ⟨rfl, rfl⟩, ⟨rfl, rfl⟩, ⟨rfl, rfl⟩⟩
theorem cellsInt : Try.prog.cellsOf 3 = 1 := by kernel_rfl
theorem cellsFr : Try.prog.cellsOf 32 = 2 := by kernel_rfl
theorem cellsSpot : Try.prog.cellsOf 34 = 6 := by kernel_rfl
theorem open_fr {n : Nat} {c0 c1 : Value} {y : DataW H × List MemPlace} (h : DataW.trod enc Try.prog w base spare held n 32 [c0, c1] = some y) : ∃ a b : Int, c0 = .int .i64 a ∧ c1 = .int .i64 b ∧ B64 a ∧ B64 b := by
  obtain ⟨f0, f1, hu, t0, t1, o0, o1⟩ := fieldsFr
  obtain ⟨y0, y1, m, _, _, h0, h1⟩ := trod_struct2 hu h
  rw [t0, o0, cellsInt] at h0
  rw [t1, o1, cellsInt] at h1
  obtain ⟨a, e0, _, wa⟩ := DataW.trod_int Try.underlying3 h0
  obtain ⟨b, e1, _, wb⟩ := DataW.trod_int Try.underlying3 h1
  simp at e0 e1
  exact ⟨a, b, e0, e1, Frame.i64_bd wa, Frame.i64_bd wb⟩
theorem open_spot {r : Reach} {b0 : Nat} {v : Value} {d : DataW H} {p : List MemPlace} (hv : Value.okWide Try.prog w r b0 34 v) (h : DataW.Trod enc Try.prog w base spare held 34 v d p) :
    ∃ s : Spt, v = .agg s.cells ∧ s.B6 := by
  obtain ⟨f0, f1, f2, f3, hs, ⟨t0, o0⟩, ⟨t1, o1⟩, ⟨t2, o2⟩, t3, o3⟩ := fieldsSpot
  obtain ⟨cs, rfl, hsz⟩ := okWide_struct hs hv
  obtain ⟨l⟩ := cs
  match l, hsz.trans cellsSpot with
  | [c0, c1, c2, c3, c4, c5], _ =>
    obtain ⟨fuel, hf⟩ := h
    obtain ⟨xs, n, _, hx, _, hlen, hg⟩ := DataW.trod_struct hs hf
    match xs, hlen with
    | [y0, y1, y2, y3], _ =>
      have T0 := hg 0 f0 rfl
      have T1 := hg 1 f1 rfl
      have T2 := hg 2 f2 rfl
      have T3 := hg 3 f3 rfl
      rw [t0, o0, cellsInt] at T0
      rw [t1, o1, cellsFr] at T1
      rw [t2, o2, cellsInt] at T2
      rw [t3, o3, cellsFr] at T3
      obtain ⟨a, e0, _, wa⟩ := DataW.trod_int Try.underlying3 T0
      obtain ⟨b, c, e1, e2, wb, wc⟩ := open_fr T1
      obtain ⟨d, e3, _, wd⟩ := DataW.trod_int Try.underlying3 T2
      obtain ⟨e, f, e4, e5, we, wf⟩ := open_fr T3
      simp [Value.cells] at e0 e3
      subst e0 e1 e2 e3 e4 e5
      exact ⟨⟨a, b, c, d, e, f⟩, rfl, Frame.i64_bd wa, wb, wc, Frame.i64_bd wd, we, wf⟩
end

end Go.Proofs.Ytjeapimjgojpoaa.G
