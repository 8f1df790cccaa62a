/- Net's law: the steps opened. -/
import Derived.Test.YtklcpopnggiepaaOn
set_option linter.unusedSimpArgs false
set_option linter.unusedVariables false
set_option maxRecDepth 100000
namespace Go.Proofs.Ytklcpopnggiepaa.N
open Go Go.ChangeShapes Go.WideShapes Go.ChangeAt Go.RowKit Go.Joins Go.Deep

section
variable {H : Type} {enc : TypeId × Value → H} {P : Program} {w : World} {base : Nat} {spare : Nat → Bool} {held : Bool}
/-- A slice of structs of one-cell fields. -/
theorem open_slice_fields {t e : TypeId} {fs : Array Field} {fuel : Nat} {cs : List Value} {x : DataW H × List MemPlace} (ht : P.underlying t = some (.slice e)) (he : P.underlying e = some (.struct fs))
    (hone : oneCellFields P fs = true) (hC : P.cellsOf e = fs.size) (h : DataW.trod enc P w base spare held fuel t cs = some x) :
    (cs = [.slice none 0 0]) ∨
    ∃ (a : Addr) (len cap m : Nat), cs = [.slice (some a) len cap] ∧ len ≤ cap ∧ cap ≤ maxLen ∧ m = (if spare a.block then cap else len) ∧
      ∀ i, i < m → ∃ (n : Nat), ∀ (j : Nat) (f : Field), fs[j]? = some f → ∃ (v : Value) (y : DataW H × List MemPlace), w.cell? (a.add (i * fs.size + j)) = some v ∧ DataW.trod enc P w base spare held n f.type [v] = some y := by
  rcases open_slice ht h with h0 | ⟨a, len, cap, m, n, D, Pl, hcs, hb, hl, hm, hmm, hx, hi⟩
  · exact .inl h0.1
  · refine .inr ⟨a, len, cap, m, hcs, hl, hm, hmm, fun i him => ?_⟩
    obtain ⟨cs', hc, ht'⟩ := hi i him
    rw [hC] at hc
    obtain ⟨ys, n', hn', hy, hlen, hyl, hf⟩ := DataW.trod_struct he ht'
    obtain ⟨_, hcl, hat⟩ := World.cells?_some hc
    refine ⟨n', fun j f hj => ?_⟩
    obtain ⟨ho, hk⟩ := hone_of hone j f hj
    have hjl : j < fs.size := (Array.getElem?_eq_some_iff.1 hj).1
    have hcell := hat j hjl
    have hv : cs'[j]? = some (cs'[j]'(by omega)) := List.getElem?_eq_getElem (by omega)
    have h1 := hf j f hj
    rw [ho, hk] at h1
    have hone' : (cs'.drop j).take 1 = [cs'[j]'(by omega)] := by
      rw [List.drop_eq_getElem_cons (by omega)]
      rfl
    rw [hone'] at h1
    have hys : ys[j]? = some (ys[j]'(by omega)) := List.getElem?_eq_getElem (by omega)
    refine ⟨_, _, ?_, h1.trans hys⟩
    rw [← Go.Deep.add_add, hcell, hv]
end


section
variable {H : Type} {enc : TypeId × Value → H} {w : World} {base : Nat} {spare : Nat → Bool} {held : Bool}
theorem fieldsStep : ∃ f0 f1 f2 f3 f4 f5 f6, Try.prog.underlying 46 = some (.struct #[f0, f1, f2, f3, f4, f5, f6]) ∧ oneCellFields Try.prog #[f0, f1, f2, f3, f4, f5, f6] = true ∧ f0.type = 3 ∧ f1.type = 3 ∧ f2.type = 3 ∧ f3.type = 3 ∧ f4.type = 9 ∧ f5.type = 4 ∧ f6.type = 4 :=
  ⟨_, _, _, _, _, _, _, Try.underlying46, by kernel_rfl, rfl, rfl, rfl, rfl, rfl, rfl, rfl⟩
theorem cellsStep : Try.prog.cellsOf 46 = 7 := by kernel_rfl

theorem open_steps {r : Reach} {b0 : Nat} {v : Value} {d : DataW H} {p : List MemPlace} (hv : Value.okWide Try.prog w r b0 37 v) (h : DataW.Trod enc Try.prog w base spare held 37 v d p) :
    ∃ (A : Option Addr) (c : Nat) (l : List SV), v = .slice A l.length c ∧ StepsAt w A l ∧ l.length ≤ 9223372036854775807 ∧ ∀ x ∈ l, B64 x.a ∧ B64 x.b := by
  obtain ⟨A, len, c, rfl⟩ := okWide_slice Try.underlying37 hv
  obtain ⟨fuel, hf⟩ := h
  obtain ⟨f0, f1, f2, f3, f4, f5, f6, hu, hone, t0, t1, t2, t3, t4, t5, t6⟩ := fieldsStep
  rcases open_slice_fields Try.underlying37 hu hone cellsStep hf with h0 | ⟨a, len', cap, m, hcs, hl, hm, hmm, hi⟩
  · have e : (Value.slice A len c) = .slice none 0 0 := by simpa [Value.cells] using h0
    injection e with e1 e2 e3
    subst e1 e2 e3
    exact ⟨none, 0, [], rfl, fun i hi => by simp at hi, by simp, fun a ha => by simp at ha⟩
  · have e : (Value.slice A len c) = .slice (some a) len' cap := by simpa [Value.cells] using hcs
    injection e with e1 e2 e3
    subst e1 e2 e3
    have hlm : len ≤ m := by rw [hmm]; split <;> omega
    have each : ∀ i, i < len → ∃ x : SV, (B64 x.a ∧ B64 x.b) ∧ w.cell? (a.add (i * 7)) = some (.int .i64 x.kind) ∧ w.cell? (a.add (i * 7 + 1)) = some (.int .i64 x.a) ∧ w.cell? (a.add (i * 7 + 2)) = some (.int .i64 x.b) ∧ w.cell? (a.add (i * 7 + 3)) = some (.int .i64 x.n) ∧ w.cell? (a.add (i * 7 + 4)) = some (.string (str x.text)) ∧ w.cell? (a.add (i * 7 + 5)) = some (.bool x.lost) ∧ w.cell? (a.add (i * 7 + 6)) = some (.bool x.again) := fun i hil => by
      obtain ⟨n, hF⟩ := hi i (by omega)
      obtain ⟨v0, y0, c0, T0⟩ := hF 0 f0 rfl
      obtain ⟨v1, y1, c1, T1⟩ := hF 1 f1 rfl
      obtain ⟨v2, y2, c2, T2⟩ := hF 2 f2 rfl
      obtain ⟨v3, y3, c3, T3⟩ := hF 3 f3 rfl
      obtain ⟨v4, y4, c4, T4⟩ := hF 4 f4 rfl
      obtain ⟨v5, y5, c5, T5⟩ := hF 5 f5 rfl
      obtain ⟨v6, y6, c6, T6⟩ := hF 6 f6 rfl
      rw [t0] at T0
      rw [t1] at T1
      rw [t2] at T2
      rw [t3] at T3
      rw [t4] at T4
      rw [t5] at T5
      rw [t6] at T6
      obtain ⟨x0, e0, _, w0⟩ := DataW.trod_int Try.underlying3 T0
      obtain ⟨x1, e1, _, w1⟩ := DataW.trod_int Try.underlying3 T1
      obtain ⟨x2, e2, _, w2⟩ := DataW.trod_int Try.underlying3 T2
      obtain ⟨x3, e3, _, w3⟩ := DataW.trod_int Try.underlying3 T3
      obtain ⟨x4, e4, _, _⟩ := DataW.trod_string Try.underlying9 T4
      obtain ⟨x5, e5, _⟩ := DataW.trod_bool Try.underlying4 T5
      obtain ⟨x6, e6, _⟩ := DataW.trod_bool Try.underlying4 T6
      simp only [List.cons.injEq, and_true] at e0 e1 e2 e3 e4 e5 e6
      subst e0 e1 e2 e3 e4 e5 e6
      exact ⟨⟨x0, x1, x2, x3, x4.data.toList, x5, x6⟩, ⟨Frame.i64_bd w1, Frame.i64_bd w2⟩, c0, c1, c2, c3, by rw [← str_of]; exact c4, c5, c6⟩
    have inh : Inhabited SV := ⟨⟨0, 0, 0, 0, [], false, false⟩⟩
    obtain ⟨f, hf⟩ := choose_lt (α := SV) (p := fun i x => (B64 x.a ∧ B64 x.b) ∧ w.cell? (a.add (i * 7)) = some (.int .i64 x.kind) ∧ w.cell? (a.add (i * 7 + 1)) = some (.int .i64 x.a) ∧ w.cell? (a.add (i * 7 + 2)) = some (.int .i64 x.b) ∧ w.cell? (a.add (i * 7 + 3)) = some (.int .i64 x.n) ∧ w.cell? (a.add (i * 7 + 4)) = some (.string (str x.text)) ∧ w.cell? (a.add (i * 7 + 5)) = some (.bool x.lost) ∧ w.cell? (a.add (i * 7 + 6)) = some (.bool x.again)) each
    refine ⟨some a, c, (List.range len).map f, by simp, fun i hi => ?_, by simp; unfold maxLen at hm; omega, fun x hx => ?_⟩
    · have hil : i < len := by simpa using hi
      have hx : ((List.range len).map f)[i] = f i := by simp
      rw [hx]
      obtain ⟨_, c0, c1, c2, c3, c4, c5, c6⟩ := hf i hil
      have hsp := (hf 0 (by omega)).2.1
      rw [Nat.zero_mul] at hsp
      obtain ⟨b, off, rfl⟩ := spotless hsp
      rw [add_at] at c0 c1 c2 c3 c4 c5 c6
      exact ⟨b, off, rfl, World.block_lt_of_cell? w _ c0, c0, c1, c2, c3, c4, c5, c6⟩
    · obtain ⟨i, hi, rfl⟩ := List.mem_map.1 hx
      exact (hf i (List.mem_range.1 hi)).1
end
end Go.Proofs.Ytklcpopnggiepaa.N
