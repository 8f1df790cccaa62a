/- Disk's law: the arguments opened: an operation, a slice of operations. -/
import Derived.Test.YtopjekdhecikdaaDt
import Derived.Test.YtopjekdhecikdaaFrame
import Derived.Deep.Slices
import Derived.Deep.Fields
import Derived.ChangeSame
set_option linter.unusedSimpArgs false
set_option linter.unusedVariables false
set_option maxRecDepth 100000
namespace Go.Proofs.Ytopjekdhecikdaa.D
open Go Go.ChangeShapes Go.WideShapes Go.ChangeAt Go.RowKit Go.Joins Go.Deep

section
variable {H : Type} {enc : TypeId × Value → H} {P : Program} {w : World} {base : Nat} {spare : Nat → Bool} {held : Bool}
/-- A slice of structs of one-cell fields. -/
theorem open_slice_fields {t e : TypeId} {fs : Array Field} {fuel : Nat} {cs : List Value} {x : DataW H × List MemPlace} (ht : P.underlying t = some (.slice e)) (he : P.underlying e = some (.struct fs))
    (hone : oneCellFields P fs = true) (hC : P.cellsOf e = fs.size) (h : DataW.trod enc P w base spare held fuel t cs = some x) :
    (cs = [.slice none 0 0]) ∨
    ∃ (a : Addr) (len cap m : Nat), cs = [.slice (some a) len cap] ∧ len ≤ cap ∧ cap ≤ maxLen ∧ m = (if spare a.block then cap else len) ∧
      ∀ i, i < m → ∃ (n : Nat), ∀ (j : Nat) (f : Field), fs[j]? = some f → ∃ (v : Value) (y : DataW H × List MemPlace), w.cell? (a.add (i * fs.size + j)) = some v ∧ DataW.trod enc P w base spare held n f.type [v] = some y := by
  rcases open_slice ht h with h0 | ⟨a, len, cap, m, n, D, Pl, hcs, hb, hl, hm, hmm, hx, hi⟩
  · exact .inl h0.1
  · refine .inr ⟨a, len, cap, m, hcs, hl, hm, hmm, fun i him => ?_⟩
    obtain ⟨cs', hc, ht'⟩ := hi i him
    rw [hC] at hc
    obtain ⟨ys, n', hn', hy, hlen, hyl, hf⟩ := DataW.trod_struct he ht'
    obtain ⟨_, hcl, hat⟩ := World.cells?_some hc
    refine ⟨n', fun j f hj => ?_⟩
    obtain ⟨ho, hk⟩ := hone_of hone j f hj
    have hjl : j < fs.size := (Array.getElem?_eq_some_iff.1 hj).1
    have hcell := hat j hjl
    have hv : cs'[j]? = some (cs'[j]'(by omega)) := List.getElem?_eq_getElem (by omega)
    have h1 := hf j f hj
    rw [ho, hk] at h1
    have hone' : (cs'.drop j).take 1 = [cs'[j]'(by omega)] := by
      rw [List.drop_eq_getElem_cons (by omega)]
      rfl
    rw [hone'] at h1
    have hys : ys[j]? = some (ys[j]'(by omega)) := List.getElem?_eq_getElem (by omega)
    refine ⟨_, _, ?_, h1.trans hys⟩
    rw [← Go.Deep.add_add, hcell, hv]
end

section
variable {H : Type} {enc : TypeId × Value → H} {w : World} {base : Nat} {spare : Nat → Bool} {held : Bool}
theorem fieldsAct : ∃ f0 f1 f2 f3 f4 f5, Try.prog.underlying 34 = some (.struct #[f0, f1, f2, f3, f4, f5]) ∧ oneCellFields Try.prog #[f0, f1, f2, f3, f4, f5] = true ∧ f0.type = 3 ∧ f1.type = 3 ∧ f2.type = 3 ∧ f3.type = 9 ∧ f4.type = 4 ∧ f5.type = 3 :=
  ⟨_, _, _, _, _, _, Try.underlying34, by kernel_rfl, rfl, rfl, rfl, rfl, rfl, rfl⟩
theorem cellsAct : Try.prog.cellsOf 34 = 6 := by kernel_rfl

theorem open_acts {r : Reach} {b0 : Nat} {v : Value} {d : DataW H} {p : List MemPlace} (hv : Value.okWide Try.prog w r b0 22 v) (h : DataW.Trod enc Try.prog w base spare held 22 v d p) :
    ∃ (A : Option Addr) (c : Nat) (l : List AV), v = .slice A l.length c ∧ ActsAt w A l ∧ l.length ≤ 9223372036854775807 ∧ ∀ a ∈ l, a.aft ≤ 9223372036854775807 := by
  obtain ⟨A, len, c, rfl⟩ := okWide_slice Try.underlying22 hv
  obtain ⟨fuel, hf⟩ := h
  obtain ⟨f0, f1, f2, f3, f4, f5, hu, hone, t0, t1, t2, t3, t4, t5⟩ := fieldsAct
  rcases open_slice_fields Try.underlying22 hu hone cellsAct hf with h0 | ⟨a, len', cap, m, hcs, hl, hm, hmm, hi⟩
  · have e : (Value.slice A len c) = .slice none 0 0 := by simpa [Value.cells] using h0
    injection e with e1 e2 e3
    subst e1 e2 e3
    exact ⟨none, 0, [], rfl, fun i hi => by simp at hi, by simp, fun a ha => by simp at ha⟩
  · have e : (Value.slice A len c) = .slice (some a) len' cap := by simpa [Value.cells] using hcs
    injection e with e1 e2 e3
    subst e1 e2 e3
    have hlm : len ≤ m := by rw [hmm]; split <;> omega
    have each : ∀ i, i < len → ∃ x : AV, x.aft ≤ 9223372036854775807 ∧ w.cell? (a.add (i * 6)) = some (.int .i64 x.kind) ∧ w.cell? (a.add (i * 6 + 1)) = some (.int .i64 x.sec) ∧ w.cell? (a.add (i * 6 + 2)) = some (.int .i64 x.byt) ∧
        w.cell? (a.add (i * 6 + 3)) = some (.string (str x.text)) ∧ w.cell? (a.add (i * 6 + 4)) = some (.bool x.odd) ∧ w.cell? (a.add (i * 6 + 5)) = some (.int .i64 x.aft) := fun i hil => by
      obtain ⟨n, hF⟩ := hi i (by omega)
      obtain ⟨v0, y0, c0, T0⟩ := hF 0 f0 rfl
      obtain ⟨v1, y1, c1, T1⟩ := hF 1 f1 rfl
      obtain ⟨v2, y2, c2, T2⟩ := hF 2 f2 rfl
      obtain ⟨v3, y3, c3, T3⟩ := hF 3 f3 rfl
      obtain ⟨v4, y4, c4, T4⟩ := hF 4 f4 rfl
      obtain ⟨v5, y5, c5, T5⟩ := hF 5 f5 rfl
      rw [t0] at T0
      rw [t1] at T1
      rw [t2] at T2
      rw [t3] at T3
      rw [t4] at T4
      rw [t5] at T5
      obtain ⟨x0, e0, _, _⟩ := DataW.trod_int Try.underlying3 T0
      obtain ⟨x1, e1, _, _⟩ := DataW.trod_int Try.underlying3 T1
      obtain ⟨x2, e2, _, _⟩ := DataW.trod_int Try.underlying3 T2
      obtain ⟨x3, e3, _, _⟩ := DataW.trod_string Try.underlying9 T3
      obtain ⟨x4, e4, _⟩ := DataW.trod_bool Try.underlying4 T4
      obtain ⟨x5, e5, _, w5⟩ := DataW.trod_int Try.underlying3 T5
      simp only [List.cons.injEq, and_true] at e0 e1 e2 e3 e4 e5
      subst e0 e1 e2 e3 e4 e5
      exact ⟨⟨x0, x1, x2, x3.data.toList, x4, x5⟩, (Frame.i64_bd w5).2, c0, c1, c2, by rw [← str_of]; exact c3, c4, c5⟩
    have inh : Inhabited AV := ⟨⟨0, 0, 0, [], false, 0⟩⟩
    obtain ⟨f, hf⟩ := choose_lt (α := AV) (p := fun i x => x.aft ≤ 9223372036854775807 ∧ w.cell? (a.add (i * 6)) = some (.int .i64 x.kind) ∧ w.cell? (a.add (i * 6 + 1)) = some (.int .i64 x.sec) ∧ w.cell? (a.add (i * 6 + 2)) = some (.int .i64 x.byt) ∧
        w.cell? (a.add (i * 6 + 3)) = some (.string (str x.text)) ∧ w.cell? (a.add (i * 6 + 4)) = some (.bool x.odd) ∧ w.cell? (a.add (i * 6 + 5)) = some (.int .i64 x.aft)) each
    refine ⟨some a, c, (List.range len).map f, by simp, fun i hi => ?_, by simp; unfold maxLen at hm; omega, fun x hx => ?_⟩
    · have hil : i < len := by simpa using hi
      have hx : ((List.range len).map f)[i] = f i := by simp
      rw [hx]
      obtain ⟨_, c0, c1, c2, c3, c4, c5⟩ := hf i hil
      have hsp : a.spot = none := by
        have := (hf 0 (by omega)).2.1
        rw [Nat.zero_mul] at this
        have e : a.add 0 = a := by simp [Addr.add]
        rw [e] at this
        unfold World.cell? at this
        cases h : a.spot with
        | none => rfl
        | some s => rw [h] at this; revert this; split <;> simp
      obtain ⟨b, off, sp⟩ := a
      simp only at hsp
      subst hsp
      have ea : ∀ k, (⟨b, off, none⟩ : Addr).add k = ⟨b, off + k, none⟩ := fun k => by unfold Addr.add; split <;> simp_all
      rw [ea] at c0 c1 c2 c3 c4 c5
      exact ⟨b, off, rfl, World.block_lt_of_cell? w _ c0, c0, c1, c2, c3, c4, c5⟩
    · obtain ⟨i, hi, rfl⟩ := List.mem_map.1 hx
      exact (hf i (List.mem_range.1 hi)).1

theorem open_act {r : Reach} {b0 : Nat} {v : Value} {d : DataW H} {p : List MemPlace} (hv : Value.okWide Try.prog w r b0 34 v) (h : DataW.Trod enc Try.prog w base spare held 34 v d p) :
    ∃ x : AV, v = .agg #[.int .i64 x.kind, .int .i64 x.sec, .int .i64 x.byt, .string (str x.text), .bool x.odd, .int .i64 x.aft] := by
  obtain ⟨f0, f1, f2, f3, f4, f5, hs, hone, t0, t1, t2, t3, t4, t5⟩ := fieldsAct
  obtain ⟨cs, rfl, hsz⟩ := okWide_struct hs hv
  obtain ⟨l⟩ := cs
  match l, hsz.trans cellsAct with
  | [c0, c1, c2, c3, c4, c5], _ =>
    obtain ⟨fuel, hf⟩ := h
    obtain ⟨xs, n, _, hx, _, hlen, hg⟩ := DataW.trod_struct hs hf
    obtain ⟨o0, k0⟩ := hone_of hone 0 f0 rfl
    obtain ⟨o1, k1⟩ := hone_of hone 1 f1 rfl
    obtain ⟨o2, k2⟩ := hone_of hone 2 f2 rfl
    obtain ⟨o3, k3⟩ := hone_of hone 3 f3 rfl
    obtain ⟨o4, k4⟩ := hone_of hone 4 f4 rfl
    obtain ⟨o5, k5⟩ := hone_of hone 5 f5 rfl
    match xs, hlen with
    | [y0, y1, y2, y3, y4, y5], _ =>
      have T0 : DataW.trod enc Try.prog w base spare held n f0.type [c0] = some y0 := by simpa [Value.cells, o0, k0] using hg 0 f0 rfl
      have T1 : DataW.trod enc Try.prog w base spare held n f1.type [c1] = some y1 := by simpa [Value.cells, o1, k1] using hg 1 f1 rfl
      have T2 : DataW.trod enc Try.prog w base spare held n f2.type [c2] = some y2 := by simpa [Value.cells, o2, k2] using hg 2 f2 rfl
      have T3 : DataW.trod enc Try.prog w base spare held n f3.type [c3] = some y3 := by simpa [Value.cells, o3, k3] using hg 3 f3 rfl
      have T4 : DataW.trod enc Try.prog w base spare held n f4.type [c4] = some y4 := by simpa [Value.cells, o4, k4] using hg 4 f4 rfl
      have T5 : DataW.trod enc Try.prog w base spare held n f5.type [c5] = some y5 := by simpa [Value.cells, o5, k5] using hg 5 f5 rfl
      rw [t0] at T0
      rw [t1] at T1
      rw [t2] at T2
      rw [t3] at T3
      rw [t4] at T4
      rw [t5] at T5
      obtain ⟨x0, e0, _, _⟩ := DataW.trod_int Try.underlying3 T0
      obtain ⟨x1, e1, _, _⟩ := DataW.trod_int Try.underlying3 T1
      obtain ⟨x2, e2, _, _⟩ := DataW.trod_int Try.underlying3 T2
      obtain ⟨x3, e3, _, _⟩ := DataW.trod_string Try.underlying9 T3
      obtain ⟨x4, e4, _⟩ := DataW.trod_bool Try.underlying4 T4
      obtain ⟨x5, e5, _, _⟩ := DataW.trod_int Try.underlying3 T5
      simp only [List.cons.injEq, and_true] at e0 e1 e2 e3 e4 e5
      subst e0 e1 e2 e3 e4 e5
      exact ⟨⟨x0, x1, x2, x3.data.toList, x4, x5⟩, by simp only; rw [← str_of]⟩
end
end Go.Proofs.Ytopjekdhecikdaa.D
