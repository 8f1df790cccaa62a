/- Lines: the arguments opened: a slice of points. -/
import Derived.Test.YtjeapimjgojpoaaIh
import Derived.Test.YtjeapimjgojpoaaFrame
import Derived.Deep.Slices
import Derived.Deep.Fields
import Derived.ChangeSame
set_option linter.unusedSimpArgs false
set_option linter.unusedVariables false
set_option maxRecDepth 100000
namespace Go.Proofs.Ytjeapimjgojpoaa.G
open Go Go.ChangeShapes Go.WideShapes Go.ChangeAt Go.RowKit Go.Joins Go.Deep

section
variable {H : Type} {enc : TypeId × Value → H} {P : Program} {w : World} {base : Nat} {spare : Nat → Bool} {held : Bool}
/-- A slice of structs of one-cell fields. -/
theorem open_slice_fields {t e : TypeId} {fs : Array Field} {fuel : Nat} {cs : List Value} {x : DataW H × List MemPlace} (ht : P.underlying t = some (.slice e)) (he : P.underlying e = some (.struct fs))
    (hone : oneCellFields P fs = true) (hC : P.cellsOf e = fs.size) (h : DataW.trod enc P w base spare held fuel t cs = some x) :
    (cs = [.slice none 0 0]) ∨
    ∃ (a : Addr) (len cap m : Nat), cs = [.slice (some a) len cap] ∧ len ≤ cap ∧ cap ≤ maxLen ∧ m = (if spare a.block then cap else len) ∧
      ∀ i, i < m → ∃ (n : Nat), ∀ (j : Nat) (f : Field), fs[j]? = some f → ∃ (v : Value) (y : DataW H × List MemPlace), w.cell? (a.add (i * fs.size + j)) = some v ∧ DataW.trod enc P w base spare held n f.type [v] = some y := by
  rcases open_slice ht h with h0 | ⟨a, len, cap, m, n, D, Pl, hcs, hb, hl, hm, hmm, hx, hi⟩
  · exact .inl h0.1
  · refine .inr ⟨a, len, cap, m, hcs, hl, hm, hmm, fun i him => ?_⟩
    obtain ⟨cs', hc, ht'⟩ := hi i him
    rw [hC] at hc
    obtain ⟨ys, n', hn', hy, hlen, hyl, hf⟩ := DataW.trod_struct he ht'
    obtain ⟨_, hcl, hat⟩ := World.cells?_some hc
    refine ⟨n', fun j f hj => ?_⟩
    obtain ⟨ho, hk⟩ := hone_of hone j f hj
    have hjl : j < fs.size := (Array.getElem?_eq_some_iff.1 hj).1
    have hcell := hat j hjl
    have hv : cs'[j]? = some (cs'[j]'(by omega)) := List.getElem?_eq_getElem (by omega)
    have h1 := hf j f hj
    rw [ho, hk] at h1
    have hone' : (cs'.drop j).take 1 = [cs'[j]'(by omega)] := by
      rw [List.drop_eq_getElem_cons (by omega)]
      rfl
    rw [hone'] at h1
    have hys : ys[j]? = some (ys[j]'(by omega)) := List.getElem?_eq_getElem (by omega)
    refine ⟨_, _, ?_, h1.trans hys⟩
    rw [← Go.Deep.add_add, hcell, hv]
end

section
variable {H : Type} {enc : TypeId × Value → H} {w : World} {base : Nat} {spare : Nat → Bool} {held : Bool}
theorem fieldsPt : ∃ f0 f1, Try.prog.underlying 24 = some (.struct #[f0, f1]) ∧ oneCellFields Try.prog #[f0, f1] = true ∧ f0.type = 3 ∧ f1.type = 3 :=
  ⟨_, _, Try.underlying24, by kernel_rfl, rfl, rfl⟩
theorem cellsPt : Try.prog.cellsOf 24 = 2 := by kernel_rfl
theorem chosen {α : Type} [Inhabited α] {p : Nat → α → Prop} {n : Nat} (h : ∀ i, i < n → ∃ x, p i x) : ∃ f : Nat → α, ∀ i, i < n → p i (f i) :=
  ⟨fun i => if hi : i < n then Classical.choose (h i hi) else default, fun i hi => by simp only [hi, dite_true]; exact Classical.choose_spec (h i hi)⟩

theorem open_line_cs {fuel : Nat} {cs : List Value} {x : DataW H × List MemPlace} (hf : DataW.trod enc Try.prog w base spare held fuel 38 cs = some x) :
    ∃ (A : Option Addr) (c : Nat) (l : List P2), cs = [.slice A l.length c] ∧ LineAt w A l ∧ ((l.length ≤ c ∧ c ≤ maxLen) ∧ (A = none → c = 0)) := by
  obtain ⟨f0, f1, hu, hone, t0, t1⟩ := fieldsPt
  rcases open_slice_fields Try.underlying38 hu hone cellsPt hf with h0 | ⟨a, len, cap, m, hcs, hl, hm, hmm, hi⟩
  · exact ⟨none, 0, [], h0, fun i hi => by simp at hi, ⟨by simp, fun _ => rfl⟩⟩
  · have hlm : len ≤ m := by rw [hmm]; split <;> omega
    have each : ∀ i, i < len → ∃ x : P2, w.cell? (a.add (i * 2)) = some (.int .i64 x.1) ∧ w.cell? (a.add (i * 2 + 1)) = some (.int .i64 x.2) := fun i hil => by
      obtain ⟨n, hF⟩ := hi i (by omega)
      obtain ⟨v0, y0, c0, T0⟩ := hF 0 f0 rfl
      obtain ⟨v1, y1, c1, T1⟩ := hF 1 f1 rfl
      rw [t0] at T0
      rw [t1] at T1
      obtain ⟨x0, e0, _, _⟩ := DataW.trod_int Try.underlying3 T0
      obtain ⟨x1, e1, _, _⟩ := DataW.trod_int Try.underlying3 T1
      simp only [List.cons.injEq, and_true] at e0 e1
      subst e0 e1
      exact ⟨(x0, x1), c0, c1⟩
    obtain ⟨f, hf⟩ := chosen each
    refine ⟨some a, cap, (List.range len).map f, by simpa using hcs, fun i hi => ?_, ⟨⟨by simpa using hl, hm⟩, fun h => by cases h⟩⟩
    have hil : i < len := by simpa using hi
    have hx : pt ((List.range len).map f) i = f i := by unfold pt; simp [hil]
    rw [hx]
    obtain ⟨c0, c1⟩ := hf i hil
    have hsp : a.spot = none := by
      have := (hf 0 (by omega)).1
      rw [Nat.zero_mul] at this
      have e : a.add 0 = a := by simp [Addr.add]
      rw [e] at this
      unfold World.cell? at this
      cases h : a.spot with
      | none => rfl
      | some s => rw [h] at this; revert this; split <;> simp
    obtain ⟨b, off, sp⟩ := a
    simp only at hsp
    subst hsp
    have ea : ∀ k, (⟨b, off, none⟩ : Addr).add k = ⟨b, off + k, none⟩ := fun k => by unfold Addr.add; split <;> simp_all
    rw [ea] at c0 c1
    exact ⟨b, off, rfl, World.block_lt_of_cell? w _ c0, c0, c1⟩
theorem open_line {r : Reach} {b0 : Nat} {v : Value} {d : DataW H} {p : List MemPlace} (hv : Value.okWide Try.prog w r b0 38 v) (h : DataW.Trod enc Try.prog w base spare held 38 v d p) :
    ∃ (A : Option Addr) (c : Nat) (l : List P2), v = .slice A l.length c ∧ LineAt w A l ∧ ((l.length ≤ c ∧ c ≤ maxLen) ∧ (A = none → c = 0)) := by
  obtain ⟨A, len, c, rfl⟩ := okWide_slice Try.underlying38 hv
  obtain ⟨fuel, hf⟩ := h
  obtain ⟨A', c', l, hcs, hl⟩ := open_line_cs hf
  have e : (Value.slice A len c) = .slice A' l.length c' := by simpa [Value.cells] using hcs
  exact ⟨A', c', l, e, hl⟩
theorem addr_zero (a : Addr) : a.add 0 = a := by simp [Addr.add]
theorem no_spot {w : World} {a : Addr} {v : Value} (h : w.cell? a = some v) : ∃ b off, a = ⟨b, off, none⟩ := by
  unfold World.cell? at h
  obtain ⟨b, off, sp⟩ := a
  cases sp with
  | none => exact ⟨b, off, rfl⟩
  | some s => simp only at h; revert h; split <;> simp
theorem open_lines {r : Reach} {b0 : Nat} {v : Value} {d : DataW H} {p : List MemPlace} (hv : Value.okWide Try.prog w r b0 22 v) (h : DataW.Trod enc Try.prog w base spare held 22 v d p) :
    ∃ (A : Option Addr) (c : Nat) (L : List Ln), v = .slice A L.length c ∧ LinesAt w A L ∧ ((L.length ≤ c ∧ c ≤ maxLen) ∧ (A = none → c = 0)) := by
  obtain ⟨A, len, c, rfl⟩ := okWide_slice Try.underlying22 hv
  obtain ⟨fuel, hf⟩ := h
  rcases open_slice1 Try.underlying22 (by kernel_rfl) hf with h0 | ⟨a, len', cap, m, n, V, D, Pl, hcs, hb, hl, hm, hmm, hx, hi⟩
  · have e : (Value.slice A len c) = .slice none 0 0 := by simpa [Value.cells] using h0.1
    injection e with e1 e2 e3
    subst e1 e2 e3
    exact ⟨none, 0, [], rfl, fun i hi => by simp at hi, ⟨by simp, fun _ => rfl⟩⟩
  · have e : (Value.slice A len c) = .slice (some a) len' cap := by simpa [Value.cells] using hcs
    injection e with e1 e2 e3
    subst e1 e2 e3
    have hlm : len ≤ m := by rw [hmm]; split <;> omega
    have each : ∀ i, i < len → ∃ x : Ln, w.cell? (a.add i) = some (.slice x.A x.l.length x.c) ∧ LineAt w x.A x.l ∧ x.l.length ≤ 9223372036854775807 := fun i hil => by
      obtain ⟨hc, ht⟩ := hi i (by omega)
      obtain ⟨A', c', l', hcs', hl', hn'⟩ := open_line_cs ht
      have e : V i = .slice A' l'.length c' := by simpa using hcs'
      refine ⟨⟨A', c', l'⟩, by rw [hc, e], hl', ?_⟩
      have := hn'.1
      unfold maxLen at this
      simp only
      omega
    have inh : Inhabited Ln := ⟨⟨none, 0, []⟩⟩
    obtain ⟨f, hf⟩ := chosen each
    refine ⟨some a, c, (List.range len).map f, by simp, fun i hi => ?_, ⟨⟨by simpa using hl, hm⟩, fun h => by cases h⟩⟩
    have hil : i < len := by simpa using hi
    have hx : ln ((List.range len).map f) i = f i := by unfold ln; simp [hil]
    rw [hx]
    obtain ⟨c0, hl0, hn0⟩ := hf i hil
    have hz := (hf 0 (by omega)).1
    rw [addr_zero] at hz
    obtain ⟨b, off, rfl⟩ := no_spot hz
    have ea : ∀ k, (⟨b, off, none⟩ : Addr).add k = ⟨b, off + k, none⟩ := fun k => by unfold Addr.add; split <;> simp_all
    rw [ea] at c0
    exact ⟨b, off, rfl, World.block_lt_of_cell? w _ c0, c0, hl0, hn0⟩
end
end Go.Proofs.Ytjeapimjgojpoaa.G
