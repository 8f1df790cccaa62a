/- Net's law: the arguments opened: texts, bools, steps. -/
import Derived.Test.YtklcpopnggiepaaNl
import Derived.Test.YtklcpopnggiepaaFrame
import Derived.Deep.Slices
import Derived.Deep.Fields
import Derived.Deep.Grids
import Derived.SliceStrings
import Derived.ChangeSame
set_option linter.unusedSimpArgs false
set_option linter.unusedVariables false
set_option maxRecDepth 100000
namespace Go.Proofs.Ytklcpopnggiepaa.N
open Go Go.ChangeShapes Go.WideShapes Go.ChangeAt Go.RowKit Go.Joins Go.Deep

/-- The steps in memory. -/
def StepsAt (w : World) (A : Option Addr) (l : List SV) : Prop := ∀ i (hi : i < l.length), ∃ b off, A = some ⟨b, off, none⟩ ∧ b < w.heap.size ∧
  w.cell? ⟨b, off + i * 7, none⟩ = some (.int .i64 l[i].kind) ∧ w.cell? ⟨b, off + (i * 7 + 1), none⟩ = some (.int .i64 l[i].a) ∧ w.cell? ⟨b, off + (i * 7 + 2), none⟩ = some (.int .i64 l[i].b) ∧
  w.cell? ⟨b, off + (i * 7 + 3), none⟩ = some (.int .i64 l[i].n) ∧ w.cell? ⟨b, off + (i * 7 + 4), none⟩ = some (.string (str l[i].text)) ∧ w.cell? ⟨b, off + (i * 7 + 5), none⟩ = some (.bool l[i].lost) ∧ w.cell? ⟨b, off + (i * 7 + 6), none⟩ = some (.bool l[i].again)
theorem StepsAt.below {w w' : World} {A : Option Addr} {l : List SV} (h : StepsAt w A l) (hb : Below w.heap.size w w') : StepsAt w' A l := fun i hi => by
  obtain ⟨b, off, hA, hlt, c0, c1, c2, c3, c4, c5, c6⟩ := h i hi
  exact ⟨b, off, hA, Nat.lt_of_lt_of_le hlt hb.size, (hb.cell (p := ⟨b, _, none⟩) hlt).trans c0, (hb.cell (p := ⟨b, _, none⟩) hlt).trans c1, (hb.cell (p := ⟨b, _, none⟩) hlt).trans c2, (hb.cell (p := ⟨b, _, none⟩) hlt).trans c3, (hb.cell (p := ⟨b, _, none⟩) hlt).trans c4, (hb.cell (p := ⟨b, _, none⟩) hlt).trans c5, (hb.cell (p := ⟨b, _, none⟩) hlt).trans c6⟩
def BoolsAt (w : World) (A : Option Addr) (l : List Bool) : Prop := ∀ i (hi : i < l.length), ∃ b off, A = some ⟨b, off, none⟩ ∧ b < w.heap.size ∧ w.cell? ⟨b, off + i, none⟩ = some (.bool l[i])
theorem BoolsAt.below {w w' : World} {A : Option Addr} {l : List Bool} (h : BoolsAt w A l) (hb : Below w.heap.size w w') : BoolsAt w' A l := fun i hi => by
  obtain ⟨b, off, hA, hlt, c⟩ := h i hi
  exact ⟨b, off, hA, Nat.lt_of_lt_of_le hlt hb.size, (hb.cell (p := ⟨b, off + i, none⟩) hlt).trans c⟩

section
variable {H : Type} {enc : TypeId × Value → H} {w : World} {base : Nat} {held : Bool}
theorem spotless {a : Addr} {v : Value} (h : w.cell? (a.add 0) = some v) : ∃ b off, a = ⟨b, off, none⟩ := by
  have e : a.add 0 = a := by simp [Addr.add]
  rw [e] at h
  unfold World.cell? at h
  cases hs : a.spot with
  | none => obtain ⟨b, off, sp⟩ := a; simp only at hs; subst hs; exact ⟨b, off, rfl⟩
  | some s => rw [hs] at h; revert h; split <;> simp
theorem add_at (b off k : Nat) : (⟨b, off, none⟩ : Addr).add k = ⟨b, off + k, none⟩ := by unfold Addr.add; split <;> simp_all

theorem open_texts {r : Reach} {b0 : Nat} {v : Value} {d : DataW H} {p : List MemPlace} (hv : Value.okWide Try.prog w r b0 22 v) (h : DataW.Trod enc Try.prog w base (fun _ => true) held 22 v d p) :
    ∃ (A : Option Addr) (c : Nat) (l : List Tx), v = .slice A l.length c ∧ StrsAt w A l ∧ ((l.length ≤ c ∧ c ≤ maxLen) ∧ (A = none → c = 0)) ∧ ∀ t ∈ l, t.length ≤ maxLen := by
  obtain ⟨A, len, c, rfl⟩ := okWide_slice Try.underlying22 hv
  obtain ⟨fuel, hf⟩ := h
  rcases open_strings Try.underlying22 Try.underlying9 (by kernel_rfl) hf with h0 | ⟨a, len', cap, ss, hcs, hb, hl, hm, hmm, hx, hi, hsz⟩
  · have e : (Value.slice A len c) = .slice none 0 0 := by simpa [Value.cells] using h0.1
    injection e with e1 e2 e3
    subst e1 e2 e3
    exact ⟨none, 0, [], rfl, fun i hi => by simp at hi, ⟨⟨Nat.le_refl _, Nat.zero_le _⟩, fun _ => rfl⟩, fun t ht => by simp at ht⟩
  · have e : (Value.slice A len c) = .slice (some a) len' cap := by simpa [Value.cells] using hcs
    injection e with e1 e2 e3
    subst e1 e2 e3
    simp only [if_true] at hmm
    refine ⟨some a, c, (ss.take len).map (·.data.toList), by simp; omega, fun i hi' => ?_, ⟨⟨by simp; omega, hm⟩, fun h => by cases h⟩, fun t ht => ?_⟩
    · have hil : i < len := by simp at hi'; omega
      obtain ⟨b, off, rfl⟩ := spotless (hi 0 (by omega))
      have hc := hi i (by omega)
      rw [add_at] at hc
      refine ⟨b, off, rfl, World.block_lt_of_cell? w _ hc, ?_⟩
      have hss : i < ss.length := by omega
      have hg : ss.getD i ByteArray.empty = ss[i] := by rw [List.getD_eq_getElem?_getD, List.getElem?_eq_getElem hss]; rfl
      have hm2 : ((ss.take len).map (·.data.toList))[i] = ss[i].data.toList := by simp
      rw [hc, hg, hm2, ← str_of]
    · obtain ⟨s, hs, rfl⟩ := List.mem_map.1 ht
      have := hsz s (List.mem_of_mem_take hs)
      have e : s.data.toList.length = s.size := Array.length_toList
      rw [e]
      exact this

theorem open_bools {r : Reach} {b0 : Nat} {v : Value} {d : DataW H} {p : List MemPlace} (hv : Value.okWide Try.prog w r b0 23 v) (h : DataW.Trod enc Try.prog w base (fun _ => true) held 23 v d p) :
    ∃ (A : Option Addr) (c : Nat) (l : List Bool), v = .slice A l.length c ∧ BoolsAt w A l ∧ l.length ≤ 9223372036854775807 ∧ True := by
  obtain ⟨A, len, c, rfl⟩ := okWide_slice Try.underlying23 hv
  obtain ⟨fuel, hf⟩ := h
  rcases Go.Deep.open_bools Try.underlying23 Try.underlying4 (by kernel_rfl) hf with h0 | ⟨a, len', cap, Bf, hcs, hb, hl, hm, hx, hi⟩
  · have e : (Value.slice A len c) = .slice none 0 0 := by simpa [Value.cells] using h0.1
    injection e with e1 e2 e3
    subst e1 e2 e3
    exact ⟨none, 0, [], rfl, fun i hi => by simp at hi, by simp, trivial⟩
  · have e : (Value.slice A len c) = .slice (some a) len' cap := by simpa [Value.cells] using hcs
    injection e with e1 e2 e3
    subst e1 e2 e3
    refine ⟨some a, c, (List.range len).map Bf, by simp, fun i hi' => ?_, by simp; unfold maxLen at hm; omega, trivial⟩
    have hil : i < len := by simpa using hi'
    obtain ⟨b, off, rfl⟩ := spotless (hi 0 (by omega))
    have hc := hi i (by omega)
    rw [add_at] at hc
    exact ⟨b, off, rfl, World.block_lt_of_cell? w _ hc, by rw [hc]; simp⟩
end

end Go.Proofs.Ytklcpopnggiepaa.N
