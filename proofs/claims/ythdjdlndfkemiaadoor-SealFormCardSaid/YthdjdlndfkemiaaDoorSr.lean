/- Digests: the arguments opened: texts. -/
import Derived.Test.YthdjdlndfkemiaaDoorSg
import Derived.Test.YthdjdlndfkemiaaDoorFrame
import Derived.Deep.Slices
import Derived.Deep.Fields
import Derived.SliceStrings
import Derived.ChangeSame
set_option linter.unusedSimpArgs false
set_option linter.unusedVariables false
set_option maxRecDepth 100000
namespace Go.Proofs.YthdjdlndfkemiaaDoor.S
open Go Go.ChangeShapes Go.WideShapes Go.ChangeAt Go.RowKit Go.Joins Go.Deep

section
variable {H : Type} {enc : TypeId × Value → H} {w : World} {base : Nat} {held : Bool}
theorem spotless {a : Addr} {v : Value} (h : w.cell? (a.add 0) = some v) : ∃ b off, a = ⟨b, off, none⟩ := by
  have e : a.add 0 = a := by simp [Addr.add]
  rw [e] at h
  unfold World.cell? at h
  cases hs : a.spot with
  | none => obtain ⟨b, off, sp⟩ := a; simp only at hs; subst hs; exact ⟨b, off, rfl⟩
  | some s => rw [hs] at h; revert h; split <;> simp
theorem add_at (b off k : Nat) : (⟨b, off, none⟩ : Addr).add k = ⟨b, off + k, none⟩ := by unfold Addr.add; split <;> simp_all

theorem open_texts {r : Reach} {b0 : Nat} {v : Value} {d : DataW H} {p : List MemPlace} (hv : Value.okWide Tryd.prog w r b0 22 v) (h : DataW.Trod enc Tryd.prog w base (fun _ => true) held 22 v d p) :
    ∃ (A : Option Addr) (c : Nat) (l : List Tx), v = .slice A l.length c ∧ StrsAt w A l ∧ ((l.length ≤ c ∧ c ≤ maxLen) ∧ (A = none → c = 0)) ∧ ∀ t ∈ l, t.length ≤ maxLen := by
  obtain ⟨A, len, c, rfl⟩ := okWide_slice Tryd.underlying22 hv
  obtain ⟨fuel, hf⟩ := h
  rcases open_strings Tryd.underlying22 Tryd.underlying9 (by kernel_rfl) hf with h0 | ⟨a, len', cap, ss, hcs, hb, hl, hm, hmm, hx, hi, hsz⟩
  · have e : (Value.slice A len c) = .slice none 0 0 := by simpa [Value.cells] using h0.1
    injection e with e1 e2 e3
    subst e1 e2 e3
    exact ⟨none, 0, [], rfl, fun i hi => by simp at hi, ⟨⟨Nat.le_refl _, Nat.zero_le _⟩, fun _ => rfl⟩, fun t ht => by simp at ht⟩
  · have e : (Value.slice A len c) = .slice (some a) len' cap := by simpa [Value.cells] using hcs
    injection e with e1 e2 e3
    subst e1 e2 e3
    simp only [if_true] at hmm
    refine ⟨some a, c, (ss.take len).map (·.data.toList), by simp; omega, fun i hi' => ?_, ⟨⟨by simp; omega, hm⟩, fun h => by cases h⟩, fun t ht => ?_⟩
    · have hil : i < len := by simp at hi'; omega
      obtain ⟨b, off, rfl⟩ := spotless (hi 0 (by omega))
      have hc := hi i (by omega)
      rw [add_at] at hc
      refine ⟨b, off, rfl, World.block_lt_of_cell? w _ hc, ?_⟩
      have hss : i < ss.length := by omega
      have hg : ss.getD i ByteArray.empty = ss[i] := by rw [List.getD_eq_getElem?_getD, List.getElem?_eq_getElem hss]; rfl
      have hm2 : ((ss.take len).map (·.data.toList))[i] = ss[i].data.toList := by simp
      rw [hc, hg, hm2, str_of]
    · obtain ⟨s, hs, rfl⟩ := List.mem_map.1 ht
      have := hsz s (List.mem_of_mem_take hs)
      have e : s.data.toList.length = s.size := Array.length_toList
      rw [e]
      exact this

end
end Go.Proofs.YthdjdlndfkemiaaDoor.S
