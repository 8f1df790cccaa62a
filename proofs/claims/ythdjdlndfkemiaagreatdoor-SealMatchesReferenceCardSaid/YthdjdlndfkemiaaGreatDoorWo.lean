/- Seals: the arguments opened: a seal. -/
import Derived.Test.YthdjdlndfkemiaaGreatDoorWj
import Derived.Test.YthdjdlndfkemiaaGreatDoorSr
set_option linter.unusedSimpArgs false
set_option linter.unusedVariables false
set_option maxRecDepth 100000
namespace Go.Proofs.YthdjdlndfkemiaaGreatDoor.S
open Go Go.ChangeShapes Go.WideShapes Go.ChangeAt Go.RowKit Go.Joins Go.Deep

section
variable {H : Type} {enc : TypeId × Value → H} {w : World} {base : Nat} {held : Bool}
theorem open_cells {n : Nat} {v : Value} {y : DataW H × List MemPlace} (h : DataW.trod enc Tryz.prog w base (fun _ => true) held n 27 [v] = some y) :
    ∃ (A : Option Addr) (c : Nat) (l : List Tx), v = .slice A l.length c ∧ Lst w A l.length c l := by
  obtain ⟨d, p⟩ := y
  rcases open_strings Tryz.underlying27 Tryz.underlying9 (by kernel_rfl) h with h0 | ⟨a, len', cap, ss, hcs, hb, hl, hm, hmm, hx, hi, hsz⟩
  · obtain rfl : v = .slice none 0 0 := by simpa using h0.1
    exact ⟨none, 0, [], rfl, Lst.empty _⟩
  · obtain rfl : v = .slice (some a) len' cap := by simpa using hcs
    simp only [if_true] at hmm
    have hle : ((ss.take len').map (·.data.toList)).length = len' := by simp; omega
    refine ⟨some a, cap, (ss.take len').map (·.data.toList), by rw [hle], fun i hi' => ?_, rfl, by rw [hle]; omega, hm, fun h => by cases h⟩
    have hil : i < len' := by rw [hle] at hi'; exact hi'
    obtain ⟨b, off, rfl⟩ := spotless (hi 0 (by omega))
    have hc := hi i (by omega)
    rw [add_at] at hc
    refine ⟨b, off, rfl, World.block_lt_of_cell? w _ hc, ?_⟩
    have hss : i < ss.length := by omega
    have hg : ss.getD i ByteArray.empty = ss[i] := by rw [List.getD_eq_getElem?_getD, List.getElem?_eq_getElem hss]; rfl
    have hm2 : ((ss.take len').map (·.data.toList))[i] = ss[i].data.toList := by simp
    rw [hc, hg, hm2, str_of]
theorem fieldsSeal : ∃ f0 f1 f2, Tryz.prog.underlying 29 = some (.struct #[f0, f1, f2]) ∧ (f0.type = 3 ∧ f0.offset = 0) ∧ (f1.type = 27 ∧ f1.offset = 1) ∧ (f2.type = 27 ∧ f2.offset = 2) :=
  ⟨_, _, _, Tryz.underlying29, ⟨rfl, rfl⟩, ⟨rfl, rfl⟩, ⟨rfl, rfl⟩⟩
theorem cellsInt' : Tryz.prog.cellsOf 3 = 1 := by kernel_rfl
theorem cellsTexts : Tryz.prog.cellsOf 27 = 1 := by kernel_rfl
theorem cellsSeal : Tryz.prog.cellsOf 29 = 3 := by kernel_rfl
theorem open_seal {r : Reach} {b0 : Nat} {v : Value} {d : DataW H} {p : List MemPlace} (hv : Value.okWide Tryz.prog w r b0 29 v) (h : DataW.Trod enc Tryz.prog w base (fun _ => true) held 29 v d p) :
    ∃ (i : Int) (A : Option Addr) (n c : Nat) (sig : List Tx) (B : Option Addr) (k e : Nat) (path : List Tx), v = .agg #[.int .i64 i, .slice A n c, .slice B k e] ∧ (-9223372036854775808 ≤ i ∧ i ≤ 9223372036854775807) ∧ Lst w A n c sig ∧ Lst w B k e path := by
  obtain ⟨f0, f1, f2, hs, ⟨t0, o0⟩, ⟨t1, o1⟩, t2, o2⟩ := fieldsSeal
  obtain ⟨cs, rfl, hsz⟩ := okWide_struct hs hv
  obtain ⟨l⟩ := cs
  match l, hsz.trans cellsSeal with
  | [c0, c1, c2], _ =>
    obtain ⟨fuel, hf⟩ := h
    obtain ⟨xs, n, _, hx, _, hlen, hg⟩ := DataW.trod_struct hs hf
    match xs, hlen with
    | [y0, y1, y2], _ =>
      have T0 := hg 0 f0 rfl
      have T1 := hg 1 f1 rfl
      have T2 := hg 2 f2 rfl
      rw [t0, o0, cellsInt'] at T0
      rw [t1, o1, cellsTexts] at T1
      rw [t2, o2, cellsTexts] at T2
      obtain ⟨a, e0, _, wa⟩ := DataW.trod_int Tryz.underlying3 T0
      obtain ⟨A, c, sig, e1, l1⟩ := open_cells T1
      obtain ⟨B, e, path, e2, l2⟩ := open_cells T2
      simp [Value.cells] at e0
      subst e0 e1 e2
      exact ⟨a, A, _, c, sig, B, _, e, path, rfl, Frame.i64_bd wa, l1, l2⟩
end

end Go.Proofs.YthdjdlndfkemiaaGreatDoor.S
