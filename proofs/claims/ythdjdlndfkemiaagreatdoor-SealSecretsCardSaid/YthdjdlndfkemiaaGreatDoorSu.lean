/- Digests: the reference's 'List', 'Same'. -/
import Derived.Test.YthdjdlndfkemiaaGreatDoorSt
set_option linter.unusedSimpArgs false
set_option linter.unusedVariables false
set_option maxRecDepth 100000
namespace Go.Proofs.YthdjdlndfkemiaaGreatDoor
open Go.RowKit
namespace S

theorem few_joinK {l : List Tx} (h : fewB l 1000 = true) : (joinT l).length ≤ 140737488351232 := by
  have := joinT_leK l fun t ht => by have := fewB_all h t ht; omega
  have := fewB_len h
  omega
theorem rlistK_any (A : Option Addr) (c : Nat) (l : List Tx) (w : World) (hl : StrsAt w A l) (hf : fewB l 1000 = true) :
    Calls Tryz.prog 50 #[.slice A l.length c] w fun e w' => e = .returned (.string (str (listL l))) ∧ Below w.heap.size w w' := by
  have HJ := Lib.hid (joinedK_any A c l w hl hf)
  have HF := Lib.hid (few_joinK hf)
  clear hl hf
  go_enter Tryz.func50, Tryz.ntmps50
  go_wp2_with fail
  (with_reducible refine HJ.out.mono ?_); rintro e w1 ⟨rfl, hb1⟩
  have hq := rsum_any (str (joinT l)) w1 (by rw [str_size]; exact HF.out)
  rw [str_data] at hq
  have HQ := Lib.hid hq
  have HB := Lib.hid hb1
  clear hq hb1 HJ
  go_wp2_with fail
  (with_reducible refine HQ.out.mono ?_); rintro e w2 ⟨rfl, rfl⟩
  go_wp2_with fail
  go_ret
  exact ⟨rfl, HB.out⟩
theorem rlist_any (A : Option Addr) (c : Nat) (l : List Tx) (w : World) (hl : StrsAt w A l) (hf : fewB l 200 = true) :
    Calls Tryz.prog 50 #[.slice A l.length c] w fun e w' => e = .returned (.string (str (listL l))) ∧ Below w.heap.size w w' := rlistK_any A c l w hl (fewB_mono hf)

set_option maxHeartbeats 2000000 in
theorem same_any (A : Option Addr) (c : Nat) (a : List Tx) (B : Option Addr) (d : Nat) (b : List Tx) (w : World) (ha : StrsAt w A a) (hb : StrsAt w B b) (la : a.length ≤ 9223372036854775807) (lb : b.length ≤ 9223372036854775807) :
    Calls Tryz.prog 46 #[.slice A a.length c, .slice B b.length d] w fun e w' => e = .returned (.bool (decide (a = b))) ∧ Below w.heap.size w w' := by
  have HA := Lib.hid ha
  have HB := Lib.hid hb
  have hstl := str_toList
  clear ha hb
  by_cases hl : a.length = b.length
  · have hli : (a.length : Int) = (b.length : Int) := by omega
    have HLI := Lib.hid hl
    go_enter Tryz.func46, Tryz.ntmps46
    go_wp2_with fail
    clear hli hl
    go_loopw [5] (fun i wr => ∃ k : Nat, k ≤ a.length ∧ i = .int .i64 k ∧ a.take k = b.take k ∧ Below w.heap.size w wr) (fun i _ => a.length - (intOf i).toNat)
    case atStart => exact ⟨0, Nat.zero_le _, rfl, by simp, Below.refl _ _⟩
    case round =>
      obtain ⟨k, hk, rfl, hall, hlow⟩ := hrel
      have HT := Lib.hid hall
      have HLow := Lib.hid hlow
      clear hall hlow
      by_cases hlt : k < a.length
      · have hlt2 : k < b.length := by have := HLI.out; omega
        obtain ⟨b1, o1, hA, hb1, c1⟩ := (HA.out.below HLow.out) k hlt
        obtain ⟨b2, o2, hB, hb2, c2⟩ := (HB.out.below HLow.out) k hlt2
        subst hA hB
        have hki : (k : Int) < (a.length : Int) := by omega
        have hki2 : (k : Int) < (b.length : Int) := by omega
        have hk0 : (0 : Int) ≤ (k : Int) := by omega
        have HX : Hid (a.take (k + 1) = a.take k ++ [a[k]]) := (List.take_append_getElem hlt).symm
        have HY : Hid (b.take (k + 1) = b.take k ++ [b[k]]) := (List.take_append_getElem hlt2).symm
        have HN : Hid (a = b → a[k] = b[k]) := by intro h; subst h; rfl
        generalize a[k] = x at *
        generalize b[k] = y at *
        go_wp2_with fail
        refine Reg.wp_region_seq (by kernel_rfl) (by kernel_rfl) ?_
        simp only
        iterate 9
          apply Reg.SeqOK.val
          · intro γ W hW K hK
            obtain ⟨hc, hf, _⟩ := bcell hW
            simp only [Act.put, List.setIfInBounds_toArray, List.set_cons_zero, List.set_cons_succ] at hK
            unfold Reg.Does
            go_simp
            try simp only [IntWalk.i64_left]
            first
              | exact hK _ (Below.refl _ _)
              | (trace_state; fail)
          simp only [Act.put, List.setIfInBounds_toArray, List.set_cons_zero, List.set_cons_succ, List.nil_append, List.cons_append, Nat.reduceAdd, Nat.zero_add]
        refine Reg.SeqOK.nil (by kernel_rfl) (fun γ W hW _ _ _ => ?_)
        have HW := Lib.hid (HLow.out.trans (hW.mono HLow.out.size))
        clear hW
        generalize hq : (x == y) = q
        cases q with
        | true =>
          have HE : Hid (x = y) := by unfold Hid; simpa using hq
          clear hq
          simp only [Bool.not_true]
          go_wp2_with fail
          refine ⟨⟨k + 1, by omega, by go_num, ?_, HW.out⟩, by simp [intOf]; omega⟩
          rw [HX.out, HY.out, HT.out, HE.out]
        | false =>
          have HD : Hid (decide (a = b) = false) := decide_eq_false fun h => by rw [HN.out h] at hq; simp at hq
          clear hq
          simp only [Bool.not_false]
          go_wp2_with fail
          go_ret
          exact ⟨by rw [HD.out]; rfl, HW.out⟩
      · obtain rfl : k = a.length := by omega
        have h := HT.out
        rw [List.take_length, HLI.out, List.take_length] at h
        have HD : Hid (decide (a = b) = true) := decide_eq_true h
        clear h
        go_wp2_with fail
        go_ret
        exact ⟨by rw [HD.out]; rfl, HLow.out⟩
  · have hli : ¬ (a.length : Int) = (b.length : Int) := by omega
    have HD : Hid (decide (a = b) = false) := decide_eq_false fun h => hl (by rw [h])
    go_enter Tryz.func46, Tryz.ntmps46
    go_wp2_with fail
    go_ret
    exact ⟨by rw [HD.out]; rfl, Below.refl _ _⟩

end S
end Go.Proofs.YthdjdlndfkemiaaGreatDoor
