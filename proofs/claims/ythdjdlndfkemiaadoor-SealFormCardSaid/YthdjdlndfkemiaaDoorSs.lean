/- Digests: the reference's 'digits', 'Decimal', 'Digit', 'Is'. -/
import Derived.Test.YthdjdlndfkemiaaDoorSo
set_option linter.unusedSimpArgs false
set_option linter.unusedVariables false
set_option maxRecDepth 100000
namespace Go.Proofs.YthdjdlndfkemiaaDoor
open Go.RowKit
namespace S

def dgt (d : Nat) : UInt8 := UInt8.ofNat (48 + d)
def decS : ByteArray := { data := #[48, 49, 50, 51, 52, 53, 54, 55, 56, 57] }
theorem decS_ext : ∀ d, d < 10 → (decS.extract d (d + 1)).data.toList = [dgt d] := by decide +kernel
theorem decS_str (d : Nat) (h : d < 10) : decS.extract d (d + 1) = str [dgt d] := by rw [← decS_ext d h, str_of]
def decR (u : Nat) : Tx := if u = 0 then [] else dec u
theorem dec_step (u : Nat) (h : u ≤ 1000000) : dec u = decR (u / 10) ++ [dgt (u % 10)] := by
  unfold dec decR
  rw [show (20 : Nat) = 19 + 1 from rfl]
  conv => lhs; rw [decs]
  show _ ++ [dgt (u % 10)] = _
  by_cases h1 : u < 10
  · rw [if_pos h1, if_pos (by omega)]
  · rw [if_neg h1, if_neg (by omega)]
    unfold dec
    rw [show (20 : Nat) = 19 + 1 from rfl, decs_lib 19 (u / 10) (by omega), show (19 : Nat) = 18 + 1 from rfl, decs_lib 18 (u / 10) (by omega)]
def digV (c : UInt8) : Int := if 48 ≤ c ∧ c ≤ 57 then (c.toNat : Int) - 48 else if 97 ≤ c ∧ c ≤ 102 then (c.toNat : Int) - 97 + 10 else -1
theorem digV_nat : ∀ n, n < 256 → ((digV (UInt8.ofNat n) < 0) ↔ digB (UInt8.ofNat n) = false) := by decide +kernel
theorem digV_neg (c : UInt8) : (digV c < 0) ↔ digB c = false := by
  have h := digV_nat c.toNat (UInt8.toNat_lt c)
  rwa [UInt8.ofNat_toNat] at h
end S
end Go.Proofs.YthdjdlndfkemiaaDoor

/- Digests: the reference's 'Joined', 'List'. -/
namespace Go.Proofs.YthdjdlndfkemiaaDoor
open Go.RowKit
namespace S

def szs (l : List Tx) : Nat := (l.map fun t => t.length + 21).sum
theorem szs_snoc (l : List Tx) (t : Tx) : szs (l ++ [t]) = szs l + (t.length + 21) := by simp [szs]
theorem szs_take (l : List Tx) (k : Nat) (hk : k < l.length) : szs (l.take (k + 1)) = szs (l.take k) + (l[k].length + 21) := by
  rw [← List.take_append_getElem hk, szs_snoc]
theorem szs_le : ∀ l : List Tx, (∀ t ∈ l, t.length ≤ 1000) → szs l ≤ 1021 * l.length
  | [], _ => by simp [szs]
  | t :: l, h => by
    have h1 := szs_le l fun t ht => h t (List.mem_cons_of_mem _ ht)
    have h2 := h t List.mem_cons_self
    simp only [szs, List.map_cons, List.sum_cons, List.length_cons] at h1 ⊢; omega

theorem run_own_string {w : World} {B n : Nat} {v : Value} {t : Tx} (h : w.ownsRow B 5 1 v n (Lib.byteCells t)) :
    (convert 83 9 v).run Tryd.prog w = .ok (.string (str t)) w := by
  obtain ⟨h0, h1⟩ := h
  rw [bytes_len] at h0
  rcases h1 with ⟨rfl, rfl⟩ | ⟨g, cap, cur, rfl, hb, hg, hn, hc, hs, ht⟩
  · obtain rfl : t = [] := List.eq_nil_of_length_eq_zero (by omega)
    rw [run_convert_bytes_string w 83 9 5 none 0 0 Tryd.underlying83 Tryd.underlying5 Tryd.underlying9]
    simp [Conv.bytesToString]
    rfl
  · obtain rfl : n = t.length := by omega
    refine (run_convert_bytes_back (P := Tryd.prog) w 83 9 5 ⟨g, 0, none⟩ cap t Tryd.underlying83 Tryd.underlying5 Tryd.underlying9 (fun j hj => ?_))
    rw [show (⟨g, 0, none⟩ : Addr).add j = ⟨g, j, none⟩ by simp [Addr.add, eq_comm], Lib.cell_of_heap hg]
    have e : cur.toList[j]? = (Lib.byteCells t)[j]? := by
      rw [← ht, List.getElem?_take_of_lt (by omega)]
    rw [Array.getElem?_toList] at e
    rw [e]
    simp [Lib.byteCells, hj]

theorem joinT_leK (l : List Tx) (h : ∀ t ∈ l, t.length ≤ 1000) : (joinT l).length ≤ 1021 * l.length := by
  induction l with
  | nil => simp [joinT]
  | cons t l ih =>
    have q1 := ih fun t ht => h t (List.mem_cons_of_mem _ ht)
    have q2 := h t List.mem_cons_self
    have q3 := dec_le t.length
    simp only [joinT, List.length_append, List.length_cons, List.length_nil]; omega
theorem fewB_mono {l : List Tx} (h : fewB l 200 = true) : fewB l 1000 = true := by
  have h1 := fewB_all h
  have h2 := fewB_len h
  unfold fewB
  simp only [Bool.and_eq_true, List.all_eq_true, decide_eq_true_eq]
  exact ⟨fun t ht => by have := h1 t ht; omega, h2⟩
end S
end Go.Proofs.YthdjdlndfkemiaaDoor

/- Digests: the reference's 'List', 'Same'. -/
namespace Go.Proofs.YthdjdlndfkemiaaDoor
open Go.RowKit
namespace S

theorem few_joinK {l : List Tx} (h : fewB l 1000 = true) : (joinT l).length ≤ 140737488351232 := by
  have := joinT_leK l fun t ht => by have := fewB_all h t ht; omega
  have := fewB_len h
  omega
set_option maxHeartbeats 2000000 in
theorem same_any (A : Option Addr) (c : Nat) (a : List Tx) (B : Option Addr) (d : Nat) (b : List Tx) (w : World) (ha : StrsAt w A a) (hb : StrsAt w B b) (la : a.length ≤ 9223372036854775807) (lb : b.length ≤ 9223372036854775807) :
    Calls Tryd.prog 13 #[.slice A a.length c, .slice B b.length d] w fun e w' => e = .returned (.bool (decide (a = b))) ∧ Below w.heap.size w w' := by
  have HA := Lib.hid ha
  have HB := Lib.hid hb
  have hstl := str_toList
  clear ha hb
  by_cases hl : a.length = b.length
  · have hli : (a.length : Int) = (b.length : Int) := by omega
    have HLI := Lib.hid hl
    go_enter Tryd.func13, Tryd.ntmps13
    go_wp2_with fail
    clear hli hl
    go_loopw [5] (fun i wr => ∃ k : Nat, k ≤ a.length ∧ i = .int .i64 k ∧ a.take k = b.take k ∧ Below w.heap.size w wr) (fun i _ => a.length - (intOf i).toNat)
    case atStart => exact ⟨0, Nat.zero_le _, rfl, by simp, Below.refl _ _⟩
    case round =>
      obtain ⟨k, hk, rfl, hall, hlow⟩ := hrel
      have HT := Lib.hid hall
      have HLow := Lib.hid hlow
      clear hall hlow
      by_cases hlt : k < a.length
      · have hlt2 : k < b.length := by have := HLI.out; omega
        obtain ⟨b1, o1, hA, hb1, c1⟩ := (HA.out.below HLow.out) k hlt
        obtain ⟨b2, o2, hB, hb2, c2⟩ := (HB.out.below HLow.out) k hlt2
        subst hA hB
        have hki : (k : Int) < (a.length : Int) := by omega
        have hki2 : (k : Int) < (b.length : Int) := by omega
        have hk0 : (0 : Int) ≤ (k : Int) := by omega
        have HX : Hid (a.take (k + 1) = a.take k ++ [a[k]]) := (List.take_append_getElem hlt).symm
        have HY : Hid (b.take (k + 1) = b.take k ++ [b[k]]) := (List.take_append_getElem hlt2).symm
        have HN : Hid (a = b → a[k] = b[k]) := by intro h; subst h; rfl
        generalize a[k] = x at *
        generalize b[k] = y at *
        go_wp2_with fail
        refine Reg.wp_region_seq (by kernel_rfl) (by kernel_rfl) ?_
        simp only
        iterate 9
          apply Reg.SeqOK.val
          · intro γ W hW K hK
            obtain ⟨hc, hf, _⟩ := bcell hW
            simp only [Act.put, List.setIfInBounds_toArray, List.set_cons_zero, List.set_cons_succ] at hK
            unfold Reg.Does
            go_simp
            try simp only [IntWalk.i64_left]
            first
              | exact hK _ (Below.refl _ _)
              | (trace_state; fail)
          simp only [Act.put, List.setIfInBounds_toArray, List.set_cons_zero, List.set_cons_succ, List.nil_append, List.cons_append, Nat.reduceAdd, Nat.zero_add]
        refine Reg.SeqOK.nil (by kernel_rfl) (fun γ W hW _ _ _ => ?_)
        have HW := Lib.hid (HLow.out.trans (hW.mono HLow.out.size))
        clear hW
        generalize hq : (x == y) = q
        cases q with
        | true =>
          have HE : Hid (x = y) := by unfold Hid; simpa using hq
          clear hq
          simp only [Bool.not_true]
          go_wp2_with fail
          refine ⟨⟨k + 1, by omega, by go_num, ?_, HW.out⟩, by simp [intOf]; omega⟩
          rw [HX.out, HY.out, HT.out, HE.out]
        | false =>
          have HD : Hid (decide (a = b) = false) := decide_eq_false fun h => by rw [HN.out h] at hq; simp at hq
          clear hq
          simp only [Bool.not_false]
          go_wp2_with fail
          go_ret
          exact ⟨by rw [HD.out]; rfl, HW.out⟩
      · obtain rfl : k = a.length := by omega
        have h := HT.out
        rw [List.take_length, HLI.out, List.take_length] at h
        have HD : Hid (decide (a = b) = true) := decide_eq_true h
        clear h
        go_wp2_with fail
        go_ret
        exact ⟨by rw [HD.out]; rfl, HLow.out⟩
  · have hli : ¬ (a.length : Int) = (b.length : Int) := by omega
    have HD : Hid (decide (a = b) = false) := decide_eq_false fun h => hl (by rw [h])
    go_enter Tryd.func13, Tryd.ntmps13
    go_wp2_with fail
    go_ret
    exact ⟨by rw [HD.out]; rfl, Below.refl _ _⟩

end S
end Go.Proofs.YthdjdlndfkemiaaDoor
