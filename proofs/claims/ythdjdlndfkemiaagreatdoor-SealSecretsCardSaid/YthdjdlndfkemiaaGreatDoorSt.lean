/- Digests: the reference's 'Joined', 'List'. -/
import Derived.Test.YthdjdlndfkemiaaGreatDoorSs
set_option linter.unusedSimpArgs false
set_option linter.unusedVariables false
set_option maxRecDepth 100000
namespace Go.Proofs.YthdjdlndfkemiaaGreatDoor
open Go.RowKit
namespace S

def szs (l : List Tx) : Nat := (l.map fun t => t.length + 21).sum
theorem szs_snoc (l : List Tx) (t : Tx) : szs (l ++ [t]) = szs l + (t.length + 21) := by simp [szs]
theorem szs_take (l : List Tx) (k : Nat) (hk : k < l.length) : szs (l.take (k + 1)) = szs (l.take k) + (l[k].length + 21) := by
  rw [← List.take_append_getElem hk, szs_snoc]
theorem szs_le : ∀ l : List Tx, (∀ t ∈ l, t.length ≤ 1000) → szs l ≤ 1021 * l.length
  | [], _ => by simp [szs]
  | t :: l, h => by
    have h1 := szs_le l fun t ht => h t (List.mem_cons_of_mem _ ht)
    have h2 := h t List.mem_cons_self
    simp only [szs, List.map_cons, List.sum_cons, List.length_cons] at h1 ⊢; omega

theorem run_own_string {w : World} {B n : Nat} {v : Value} {t : Tx} (h : w.ownsRow B 5 1 v n (Lib.byteCells t)) :
    (convert 78 9 v).run Tryz.prog w = .ok (.string (str t)) w := by
  obtain ⟨h0, h1⟩ := h
  rw [bytes_len] at h0
  rcases h1 with ⟨rfl, rfl⟩ | ⟨g, cap, cur, rfl, hb, hg, hn, hc, hs, ht⟩
  · obtain rfl : t = [] := List.eq_nil_of_length_eq_zero (by omega)
    rw [run_convert_bytes_string w 78 9 5 none 0 0 Tryz.underlying78 Tryz.underlying5 Tryz.underlying9]
    simp [Conv.bytesToString]
    rfl
  · obtain rfl : n = t.length := by omega
    refine (run_convert_bytes_back (P := Tryz.prog) w 78 9 5 ⟨g, 0, none⟩ cap t Tryz.underlying78 Tryz.underlying5 Tryz.underlying9 (fun j hj => ?_))
    rw [show (⟨g, 0, none⟩ : Addr).add j = ⟨g, j, none⟩ by simp [Addr.add, eq_comm], Lib.cell_of_heap hg]
    have e : cur.toList[j]? = (Lib.byteCells t)[j]? := by
      rw [← ht, List.getElem?_take_of_lt (by omega)]
    rw [Array.getElem?_toList] at e
    rw [e]
    simp [Lib.byteCells, hj]

theorem joinT_leK (l : List Tx) (h : ∀ t ∈ l, t.length ≤ 1000) : (joinT l).length ≤ 1021 * l.length := by
  induction l with
  | nil => simp [joinT]
  | cons t l ih =>
    have q1 := ih fun t ht => h t (List.mem_cons_of_mem _ ht)
    have q2 := h t List.mem_cons_self
    have q3 := dec_le t.length
    simp only [joinT, List.length_append, List.length_cons, List.length_nil]; omega
set_option maxHeartbeats 2000000 in
theorem joinedK_any (A : Option Addr) (c : Nat) (l : List Tx) (w : World) (hl : StrsAt w A l) (hf : fewB l 1000 = true) :
    Calls Tryz.prog 36 #[.slice A l.length c] w fun e w' => e = .returned (.string (str (joinT l))) ∧ Below w.heap.size w w' := by
  obtain ⟨i0, hi, hz0, hz1, hz2⟩ := info_parts infoByte
  have HL := Lib.hid hl
  have hlen := fewB_len hf
  have h1 : ∀ t ∈ l, t.length ≤ 1000 := fun t ht => by have := fewB_all hf t ht; omega
  have HTk : Hid (∀ k, szs (l.take k) ≤ 30630) := fun k => by
    have := szs_le (l.take k) fun t ht => h1 t (List.mem_of_mem_take ht)
    have : (l.take k).length ≤ l.length := by rw [List.length_take]; omega
    omega
  have HJ : Hid ((joinT l).length ≤ 30630) := by
    have := joinT_leK l h1
    unfold Hid; omega
  have H1 := Lib.hid h1
  clear hl h1 hf
  go_enter Tryz.func36, Tryz.ntmps36
  go_wp2_with fail
  go_loop [3, 4] (fun n i => ∃ k : Nat, k ≤ l.length ∧ i = .int .i64 k ∧ n = .int .i64 (szs (l.take k) : Nat)) (fun _ i => l.length - (intOf i).toNat)
  case atStart => exact ⟨0, Nat.zero_le _, rfl, by simp [szs]⟩
  case round =>
    obtain ⟨k, hk, rfl, rfl⟩ := hrel
    obtain ⟨q, hq⟩ : ∃ q, q = szs (l.take k) := ⟨_, rfl⟩
    have hqb := HTk.out k
    rw [← hq] at hqb ⊢
    by_cases hlt : k < l.length
    · obtain ⟨bs, off, hA, hbs, c0⟩ := HL.out k hlt
      subst hA
      have hki : (k : Int) < (l.length : Int) := by omega
      have hk0 : (0 : Int) ≤ (k : Int) := by omega
      have hx2 := H1.out l[k] (List.getElem_mem hlt)
      have HT := Lib.hid (szs_take l k hlt)
      rw [← hq] at HT
      generalize l[k] = x at *
      have hsz := str_size x
      have hsb : ((str x).size : Int) ≤ 1000 := by omega
      clear hq
      go_wp2_with fail
      refine ⟨⟨k + 1, by omega, by go_num, ?_⟩, by simp [intOf]; omega⟩
      rw [HT.out, ← hsz]; go_num
    · obtain rfl : k = l.length := by omega
      clear hq
      go_wp2_with (at_make; refine wpList_make_own _ rfl _ _ 78 rfl w.heap.size 5 i0 (.int .u8 0) 1 Tryz.underlying78 hi hz0 hz1 .i64 .i64 _ q rfl rfl rfl ?c1 ?c2 ?c3 ?_)
      case c1 => omega
      case c2 => unfold maxLen; omega
      intro w1 hown hgr
      have hgb := (Below.refl w.heap.size w).grown hgr (Nat.le_refl _) (by simp)
      have HG := Lib.hid hgb
      have HO := Lib.hid hown
      have HNE : Hid ((Value.slice (some ⟨w.heap.size, 0, none⟩) 0 q) ≠ .slice none 0 0) := by simp [Hid]
      clear hgb hown hgr hqb
      go_wp2_with fail
      go_loopw [5, 6] (fun v i wr => ∃ k : Nat, k ≤ l.length ∧ i = .int .i64 k ∧ wr.ownsRow w.heap.size 5 1 v (joinT (l.take k)).length (Lib.byteCells (joinT (l.take k))) ∧ Below w.heap.size w wr) (fun _ i _ => l.length - (intOf i).toNat)
      case atStart => exact ⟨0, Nat.zero_le _, rfl, HO.out, HG.out⟩
      case round =>
        obtain ⟨k, hk, rfl, hown, hlow⟩ := hrel
        have HLow := Lib.hid hlow
        have HOwn := Lib.hid hown
        have hz : w.heap.size ≤ wr.heap.size := hlow.size
        clear hown hlow HO HG HNE
        by_cases hlt : k < l.length
        · obtain ⟨bs, off, hA, hbs, c00⟩ := HL.out k hlt
          subst hA
          have c0 := ((bcell HLow.out).1 bs (off + k) hbs).trans c00
          have hki : (k : Int) < (l.length : Int) := by omega
          have hk0 : (0 : Int) ≤ (k : Int) := by omega
          have hx2 := H1.out l[k] (List.getElem_mem hlt)
          have hsn : joinT (l.take (k + 1)) = joinT (l.take k) ++ dec l[k].length ++ [58] ++ l[k] := by rw [← joinT_snoc, List.take_append_getElem hlt]
          have hle := joinT_take_le l (k + 1)
          rw [hsn] at hle
          simp only [List.length_append, List.length_cons, List.length_nil] at hle
          have HLE : Hid ((joinT (l.take k)).length + (dec l[k].length).length + 1 + l[k].length ≤ 30630) := by unfold Hid; have := HJ.out; omega
          have HSN := Lib.hid hsn
          clear hsn hle
          generalize l[k] = x at *
          have HQ : Hid (Calls Tryz.prog 37 #[.int .i64 ((str x).size : Int)] wr fun e w' => e = .returned (.string (str (dec x.length))) ∧ w' = wr) := by
            unfold Hid
            rw [str_size]
            exact decimal_any x.length wr (by omega)
          go_wp2_with fail
          (with_reducible refine HQ.out.mono ?_); rintro e w2 ⟨rfl, rfl⟩
          have hsd := str_size (dec x.length)
          have hsx := str_size x
          have hLE := HLE.out
          go_wp2_with (at_builtin; refine Lib.wpList_append_own_string _ rfl _ _ 78 9 rfl w.heap.size 5 i0 Tryz.underlying78 Tryz.underlying9 hi hz0 hz1 hz2 _ _ _ rfl HOwn.out (str (dec x.length)) rfl ?d3 ?d4 ?d5 ?_)
          case d3 => unfold maxLen; omega
          case d4 => omega
          case d5 => exact hz
          intro v2 W2 hown2 hg2 _
          have hb2 : Below w.heap.size w W2 := HLow.out.grown hg2 hz (fun k hk => (HOwn.out.lt k hk).1)
          rw [cells_str, ← bytes_app] at hown2
          have hz2' : w.heap.size ≤ W2.heap.size := hb2.size
          have HO2 := Lib.hid hown2
          have HB2 := Lib.hid hb2
          clear hown2 hg2 hb2
          go_wp2_with (at_builtin; refine wpList_append_own _ rfl _ _ 78 rfl w.heap.size 5 i0 (.int .u8 0) 1 1 Tryz.underlying78 hi hz0 hz1 hz2 rfl (by decide) _ _ _ rfl (HO2.out.alloc _) ⟨W2.heap.size, 0, none⟩ 1 1 [.int .u8 58] rfl rfl ?e1 ?e2 ?e3 ?e4 ?e5 ?_)
          case e1 =>
            intro j u hj
            match j, hj with
            | 0, hj => simp at hj; subst hj; simp [Addr.add]
          case e2 => intro u hu; simp at hu; subst hu; rfl
          case e3 => unfold maxLen; omega
          case e4 => omega
          case e5 => simp; omega
          intro v3 W3 hown3 hg3 _
          have hb3 : Below w.heap.size w W3 := (HB2.out.alloc hz2' _).grown hg3 (by simp; omega) (fun k hk => (HO2.out.lt k hk).1)
          rw [show ([Value.int .u8 58] : List Value) = Lib.byteCells [58] from rfl, ← bytes_app] at hown3
          have hz3' : w.heap.size ≤ W3.heap.size := hb3.size
          have c3 : W3.cell? ⟨bs, off + k, none⟩ = some (.string (str x)) := ((bcell hb3).1 _ _ hbs).trans c00
          have HO3 := Lib.hid hown3
          have HB3 := Lib.hid hb3
          clear hown3 hg3 hb3 HO2
          clear c00
          go_wp2_with (at_builtin; refine Lib.wpList_append_own_string _ rfl _ _ 78 9 rfl w.heap.size 5 i0 Tryz.underlying78 Tryz.underlying9 hi hz0 hz1 hz2 _ _ _ rfl HO3.out (str x) rfl ?f3 ?f4 ?f5 ?_)
          case f3 => unfold maxLen; omega
          case f4 => omega
          case f5 => exact hz3'
          intro v4 W4 hown4 hg4 _
          have hb4 : Below w.heap.size w W4 := HB3.out.grown hg4 hz3' (fun k hk => (HO3.out.lt k hk).1)
          rw [cells_str, ← bytes_app] at hown4
          have HO4 := Lib.hid hown4
          have HB4 := Lib.hid hb4
          clear hown4 hg4 hb4 HO3
          go_wp2_with fail
          refine ⟨⟨k + 1, by omega, by go_num, ?_, HB4.out⟩, by simp [intOf]; omega⟩
          rw [HSN.out]
          have h := HO4.out
          rw [← List.append_assoc (joinT (l.take k))] at h
          have he : (joinT (l.take k) ++ dec x.length ++ [58] ++ x).length = (joinT (l.take k)).length + (dec x.length).length + 1 + x.length := by simp; omega
          rw [he]
          exact h
        · obtain rfl : k = l.length := by omega
          have hown := HOwn.out
          rw [List.take_length] at hown
          have hcv := run_own_string hown
          clear hown
          go_wp2_with fail
          go_ret
          exact ⟨rfl, HLow.out⟩

theorem fewB_mono {l : List Tx} (h : fewB l 200 = true) : fewB l 1000 = true := by
  have h1 := fewB_all h
  have h2 := fewB_len h
  unfold fewB
  simp only [Bool.and_eq_true, List.all_eq_true, decide_eq_true_eq]
  exact ⟨fun t ht => by have := h1 t ht; omega, h2⟩
theorem joined_any (A : Option Addr) (c : Nat) (l : List Tx) (w : World) (hl : StrsAt w A l) (hf : fewB l 200 = true) :
    Calls Tryz.prog 36 #[.slice A l.length c] w fun e w' => e = .returned (.string (str (joinT l))) ∧ Below w.heap.size w w' := joinedK_any A c l w hl (fewB_mono hf)

end S
end Go.Proofs.YthdjdlndfkemiaaGreatDoor
