/- Digests: the builder's writers. -/
import Derived.Test.YthdjdlndfkemiaaDoorSe
import Derived.Laws.Externs
import Derived.Lib.AppendStr
import Derived.Lib.AppendIntMem
set_option linter.unusedSimpArgs false
set_option linter.unusedVariables false
set_option maxRecDepth 100000
namespace Go.Proofs.YthdjdlndfkemiaaDoor
open Go.RowKit
namespace S

theorem sizeBuilder : (Tryd.prog.info? 85).map (·.size) = some 2 := by kernel_rfl
theorem liesBuilder : liesAt Tryd.prog Tryd.prog.depth 85 (2 / Tryd.prog.cellsOf 85) 0 85 1 = true := by kernel_rfl
theorem infoByte : (Tryd.prog.info? 5).map (fun i => (i.zero, i.size, i.bytes)) = some (some (.int .u8 0), 1, 1) := by kernel_rfl
abbrev BAt (B b : Nat) (p : Value) (bs : List Value) (w : World) : Prop := Lib.BuilderAt 85 5 B b p bs w
abbrev IsB (B b : Nat) (bs : List Value) (w : World) : Prop := Lib.IsBuilder 85 5 B b bs w

theorem check_used (b : Nat) (w : World) (h0 : w.cell? ⟨b, 0, none⟩ = some (.pointer (some ⟨b, 0, none⟩))) :
    Calls Tryd.prog 74 #[.pointer (some ⟨b, 0, none⟩)] w fun e w' => e = .returned (.tuple #[]) ∧ w' = w := by
  obtain ⟨j, hj, _⟩ := Option.map_eq_some_iff.1 sizeBuilder
  go_enter Tryd.func74, Tryd.ntmps74
  go_wp2
  rw [Lib.run_neq_ptr_same w _ Tryd.underlying82 hj]
  go_wp2
  go_end0
  exact ⟨rfl, rfl⟩
theorem check_fresh (b : Nat) (w : World) (h0 : w.cell? ⟨b, 0, none⟩ = some (.pointer none)) (hsh : w.shape? b = some (85, 2)) (hfz : w.frozen? ⟨b, 0, none⟩ = false) :
    Calls Tryd.prog 74 #[.pointer (some ⟨b, 0, none⟩)] w fun e w' => e = .returned (.tuple #[]) ∧ w' = w.setCell ⟨b, 0, none⟩ (.pointer (some ⟨b, 0, none⟩)) := by
  obtain ⟨j, hj, hjs⟩ := Option.map_eq_some_iff.1 sizeBuilder
  go_enter Tryd.func74, Tryd.ntmps74
  go_wp2
  rw [Lib.run_to_unsafe w ⟨b, 0, none⟩ Tryd.underlying82 Tryd.underlying116 hj (by rw [hjs]; decide) hsh (Nat.zero_lt_succ 1)]
  simp only [Result.andThen]
  rw [Oper.upon_value]
  go_wp2
  rw [run_callFunc_extern Tryd.func87 (by kernel_rfl) (by kernel_rfl) (by kernel_rfl) (e := Extern.AbiNoEscape.same) (by kernel_rfl)]
  rw [Lib.run_noEscape]
  simp only [Result.andThen]
  rw [Oper.upon_value]
  go_wp2
  rw [Lib.run_from_unsafe w ⟨b, 0, none⟩ Tryd.underlying116 Tryd.underlying82 hj hsh liesBuilder]
  simp only [Result.andThen]
  rw [Oper.upon_value]
  go_wp2
  go_end0
  exact ⟨rfl, rfl⟩
theorem check_any (B b : Nat) (bs : List Value) (w : World) (h : IsB B b bs w) :
    Calls Tryd.prog 74 #[.pointer (some ⟨b, 0, none⟩)] w fun e w' => e = .returned (.tuple #[]) ∧ (BAt B b (.pointer (some ⟨b, 0, none⟩)) bs w' ∧ Below B w w') := by
  rcases h with h | h
  · refine (check_fresh b w h.cell0 h.shape h.frozen0).mono ?_
    rintro e w' ⟨rfl, rfl⟩
    exact ⟨rfl, h.used _, (Below.refl B w).setCell (p := ⟨b, 0, none⟩) h.1 _⟩
  · refine (check_used b w h.cell0).mono ?_
    rintro e w' ⟨rfl, rfl⟩
    exact ⟨rfl, h, Below.refl B _⟩

set_option maxHeartbeats 1000000 in
theorem writeS_any (B b : Nat) (bs : List Value) (s : ByteArray) (w : World) (h : IsB B b bs w) (hlen : bs.length + s.size ≤ 140737488355328) (hBw : B ≤ w.heap.size) :
    Calls Tryd.prog 58 #[.pointer (some ⟨b, 0, none⟩), .string s] w fun e w' => e = .returned (.tuple #[.int .i64 s.size, .nilIface]) ∧ (BAt B b (.pointer (some ⟨b, 0, none⟩)) (bs ++ Lib.strCells s) w' ∧ Below B w w') := by
  obtain ⟨i0, hi, hz0, hz1, hz2⟩ := info_parts infoByte
  go_enter Tryd.func58, Tryd.ntmps58
  go_wp2_with fail
  refine (check_any B b bs _ h).mono ?_
  rintro e w1 ⟨rfl, h1, hb1⟩
  obtain ⟨hB, v, hbk, hown, hne⟩ := h1
  have c0 : w1.cell? ⟨b, 0, none⟩ = some (.pointer (some ⟨b, 0, none⟩)) := by rw [Lib.cell_of_heap hbk]; rfl
  have c1 : w1.cell? ⟨b, 1, none⟩ = some v := by rw [Lib.cell_of_heap hbk]; rfl
  go_wp2_with (at_builtin; refine Lib.wpList_append_own_string _ rfl _ _ 83 9 rfl B 5 i0 Tryd.underlying83 Tryd.underlying9 hi hz0 hz1 hz2 _ _ _ rfl hown s rfl ?c3 ?c4 ?c5 ?_)
  case c3 => unfold maxLen; omega
  case c4 => omega
  case c5 => have := hb1.size; omega
  intro v' w2 hown' hgrow _
  have hlt : b < w1.heap.size := by
    rcases Nat.lt_or_ge b w1.heap.size with h' | h'
    · exact h'
    · simp [Array.getElem?_eq_none h'] at hbk
  have hb2 : w2.heap[b]? = some (.cells #[.pointer (some ⟨b, 0, none⟩), v] 85 (0, 0)) := by
    rw [hgrow.block b hlt (fun e => hne e.symm)]
    exact hbk
  have d0 : w2.cell? ⟨b, 0, none⟩ = some (.pointer (some ⟨b, 0, none⟩)) := by rw [Lib.cell_of_heap hb2]; rfl
  have d1 : w2.cell? ⟨b, 1, none⟩ = some v := by rw [Lib.cell_of_heap hb2]; rfl
  have f1 : w2.frozen? ⟨b, 1, none⟩ = false := Lib.frozen_of_heap hb2 1
  obtain ⟨ao, n', cap, rfl⟩ : ∃ ao n' cap, v' = .slice ao n' cap := by
    rcases hown'.2 with ⟨hv, _⟩ | ⟨g, cap, cur, hv, _⟩
    · exact ⟨_, _, _, hv⟩
    · exact ⟨_, _, _, hv⟩
  go_wp2
  go_ret2
  refine ⟨rfl, ?_, ?_⟩
  · exact Lib.BuilderAt.put (T := 85) (e := 5) hB hb2 (bs' := bs ++ Lib.strCells s) (by simpa [Lib.strCells_length] using hown') (by decide)
  · exact (hb1.grown hgrow (by have := hb1.size; omega) (fun k hk => (hown.lt k hk).1)).setCell (p := ⟨b, 1, none⟩) hB _

set_option maxHeartbeats 1000000 in
theorem writeB_any (B b : Nat) (bs : List Value) (c : Int) (w : World) (h : IsB B b bs w) (hlen : bs.length + 1 ≤ 140737488355328) (hBw : B ≤ w.heap.size) :
    Calls Tryd.prog 59 #[.pointer (some ⟨b, 0, none⟩), .int .u8 c] w fun e w' => e = .returned .nilIface ∧ (BAt B b (.pointer (some ⟨b, 0, none⟩)) (bs ++ [.int .u8 c]) w' ∧ Below B w w') := by
  obtain ⟨i0, hi, hz0, hz1, hz2⟩ := info_parts infoByte
  go_enter Tryd.func59, Tryd.ntmps59
  go_wp2_with fail
  refine (check_any B b bs _ h).mono ?_
  rintro e w1 ⟨rfl, h1, hb1⟩
  obtain ⟨hB, v, hbk, hown, hne⟩ := h1
  have c0 : w1.cell? ⟨b, 0, none⟩ = some (.pointer (some ⟨b, 0, none⟩)) := by rw [Lib.cell_of_heap hbk]; rfl
  have c1 : w1.cell? ⟨b, 1, none⟩ = some v := by rw [Lib.cell_of_heap hbk]; rfl
  go_wp2_with (at_builtin; refine wpList_append_own _ rfl _ _ 83 rfl B 5 i0 (.int .u8 0) 1 1 Tryd.underlying83 hi hz0 hz1 hz2 rfl (by decide) _ _ _ rfl (hown.alloc _) ⟨w1.heap.size, 0, none⟩ 1 1 [.int .u8 c] rfl rfl ?c1 ?c2 ?c3 ?c4 ?c5 ?_)
  case c1 =>
    intro j u hj
    match j, hj with
    | 0, hj => simp at hj; subst hj; simp [Addr.add]
  case c2 => intro u hu; simp at hu; subst hu; rfl
  case c3 => unfold maxLen; omega
  case c4 => omega
  case c5 => have := hb1.size; simp; omega
  intro v' w2 hown' hgrow _
  have hlt : b < w1.heap.size := by
    rcases Nat.lt_or_ge b w1.heap.size with h' | h'
    · exact h'
    · simp [Array.getElem?_eq_none h'] at hbk
  have hb2 : w2.heap[b]? = some (.cells #[.pointer (some ⟨b, 0, none⟩), v] 85 (0, 0)) := by
    rw [hgrow.block b (by simp; omega) (fun e => hne e.symm), Lib.alloc_old w1 _ b hlt]
    exact hbk
  have d0 : w2.cell? ⟨b, 0, none⟩ = some (.pointer (some ⟨b, 0, none⟩)) := by rw [Lib.cell_of_heap hb2]; rfl
  have d1 : w2.cell? ⟨b, 1, none⟩ = some v := by rw [Lib.cell_of_heap hb2]; rfl
  have f1 : w2.frozen? ⟨b, 1, none⟩ = false := Lib.frozen_of_heap hb2 1
  obtain ⟨g, cap, rfl⟩ : ∃ g cap, v' = .slice (some ⟨g, 0, none⟩) (bs.length + 1) cap := by
    rcases hown'.2 with ⟨_, h0⟩ | ⟨g, cap, cur, hv, _⟩
    · omega
    · exact ⟨g, cap, hv⟩
  go_wp2
  go_ret
  refine ⟨rfl, ?_, ?_⟩
  · exact Lib.BuilderAt.put (T := 85) (e := 5) hB hb2 (bs' := bs ++ [.int .u8 c]) (by simpa using hown') (by decide)
  · exact ((hb1.alloc (by have := hb1.size; omega) _).grown hgrow (by have := hb1.size; simp; omega) (fun k hk => (hown.lt k hk).1)).setCell (p := ⟨b, 1, none⟩) hB _

end S
end Go.Proofs.YthdjdlndfkemiaaDoor

/- Digests: 'List'. -/
namespace Go.Proofs.YthdjdlndfkemiaaDoor
open Go.RowKit
namespace S

/-- Texts in memory. -/
def StrsAt (w : World) (A : Option Addr) (l : List Tx) : Prop := ∀ i (hi : i < l.length), ∃ b off, A = some ⟨b, off, none⟩ ∧ b < w.heap.size ∧ w.cell? ⟨b, off + i, none⟩ = some (.string (str l[i]))
theorem StrsAt.below {w w' : World} {A : Option Addr} {l : List Tx} (h : StrsAt w A l) (hb : Below w.heap.size w w') : StrsAt w' A l := fun i hi => by
  obtain ⟨b, off, hA, hlt, c0⟩ := h i hi
  exact ⟨b, off, hA, Nat.lt_of_lt_of_le hlt hb.size, ((bcell hb).1 _ _ hlt).trans c0⟩
theorem cells_str (l : Tx) : Lib.strCells (str l) = Lib.byteCells l := by simp [Lib.strCells, Lib.byteCells, str]
theorem bytes_app (a b : Tx) : Lib.byteCells (a ++ b) = Lib.byteCells a ++ Lib.byteCells b := by simp [Lib.byteCells]
theorem bytes_len (a : Tx) : (Lib.byteCells a).length = a.length := by simp [Lib.byteCells]
theorem decs_lib : ∀ f n, n < 10 ^ f → decs (f + 1) n = Lib.decDigits n
  | 0, n, h => by
    obtain rfl : n = 0 := by simpa using h
    rw [Lib.decDigits]; rfl
  | f + 1, n, h => by
    rw [Lib.decDigits]
    by_cases h10 : n < 10
    · rw [dif_pos h10]
      simp [decs, h10, Nat.mod_eq_of_lt h10]
    · rw [dif_neg h10, ← decs_lib f (n / 10) (by rw [Nat.pow_succ] at h; omega)]
      rw [decs, if_neg h10]
theorem dec_lib (n : Nat) (hn : n ≤ 1000000) : Lib.itoa (n : Int) = dec n := by
  unfold Lib.itoa dec
  rw [if_neg (by omega), Int.toNat_natCast]
  exact (decs_lib 19 n (by omega)).symm
theorem itoa_any (n : Nat) (w : World) (hn : n ≤ 1000000) (ht : Tabs w) : Calls Tryd.prog 48 #[.int .i64 n] w fun e w' => e = .returned (.string (str (dec n))) ∧ Below w.heap.size w w' := by
  refine (Tryd.strconv_Itoa (n : Int) (by omega) (by omega) w ht.2).mono ?_
  rintro e w' ⟨rfl, k, os, rfl⟩
  exact ⟨by rw [dec_lib n hn]; rfl, Lib.below_grow _ w (Nat.le_refl _) k os⟩
theorem joinT_snoc (l : List Tx) (t : Tx) : joinT (l ++ [t]) = joinT l ++ dec t.length ++ [58] ++ t := by
  induction l with
  | nil => simp [joinT]
  | cons a l ih => simp only [List.cons_append, joinT, ih, List.append_assoc]
theorem joinT_take_le (l : List Tx) (k : Nat) : (joinT (l.take k)).length ≤ (joinT l).length := by
  induction l generalizing k with
  | nil => simp
  | cons a l ih =>
    cases k with
    | zero => simp [joinT]
    | succ k => have := ih k; simp only [List.take_succ_cons, joinT, List.length_append]; omega

theorem bat_below {B b : Nat} {p : Value} {bs : List Value} {w w' : World} (h : BAt B b p bs w) (hb : Below w.heap.size w w') : BAt B b p bs w' := by
  obtain ⟨hB, v, hh, hown, hne⟩ := h
  exact ⟨hB, v, (hb.block b (Array.getElem?_eq_some_iff.1 hh).1).trans hh, Ap.own_below hown hb, hne⟩
theorem isB_below {B b : Nat} {bs : List Value} {w w' : World} (h : IsB B b bs w) (hb : Below w.heap.size w w') : IsB B b bs w' := by
  rcases h with h | h
  · exact .inl (bat_below h hb)
  · exact .inr (bat_below h hb)

set_option maxHeartbeats 2000000 in
theorem list_any (A : Option Addr) (c : Nat) (l : List Tx) (w : World) (hl : StrsAt w A l) (hn : l.length ≤ 9223372036854775807) (h1 : ∀ t ∈ l, t.length ≤ 1000000) (h2 : (joinT l).length ≤ 140737488351232) (ht : Tabs w) :
    Calls Tryd.prog 38 #[.slice A l.length c] w fun e w' => e = .returned (.string (str (listL l))) ∧ Below w.heap.size w w' := by
  have HL := Lib.hid hl
  have HN := Lib.hid hn
  have H1 := Lib.hid h1
  have H2 := Lib.hid h2
  have HT := Lib.hid ht
  clear hl h1 h2 ht
  go_enter Tryd.func38, Tryd.ntmps38
  go_wp2_with fail
  go_loopw [8] (fun i wr => ∃ k : Nat, k ≤ l.length ∧ i = .int .i64 k ∧ IsB w.heap.size w.heap.size (Lib.byteCells (joinT (l.take k))) wr ∧ Below w.heap.size w wr) (fun i _ => l.length - (intOf i).toNat)
  case atStart => exact ⟨0, Nat.zero_le _, rfl, .inl ⟨Nat.le_refl _, _, Reg.heap_new _ _, World.ownsRow_nil _ _ _ _, by simp [Value.ownBlock]⟩, (Below.refl _ _).alloc (Nat.le_refl _) _⟩
  case round =>
    obtain ⟨k, hk, rfl, hB, hlow⟩ := hrel
    have HB := Lib.hid hB
    have HLow := Lib.hid hlow
    have hz : w.heap.size ≤ wr.heap.size := hlow.size
    clear hB hlow
    by_cases hlt : k < l.length
    · obtain ⟨bs, off, hA, hbs, c0⟩ := (HL.out.below HLow.out) k hlt
      subst hA
      have hki : (k : Int) < (l.length : Int) := by omega
      have hk0 : (0 : Int) ≤ (k : Int) := by omega
      have htl := H1.out l[k] (List.getElem_mem hlt)
      have hsn : joinT (l.take (k + 1)) = joinT (l.take k) ++ dec l[k].length ++ [58] ++ l[k] := by rw [← joinT_snoc, List.take_append_getElem hlt]
      have hle := joinT_take_le l (k + 1)
      rw [hsn] at hle
      simp only [List.length_append, List.length_cons, List.length_nil] at hle
      have HLE := Lib.hid hle
      have HSN := Lib.hid hsn
      clear hsn hle
      generalize l[k] = x at *
      have HQ : Hid (Calls Tryd.prog 48 #[.int .i64 ((str x).size : Int)] wr fun e w' => e = .returned (.string (str (dec x.length))) ∧ Below wr.heap.size wr w') := by
        unfold Hid
        rw [str_size]
        exact itoa_any x.length wr htl (HT.out.below HLow.out)
      go_wp2_with fail
      (with_reducible refine HQ.out.mono ?_); rintro e w2 ⟨rfl, hb2⟩
      have hL2 : Below w.heap.size w w2 := HLow.out.trans (hb2.mono hz)
      have hs1 : ((Lib.byteCells (joinT (l.take k))).length + (str (dec x.length)).size) ≤ 140737488355328 := by rw [bytes_len, str_size]; have := HLE.out; have := H2.out; omega
      have HW1 := Lib.hid (writeS_any w.heap.size w.heap.size _ (str (dec x.length)) w2 (isB_below HB.out hb2) hs1 hL2.size)
      have HL2 := Lib.hid hL2
      clear hb2 hL2 hs1 HQ
      go_wp2_with fail
      refine HW1.out.mono ?_
      rintro e w3 ⟨rfl, hB3, hb3⟩
      rw [cells_str] at hB3
      have hL3 : Below w.heap.size w w3 := HL2.out.trans hb3
      have hs2 : (Lib.byteCells (joinT (l.take k)) ++ Lib.byteCells (dec x.length)).length + 1 ≤ 140737488355328 := by rw [List.length_append, bytes_len, bytes_len]; have := HLE.out; have := H2.out; omega
      have HW2 := Lib.hid (writeB_any w.heap.size w.heap.size _ 58 w3 (.inr hB3) hs2 hL3.size)
      have HL3 := Lib.hid hL3
      clear hb3 hL3 hs2 HW1 hB3
      go_wp2_with fail
      refine HW2.out.mono ?_
      rintro e w4 ⟨rfl, hB4, hb4⟩
      have hL4 : Below w.heap.size w w4 := HL3.out.trans hb4
      have hs3 : ((Lib.byteCells (joinT (l.take k)) ++ Lib.byteCells (dec x.length)) ++ [Value.int .u8 58]).length + (str x).size ≤ 140737488355328 := by rw [List.length_append, List.length_append, bytes_len, bytes_len, str_size]; have := HLE.out; have := H2.out; simp; omega
      have HW3 := Lib.hid (writeS_any w.heap.size w.heap.size _ (str x) w4 (.inr hB4) hs3 hL4.size)
      have HL4 := Lib.hid hL4
      clear hb4 hL4 hs3 HW2 hB4
      go_wp2_with fail
      refine HW3.out.mono ?_
      rintro e w5 ⟨rfl, hB5, hb5⟩
      rw [cells_str] at hB5
      have HB5 := Lib.hid hB5
      have HL5 := Lib.hid (HL4.out.trans hb5)
      clear hb5 hB5 HW3
      go_wp2_with fail
      refine ⟨⟨k + 1, by omega, by go_num, ?_, HL5.out⟩, by simp [intOf]; omega⟩
      rw [HSN.out, bytes_app, bytes_app, bytes_app]
      exact .inr HB5.out
    · obtain rfl : k = l.length := by omega
      have hB := HB.out
      rw [List.take_of_length_le (Nat.le_refl _)] at hB
      have HQ := Lib.hid (Tryd.Builder_String_any w.heap.size w.heap.size (joinT l) wr hB hz)
      clear hB
      go_wp2_with fail
      refine HQ.out.mono ?_
      rintro e w2 ⟨rfl, hb2⟩
      have HL2 := Lib.hid (HLow.out.trans hb2)
      have hq := sum_any (str (joinT l)) w2 (by rw [str_size]; exact H2.out) (HT.out.below HL2.out)
      rw [str_data] at hq
      have HQ2 := Lib.hid hq
      clear hb2 hq HQ
      go_wp2_with fail
      refine HQ2.out.mono ?_
      rintro e w3 ⟨rfl, hb3⟩
      go_wp2_with fail
      go_ret
      exact ⟨rfl, HL2.out.trans (hb3.mono HL2.out.size)⟩

end S
end Go.Proofs.YthdjdlndfkemiaaDoor

/- Digests: 'head'. -/
namespace Go.Proofs.YthdjdlndfkemiaaDoor
open Go.RowKit
namespace S

theorem str_toList (l : Tx) : (str l).toList = l := by rw [toList_data, str_data]
theorem sumC (t : Tx) (w : World) (hn : t.length ≤ 140737488351232) (ht : Tabs w) : Calls Tryd.prog 29 #[.string (ByteArray.mk (List.toArray t))] w fun e w' => e = .returned (.string (str (sumL t))) ∧ Below w.heap.size w w' := by
  have h := sum_any (str t) w (by rw [str_size]; exact hn) ht
  rw [str_data] at h
  exact h
theorem sumT (t : Tx) (w : World) (hn : t.length ≤ 140737488351232) (ht : Tabs w) : Calls Tryd.prog 29 #[.string (str t)] w fun e w' => e = .returned (.string (str (sumL t))) ∧ Below w.heap.size w w' := sumC t w hn ht
theorem isC (t : Tx) (b : Bool) (w : World) (hn : t.length ≤ 140737488351232) (h : isD t = b) : Calls Tryd.prog 9 #[.string (ByteArray.mk (List.toArray t))] w fun e w' => e = .returned (.bool b) ∧ Below w.heap.size w w' := by
  have k := is_any (str t) w (by rw [str_size]; omega)
  rw [str_data, h] at k
  exact k
theorem chainC (t : Tx) (n : Int) (w : World) (hn : t.length ≤ 140737488351232) (ht : Tabs w) : Calls Tryd.prog 18 #[.string (ByteArray.mk (List.toArray t)), .int .i64 n] w fun e w' => e = .returned (.string (str (chn t (chainN n)))) ∧ Below w.heap.size w w' := by
  have h := chain_any (str t) n w (by rw [str_size]; exact hn) ht
  rw [str_data] at h
  exact h
theorem chain0 (w : World) (ht : Tabs w) : Calls Tryd.prog 18 #[.string (ByteArray.mk (List.toArray [120])), .int .i64 0] w fun e w' => e = .returned (.string (str [120])) ∧ Below w.heap.size w w' := chainC [120] 0 w (by decide) ht
theorem chain2 (w : World) (ht : Tabs w) : Calls Tryd.prog 18 #[.string (ByteArray.mk (List.toArray [120])), .int .i64 2] w fun e w' => e = .returned (.string (str (sumL (sumL [120])))) ∧ Below w.heap.size w w' := chainC [120] 2 w (by decide) ht
theorem list2 (w : World) (ht : Tabs w) : Calls Tryd.prog 38 #[.slice (some ⟨w.heap.size, 0, none⟩) 2 2] (w.alloc (.cells #[.string { data := #[97] }, .string { data := #[98, 99] }] 9)) fun e w' => e = .returned (.string (str (sumL [49, 58, 97, 50, 58, 98, 99]))) ∧ Below w.heap.size w w' := by
  have hb : Below w.heap.size w (w.alloc (.cells #[.string { data := #[97] }, .string { data := #[98, 99] }] 9)) := (Below.refl _ _).alloc (Nat.le_refl _) _
  have h := list_any (some ⟨w.heap.size, 0, none⟩) 2 [[97], [98, 99]] (w.alloc (.cells #[.string { data := #[97] }, .string { data := #[98, 99] }] 9)) (fun i hi => by
    obtain ⟨c, _⟩ := Reg.cells_at (Reg.heap_new w (.cells #[.string { data := #[97] }, .string { data := #[98, 99] }] 9))
    refine ⟨_, 0, rfl, by simp, ?_⟩
    rw [c]
    match i, hi with
    | 0, _ => rfl
    | 1, _ => rfl) (by decide) (by decide) (by decide +kernel) (ht.below hb)
  refine h.mono ?_
  rintro e w' ⟨rfl, hb2⟩
  refine ⟨?_, hb.trans (hb2.mono hb.size)⟩
  have e : joinT [[97], [98, 99]] = [49, 58, 97, 50, 58, 98, 99] := by decide +kernel
  unfold listL
  rw [e]

end S
end Go.Proofs.YthdjdlndfkemiaaDoor
