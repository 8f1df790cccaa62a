/- Law 'NetNil': the walk. -/
import Derived.Test.YtklcpopnggiepaaNt
set_option linter.unusedSimpArgs false
set_option linter.unusedVariables false
set_option maxRecDepth 100000
namespace Go.Proofs.Ytklcpopnggiepaa
open Go.RowKit
namespace N

theorem knows_nil2 (a b : Int) (w : World) : Calls Try.prog 23 #[.pointer none, .agg #[.int .i64 a, .int .i64 b]] w fun e w' => e = .returned (.bool false) ∧ Below w.heap.size w w' := knows_nil a b w
section
variable (a b : Int) (w : World)
theorem nil_send (s : ByteArray) : Calls Try.prog 12 #[.pointer none, .int .i64 a, .int .i64 b, .string s] w fun e w' => e = .returned (.int .i64 1) ∧ Below w.heap.size w w' := by
  go_enter Try.func12, Try.ntmps12
  go_wp2_with fail
  (with_reducible refine (knows_nil2 _ _ _).mono ?_); rintro e w1 ⟨rfl, hb1⟩
  go_wp2
  go_ret
  exact ⟨rfl, ((Below.refl _ _).alloc (Nat.le_refl _) _).trans (hb1.mono (by simp))⟩
theorem nil_waiting : Calls Try.prog 15 #[.pointer none, .int .i64 a, .int .i64 b] w fun e w' => e = .returned (.slice none 0 0) ∧ Below w.heap.size w w' := by
  go_enter Try.func15, Try.ntmps15
  go_wp2_with fail
  (with_reducible refine (knows_nil2 _ _ _).mono ?_); rintro e w1 ⟨rfl, hb1⟩
  go_wp2
  go_ret
  exact ⟨rfl, ((Below.refl _ _).alloc (Nat.le_refl _) _).trans (hb1.mono (by simp))⟩
theorem nil_turn (x : Bool) : Calls Try.prog 33 #[.pointer none, .int .i64 a, .int .i64 b, .bool x] w fun e w' => e = .returned (.int .i64 1) ∧ Below w.heap.size w w' := by
  go_enter Try.func33, Try.ntmps33
  go_wp2_with fail
  (with_reducible refine (knows_nil2 _ _ _).mono ?_); rintro e w1 ⟨rfl, hb1⟩
  go_wp2
  go_ret
  exact ⟨rfl, hb1⟩
theorem nil_cut : Calls Try.prog 21 #[.pointer none, .int .i64 a, .int .i64 b] w fun e w' => e = .returned (.int .i64 1) ∧ Below w.heap.size w w' := by
  go_enter Try.func21, Try.ntmps21
  go_wp2_with fail
  (with_reducible refine (nil_turn _ _ _ _).mono ?_); rintro e w1 ⟨rfl, hb1⟩
  go_wp2
  go_ret
  exact ⟨rfl, hb1⟩
theorem nil_heal : Calls Try.prog 22 #[.pointer none, .int .i64 a, .int .i64 b] w fun e w' => e = .returned (.int .i64 1) ∧ Below w.heap.size w w' := by
  go_enter Try.func22, Try.ntmps22
  go_wp2_with fail
  (with_reducible refine (nil_turn _ _ _ _).mono ?_); rintro e w1 ⟨rfl, hb1⟩
  go_wp2
  go_ret
  exact ⟨rfl, hb1⟩
theorem nil_deliver (k : Int) (lost again : Bool) : Calls Try.prog 13 #[.pointer none, .int .i64 a, .int .i64 b, .int .i64 k, .bool lost, .bool again] w fun e w' => e = .returned (.tuple #[.string { data := #[] }, .bool false]) ∧ Below w.heap.size w w' := by
  have hT : Below w.heap.size w (((w.alloc (.cells #[.pointer none] 25)).alloc (.cells #[.int .i64 k] 3)).alloc (.cells #[.int .i64 a, .int .i64 b] 59)) := (((Below.refl _ _).alloc (Nat.le_refl _) _).alloc (by simp) _).alloc (by simp; omega) _
  have HT := Lib.hid hT
  clear hT
  go_enter_defers Try.func13, Try.ntmps13
  go_wp2_with fail
  refine Reg.wp_region_seq (by kernel_rfl) (by kernel_rfl) ?_
  simp only
  iterate 19
    apply Reg.SeqOK.val
    · intro γ W hW K hK
      obtain ⟨hc, hf, _⟩ := bcell hW
      simp only [Act.put, List.setIfInBounds_toArray, List.set_cons_zero, List.set_cons_succ] at hK
      unfold Reg.Does
      go_simp
      try simp only [IntWalk.i64_left]
      first
        | exact hK _ (Below.refl _ _)
        | (go_at_call 23; (with_reducible refine (knows_nil2 _ _ _).mono ?_); rintro e w' ⟨rfl, hb⟩; exact hK _ hb)
        | (trace_state; fail)
    simp only [Act.put, List.setIfInBounds_toArray, List.set_cons_zero, List.set_cons_succ, List.nil_append, List.cons_append, Nat.reduceAdd, Nat.zero_add]
  refine Reg.SeqOK.nil (by kernel_rfl) (fun γ W hW _ _ _ => ?_)
  have HW := Lib.hid hW
  clear hW
  go_wp2_with fail
  refine door_ret (v := .tuple #[.string { data := #[] }, .bool false]) (by simp [results, Try.results13, go_sem]) ⟨rfl, HT.out.trans (HW.out.mono HT.out.size)⟩
end

def bts (l : Tx) : List Value := l.map fun b => .int .u8 (b.toNat : Int)
theorem info_u8 : (Try.prog.info? 5).map (fun i => (i.zero, i.size, i.bytes)) = some (some (.int .u8 0), 1, 1) := by kernel_rfl
theorem make_zero (Z : Tx) (hZ : Z = List.replicate 20000 0) (w : World) : (Instr.makeSlice 50 (.int .i64 20000) (.int .i64 20000)).run Try.prog w =
    .ok (.slice (some ⟨w.heap.size, 0, none⟩) 20000 20000) (w.alloc (.cells (bts Z).toArray 5)) := by
  obtain ⟨i0, hi, hz0, hz1, hz2⟩ := info_parts info_u8
  have hr := run_make (P := Try.prog) w 50 5 i0 _ Try.underlying50 hi hz0 .i64 .i64 20000 20000 (by omega) (Int.le_refl _) (by rw [hz2]; omega) (by omega)
  rw [hr]
  have e : ((20000 : Int)).toNat = 20000 := by omega
  rw [e, hz1]
  congr 3
  apply Array.ext'
  simp only [Nat.mul_one]
  show (madeCells #[Value.int .u8 0] 20000).toList = _
  rw [toList_madeCells_one, hZ]
  unfold bts
  rw [List.map_replicate]
  rfl
theorem run_bts {w : World} {gs len cap : Nat} {st : Tx} (h : ∀ i, i < len → w.cell? ⟨gs, i, none⟩ = (bts st)[i]?) (hl : st.length = len) :
    (convert 50 9 (.slice (some ⟨gs, 0, none⟩) len cap)).run Try.prog w = .ok (.string (str st)) w := by
  have e := run_convert_bytes_arg (P := Try.prog) w 50 5 Try.underlying50 Try.underlying5 gs 0 len cap (st.map fun b => (b.toNat : Int)) (by simp [hl]) (fun i hi => by
    rw [Nat.zero_add, h i hi]
    simp [bts, List.getElem?_eq_getElem (show i < st.length by omega)]) 9 Try.underlying9
  rw [e]
  have hi : ((fun n : Int => UInt8.ofNat n.toNat) ∘ fun b : UInt8 => (b.toNat : Int)) = id := by funext b; simp
  simp [strOfNums, str, hi]

def nil1 (Z : Tx) : Nt := { newN 2 with q := at2 (fun _ _ => []) 0 1 [Z] }
theorem nil_s1 (Z : Tx) (h : Z.length = 20000) : send (newN 2) 0 1 Z = (0, nil1 Z) := by
  unfold send
  rw [if_neg (by simp [newN, okP]), if_neg (by omega), if_neg (by simp [newN]), if_neg (by simp [newN])]
  rfl
theorem nil_s2 (Z Y : Tx) (h : Y.length = 20001) : send (nil1 Z) 0 1 Y = (1, nil1 Z) := by
  unfold send
  rw [if_neg (by simp [nil1, newN, okP]), if_pos (by omega)]
theorem nil_w (Z : Tx) : waiting (nil1 Z) 0 1 = [Z] := by simp [waiting, nil1, newN, okP, at2]

set_option maxHeartbeats 4000000 in
theorem nil_walk (a b : Int) (lost again : Bool) (s : ByteArray) (w : World) (ha : B64 a) (hb : B64 b) (hs : s.size ≤ maxLen) :
    Calls Try.prog 7 #[.int .i64 a, .int .i64 b, .bool lost, .bool again, .string s] w fun e w' => e = .returned (.bool true) ∧ Below w.heap.size w w' := by
  obtain ⟨Z, hZ, hZl⟩ : ∃ Z : Tx, Z = List.replicate 20000 0 ∧ Z.length = 20000 := ⟨_, rfl, List.length_replicate⟩
  have hmk := make_zero Z hZ
  obtain ⟨i0, hi0, hi1, hz1, hz2⟩ := info_parts info_u8
  have HH := Lib.hid (head_any w)
  have HZ := Lib.hid hZ
  have HZl := Lib.hid hZl
  clear hZ hZl
  go_enter Try.func7, Try.ntmps7
  go_wp2_with fail
  (with_reducible refine HH.out.mono ?_); rintro e w1 ⟨rfl, hb1⟩
  have H := Lib.hid hb1
  clear hb1 HH
  go_wp2_with fail
  (with_reducible refine (nil_deliver _ _ _ _ _ _).mono ?_); rintro e w2 ⟨rfl, hb2⟩
  have H2 := Lib.hid (H.out.trans (hb2.mono H.out.size))
  clear hb2 H
  go_wp2_with fail
  (with_reducible refine (nil_send _ _ _ _).mono ?_); rintro e w3 ⟨rfl, hb3⟩
  have H3 := Lib.hid (H2.out.trans (hb3.mono H2.out.size))
  clear hb3 H2
  go_wp2_with fail
  (with_reducible refine (nil_waiting _ _ _).mono ?_); rintro e w4 ⟨rfl, hb4⟩
  have H4 := Lib.hid (H3.out.trans (hb4.mono H3.out.size))
  clear hb4 H3
  go_wp2_with fail
  (with_reducible refine (nil_cut _ _ _).mono ?_); rintro e w5 ⟨rfl, hb5⟩
  have H5 := Lib.hid (H4.out.trans (hb5.mono H4.out.size))
  clear hb5 H4
  go_wp2_with fail
  (with_reducible refine (nil_heal _ _ _).mono ?_); rintro e w6 ⟨rfl, hb6⟩
  have hnew := Lib.hid (tr_new (w0 := w) (W := w6) 2 (by omega) (by omega) (H5.out.trans (hb6.mono H5.out.size)))
  clear hb6 H5
  go_wp2_with fail
  refine hnew.out.mono ?_
  rintro e W0 ⟨g, M0, rfl, ht0, _, _⟩
  have k1 : Reg.Blk W0.heap.size (bts Z).toArray 5 (W0.alloc (.cells (bts Z).toArray 5)) := Reg.Blk.new W0 _ _
  have s1 : Safe M0 W0.heap.size (bts Z).toArray 5 (W0.alloc (.cells (bts Z).toArray 5)) := ⟨k1, fun m => by have := (ht0.lt _ m).2; omega⟩
  have ht1 := ht0.below (W' := W0.alloc (.cells (bts Z).toArray 5)) ((Below.refl _ _).alloc (Nat.le_refl _) _)
  have hz0 : w.heap.size ≤ W0.heap.size := ht0.low.size
  have hcv := run_bts (w := W0.alloc (.cells (bts Z).toArray 5)) (gs := W0.heap.size) (cap := 20000) (st := Z) (fun i hi => by rw [k1.facts.1]; simp) HZl.out
  obtain ⟨W1, hW1⟩ : ∃ W1, W1 = W0.alloc (.cells (bts Z).toArray 5) := ⟨_, rfl⟩
  rw [← hW1] at k1 s1 ht1
  have q1 := tr_send 0 1 Z b0 b1 ht1
  rw [nil_s1 Z HZl.out] at q1
  have Q1 := Lib.hid q1
  have S1 := Lib.hid s1
  have HE := Lib.hid hW1
  have HZ0 := Lib.hid hz0
  clear hnew ht0 k1 s1 ht1 q1 hW1 hz0
  go_wp2_with fail
  rw [← HE.out]
  refine Q1.out.mono ?_
  rintro e W2 ⟨rfl, M2, ht2, hm2⟩
  have s2 := S1.out.moved hm2
  have hrow : W2.ownsRow w.heap.size 5 1 (.slice (some ⟨W0.heap.size, 0, none⟩) 20000 20000) 20000 (bts Z) :=
    ⟨by simp [bts, HZl.out], .inr ⟨W0.heap.size, 20000, _, rfl, HZ0.out, s2.blk, Nat.le_refl _, by unfold maxLen; omega, by simp [bts, HZl.out], by rw [List.take_of_length_le (by simp [bts, HZl.out])]⟩⟩
  have HR := Lib.hid hrow
  have HT2 := Lib.hid ht2
  have S2 := Lib.hid s2
  clear Q1 ht2 hm2 s2 hrow hcv
  go_wp2_with (at_builtin; refine wpList_append_lies _ (by rfl) _ _ _ (by rfl) w.heap.size 5 i0 _ 1 1 Try.underlying50 hi0 hi1 hz1 hz2 rfl (by omega) (.slice (some ⟨W0.heap.size, 0, none⟩) 20000 20000) 20000 (bts Z) (by rfl) (HR.out.alloc _) ⟨W2.heap.size, 0, none⟩ 1 1 [.int .u8 120] (by rfl) (by rfl) (World.news_of_block (cs := #[.int .u8 120]) (t := 5) (fr := (0, 0)) (heap_alloc_new W2 _)) (by simp [Value.oneCell']) (by omega) (by unfold maxLen; omega) (by omega) (by have := HT2.out.low.size; simp; omega) (W2.heap.size + 1) (by simp) ?_; intro gg cap W3 hown1 hgrow hat hlt3; have hcv3 := run_bts (w := W3) (gs := gg) (len := 20001) (cap := cap) (st := Z ++ [120]) (fun i hi => by rw [hown1.cellAt i (by omega)]; simp [bts]) (by simp [HZl.out]))
  have ht3 := (HT2.out.below (W' := W2.alloc (.cells #[.int .u8 120] 5)) ((Below.refl _ _).alloc (Nat.le_refl _) _)).grown hgrow (fun k e => by
    simp only [Value.ownBlock, Option.some.injEq] at e
    subst e
    exact ⟨HZ0.out, S2.out.no⟩)
  have q3 := tr_send 0 1 (Z ++ [120]) b0 b1 ht3
  rw [nil_s2 Z (Z ++ [120]) (by simp [HZl.out])] at q3
  have Q3 := Lib.hid q3
  clear hown1 hgrow hat ht3 q3 hcv3
  refine Q3.out.mono ?_
  rintro e W4 ⟨rfl, M4, ht4, _⟩
  have q4 := tr_waiting 0 1 b0 b1 ht4
  rw [nil_w] at q4
  have Q4 := Lib.hid q4
  have HT4 := Lib.hid ht4.low
  clear q4 ht4 Q3
  go_wp2_with fail
  refine Q4.out.mono ?_
  rintro e W5 ⟨A, c, rfl, _, hb5⟩
  have HB5 := Lib.hid (HT4.out.trans (hb5.mono HT4.out.size))
  clear hb5 Q4
  go_wp2_with fail
  go_ret
  exact ⟨rfl, HB5.out⟩

end N
end Go.Proofs.Ytklcpopnggiepaa
