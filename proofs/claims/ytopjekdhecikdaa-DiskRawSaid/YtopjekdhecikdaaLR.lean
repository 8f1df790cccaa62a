/- Law 'DiskReads': the walk. -/
import Derived.Test.YtopjekdhecikdaaDv
import Derived.Test.YtopjekdhecikdaaDl
set_option linter.unusedSimpArgs false
set_option linter.unusedVariables false
set_option maxRecDepth 100000
namespace Go.Proofs.Ytopjekdhecikdaa
open Go.RowKit
namespace D

theorem acts_one {w : World} {g : Nat} {x : AV} (h : Reg.Blk g #[.int .i64 x.kind, .int .i64 x.sec, .int .i64 x.byt, .string (str x.text), .bool x.odd, .int .i64 x.aft] 34 w) : ActsAt w (some ⟨g, 0, none⟩) [x] := fun i hi => by
  obtain rfl : i = 0 := by simpa using hi
  obtain ⟨c, f, z⟩ := h.facts
  exact ⟨g, 0, rfl, z, c 0, c 1, c 2, c 3, c 4, c 5⟩

theorem ok_one {w : World} {g : Nat} {x : AV} (h : Reg.Blk g #[.int .i64 x.kind, .int .i64 x.sec, .int .i64 x.byt, .string (str x.text), .bool x.odd, .int .i64 x.aft] 34 w) :
    Calls Try.prog 12 #[.slice (some ⟨g, 0, none⟩) 1 1] w fun e w' => e = .returned (.bool (okB [x])) ∧ w = w' := ok_any (some ⟨g, 0, none⟩) 1 [x] w (acts_one h) (by simp)

set_option maxHeartbeats 40000000 in
set_option maxRecDepth 100000 in
theorem reads_walk (r : Int) (A : Option Addr) (c : Nat) (l : List AV) (x : AV) (w : World) (hr : 0 ≤ r ∧ r ≤ 255) (hl : ActsAt w A l) (hll : l.length ≤ 9223372036854775807) (hb : ∀ a ∈ l, a.aft ≤ 9223372036854775807) :
    Calls Try.prog 6 #[.int .u8 r, .slice A l.length c, .agg #[.int .i64 x.kind, .int .i64 x.sec, .int .i64 x.byt, .string (str x.text), .bool x.odd, .int .i64 x.aft]] w fun e w' =>
      e = .returned (.bool true) ∧ Below w.heap.size w w' := by
  obtain ⟨hr0, hr1⟩ := hr
  have HL := Lib.hid hl
  have HBd := Lib.hid hb
  clear hl hb
  go_enter Try.func6, Try.ntmps6
  go_wp2_with fail
  (with_reducible refine (head_any _).mono ?_); rintro e w1 ⟨rfl, hb1⟩
  have kx := Reg.Blk.new1 hb1
  have hT : Below w.heap.size w w1 := ((Below.refl _ _).alloc (Nat.le_refl _) _).trans (hb1.mono (by simp))
  clear hb1
  have zx : w.heap.size < w1.heap.size := kx.lt
  go_wp2_with fail
  (with_reducible refine (ok_any A c l w1 (HL.out.below hT) hll).mono ?_); rintro e w' ⟨rfl, rfl⟩
  obtain ⟨ckx, fkx, zkx⟩ := kx.facts
  cases hok : okB l
  case false =>
    go_wp2
    go_ret
    exact ⟨rfl, hT⟩
  obtain ⟨ok1, ok2⟩ := okB_true hok
  have OK1 := Lib.hid ok1
  clear ok1
  go_wp2_with fail
  have kb := Reg.Blk.new w1 #[.int .i64 x.kind, .int .i64 x.sec, .int .i64 x.byt, .string (str x.text), .bool x.odd, .int .i64 x.aft] 34
  (with_reducible refine (ok_one kb).mono ?_); rintro e w' ⟨rfl, rfl⟩
  clear kb
  cases hox : okB [x]
  case false =>
    go_wp2
    go_ret
    exact ⟨rfl, hT.alloc hT.size _⟩
  obtain ⟨ox1, _⟩ := okB_true hox
  have hxl : x.text.length ≤ 1000000 := by have := ox1 x (List.mem_singleton.2 rfl); omega
  clear ox1 hox
  have kx2 := kx.alloc (.cells #[.int .i64 x.kind, .int .i64 x.sec, .int .i64 x.byt, .string (str x.text), .bool x.odd, .int .i64 x.aft] 34)
  have hT2 := hT.alloc hT.size (.cells #[.int .i64 x.kind, .int .i64 x.sec, .int .i64 x.byt, .string (str x.text), .bool x.odd, .int .i64 x.aft] 34)
  go_wp2_with fail
  (with_reducible refine (size_any r _ hr0 hr1).mono ?_); rintro e w' ⟨rfl, rfl⟩
  obtain ⟨N, hN⟩ : ∃ N : Nat, 1 + r % 12 = (N : Int) := Int.eq_ofNat_of_zero_le (by omega)
  have hN1 : 1 ≤ N := by omega
  have hN2 : N ≤ 12 := by omega
  rw [hN]
  clear hN hT kx ckx fkx zkx
  go_wp2_with fail
  (with_reducible refine (tm_new (w0 := w) N hN1 (by omega) hT2).mono ?_); rintro e w3 ⟨g, M, rfl, ht, hM, hb3⟩
  have kx : Safe M w.heap.size _ _ w3 := ⟨kx2.keep hb3, fun m => by have := hM _ m; simp at this; omega⟩
  clear kx2 hT2 hM hb3
  go_wp2_with fail
  go_loopw [10] (fun i wr => ∃ k : Nat, k ≤ l.length ∧ i = .int .i64 k ∧ ∃ M, TrM w N k g (runD (newD N) (l.take k)) M wr ∧ Safe M w.heap.size #[.int .i64 x.kind, .int .i64 x.sec, .int .i64 x.byt, .string (str x.text), .bool x.odd, .int .i64 x.aft] 34 wr) (fun i _ => l.length - (intOf i).toNat)
  case atStart => exact ⟨0, Nat.zero_le _, rfl, M, ht, kx⟩
  case round =>
    clear ht kx
    obtain ⟨k, hk, rfl, M, ht, kx⟩ := hrel
    by_cases hlt : k < l.length
    · obtain ⟨b, off, hA, hlt2, c0, c1, c2, c3, c4, c5⟩ := (HL.out.below ht.low) k hlt
      subst hA
      have hkl : (k : Int) < (l.length : Int) := by omega
      have hD := Lib.hid (tm_do l[k] ht (by omega) (by have := OK1.out l[k] (List.getElem_mem hlt); omega) (HBd.out l[k] (List.getElem_mem hlt)))
      have Hkx := Lib.hid kx
      have hrt := Lib.hid (runD_take (d := newD N) hlt)
      clear ht kx
      go_wp2_with fail
      (with_reducible refine hD.out.mono ?_); rintro e w4 ⟨rfl, M4, ht4, hm4⟩
      have HT4 := Lib.hid ht4
      clear ht4
      go_wp2_with fail
      refine ⟨⟨k + 1, by omega, by go_num, M4, by rw [hrt.out]; exact HT4.out, Hkx.out.moved hm4⟩, by simp [intOf]; omega⟩
    · obtain rfl : k = l.length := by omega
      rw [List.take_length] at ht
      have hS := Lib.hid (tm_start ht)
      have Hkx := Lib.hid kx
      clear ht kx
      generalize hd0 : runD (newD N) l = d0 at *
      clear hd0
      go_wp2_with fail
      (with_reducible refine hS.out.mono ?_); rintro e w4 ⟨rfl, M4, ht4, hm4⟩
      have kx4 := Lib.hid (Hkx.out.moved hm4)
      clear hm4
      have hC := Lib.hid (tr_contents ht4.tr (by omega) rfl)
      have ht4' := Lib.hid ht4
      clear ht4
      go_wp2_with fail
      (with_reducible refine hC.out.mono ?_); rintro e w5 ⟨A1, c1, rfl, ho1, hb5⟩
      have hg1 := ht4'.out.good
      have Ht7low := Lib.hid ht4'.out.low.size
      have ho : (start d0).off = false := rfl
      have ha : (start d0).arm = none := rfl
      generalize start d0 = d1 at *
      have ht5 := Lib.hid (ht4'.out.below hb5)
      have row1 := Lib.hid (SafeRow.new ho1 (fun k m => (ht4'.out.lt k m).2))
      have kx5 := Lib.hid (kx4.out.below hb5)
      have cases_ := Lib.hid (write_cases hg1 ho ha x.sec (atext x.text x.odd))
      have Ho := Lib.hid ho
      clear ho1 hb5 hS hC ht4' kx4 Hkx ho ha hk hlt
      obtain ⟨ckx, fkx, zkx⟩ := kx5.out.blk.facts
      go_wp2_with fail
      refine Reg.wp_region_seq (by kernel_rfl) (by kernel_rfl) ?_
      simp only
      iterate 5
        apply Reg.SeqOK.val
        · intro γ W hW K hK
          obtain ⟨hc, hf, _⟩ := bcell hW
          simp only [Act.put, List.setIfInBounds_toArray, List.set_cons_zero, List.set_cons_succ] at hK
          unfold Reg.Does
          go_simp
          try simp only [IntWalk.i64_left]
          first
            | exact hK _ (Below.refl _ _)
            | (go_at_call 24; (with_reducible refine (text_any _ _ _ _ _ _ _ (by assumption)).mono ?_); rintro e w' ⟨rfl, hb⟩; exact hK _ hb)
        simp only [Act.put, List.setIfInBounds_toArray, List.set_cons_zero, List.set_cons_succ, List.nil_append, List.cons_append, Nat.reduceAdd, Nat.zero_add]
      refine Reg.SeqOK.tail (by kernel_rfl) (by kernel_rfl) (fun γ W hW _ _ _ => ?_)
      have hS := Lib.hid (tm_write x.sec (atext x.text x.odd) (ht5.out.below hW) (by omega))
      have row2 := Lib.hid (row1.out.below hW)
      have kx6 := Lib.hid (kx5.out.below hW)
      clear hW ckx fkx zkx row1 kx5 ht5
      refine Reg.tail_cons ?_
      unfold Reg.Does
      go_simp
      go_wp2_with fail
      (with_reducible refine hS.out.mono ?_); rintro e w7 ⟨rfl, M7, ht7, hm7⟩
      have row3 := Lib.hid (row2.out.moved hm7)
      have Hrl := Lib.hid row3.out.own.lt
      have kx7 := Lib.hid (kx6.out.moved hm7)
      have Ht7 := Lib.hid ht7
      clear hS row2 kx6 hm7 ht7
      refine Reg.tail_cons ?_
      unfold Reg.Does
      go_simp
      refine Reg.tail_nil ?_
      rcases cases_.out with ⟨he, s1, s2, s3, hd2, hc2⟩ | ⟨he, hd2, hwhy⟩
      · rw [he]
        rw [hd2] at Ht7 hc2
        have hC := Lib.hid (tr_contents Ht7.out.tr (by omega) Ho.out)
        rw [hc2] at hC
        have Ho2 : Hid (({ d1 with q := d1.q ++ [(x.sec.toNat, atext x.text x.odd)] } : Dk).off = false) := Ho.out
        have Hc2 := Lib.hid hc2
        clear he hd2 hc2
        generalize hdd : ({ d1 with q := d1.q ++ [(x.sec.toNat, atext x.text x.odd)] } : Dk) = d2 at *
        clear hdd
        go_wp2_with fail
        (with_reducible refine hC.out.mono ?_); rintro e w8 ⟨A2, c2, rfl, ho2, hb8⟩
        have row4 := Lib.hid (row3.out.below hb8)
        have kx8 := Lib.hid (kx7.out.below hb8)
        have Ht8 := Lib.hid (Ht7.out.below hb8)
        have now1 := Lib.hid (SafeRow.new ho2 (fun k m => (Ht7.out.lt k m).2))
        have z78 := hb8.size
        have hC2 := Lib.hid (tr_contents Ht8.out.tr (by omega) Ho2.out)
        rw [Hc2.out] at hC2
        clear hb8 ho2 row3 kx7 Ht7 hC
        go_wp2_with fail
        (with_reducible refine hC2.out.mono ?_); rintro e w9 ⟨A3, c3, rfl, ho3, hb9⟩
        have row5 := Lib.hid (row4.out.below hb9)
        have kx9 := Lib.hid (kx8.out.below hb9)
        have Ht9 := Lib.hid (Ht8.out.below hb9)
        have now2 := Lib.hid (now1.out.below hb9)
        have hn2 : ((conts N d1).set x.sec.toNat (atext x.text x.odd)).length = N := by rw [List.length_set, conts_len]
        have hsm := Lib.hid (same_rows now2.out.own ho3 hn2 hn2 (by omega))
        have hbb : ((conts N d1).set x.sec.toNat (atext x.text x.odd) == (conts N d1).set x.sec.toNat (atext x.text x.odd)) = true := by simp
        rw [hbb] at hsm
        clear hbb hb9 ho3 row4 kx8 Ht8 now1 hC2
        go_wp2_with fail
        (with_reducible refine hsm.out.mono ?_); rintro e w10 ⟨rfl, hb10⟩
        have row6 := row5.out.below hb10
        have kx10 := Lib.hid (kx9.out.below hb10)
        have Ht10 := Lib.hid (Ht9.out.below hb10)
        have now3 := Lib.hid (now2.out.below hb10)
        obtain ⟨g1, cp, hv1, hg1b, hg1l⟩ := row6.own.form (by omega)
        obtain ⟨rfl, rfl⟩ : A1 = some ⟨g1, 0, none⟩ ∧ c1 = cp := by injection hv1 with a b c; exact ⟨a, c⟩
        have hj : x.sec.toNat < N := by omega
        obtain ⟨tj, htj⟩ : ∃ t, (conts N d1)[x.sec.toNat]? = some t := ⟨_, List.getElem?_eq_getElem (by rw [conts_len]; exact hj)⟩
        have cj : w10.cell? ⟨g1, x.sec.toNat, none⟩ = some (.string (str tj)) := by rw [row6.own.cellAt _ (by omega), sv_get, htj]; rfl
        have fj : w10.frozen? ⟨g1, x.sec.toNat, none⟩ = false := row6.own.frozenAt _
        have row7 := Lib.hid row6
        obtain ⟨ckx, fkx, zkx⟩ := kx10.out.blk.facts
        clear hb10 row5 kx9 Ht9 now2 hsm row6 hv1 htj
        go_wp2_with fail
        refine Reg.wp_region_seq (by kernel_rfl) (by kernel_rfl) ?_
        simp only
        iterate 6
          apply Reg.SeqOK.val
          · intro γ W hW K hK
            obtain ⟨hc, hf, _⟩ := bcell hW
            simp only [Act.put, List.setIfInBounds_toArray, List.set_cons_zero, List.set_cons_succ] at hK
            unfold Reg.Does
            go_simp
            try simp only [IntWalk.i64_left]
            first
              | exact hK _ (Below.refl _ _)
              | (go_at_call 24; (with_reducible refine (text_any _ _ _ _ _ _ _ (by assumption)).mono ?_); rintro e w' ⟨rfl, hb⟩; exact hK _ hb)
          simp only [Act.put, List.setIfInBounds_toArray, List.set_cons_zero, List.set_cons_succ, List.nil_append, List.cons_append, Nat.reduceAdd, Nat.zero_add]
        refine Reg.SeqOK.last (by kernel_rfl) (by kernel_rfl) (fun γ W hW _ _ _ => ?_)
        obtain ⟨hc, hf, _⟩ := bcell hW
        have ho8 := row7.out.own
        have hst := ((row7.out.below hW).own.stored x.sec.toNat (.string (str (atext x.text x.odd)))).1
        rw [sv_set] at hst
        have hgl := (Hrl.out g1 rfl).2
        have hnow := Lib.hid (own_of (w' := W.setCell ⟨g1, x.sec.toNat, none⟩ (.string (str (atext x.text x.odd)))) (now3.out.below hW).own (fun k hk => Below.heap_setCell _ _ _ _ (fun e => by
          have := (now3.out.own.lt k hk).1
          simp only at e
          omega)))
        have hTs := Lib.hid ((Ht10.out.below hW).set ⟨g1, x.sec.toNat, none⟩ (.string (str (atext x.text x.odd))) (row7.out.no g1 rfl) (by have := Ht7low.out; simp only; omega))
        have hsm := Lib.hid (same_rows hst hnow.out (by rw [List.length_set, conts_len]) (by rw [List.length_set, conts_len]) (by omega))
        have hbb : ((conts N d1).set x.sec.toNat (atext x.text x.odd) == (conts N d1).set x.sec.toNat (atext x.text x.odd)) = true := by simp
        rw [hbb] at hsm
        have HW := Lib.hid hW
        clear hbb ckx fkx zkx hst hnow row7 ho8 hW
        unfold Reg.Does
        go_simp
        go_wp2_with fail
        (with_reducible refine hsm.out.mono ?_); rintro e w11 ⟨rfl, hb11⟩
        have hF := Lib.hid (tr_fail 0 0 (hTs.out.below hb11).tr (by omega))
        clear hb11 hTs hsm cj fj
        go_wp2_with fail
        (with_reducible refine hF.out.mono ?_); rintro e w12 ⟨rfl, ht12⟩
        have hof := fail_is_off d2 0 0
        generalize fail d2 0 0 = d3 at *
        have Hof := Lib.hid hof
        have Ht12 := Lib.hid ht12
        clear hof ht12 hF
        go_wp2_with fail
        (with_reducible refine (fill_tA _).mono ?_); rintro e w13 ⟨rfl, hb13⟩
        have hW13 := tr_write 0 tA (Ht12.out.below hb13) (by omega)
        rw [write_when_off Hof.out] at hW13
        have HW13 := Lib.hid hW13
        clear hW13 hb13
        go_wp2_with fail
        (with_reducible refine HW13.out.mono ?_); rintro e w14 ⟨rfl, ht14⟩
        have hR := tr_read 0 ht14 (by omega)
        rw [read_when_off Hof.out] at hR
        have HR := Lib.hid hR
        have Ht14 := Lib.hid ht14
        clear hR ht14
        go_wp2_with fail
        (with_reducible refine HR.out.mono ?_); rintro e w15 ⟨rfl, hb15⟩
        have hlow := Lib.hid (Ht14.out.below hb15).low
        have he : (str []).toList.isEmpty = true := str_emp []
        clear hb15
        go_wp2
        go_ret
        exact ⟨rfl, hlow.out⟩
      · rw [he]
        rw [hd2] at Ht7
        have hC := Lib.hid (tr_contents Ht7.out.tr (by omega) Ho.out)
        have Hwhy := Lib.hid hwhy
        clear he hd2 hwhy
        go_wp2_with fail
        (with_reducible refine hC.out.mono ?_); rintro e w8 ⟨A2, c2, rfl, ho2, hb8⟩
        have row4 := Lib.hid (row3.out.below hb8)
        have kx8 := Lib.hid (kx7.out.below hb8)
        have Ht8 := Lib.hid (Ht7.out.below hb8)
        have now1 := Lib.hid (SafeRow.new ho2 (fun k m => (Ht7.out.lt k m).2))
        have hC2 := Lib.hid (tr_contents Ht8.out.tr (by omega) Ho.out)
        clear hb8 ho2 row3 kx7 Ht7 hC
        go_wp2_with fail
        (with_reducible refine hC2.out.mono ?_); rintro e w9 ⟨A3, c3, rfl, ho3, hb9⟩
        have row5 := Lib.hid (row4.out.below hb9)
        have kx9 := Lib.hid (kx8.out.below hb9)
        have Ht9 := Lib.hid (Ht8.out.below hb9)
        have now2 := Lib.hid (now1.out.below hb9)
        have hn2 := conts_len N d1
        have hbb : (conts N d1 == conts N d1) = true := by simp
        have hsm := same_rows now2.out.own ho3 hn2 hn2 (by omega)
        rw [hbb] at hsm
        have Hsm := Lib.hid hsm
        clear hb9 ho3 row4 kx8 Ht8 now1 hC2 hsm
        go_wp2_with fail
        (with_reducible refine Hsm.out.mono ?_); rintro e w10 ⟨rfl, hb10⟩
        have hsm2 := same_rows (row5.out.below hb10).own (now2.out.below hb10).own hn2 hn2 (by omega)
        rw [hbb] at hsm2
        have Hsm2 := Lib.hid hsm2
        have kx10 := Lib.hid (kx9.out.below hb10)
        have Ht10 := Lib.hid (Ht9.out.below hb10)
        clear hbb hn2 hb10 hsm2 Hsm now2 row5 kx9 Ht9
        go_wp2_with fail
        (with_reducible refine Hsm2.out.mono ?_); rintro e w11 ⟨rfl, hb11⟩
        have kx11 := kx10.out.below hb11
        have Ht11 := Lib.hid (Ht10.out.below hb11)
        obtain ⟨ckx, fkx, zkx⟩ := kx11.blk.facts
        clear hb11 kx10 Ht10 kx11
        by_cases s0 : x.sec < 0
        · go_wp2
          go_ret
          exact ⟨rfl, Ht11.out.low⟩
        by_cases s1 : (N : Int) ≤ x.sec
        · have s0' : 0 ≤ x.sec := by omega
          go_wp2
          go_ret
          exact ⟨rfl, Ht11.out.low⟩
        have s0' : 0 ≤ x.sec := by omega
        have s1' : x.sec < (N : Int) := by omega
        have hlen : (atext x.text x.odd).length ≠ 64 := by rcases Hwhy.out with h | h | h; omega; omega; exact h
        have hsz : (((str (atext x.text x.odd)).size : Int) != 64) = true := by rw [str_size]; simp; omega
        have hsz2 : ¬ (str (atext x.text x.odd)).size = 64 := by rw [str_size]; exact hlen
        clear s0 s1 hlen
        go_wp2_with fail
        (with_reducible refine (text_any _ _ _ _ _ _ _ hxl).mono ?_); rintro e w12 ⟨rfl, hb12⟩
        have hlow := Lib.hid (Ht11.out.below hb12).low
        clear hb12
        go_wp2
        go_ret
        exact ⟨rfl, hlow.out⟩

end D
end Go.Proofs.Ytopjekdhecikdaa
