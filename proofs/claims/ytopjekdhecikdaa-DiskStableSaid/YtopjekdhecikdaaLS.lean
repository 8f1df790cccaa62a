/- Law 'DiskStable': the walk. -/
import Derived.Test.YtopjekdhecikdaaDv
import Derived.Test.YtopjekdhecikdaaDx
set_option linter.unusedSimpArgs false
set_option linter.unusedVariables false
set_option maxRecDepth 100000
namespace Go.Proofs.Ytopjekdhecikdaa
open Go.RowKit
namespace D

set_option maxHeartbeats 40000000 in
set_option maxRecDepth 100000 in
theorem stable_walk (r : Int) (A : Option Addr) (c : Nat) (l : List AV) (A2 : Option Addr) (c2 : Nat) (l2 : List AV) (x y : Int) (w : World) (hr : 0 ≤ r ∧ r ≤ 255) (hl : ActsAt w A l) (hll : l.length ≤ 9223372036854775807) (hb : ∀ a ∈ l, a.aft ≤ 9223372036854775807) (hl2 : ActsAt w A2 l2) (hll2 : l2.length ≤ 9223372036854775807) (hb2 : ∀ a ∈ l2, a.aft ≤ 9223372036854775807) (bx : -9223372036854775808 ≤ x ∧ x ≤ 9223372036854775807) (by' : -9223372036854775808 ≤ y ∧ y ≤ 9223372036854775807) :
    Calls Try.prog 4 #[.int .u8 r, .slice A l.length c, .slice A2 l2.length c2, .int .i64 x, .int .i64 y] w fun e w' => e = .returned (.bool true) ∧ Below w.heap.size w w' := by
  obtain ⟨hr0, hr1⟩ := hr
  have HLl := Lib.hid hl
  have HBdl := Lib.hid hb
  clear hl hb
  have HLl2 := Lib.hid hl2
  have HBdl2 := Lib.hid hb2
  clear hl2 hb2
  go_enter Try.func4, Try.ntmps4
  go_wp2_with fail
  (with_reducible refine (head_any _).mono ?_); rintro e w1 ⟨rfl, hT⟩
  go_wp2_with fail
  (with_reducible refine (ok_any A c l w1 (HLl.out.below hT) hll).mono ?_); rintro e w' ⟨rfl, rfl⟩
  cases hokl : okB l
  case false =>
    go_wp2
    go_ret
    exact ⟨rfl, hT⟩
  obtain ⟨ok1, ok2l⟩ := okB_true hokl
  have OKl := Lib.hid ok1
  clear ok1
  go_wp2_with fail
  (with_reducible refine (ok_any A2 c2 l2 w1 (HLl2.out.below hT) hll2).mono ?_); rintro e w' ⟨rfl, rfl⟩
  cases hokl2 : okB l2
  case false =>
    go_wp2
    go_ret
    exact ⟨rfl, hT⟩
  obtain ⟨ok1, ok2l2⟩ := okB_true hokl2
  have OKl2 := Lib.hid ok1
  clear ok1
  go_wp2_with fail
  (with_reducible refine (size_any r _ hr0 hr1).mono ?_); rintro e w' ⟨rfl, rfl⟩
  obtain ⟨N, hN⟩ : ∃ N : Nat, 1 + r % 12 = (N : Int) := Int.eq_ofNat_of_zero_le (by omega)
  have hN1 : 1 ≤ N := by omega
  have hN2 : N ≤ 12 := by omega
  rw [hN]
  clear hN
  go_wp2_with fail
  (with_reducible refine (tm_new (w0 := w) N hN1 (by omega) hT).mono ?_); rintro e w3 ⟨g, M, rfl, ht, hM, hb3⟩
  clear hM hb3 hT
  have HT := Lib.hid ht
  clear ht
  go_wp2_with fail
  go_loopw [14] (fun i wr => ∃ k : Nat, k ≤ l.length ∧ i = .int .i64 k ∧ ∃ M, TrM w N k g (runD (newD N) (l.take k)) M wr) (fun i _ => l.length - (intOf i).toNat)
  case atStart => exact ⟨0, Nat.zero_le _, rfl, M, HT.out⟩
  case round =>
    clear HT
    obtain ⟨k, hk, rfl, M, ht⟩ := hrel
    by_cases hlt : k < l.length
    · obtain ⟨b, off, hA, hlt2, c0, c1, c2, c3, c4, c5⟩ := (HLl.out.below ht.low) k hlt
      subst hA
      have hkl : (k : Int) < (l.length : Int) := by omega
      have hD := Lib.hid (tm_do l[k] ht (by omega) (by have := OKl.out l[k] (List.getElem_mem hlt); omega) (HBdl.out l[k] (List.getElem_mem hlt)))
      have hrt := Lib.hid (runD_take (d := newD N) hlt)
      clear ht
      go_wp2_with fail
      (with_reducible refine hD.out.mono ?_); rintro e w4 ⟨rfl, M4, ht4, hm4⟩
      have HT4 := Lib.hid ht4
      clear ht4
      go_wp2_with fail
      refine ⟨⟨k + 1, by omega, by go_num, M4, by rw [hrt.out]; exact HT4.out⟩, by simp [intOf]; omega⟩
    · obtain rfl : k = l.length := by omega
      rw [List.take_length] at ht
      have hS := Lib.hid (tm_start ht)
      have hql : (runD (newD N) l).q.length ≤ l.length := by have := (few_run (few_new N) l HBdl.out).ql; omega
      clear ht
      generalize hd0 : runD (newD N) l = d0 at *
      clear hd0
      go_wp2_with fail
      (with_reducible refine hS.out.mono ?_); rintro e w4 ⟨rfl, M4, ht4, hm4⟩
      have Ho := Lib.hid (show (start d0).off = false from rfl)
      have Ha := Lib.hid (show (start d0).arm = none from rfl)
      have hql1 : (start d0).q.length ≤ l.length := hql
      clear hm4 hS hql hk hlt
      generalize start d0 = d1 at *
      have f1 := tm_sync ht4 (by omega)
      rw [sync_clean Ho.out Ha.out] at f1
      have F1 := Lib.hid f1
      clear f1 ht4 HBdl OKl HLl
      go_wp2_with fail
      (with_reducible refine F1.out.mono ?_); rintro e w5 ⟨rfl, M5, ht5, hm5⟩
      have Ho2 := Lib.hid (show ({ d1 with st := eff d1, q := [] } : Dk).off = false from Ho.out)
      have Wr0 := Lib.hid (Wrote.none_ (N := N) (show ({ d1 with st := eff d1, q := [] } : Dk).off = false from Ho.out) (show ({ d1 with st := eff d1, q := [] } : Dk).arm = none from Ha.out) (show ({ d1 with st := eff d1, q := [] } : Dk).q = [] from rfl))
      have ec1 := Lib.hid (show conts N { d1 with st := eff d1, q := [] } = secs N ({ d1 with st := eff d1, q := [] } : Dk).st from rfl)
      generalize ({ d1 with st := eff d1, q := [] } : Dk) = d2 at *
      have HT5 := Lib.hid ht5
      have f2 := Lib.hid (tr_contents ht5.tr (by omega) Ho2.out)
      have hmk := make_bools N (by omega)
      clear ht5 hm5 F1
      go_wp2_with fail
      (with_reducible refine f2.out.mono ?_); rintro e w6 ⟨A1, c1, rfl, ho1, hb6⟩
      have hlt5 := HT5.out.lt
      have bk0 : Safe M5 w6.heap.size (bv (List.replicate N false)) 4 (w6.alloc (.cells (bv (List.replicate N false)) 4)) := ⟨Reg.Blk.new _ _ _, fun m => by have := (hlt5 _ m).2; have := hb6.size; omega⟩
      have row1 := Lib.hid ((SafeRow.new ho1 (fun k m => (hlt5 k m).2)).below ((Below.refl w6.heap.size w6).alloc (Nat.le_refl _) (.cells (bv (List.replicate N false)) 4)))
      have HT6 := Lib.hid ((HT5.out.below hb6).below ((Below.refl w6.heap.size w6).alloc (Nat.le_refl _) (.cells (bv (List.replicate N false)) 4)))
      have Bk0 := Lib.hid bk0
      have hz6 := Lib.hid (show w.heap.size ≤ w6.heap.size from Nat.le_trans HT5.out.low.size hb6.size)
      have hro := Lib.hid (fun k hk => (ho1.lt k hk).2)
      clear ho1 hb6 f2 HT5 hlt5 bk0
      go_wp2_with fail
      go_loopw [18] (fun i wr => ∃ k : Nat, k ≤ l2.length ∧ i = .int .i64 k ∧ ∃ d M wb, TrM w N (l.length + k) g d M wr ∧ Wrote N d2 d wb ∧ Safe M w6.heap.size (bv wb) 4 wr ∧ SafeRow M w5.heap.size 9 1 (.slice A1 N c1) N (sv (conts N d2)) wr) (fun i _ => l2.length - (intOf i).toNat)
      case atStart => exact ⟨0, Nat.zero_le _, rfl, d2, M5, _, HT6.out, Wr0.out, Bk0.out, row1.out⟩
      case round =>
        clear HT6 Wr0 Bk0 row1
        obtain ⟨k, hk, rfl, d, M, wb, ht, hw, bk, row⟩ := hrel
        by_cases hlt : k < l2.length
        · obtain ⟨b, off, hA, hlt2, c0, c1, c2, c3, c4, c5⟩ := (HLl2.out.below ht.low) k hlt
          subst hA
          have hkl : (k : Int) < (l2.length : Int) := by omega
          have hk0 : (0 : Int) ≤ (k : Int) := by omega
          have hxl : l2[k].text.length ≤ 1000000 := by have := OKl2.out l2[k] (List.getElem_mem hlt); omega
          have HT := Lib.hid ht
          have Hw := Lib.hid hw
          have Bk := Lib.hid bk
          have Row := Lib.hid row
          have cases_ := Lib.hid (write_cases ht.good hw.off hw.arm l2[k].sec (atext l2[k].text l2[k].odd))
          clear ht hw bk row
          go_wp2_with fail
          refine Reg.wp_region_seq (by kernel_rfl) (by kernel_rfl) ?_
          simp only
          iterate 11
            apply Reg.SeqOK.val
            · intro γ W hW K hK
              obtain ⟨hc, hf, _⟩ := bcell hW
              simp only [Act.put, List.setIfInBounds_toArray, List.set_cons_zero, List.set_cons_succ] at hK
              unfold Reg.Does
              go_simp
              try simp only [IntWalk.i64_left]
              first
                | exact hK _ (Below.refl _ _)
                | (go_at_call 24; (with_reducible refine (text_any _ _ _ _ _ _ _ (by assumption)).mono ?_); rintro e w' ⟨rfl, hb⟩; exact hK _ hb)
            simp only [Act.put, List.setIfInBounds_toArray, List.set_cons_zero, List.set_cons_succ, List.nil_append, List.cons_append, Nat.reduceAdd, Nat.zero_add]
          refine Reg.SeqOK.tail (by kernel_rfl) (by kernel_rfl) (fun γ W hW _ _ _ => ?_)
          have hS := Lib.hid (tm_write l2[k].sec (atext l2[k].text l2[k].odd) (HT.out.below hW) (by omega))
          have Bk2 := Lib.hid (Bk.out.below hW)
          have Row2 := Lib.hid (Row.out.below hW)
          clear hW Bk Row HT
          refine Reg.tail_cons ?_
          unfold Reg.Does
          go_simp
          go_wp2_with fail
          (with_reducible refine hS.out.mono ?_); rintro e w7 ⟨rfl, M7, ht7, hm7⟩
          have bk3 := Bk2.out.moved hm7
          have Row3 := Lib.hid (Row2.out.moved hm7)
          have HA7 := Lib.hid (HLl2.out.below ht7.low)
          have Ht7 := Lib.hid ht7
          clear hS Bk2 Row2 hm7 ht7 c0 c1 c2 c3 c4 c5 hlt2
          obtain ⟨b', off', hA, hlt2, c0, c1, c2, c3, c4, c5⟩ := HA7.out k hlt
          obtain ⟨rfl, rfl⟩ : b = b' ∧ off = off' := by injection hA with e; injection e with e1 e2; exact ⟨e1, e2⟩
          refine Reg.tail_cons ?_
          unfold Reg.Does
          go_simp
          refine Reg.tail_nil ?_
          rcases cases_.out with ⟨he, s1, s2, s3, hd2, hc2⟩ | ⟨he, hd2, hwhy⟩
          · rw [he]
            rw [hd2] at Ht7
            obtain ⟨cb, fb, zb⟩ := bk3.blk.facts
            have hj : l2[k].sec.toNat < N := by omega
            have hjb : l2[k].sec.toNat < wb.length := by rw [Hw.out.len]; exact hj
            have cj : w7.cell? ⟨w6.heap.size, l2[k].sec.toNat, none⟩ = some (.bool (wb[l2[k].sec.toNat])) := by rw [cb, bv_get (List.getElem?_eq_getElem hjb)]
            have fj : w7.frozen? ⟨w6.heap.size, l2[k].sec.toNat, none⟩ = false := fb _
            have bk4 := bk3.set l2[k].sec.toNat (.bool true)
            rw [bv_set] at bk4
            have Bk4 := Lib.hid bk4
            have Hno := Lib.hid bk3.no
            clear cases_ he hd2 hc2 cb fb bk4 bk3 hA
            have hs0 : ¬ l2[k].sec < 0 := by omega
            have hs1 : ¬ (N : Int) ≤ l2[k].sec := by omega
            go_wp2_with fail
            refine ⟨⟨k + 1, by omega, by go_num, _, M7, _, Ht7.out.set _ _ Hno.out hz6.out, Hw.out.more hj _, Bk4.out, Row3.out.set _ _ fun q hq => ?_⟩, by simp [intOf]; omega⟩
            exact Nat.ne_of_lt (hro.out q hq)
          · rw [he]
            rw [hd2] at Ht7
            have Bk3 := Lib.hid bk3
            clear cases_ he hd2 hwhy bk3
            go_wp2_with fail
            exact ⟨⟨k + 1, by omega, by go_num, d, M7, wb, Ht7.out, Hw.out, Bk3.out, Row3.out⟩, by simp [intOf]; omega⟩
        · obtain rfl : k = l2.length := by omega
          have Hw := Lib.hid hw
          have Bk := Lib.hid bk
          have Row := Lib.hid row
          have Hg := Lib.hid ht.good
          have f1 := Lib.hid (tm_fail x y ht (by omega))
          clear ht hw bk row hk hlt
          go_wp2_with fail
          (with_reducible refine f1.out.mono ?_); rintro e w8 ⟨rfl, M8, ht8, hm8⟩
          have Bk2 := Lib.hid (Bk.out.moved hm8)
          have Row2 := Lib.hid (Row.out.moved hm8)
          have f2 := Lib.hid (tm_start ht8)
          clear f1 ht8 hm8 Bk Row
          go_wp2_with fail
          (with_reducible refine f2.out.mono ?_); rintro e w9 ⟨rfl, M9, ht9, hm9⟩
          have Bk3 := Lib.hid (Bk2.out.moved hm9)
          have Row3 := Lib.hid (Row2.out.moved hm9)
          have hst := Lib.hid (fun (i : Nat) (hi : wb[i]? = some false) => Hw.out.stable Hg.out x y hi)
          have Hof := Lib.hid (show (start (fail d x y)).off = false from rfl)
          have ec2 := Lib.hid (show conts N (start (fail d x y)) = secs N (eff (start (fail d x y))) from rfl)
          generalize start (fail d x y) = d3 at *
          have Ht9 := Lib.hid ht9
          have f3 := Lib.hid (tr_contents ht9.tr (by omega) Hof.out)
          clear f2 ht9 hm9 Bk2 Row2
          go_wp2_with fail
          (with_reducible refine f3.out.mono ?_); rintro e w10 ⟨A3, c3, rfl, ho3, hb10⟩
          have low := Lib.hid (Ht9.out.below hb10).low
          have bk := Lib.hid (Bk3.out.below hb10)
          have s1 := Lib.hid (StrsAt.own (Row3.out.below hb10).own (conts_len N d2))
          have s2 := Lib.hid (StrsAt.own ho3 (conts_len N d3))
          have hwl := Lib.hid Hw.out.len
          clear ho3 hb10 f3 Bk3 Row3 Ht9 Hw Hg
          go_wp2_with fail
          go_loopw [22] (fun i wr => ∃ k : Nat, k ≤ N ∧ i = .int .i64 k ∧ Below w10.heap.size w10 wr) (fun i _ => N - (intOf i).toNat)
          case atStart => exact ⟨0, Nat.zero_le _, rfl, Below.refl _ _⟩
          case round =>
            obtain ⟨i, hi, rfl, hW⟩ := hrel
            by_cases hlt : i < N
            · have HW := Lib.hid hW
              have hiN : (i : Int) < (N : Int) := by omega
              have hi0 : (0 : Int) ≤ (i : Int) := by omega
              obtain ⟨b1, o1, hA1, z1, q1⟩ := (s1.out.below hW) i (by rw [conts_len]; exact hlt)
              obtain ⟨b2, o2, hA2, z2, q2⟩ := (s2.out.below hW) i (by rw [conts_len]; exact hlt)
              subst hA1 hA2
              have e1 : (conts N d2)[i]'(by rw [conts_len]; exact hlt) = sec d2.st i := by
                have := secs_get (st := d2.st) hlt
                rw [← ec1.out] at this
                rw [List.getElem?_eq_getElem (by rw [conts_len]; exact hlt)] at this
                exact Option.some.inj this
              have e2 : (conts N d3)[i]'(by rw [conts_len]; exact hlt) = sec (eff d3) i := by
                have := secs_get (st := eff d3) hlt
                rw [← ec2.out] at this
                rw [List.getElem?_eq_getElem (by rw [conts_len]; exact hlt)] at this
                exact Option.some.inj this
              rw [e1] at q1
              rw [e2] at q2
              obtain ⟨cb, fb, zb⟩ := (bk.out.below hW).blk.facts
              obtain ⟨v, hv⟩ : ∃ v, wb[i]? = some v := ⟨_, List.getElem?_eq_getElem (by rw [hwl.out]; exact hlt)⟩
              have cj : wr.cell? ⟨w6.heap.size, i, none⟩ = some (.bool v) := by rw [cb, bv_get hv]
              have hst2 := hst.out i
              rw [hv] at hst2
              clear cb fb e1 e2 hW hv
              generalize sec (eff d3) i = t2 at *
              generalize sec d2.st i = t1 at *
              cases v
              · obtain rfl := hst2 rfl
                clear hst2
                go_wp2_with fail
                refine Reg.wp_region_seq (by kernel_rfl) (by kernel_rfl) ?_
                simp only
                iterate 16
                  apply Reg.SeqOK.val
                  · intro γ W hW K hK
                    obtain ⟨hc, hf, _⟩ := bcell hW
                    simp only [Act.put, List.setIfInBounds_toArray, List.set_cons_zero, List.set_cons_succ] at hK
                    unfold Reg.Does
                    go_simp
                    try simp only [IntWalk.i64_left]
                    first
                      | exact hK _ (Below.refl _ _)
                  simp only [Act.put, List.setIfInBounds_toArray, List.set_cons_zero, List.set_cons_succ, List.nil_append, List.cons_append, Nat.reduceAdd, Nat.zero_add]
                refine Reg.SeqOK.nil (by kernel_rfl) (fun γ W hW2 _ _ _ => ?_)
                have HW2 := Lib.hid hW2
                clear hW2
                go_wp2_with fail
                exact ⟨⟨i + 1, by omega, by go_num, HW.out.trans (HW2.out.mono HW.out.size)⟩, by simp [intOf]; omega⟩
              · clear hst2
                go_wp2_with fail
                refine Reg.wp_region_seq (by kernel_rfl) (by kernel_rfl) ?_
                simp only
                iterate 16
                  apply Reg.SeqOK.val
                  · intro γ W hW K hK
                    obtain ⟨hc, hf, _⟩ := bcell hW
                    simp only [Act.put, List.setIfInBounds_toArray, List.set_cons_zero, List.set_cons_succ] at hK
                    unfold Reg.Does
                    go_simp
                    try simp only [IntWalk.i64_left]
                    first
                      | exact hK _ (Below.refl _ _)
                  simp only [Act.put, List.setIfInBounds_toArray, List.set_cons_zero, List.set_cons_succ, List.nil_append, List.cons_append, Nat.reduceAdd, Nat.zero_add]
                refine Reg.SeqOK.nil (by kernel_rfl) (fun γ W hW2 _ _ _ => ?_)
                have HW2 := Lib.hid hW2
                clear hW2
                go_wp2_with fail
                exact ⟨⟨i + 1, by omega, by go_num, HW.out.trans (HW2.out.mono HW.out.size)⟩, by simp [intOf]; omega⟩
            · obtain rfl : i = N := by omega
              have HW := Lib.hid (low.out.trans (hW.mono low.out.size))
              clear hW
              go_wp2
              go_ret
              exact ⟨rfl, HW.out⟩

end D
end Go.Proofs.Ytopjekdhecikdaa
