/- Law 'DiskDamage': the walk. -/
import Derived.Test.YtopjekdhecikdaaDv
import Derived.Test.YtopjekdhecikdaaDl
set_option linter.unusedSimpArgs false
set_option linter.unusedVariables false
set_option maxRecDepth 100000
namespace Go.Proofs.Ytopjekdhecikdaa
open Go.RowKit
namespace D

set_option maxHeartbeats 40000000 in
set_option maxRecDepth 100000 in
theorem damage_walk (r : Int) (A : Option Addr) (c : Nat) (l : List AV) (s a m : Int) (w : World) (hr : 0 ≤ r ∧ r ≤ 255) (hl : ActsAt w A l) (hll : l.length ≤ 9223372036854775807) (hb : ∀ a ∈ l, a.aft ≤ 9223372036854775807) (bs : -9223372036854775808 ≤ s ∧ s ≤ 9223372036854775807) (ba : -9223372036854775808 ≤ a ∧ a ≤ 9223372036854775807) (bm : -9223372036854775808 ≤ m ∧ m ≤ 9223372036854775807) :
    Calls Try.prog 9 #[.int .u8 r, .slice A l.length c, .int .i64 s, .int .i64 a, .int .i64 m] w fun e w' => e = .returned (.bool true) ∧ Below w.heap.size w w' := by
  obtain ⟨hr0, hr1⟩ := hr
  have HLl := Lib.hid hl
  have HBdl := Lib.hid hb
  clear hl hb
  go_enter Try.func9, Try.ntmps9
  go_wp2_with fail
  (with_reducible refine (head_any _).mono ?_); rintro e w1 ⟨rfl, hT⟩
  go_wp2_with fail
  (with_reducible refine (ok_any A c l w1 (HLl.out.below hT) hll).mono ?_); rintro e w' ⟨rfl, rfl⟩
  cases hokl : okB l
  case false =>
    go_wp2
    go_ret
    exact ⟨rfl, hT⟩
  obtain ⟨ok1, ok2l⟩ := okB_true hokl
  have OKl := Lib.hid ok1
  clear ok1
  go_wp2_with fail
  (with_reducible refine (size_any r _ hr0 hr1).mono ?_); rintro e w' ⟨rfl, rfl⟩
  obtain ⟨N, hN⟩ : ∃ N : Nat, 1 + r % 12 = (N : Int) := Int.eq_ofNat_of_zero_le (by omega)
  have hN1 : 1 ≤ N := by omega
  have hN2 : N ≤ 12 := by omega
  rw [hN]
  clear hN
  go_wp2_with fail
  (with_reducible refine (tm_new (w0 := w) N hN1 (by omega) hT).mono ?_); rintro e w3 ⟨g, M, rfl, ht, hM, hb3⟩
  clear hM hb3 hT
  have HT := Lib.hid ht
  clear ht
  go_wp2_with fail
  go_loopw [14] (fun i wr => ∃ k : Nat, k ≤ l.length ∧ i = .int .i64 k ∧ ∃ M, TrM w N k g (runD (newD N) (l.take k)) M wr) (fun i _ => l.length - (intOf i).toNat)
  case atStart => exact ⟨0, Nat.zero_le _, rfl, M, HT.out⟩
  case round =>
    clear HT
    obtain ⟨k, hk, rfl, M, ht⟩ := hrel
    by_cases hlt : k < l.length
    · obtain ⟨b, off, hA, hlt2, c0, c1, c2, c3, c4, c5⟩ := (HLl.out.below ht.low) k hlt
      subst hA
      have hkl : (k : Int) < (l.length : Int) := by omega
      have hD := Lib.hid (tm_do l[k] ht (by omega) (by have := OKl.out l[k] (List.getElem_mem hlt); omega) (HBdl.out l[k] (List.getElem_mem hlt)))
      have hrt := Lib.hid (runD_take (d := newD N) hlt)
      clear ht
      go_wp2_with fail
      (with_reducible refine hD.out.mono ?_); rintro e w4 ⟨rfl, M4, ht4, hm4⟩
      have HT4 := Lib.hid ht4
      clear ht4
      go_wp2_with fail
      refine ⟨⟨k + 1, by omega, by go_num, M4, by rw [hrt.out]; exact HT4.out⟩, by simp [intOf]; omega⟩
    · obtain rfl : k = l.length := by omega
      rw [List.take_length] at ht
      have hS := Lib.hid (tm_start ht)
      have hql : (runD (newD N) l).q.length ≤ l.length := by have := (few_run (few_new N) l HBdl.out).ql; omega
      clear ht
      generalize hd0 : runD (newD N) l = d0 at *
      clear hd0
      go_wp2_with fail
      (with_reducible refine hS.out.mono ?_); rintro e w4 ⟨rfl, M4, ht4, hm4⟩
      have Ho := Lib.hid (show (start d0).off = false from rfl)
      have Ha := Lib.hid (show (start d0).arm = none from rfl)
      have hql1 : (start d0).q.length ≤ l.length := hql
      clear hm4 hS hql hk hlt
      generalize start d0 = d1 at *
      have f1 := tm_sync ht4 (by omega)
      rw [sync_clean Ho.out Ha.out] at f1
      have F1 := Lib.hid f1
      clear f1 ht4 HBdl OKl HLl
      go_wp2_with fail
      (with_reducible refine F1.out.mono ?_); rintro e w5 ⟨rfl, M5, ht5, hm5⟩
      have Ho2 := Lib.hid (show ({ d1 with st := eff d1, q := [] } : Dk).off = false from Ho.out)
      have Hq2 := Lib.hid (show ({ d1 with st := eff d1, q := [] } : Dk).q = [] from rfl)
      generalize ({ d1 with st := eff d1, q := [] } : Dk) = d2 at *
      have HT5 := Lib.hid ht5
      have f2 := Lib.hid (tr_contents ht5.tr (by omega) Ho2.out)
      clear ht5 hm5 F1
      go_wp2_with fail
      (with_reducible refine f2.out.mono ?_); rintro e w6 ⟨A1, c1, rfl, ho1, hb6⟩
      have row1 := Lib.hid (SafeRow.new ho1 (fun k m => (HT5.out.lt k m).2))
      have HT6 := Lib.hid (HT5.out.below hb6)
      have f3 := Lib.hid (tm_rot s a m HT6.out (by omega))
      clear ho1 hb6 f2 HT5
      go_wp2_with fail
      (with_reducible refine f3.out.mono ?_); rintro e w7 ⟨rfl, M7, ht7, hm7⟩
      have row2 := Lib.hid (row1.out.moved hm7)
      have HT7 := Lib.hid ht7
      have Ho3 : Hid ((rot d2 s a m).off = false) := by unfold Hid rot; split <;> exact Ho2.out
      have f4 := Lib.hid (tr_contents ht7.tr (by omega) Ho3.out)
      clear ht7 hm7 f3 row1 
      go_wp2_with fail
      (with_reducible refine f4.out.mono ?_); rintro e w8 ⟨A2, c2, rfl, ho2, hb8⟩
      have row3 := Lib.hid (row2.out.below hb8)
      have now1 := Lib.hid (SafeRow.new ho2 (fun k m => (HT7.out.lt k m).2))
      have HT8 := Lib.hid (HT7.out.below hb8)
      have f5 := tm_rot s a m HT8.out (by omega)
      rw [rot_twice HT6.out.good] at f5
      have F5 := Lib.hid f5
      have hg2 := Lib.hid HT6.out.good
      clear ho2 hb8 f4 f5 row2 HT7 HT6
      go_wp2_with fail
      (with_reducible refine F5.out.mono ?_); rintro e w9 ⟨rfl, M9, ht9, hm9⟩
      have row4 := Lib.hid (row3.out.moved hm9)
      have now2 := Lib.hid (now1.out.moved hm9)
      have HT9 := Lib.hid ht9
      have f6 := Lib.hid (tr_contents ht9.tr (by omega) Ho2.out)
      clear ht9 hm9 F5 row3 now1 HT8
      go_wp2_with fail
      (with_reducible refine f6.out.mono ?_); rintro e w10 ⟨A3, c3, rfl, ho3, hb10⟩
      have row5 := Lib.hid (row4.out.below hb10)
      have now3 := Lib.hid (now2.out.below hb10)
      have HT10 := Lib.hid (HT9.out.below hb10)
      have hn2 := conts_len N d2
      have hsm := same_rows row5.out.own ho3 hn2 hn2 (by omega)
      have hbb : (conts N d2 == conts N d2) = true := by simp
      rw [hbb] at hsm
      have Hsm := Lib.hid hsm
      clear hsm hbb hn2 ho3 hb10 f6 row4 now2 HT9
      go_wp2_with fail
      (with_reducible refine Hsm.out.mono ?_); rintro e w11 ⟨rfl, hb11⟩
      have low := Lib.hid (HT10.out.below hb11).low
      have s1 := Lib.hid (StrsAt.own (row5.out.below hb11).own (conts_len N d2))
      have s2 := Lib.hid (StrsAt.own (now3.out.below hb11).own (conts_len N (rot d2 s a m)))
      clear hb11 row5 now3 HT10 Hsm
      have ec1 : Hid (conts N d2 = secs N d2.st) := by unfold Hid conts eff; rw [Hq2.out]; rfl
      have ec2 : Hid (conts N (rot d2 s a m) = secs N (rot d2 s a m).st) := by
        unfold Hid conts eff
        have : (rot d2 s a m).q = [] := by unfold rot; split <;> exact Hq2.out
        rw [this]; rfl
      obtain ⟨V, hV⟩ : ∃ V, rotOk d2 s a m = V := ⟨_, rfl⟩
      have HV := Lib.hid hV
      go_upto_region 20 with fail
      go_cut [21] (fun v wx => v = .bool V ∧ wx = w11)
      case first =>
        cases V
        · have hno : ¬ (0 ≤ s ∧ s < N ∧ 0 ≤ a ∧ a < 64 ∧ 1 ≤ m ∧ m ≤ 255) := fun h => by rw [rotOk_mk hg2.out h] at hV; cases hV
          have Hno := Lib.hid hno
          clear hno hV
          by_cases b1 : 0 ≤ s
          · by_cases b2 : s < N
            · by_cases b3 : 0 ≤ a
              · by_cases b4 : a < 64
                · by_cases b5 : 1 ≤ m
                  · have b6 : ¬ m ≤ 255 := fun b6 => Hno.out ⟨b1, b2, b3, b4, b5, b6⟩
                    go_wp2_with fail
                    go_meet
                    exact ⟨rfl, rfl⟩
                  · go_wp2_with fail
                    go_meet
                    exact ⟨rfl, rfl⟩
                · go_wp2_with fail
                  go_meet
                  exact ⟨rfl, rfl⟩
              · go_wp2_with fail
                go_meet
                exact ⟨rfl, rfl⟩
            · go_wp2_with fail
              go_meet
              exact ⟨rfl, rfl⟩
          · go_wp2_with fail
            go_meet
            exact ⟨rfl, rfl⟩
        · obtain ⟨b1, b2, b3, b4, b5, b6⟩ := rotOk_bd hg2.out hV
          clear hV
          go_wp2_with fail
          go_meet
          exact ⟨rfl, rfl⟩
      case rest =>
        obtain ⟨rfl, rfl⟩ := hcut
        clear hV
        go_wp2_with fail
        go_loopw [22] (fun i wr => ∃ k : Nat, k ≤ N ∧ i = .int .i64 k ∧ Below wc.heap.size wc wr) (fun i _ => N - (intOf i).toNat)
        case atStart => exact ⟨0, Nat.zero_le _, rfl, Below.refl _ _⟩
        case round =>
          obtain ⟨i, hi, rfl, hW⟩ := hrel
          by_cases hlt : i < N
          · have HW := Lib.hid hW
            have hiN : (i : Int) < (N : Int) := by omega
            have hi0 : (0 : Int) ≤ (i : Int) := by omega
            clear hW
            obtain ⟨wo, hwo⟩ : ∃ wo : World, wo = wr := ⟨_, rfl⟩
            have Hwo := Lib.hid hwo
            clear hwo
            go_wp2_with fail
            go_loopw [23, 24] (fun kk bb wr2 => ∃ k : Nat, k ≤ 64 ∧ kk = .int .i64 k ∧ Below wr.heap.size wr wr2) (fun kk _ _ => 64 - (intOf kk).toNat)
            case atStart => exact ⟨0, Nat.zero_le _, rfl, Below.refl _ _⟩
            case round =>
              obtain ⟨k, hk, rfl, hW2⟩ := hrel
              by_cases hlt2 : k < 64
              · have hb := HW.out.trans (hW2.mono HW.out.size)
                obtain ⟨b1, o1, hA1, z1, q1⟩ := (s1.out.below hb) i (by rw [conts_len]; exact hlt)
                obtain ⟨b2, o2, hA2, z2, q2⟩ := (s2.out.below hb) i (by rw [conts_len]; exact hlt)
                subst hA1 hA2
                have e1 : (conts N d2)[i]'(by rw [conts_len]; exact hlt) = sec d2.st i := by
                  have := secs_get (st := d2.st) hlt
                  rw [← ec1.out] at this
                  rw [List.getElem?_eq_getElem (by rw [conts_len]; exact hlt)] at this
                  exact Option.some.inj this
                have e2 : (conts N (rot d2 s a m))[i]'(by rw [conts_len]; exact hlt) = sec (rot d2 s a m).st i := by
                  have := secs_get (st := (rot d2 s a m).st) hlt
                  rw [← ec2.out] at this
                  rw [List.getElem?_eq_getElem (by rw [conts_len]; exact hlt)] at this
                  exact Option.some.inj this
                rw [e1] at q1
                rw [e2] at q2
                obtain ⟨x, y, hx, hy, hxy⟩ := rot_byte hg2.out s a m hlt hlt2
                have i1 := run_idx (sec d2.st i) k hx
                have i2 := run_idx (sec (rot d2 s a m).st i) k hy
                have bx := x.toNat_lt
                have by2 := y.toNat_lt
                have hxr : bits .xor .u8 (x.toNat : Int) (y.toNat : Int) = ((x.toNat ^^^ y.toNat : Nat) : Int) := by
                  rw [u8_xor _ _ (by omega) (by omega) (by omega) (by omega)]; simp
                rw [hxy, HV.out] at hxr
                have hk0 : (0 : Int) ≤ (k : Int) := by omega
                have hk64 : (k : Int) < 64 := by omega
                generalize sec d2.st i = t1 at *
                generalize sec (rot d2 s a m).st i = t2 at *
                have HW2 := Lib.hid hW2
                clear hx hy hxy e1 e2 hb hW2
                by_cases hc : V = true ∧ (i : Int) = s ∧ (k : Int) = a
                · rw [if_pos hc] at hxr
                  obtain ⟨rfl, rfl, rfl⟩ := hc
                  obtain ⟨_, _, _, _, m1, m2⟩ := rotOk_bd hg2.out HV.out
                  have wm : IntKind.i64.wrap m = m := by rw [IntWalk.i64_left, IntWalk.wrap64_in _ (by omega)]
                  go_wp2_with fail
                  refine Reg.wp_region_seq (by kernel_rfl) (by kernel_rfl) ?_
                  simp only
                  iterate 16
                    apply Reg.SeqOK.val
                    · intro γ W hW K hK
                      obtain ⟨hc, hf, _⟩ := bcell hW
                      simp only [Act.put, List.setIfInBounds_toArray, List.set_cons_zero, List.set_cons_succ] at hK
                      unfold Reg.Does
                      go_simp
                      try simp only [IntWalk.i64_left]
                      first
                        | exact hK _ (Below.refl _ _)
                    simp only [Act.put, List.setIfInBounds_toArray, List.set_cons_zero, List.set_cons_succ, List.nil_append, List.cons_append, Nat.reduceAdd, Nat.zero_add]
                  refine Reg.SeqOK.nil (by kernel_rfl) (fun γ W hW3 _ _ _ => ?_)
                  have HW3 := Lib.hid hW3
                  clear hW3
                  go_wp2_with fail
                  exact ⟨⟨k + 1, by omega, by go_num, HW2.out.trans (HW3.out.mono HW2.out.size)⟩, by simp [intOf]; omega⟩
                · rw [if_neg hc] at hxr
                  have Hc := Lib.hid hc
                  have wz : IntKind.i64.wrap 0 = 0 := by decide
                  clear hc
                  cases V
                  case false =>
                    go_wp2_with fail
                    refine Reg.wp_region_seq (by kernel_rfl) (by kernel_rfl) ?_
                    simp only
                    iterate 16
                      apply Reg.SeqOK.val
                      · intro γ W hW K hK
                        obtain ⟨hc, hf, _⟩ := bcell hW
                        simp only [Act.put, List.setIfInBounds_toArray, List.set_cons_zero, List.set_cons_succ] at hK
                        unfold Reg.Does
                        go_simp
                        try simp only [IntWalk.i64_left]
                        first
                          | exact hK _ (Below.refl _ _)
                      simp only [Act.put, List.setIfInBounds_toArray, List.set_cons_zero, List.set_cons_succ, List.nil_append, List.cons_append, Nat.reduceAdd, Nat.zero_add]
                    refine Reg.SeqOK.nil (by kernel_rfl) (fun γ W hW3 _ _ _ => ?_)
                    have HW3 := Lib.hid hW3
                    clear hW3
                    go_wp2_with fail
                    exact ⟨⟨k + 1, by omega, by go_num, HW2.out.trans (HW3.out.mono HW2.out.size)⟩, by simp [intOf]; omega⟩
                  by_cases his : (i : Int) = s
                  · have hka : ((k : Int) == a) = false := by
                      have := Hc.out
                      simp [his] at this
                      simpa using this
                    have his2 : ((i : Int) == s) = true := by simpa using his
                    clear his
                    go_wp2_with fail
                    refine Reg.wp_region_seq (by kernel_rfl) (by kernel_rfl) ?_
                    simp only
                    iterate 16
                      apply Reg.SeqOK.val
                      · intro γ W hW K hK
                        obtain ⟨hc, hf, _⟩ := bcell hW
                        simp only [Act.put, List.setIfInBounds_toArray, List.set_cons_zero, List.set_cons_succ] at hK
                        unfold Reg.Does
                        go_simp
                        try simp only [IntWalk.i64_left]
                        first
                          | exact hK _ (Below.refl _ _)
                      simp only [Act.put, List.setIfInBounds_toArray, List.set_cons_zero, List.set_cons_succ, List.nil_append, List.cons_append, Nat.reduceAdd, Nat.zero_add]
                    refine Reg.SeqOK.nil (by kernel_rfl) (fun γ W hW3 _ _ _ => ?_)
                    have HW3 := Lib.hid hW3
                    clear hW3
                    go_wp2_with fail
                    exact ⟨⟨k + 1, by omega, by go_num, HW2.out.trans (HW3.out.mono HW2.out.size)⟩, by simp [intOf]; omega⟩
                  · have his2 : ((i : Int) == s) = false := by simpa using his
                    clear his
                    go_wp2_with fail
                    refine Reg.wp_region_seq (by kernel_rfl) (by kernel_rfl) ?_
                    simp only
                    iterate 16
                      apply Reg.SeqOK.val
                      · intro γ W hW K hK
                        obtain ⟨hc, hf, _⟩ := bcell hW
                        simp only [Act.put, List.setIfInBounds_toArray, List.set_cons_zero, List.set_cons_succ] at hK
                        unfold Reg.Does
                        go_simp
                        try simp only [IntWalk.i64_left]
                        first
                          | exact hK _ (Below.refl _ _)
                      simp only [Act.put, List.setIfInBounds_toArray, List.set_cons_zero, List.set_cons_succ, List.nil_append, List.cons_append, Nat.reduceAdd, Nat.zero_add]
                    refine Reg.SeqOK.nil (by kernel_rfl) (fun γ W hW3 _ _ _ => ?_)
                    have HW3 := Lib.hid hW3
                    clear hW3
                    go_wp2_with fail
                    exact ⟨⟨k + 1, by omega, by go_num, HW2.out.trans (HW3.out.mono HW2.out.size)⟩, by simp [intOf]; omega⟩
              · obtain rfl : k = 64 := by omega
                have HW2 := Lib.hid hW2
                clear hW2
                go_wp2_with fail
                exact ⟨⟨i + 1, by omega, by go_num, HW.out.trans (HW2.out.mono HW.out.size)⟩, by simp [intOf]; omega⟩
          · obtain rfl : i = N := by omega
            have HW := Lib.hid (low.out.trans (hW.mono low.out.size))
            clear hW
            go_wp2
            go_ret
            exact ⟨rfl, HW.out⟩

end D
end Go.Proofs.Ytopjekdhecikdaa
