/- Law 'DiskArmed': the walk. -/
import Derived.Test.YtopjekdhecikdaaDv
import Derived.Test.YtopjekdhecikdaaDy
set_option linter.unusedSimpArgs false
set_option linter.unusedVariables false
set_option maxRecDepth 100000
namespace Go.Proofs.Ytopjekdhecikdaa
open Go.RowKit
namespace D

set_option maxHeartbeats 40000000 in
set_option maxRecDepth 100000 in
theorem armed_walk (r : Int) (A : Option Addr) (c : Nat) (l : List AV) (A2 : Option Addr) (c2 : Nat) (l2 : List AV) (L0 x y : Int) (w : World) (hr : 0 ≤ r ∧ r ≤ 255) (hl : ActsAt w A l) (hll : l.length ≤ 9223372036854775807) (hb : ∀ a ∈ l, a.aft ≤ 9223372036854775807) (hl2 : ActsAt w A2 l2) (hll2 : l2.length ≤ 9223372036854775807) (hb2 : ∀ a ∈ l2, a.aft ≤ 9223372036854775807) (bL : -9223372036854775808 ≤ L0 ∧ L0 ≤ 9223372036854775807) (bx : -9223372036854775808 ≤ x ∧ x ≤ 9223372036854775807) (by' : -9223372036854775808 ≤ y ∧ y ≤ 9223372036854775807) :
    Calls Try.prog 8 #[.int .u8 r, .slice A l.length c, .slice A2 l2.length c2, .int .i64 L0, .int .i64 x, .int .i64 y] w fun e w' => e = .returned (.bool true) ∧ Below w.heap.size w w' := by
  obtain ⟨hr0, hr1⟩ := hr
  have HLl := Lib.hid hl
  have HBdl := Lib.hid hb
  clear hl hb
  have HLl2 := Lib.hid hl2
  have HBdl2 := Lib.hid hb2
  clear hl2 hb2
  go_enter Try.func8, Try.ntmps8
  go_wp2_with fail
  (with_reducible refine (head_any _).mono ?_); rintro e w1 ⟨rfl, hT⟩
  go_wp2_with fail
  (with_reducible refine (ok_any A c l w1 (HLl.out.below hT) hll).mono ?_); rintro e w' ⟨rfl, rfl⟩
  cases hokl : okB l
  case false =>
    go_wp2
    go_ret
    exact ⟨rfl, hT⟩
  obtain ⟨ok1, ok2l⟩ := okB_true hokl
  have OKl := Lib.hid ok1
  clear ok1
  go_wp2_with fail
  (with_reducible refine (ok_any A2 c2 l2 w1 (HLl2.out.below hT) hll2).mono ?_); rintro e w' ⟨rfl, rfl⟩
  cases hokl2 : okB l2
  case false =>
    go_wp2
    go_ret
    exact ⟨rfl, hT⟩
  obtain ⟨ok1, ok2l2⟩ := okB_true hokl2
  have OKl2 := Lib.hid ok1
  clear ok1
  go_wp2_with fail
  (with_reducible refine (size_any r _ hr0 hr1).mono ?_); rintro e w' ⟨rfl, rfl⟩
  obtain ⟨N, hN⟩ : ∃ N : Nat, 1 + r % 12 = (N : Int) := Int.eq_ofNat_of_zero_le (by omega)
  have hN1 : 1 ≤ N := by omega
  have hN2 : N ≤ 12 := by omega
  rw [hN]
  clear hN
  go_wp2_with fail
  (with_reducible refine (tr_new (w0 := w) N hN1 (by omega) hT).mono ?_); rintro e w3 ⟨g, rfl, ht⟩
  clear hT
  have HT := Lib.hid ht
  clear ht
  go_wp2_with fail
  (with_reducible refine (tr2_new hN1 HT.out).mono ?_); rintro e w4 ⟨g', rfl, ht⟩
  clear HT
  have HT := Lib.hid ht
  clear ht
  go_wp2_with fail
  go_loopw [17] (fun i wr => ∃ k : Nat, k ≤ l.length ∧ i = .int .i64 k ∧ Tr2 w N (2 * k) g (runD (newD N) (l.take k)) g' (runD (newD N) (l.take k)) wr) (fun i _ => l.length - (intOf i).toNat)
  case atStart => exact ⟨0, Nat.zero_le _, rfl, HT.out⟩
  case round =>
    clear HT
    obtain ⟨k, hk, rfl, ht⟩ := hrel
    by_cases hlt : k < l.length
    · obtain ⟨b, off, hA, hlt2, c0, c1, c2, c3, c4, c5⟩ := (HLl.out.below ht.low) k hlt
      subst hA
      have hkl : (k : Int) < (l.length : Int) := by omega
      have hD := Lib.hid (tr2_do l[k] ht (by omega) (by have := OKl.out l[k] (List.getElem_mem hlt); omega) (HBdl.out l[k] (List.getElem_mem hlt)))
      have hrt := Lib.hid (runD_take (d := newD N) hlt)
      clear ht
      go_wp2_with fail
      (with_reducible refine hD.out.mono ?_); rintro e w5 ⟨rfl, ht4⟩
      have Ht4 := Lib.hid ht4.swap
      obtain ⟨b2, off2, hA2, hlt3, c0, c1, c2, c3, c4, c5⟩ := (HLl.out.below ht4.low) k hlt
      obtain ⟨rfl, rfl⟩ : b = b2 ∧ off = off2 := by injection hA2 with e; injection e with e1 e2; exact ⟨e1, e2⟩
      have hD2 := Lib.hid (tr2_do l[k] Ht4.out (by omega) (by have := OKl.out l[k] (List.getElem_mem hlt); omega) (HBdl.out l[k] (List.getElem_mem hlt)))
      clear ht4 hD hA2
      go_wp2_with fail
      (with_reducible refine hD2.out.mono ?_); rintro e w6 ⟨rfl, ht5⟩
      have Ht5 := Lib.hid ht5.swap
      clear ht5
      go_wp2_with fail
      refine ⟨⟨k + 1, by omega, by go_num, by rw [hrt.out]; exact Ht5.out⟩, by simp [intOf]; omega⟩
    · obtain rfl : k = l.length := by omega
      rw [List.take_length] at ht
      have hS := Lib.hid (tr2_start ht)
      have hql : (runD (newD N) l).q.length ≤ l.length := by have := (few_run (few_new N) l HBdl.out).ql; omega
      clear ht
      generalize hd0 : runD (newD N) l = d0 at *
      clear hd0
      go_wp2_with fail
      (with_reducible refine hS.out.mono ?_); rintro e w5 ⟨rfl, ht5⟩
      have hS2 := Lib.hid (tr2_start ht5.swap)
      clear ht5
      go_wp2_with fail
      (with_reducible refine hS2.out.mono ?_); rintro e w6 ⟨rfl, ht6⟩
      have Ho := Lib.hid (show (start d0).off = false from rfl)
      have Ha := Lib.hid (show (start d0).arm = none from rfl)
      have hql1 : (start d0).q.length ≤ l.length := hql
      clear hql hk hlt hS hS2 HBdl OKl HLl
      generalize start d0 = d1 at *
      have ha0 := Lib.hid (tr2_arm L0 x y ht6.swap (by omega))
      clear ht6
      go_wp2_with fail
      (with_reducible refine ha0.out.mono ?_); rintro e w7 ⟨rfl, ht7⟩
      have HT7 := Lib.hid ht7
      clear ht7 ha0
      go_wp2_with fail
      go_loopw [18, 19] (fun lv i wr => ∃ k : Nat, k ≤ l2.length ∧ i = .int .i64 k ∧ ∃ L db, lv = .int .i64 L ∧ (L0 < 0 → L = L0) ∧ (-9223372036854775808 ≤ L ∧ L ≤ 9223372036854775807) ∧ (0 ≤ L0 → 0 ≤ L) ∧ db.off = false ∧ db.arm = none ∧ Tr2 w N (2 * l.length + 2 * k) g (armD db L x y) g' db wr) (fun _ i _ => l2.length - (intOf i).toNat)
      case atStart => exact ⟨0, Nat.zero_le _, rfl, L0, d1, rfl, fun _ => rfl, bL, id, Ho.out, Ha.out, HT7.out⟩
      case round =>
        clear HT7 Ho Ha hql1
        obtain ⟨k, hk, rfl, L, db, rfl, hL0, ⟨bl1, bl2⟩, hL1, ho, ha, ht⟩ := hrel
        have Ho := Lib.hid ho
        have Ha := Lib.hid ha
        have HL0 := Lib.hid hL0
        have HL1 := Lib.hid hL1
        clear ho ha hL0 hL1
        by_cases hlt : k < l2.length
        · obtain ⟨b, off, hA, hlt2, c0, c1, c2, c3, c4, c5⟩ := (HLl2.out.below ht.low) k hlt
          subst hA
          have hkl : (k : Int) < (l2.length : Int) := by omega
          have hk0 : (0 : Int) ≤ (k : Int) := by omega
          have hxl : l2[k].text.length ≤ 1000000 := by have := OKl2.out l2[k] (List.getElem_mem hlt); omega
          have HT0 := Lib.hid ht
          clear ht
          by_cases hkd : l2[k].kind = 2
          · rw [hkd] at c0
            by_cases hLz : L = 0
            · -- the alarm rings at a Sync
              subst hLz
              have hf := Lib.hid (tr2_fail x y HT0.out.swap (by omega))
              have hsy := as_yes Ho.out 0 x y
              rw [if_pos rfl] at hsy
              have Hsy := Lib.hid hsy
              clear hsy HT0
              go_wp2_with fail
              (with_reducible refine hf.out.mono ?_); rintro e w8 ⟨rfl, ht8⟩
              have hs2 := tr2_sync ht8.swap (by omega)
              rw [Hsy.out] at hs2
              have Hs2 := Lib.hid hs2
              clear hs2 ht8 hf c0 c1 c2 c3 c4 c5 hlt2
              go_wp2_with fail
              (with_reducible refine Hs2.out.mono ?_); rintro e w9 ⟨rfl, ht9⟩
              have HT := Lib.hid ht9
              have hn0 : ¬ L0 < 0 := fun h => by have := HL0.out h; omega
              clear ht9 Hs2 HL0 HL1 hkd
              generalize fail db x y = db at *
              have s1 := Lib.hid (tr2_start HT.out)
              clear HT
              go_wp2_with fail
              (with_reducible refine s1.out.mono ?_); rintro e w11 ⟨rfl, ht11⟩
              have s2 := Lib.hid (tr2_start ht11.swap)
              clear ht11 s1
              go_wp2_with fail
              (with_reducible refine s2.out.mono ?_); rintro e w12 ⟨rfl, ht12⟩
              have Hof := Lib.hid (show (start db).off = false from rfl)
              generalize start db = d3 at *
              have HT12 := Lib.hid ht12.swap
              have f1 := Lib.hid (tr_contents ht12.swap.one (by omega) Hof.out)
              clear ht12 s2
              go_wp2_with fail
              (with_reducible refine f1.out.mono ?_); rintro e w13 ⟨A3, c3, rfl, ho3, hb13⟩
              have HO3 := Lib.hid ho3
              have HT13 := Lib.hid (HT12.out.below hb13)
              have f2 := Lib.hid (tr_contents HT13.out.swap.one (by omega) Hof.out)
              clear ho3 hb13 f1 HT12
              go_wp2_with fail
              (with_reducible refine f2.out.mono ?_); rintro e w14 ⟨A4, c4, rfl, ho4, hb14⟩
              have HT14 := Lib.hid (HT13.out.below hb14)
              have hn2 := conts_len N d3
              have hsm := same_rows (own_below HO3.out hb14) ho4 hn2 hn2 (by omega)
              have hbb : (conts N d3 == conts N d3) = true := by simp
              rw [hbb] at hsm
              have Hsm := Lib.hid hsm
              clear hsm hbb hn2 ho4 hb14 f2 HT13 HO3
              go_wp2_with fail
              (with_reducible refine Hsm.out.mono ?_); rintro e w15 ⟨rfl, hb15⟩
              have low := Lib.hid (HT14.out.below hb15).low
              clear hb15
              go_wp2
              go_ret
              exact ⟨rfl, low.out⟩
            · have hLb : ((L : Int) == 0) = false := by simpa using hLz
              have hf := tr2_sync HT0.out.swap (by omega)
              rw [sync_clean Ho.out Ha.out] at hf
              have Hf := Lib.hid hf
              have hsy := as_yes Ho.out L x y
              rw [if_neg hLz] at hsy
              have Hsy := Lib.hid hsy
              have HLz := Lib.hid hLz
              clear hsy HT0 hf hLz
              go_wp2_with fail
              (with_reducible refine Hf.out.mono ?_); rintro e w8 ⟨rfl, ht8⟩
              have hs2 := tr2_sync ht8.swap (by omega)
              rw [Hsy.out] at hs2
              have Hs2 := Lib.hid hs2
              clear hs2 ht8 Hf c0 c1 c2 c3 c4 c5 hlt2
              go_wp2_with fail
              (with_reducible refine Hs2.out.mono ?_); rintro e w9 ⟨rfl, ht9⟩
              have HT := Lib.hid ht9
              have Ho2 := Lib.hid (show ({ db with st := eff db, q := [] } : Dk).off = false from Ho.out)
              have Ha2 := Lib.hid (show ({ db with st := eff db, q := [] } : Dk).arm = none from Ha.out)
              clear ht9 Hs2 hkd Hsy Ho Ha
              generalize ({ db with st := eff db, q := [] } : Dk) = db2 at *
              by_cases hp : 0 < L
              · have hnl : nextL L = L - 1 := by unfold nextL; rw [if_pos hp]
                rw [hnl] at HT
                clear hnl
                go_wp2_with fail
                exact ⟨⟨k + 1, by omega, by go_num, L - 1, db2, by go_num, fun h => by have := HL0.out h; omega, by omega, fun h => by have := HL1.out h; omega, Ho2.out, Ha2.out, HT.out.more (by omega)⟩, by simp [intOf]; omega⟩
              · have hnl : nextL L = L := by unfold nextL; rw [if_neg hp]
                rw [hnl] at HT
                clear hnl
                go_wp2_with fail
                exact ⟨⟨k + 1, by omega, by go_num, L, db2, rfl, HL0.out, by omega, HL1.out, Ho2.out, Ha2.out, HT.out.more (by omega)⟩, by simp [intOf]; omega⟩
          · have hkb : (l2[k].kind == 2) = false := by simpa using hkd
            have Hg := Lib.hid HT0.out.good'
            have cs := write_cases HT0.out.good' Ho.out Ha.out l2[k].sec (atext l2[k].text l2[k].odd)
            have Cs := Lib.hid cs
            clear cs hkd
            go_wp2_with fail
            refine Reg.wp_region_seq (by kernel_rfl) (by kernel_rfl) ?_
            simp only
            iterate 11
              apply Reg.SeqOK.val
              · intro γ W hW K hK
                obtain ⟨hc, hf, _⟩ := bcell hW
                simp only [Act.put, List.setIfInBounds_toArray, List.set_cons_zero, List.set_cons_succ] at hK
                unfold Reg.Does
                go_simp
                try simp only [IntWalk.i64_left]
                first
                  | exact hK _ (Below.refl _ _)
                  | (go_at_call 24; (with_reducible refine (text_any _ _ _ _ _ _ _ (by assumption)).mono ?_); rintro e w' ⟨rfl, hb⟩; exact hK _ hb)
              simp only [Act.put, List.setIfInBounds_toArray, List.set_cons_zero, List.set_cons_succ, List.nil_append, List.cons_append, Nat.reduceAdd, Nat.zero_add]
            refine Reg.SeqOK.tail (by kernel_rfl) (by kernel_rfl) (fun γ W hW _ _ _ => ?_)
            have hS := tr2_write l2[k].sec (atext l2[k].text l2[k].odd) (HT0.out.swap.below hW) (by omega)
            clear hW c0 c1 c2 c3 c4 c5 hlt2 HT0
            have HS := Lib.hid hS
            clear hS
            refine Reg.tail_cons ?_
            unfold Reg.Does
            go_simp
            go_wp2_with fail
            (with_reducible refine HS.out.mono ?_); rintro e w8 ⟨rfl, ht8⟩
            have HT0 := Lib.hid ht8
            clear ht8 HS
            refine Reg.tail_cons ?_
            unfold Reg.Does
            go_simp
            refine Reg.tail_nil ?_
            obtain ⟨b', off', hA, hlt2, c0, c1, c2, c3, c4, c5⟩ := (HLl2.out.below HT0.out.low) k hlt
            obtain ⟨rfl, rfl⟩ : b = b' ∧ off = off' := by injection hA with e; injection e with e1 e2; exact ⟨e1, e2⟩
            clear hA
            rcases Cs.out with ⟨he, s1, s2, s3, hd2, hc2⟩ | ⟨he, hd2, hwhy⟩
            · rw [he]
              rw [hd2] at HT0
              have hay := aw_yes Hg.out Ho.out L x y s1 s2 s3
              have Ho2 := Lib.hid (show ({ db with q := db.q ++ [(l2[k].sec.toNat, atext l2[k].text l2[k].odd)] } : Dk).off = false from Ho.out)
              have Ha2 := Lib.hid (show ({ db with q := db.q ++ [(l2[k].sec.toNat, atext l2[k].text l2[k].odd)] } : Dk).arm = none from Ha.out)
              generalize ({ db with q := db.q ++ [(l2[k].sec.toNat, atext l2[k].text l2[k].odd)] } : Dk) = db2 at *
              clear Cs he hd2 hc2
              by_cases hLz : L = 0
              · subst hLz
                rw [if_pos rfl] at hay
                have Hay := Lib.hid hay
                have hf := Lib.hid (tr2_fail x y HT0.out (by omega))
                clear hay c0 c1 c2 c3 c4 c5 hlt2 HT0
                go_wp2_with fail
                (with_reducible refine hf.out.mono ?_); rintro e w9 ⟨rfl, ht9⟩
                have HT0 := Lib.hid ht9
                clear ht9 hf
                obtain ⟨b', off', hA, hlt2, c0, c1, c2, c3, c4, c5⟩ := (HLl2.out.below HT0.out.low) k hlt
                obtain ⟨rfl, rfl⟩ : b = b' ∧ off = off' := by injection hA with e; injection e with e1 e2; exact ⟨e1, e2⟩
                clear hA
                go_wp2_with fail
                refine Reg.wp_region_seq (by kernel_rfl) (by kernel_rfl) ?_
                simp only
                iterate 11
                  apply Reg.SeqOK.val
                  · intro γ W hW K hK
                    obtain ⟨hc, hf, _⟩ := bcell hW
                    simp only [Act.put, List.setIfInBounds_toArray, List.set_cons_zero, List.set_cons_succ] at hK
                    unfold Reg.Does
                    go_simp
                    try simp only [IntWalk.i64_left]
                    first
                      | exact hK _ (Below.refl _ _)
                      | (go_at_call 24; (with_reducible refine (text_any _ _ _ _ _ _ _ (by assumption)).mono ?_); rintro e w' ⟨rfl, hb⟩; exact hK _ hb)
                  simp only [Act.put, List.setIfInBounds_toArray, List.set_cons_zero, List.set_cons_succ, List.nil_append, List.cons_append, Nat.reduceAdd, Nat.zero_add]
                refine Reg.SeqOK.tail (by kernel_rfl) (by kernel_rfl) (fun γ W hW _ _ _ => ?_)
                have hS := tr2_write l2[k].sec (atext l2[k].text l2[k].odd) (HT0.out.swap.below hW) (by omega)
                clear hW c0 c1 c2 c3 c4 c5 hlt2 HT0
                have HS := Lib.hid hS
                clear hS
                refine Reg.tail_cons ?_
                unfold Reg.Does
                go_simp
                go_wp2_with fail
                rw [Hay.out] at HS
                (with_reducible refine HS.out.mono ?_); rintro e w10 ⟨rfl, ht10⟩
                have HT := Lib.hid ht10
                have hn0 : ¬ L0 < 0 := fun h => by have := HL0.out h; omega
                clear ht10 HS HL0 HL1 Hay
                generalize fail db2 x y = db at *
                refine Reg.tail_cons ?_
                unfold Reg.Does
                go_simp
                refine Reg.tail_nil ?_
                have s1 := Lib.hid (tr2_start HT.out)
                clear HT
                go_wp2_with fail
                (with_reducible refine s1.out.mono ?_); rintro e w11 ⟨rfl, ht11⟩
                have s2 := Lib.hid (tr2_start ht11.swap)
                clear ht11 s1
                go_wp2_with fail
                (with_reducible refine s2.out.mono ?_); rintro e w12 ⟨rfl, ht12⟩
                have Hof := Lib.hid (show (start db).off = false from rfl)
                generalize start db = d3 at *
                have HT12 := Lib.hid ht12.swap
                have f1 := Lib.hid (tr_contents ht12.swap.one (by omega) Hof.out)
                clear ht12 s2
                go_wp2_with fail
                (with_reducible refine f1.out.mono ?_); rintro e w13 ⟨A3, c3, rfl, ho3, hb13⟩
                have HO3 := Lib.hid ho3
                have HT13 := Lib.hid (HT12.out.below hb13)
                have f2 := Lib.hid (tr_contents HT13.out.swap.one (by omega) Hof.out)
                clear ho3 hb13 f1 HT12
                go_wp2_with fail
                (with_reducible refine f2.out.mono ?_); rintro e w14 ⟨A4, c4, rfl, ho4, hb14⟩
                have HT14 := Lib.hid (HT13.out.below hb14)
                have hn2 := conts_len N d3
                have hsm := same_rows (own_below HO3.out hb14) ho4 hn2 hn2 (by omega)
                have hbb : (conts N d3 == conts N d3) = true := by simp
                rw [hbb] at hsm
                have Hsm := Lib.hid hsm
                clear hsm hbb hn2 ho4 hb14 f2 HT13 HO3
                go_wp2_with fail
                (with_reducible refine Hsm.out.mono ?_); rintro e w15 ⟨rfl, hb15⟩
                have low := Lib.hid (HT14.out.below hb15).low
                clear hb15
                go_wp2
                go_ret
                exact ⟨rfl, low.out⟩
              · have hLb : ((L : Int) == 0) = false := by simpa using hLz
                rw [if_neg hLz] at hay
                have Hay := Lib.hid hay
                clear hay hLz
                go_wp2_with fail
                refine Reg.wp_region_seq (by kernel_rfl) (by kernel_rfl) ?_
                simp only
                iterate 11
                  apply Reg.SeqOK.val
                  · intro γ W hW K hK
                    obtain ⟨hc, hf, _⟩ := bcell hW
                    simp only [Act.put, List.setIfInBounds_toArray, List.set_cons_zero, List.set_cons_succ] at hK
                    unfold Reg.Does
                    go_simp
                    try simp only [IntWalk.i64_left]
                    first
                      | exact hK _ (Below.refl _ _)
                      | (go_at_call 24; (with_reducible refine (text_any _ _ _ _ _ _ _ (by assumption)).mono ?_); rintro e w' ⟨rfl, hb⟩; exact hK _ hb)
                  simp only [Act.put, List.setIfInBounds_toArray, List.set_cons_zero, List.set_cons_succ, List.nil_append, List.cons_append, Nat.reduceAdd, Nat.zero_add]
                refine Reg.SeqOK.tail (by kernel_rfl) (by kernel_rfl) (fun γ W hW _ _ _ => ?_)
                have hS := tr2_write l2[k].sec (atext l2[k].text l2[k].odd) (HT0.out.swap.below hW) (by omega)
                clear hW c0 c1 c2 c3 c4 c5 hlt2 HT0
                have HS := Lib.hid hS
                clear hS
                refine Reg.tail_cons ?_
                unfold Reg.Does
                go_simp
                go_wp2_with fail
                rw [Hay.out] at HS
                (with_reducible refine HS.out.mono ?_); rintro e w10 ⟨rfl, ht10⟩
                have HT := Lib.hid ht10
                clear ht10 HS Hay
                refine Reg.tail_cons ?_
                unfold Reg.Does
                go_simp
                refine Reg.tail_nil ?_
                by_cases hp : 0 < L
                · have hnl : nextL L = L - 1 := by unfold nextL; rw [if_pos hp]
                  rw [hnl] at HT
                  clear hnl
                  go_wp2_with fail
                  exact ⟨⟨k + 1, by omega, by go_num, L - 1, db2, by go_num, fun h => by have := HL0.out h; omega, by omega, fun h => by have := HL1.out h; omega, Ho2.out, Ha2.out, HT.out.more (by omega)⟩, by simp [intOf]; omega⟩
                · have hnl : nextL L = L := by unfold nextL; rw [if_neg hp]
                  rw [hnl] at HT
                  clear hnl
                  go_wp2_with fail
                  exact ⟨⟨k + 1, by omega, by go_num, L, db2, rfl, HL0.out, by omega, HL1.out, Ho2.out, Ha2.out, HT.out.more (by omega)⟩, by simp [intOf]; omega⟩
            · rw [he]
              rw [hd2] at HT0
              have hay := Lib.hid (aw_no Hg.out Ho.out L x y hwhy)
              clear Cs he hd2 hwhy
              go_wp2_with fail
              refine Reg.wp_region_seq (by kernel_rfl) (by kernel_rfl) ?_
              simp only
              iterate 11
                apply Reg.SeqOK.val
                · intro γ W hW K hK
                  obtain ⟨hc, hf, _⟩ := bcell hW
                  simp only [Act.put, List.setIfInBounds_toArray, List.set_cons_zero, List.set_cons_succ] at hK
                  unfold Reg.Does
                  go_simp
                  try simp only [IntWalk.i64_left]
                  first
                    | exact hK _ (Below.refl _ _)
                    | (go_at_call 24; (with_reducible refine (text_any _ _ _ _ _ _ _ (by assumption)).mono ?_); rintro e w' ⟨rfl, hb⟩; exact hK _ hb)
                simp only [Act.put, List.setIfInBounds_toArray, List.set_cons_zero, List.set_cons_succ, List.nil_append, List.cons_append, Nat.reduceAdd, Nat.zero_add]
              refine Reg.SeqOK.tail (by kernel_rfl) (by kernel_rfl) (fun γ W hW _ _ _ => ?_)
              have hS := tr2_write l2[k].sec (atext l2[k].text l2[k].odd) (HT0.out.swap.below hW) (by omega)
              clear hW c0 c1 c2 c3 c4 c5 hlt2 HT0
              have HS := Lib.hid hS
              clear hS
              refine Reg.tail_cons ?_
              unfold Reg.Does
              go_simp
              go_wp2_with fail
              rw [hay.out] at HS
              (with_reducible refine HS.out.mono ?_); rintro e w10 ⟨rfl, ht10⟩
              have HT := Lib.hid ht10
              clear ht10 HS hay
              refine Reg.tail_cons ?_
              unfold Reg.Does
              go_simp
              refine Reg.tail_nil ?_
              go_wp2_with fail
              exact ⟨⟨k + 1, by omega, by go_num, L, db, rfl, HL0.out, ⟨bl1, bl2⟩, HL1.out, Ho.out, Ha.out, HT.out.more (by omega)⟩, by simp [intOf]; omega⟩
        · obtain rfl : k = l2.length := by omega
          have HT := Lib.hid ht
          have hse := Lib.hid (start_armD db L x y)
          have hn0 : L0 < 0 → L = L0 := HL0.out
          clear ht hk hlt Ho Ha HL0 HL1
          by_cases hneg : L0 < 0
          · obtain rfl := hn0 hneg
            have s1 := Lib.hid (tr2_start HT.out)
            clear HT
            go_wp2_with fail
            (with_reducible refine s1.out.mono ?_); rintro e w11 ⟨rfl, ht11⟩
            have s2 := Lib.hid (tr2_start ht11.swap)
            clear ht11 s1
            go_wp2_with fail
            (with_reducible refine s2.out.mono ?_); rintro e w12 ⟨rfl, ht12⟩
            rw [hse.out] at ht12
            have Hof := Lib.hid (show (start db).off = false from rfl)
            generalize start db = d3 at *
            have HT12 := Lib.hid ht12.swap
            have f1 := Lib.hid (tr_contents ht12.swap.one (by omega) Hof.out)
            clear ht12 s2
            go_wp2_with fail
            (with_reducible refine f1.out.mono ?_); rintro e w13 ⟨A3, c3, rfl, ho3, hb13⟩
            have HO3 := Lib.hid ho3
            have HT13 := Lib.hid (HT12.out.below hb13)
            have f2 := Lib.hid (tr_contents HT13.out.swap.one (by omega) Hof.out)
            clear ho3 hb13 f1 HT12
            go_wp2_with fail
            (with_reducible refine f2.out.mono ?_); rintro e w14 ⟨A4, c4, rfl, ho4, hb14⟩
            have HT14 := Lib.hid (HT13.out.below hb14)
            have hn2 := conts_len N d3
            have hsm := same_rows (own_below HO3.out hb14) ho4 hn2 hn2 (by omega)
            have hbb : (conts N d3 == conts N d3) = true := by simp
            rw [hbb] at hsm
            have Hsm := Lib.hid hsm
            clear hsm hbb hn2 ho4 hb14 f2 HT13 HO3
            go_wp2_with fail
            (with_reducible refine Hsm.out.mono ?_); rintro e w15 ⟨rfl, hb15⟩
            have low := Lib.hid (HT14.out.below hb15).low
            clear hb15
            go_wp2
            go_ret
            exact ⟨rfl, low.out⟩
          · clear hn0
            have s1 := Lib.hid (tr2_start HT.out)
            clear HT
            go_wp2_with fail
            (with_reducible refine s1.out.mono ?_); rintro e w11 ⟨rfl, ht11⟩
            have s2 := Lib.hid (tr2_start ht11.swap)
            clear ht11 s1
            go_wp2_with fail
            (with_reducible refine s2.out.mono ?_); rintro e w12 ⟨rfl, ht12⟩
            rw [hse.out] at ht12
            have Hof := Lib.hid (show (start db).off = false from rfl)
            generalize start db = d3 at *
            have HT12 := Lib.hid ht12.swap
            have f1 := Lib.hid (tr_contents ht12.swap.one (by omega) Hof.out)
            clear ht12 s2
            go_wp2_with fail
            (with_reducible refine f1.out.mono ?_); rintro e w13 ⟨A3, c3, rfl, ho3, hb13⟩
            have HO3 := Lib.hid ho3
            have HT13 := Lib.hid (HT12.out.below hb13)
            have f2 := Lib.hid (tr_contents HT13.out.swap.one (by omega) Hof.out)
            clear ho3 hb13 f1 HT12
            go_wp2_with fail
            (with_reducible refine f2.out.mono ?_); rintro e w14 ⟨A4, c4, rfl, ho4, hb14⟩
            have HT14 := Lib.hid (HT13.out.below hb14)
            have hn2 := conts_len N d3
            have hsm := same_rows (own_below HO3.out hb14) ho4 hn2 hn2 (by omega)
            have hbb : (conts N d3 == conts N d3) = true := by simp
            rw [hbb] at hsm
            have Hsm := Lib.hid hsm
            clear hsm hbb hn2 ho4 hb14 f2 HT13 HO3
            go_wp2_with fail
            (with_reducible refine Hsm.out.mono ?_); rintro e w15 ⟨rfl, hb15⟩
            have low := Lib.hid (HT14.out.below hb15).low
            clear hb15
            go_wp2
            go_ret
            exact ⟨rfl, low.out⟩

end D
end Go.Proofs.Ytopjekdhecikdaa
