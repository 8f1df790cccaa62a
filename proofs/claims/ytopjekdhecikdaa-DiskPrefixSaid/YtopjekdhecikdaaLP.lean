/- Law 'DiskPrefix': the walk. -/
import Derived.Test.YtopjekdhecikdaaLQ
set_option linter.unusedSimpArgs false
set_option linter.unusedVariables false
set_option maxRecDepth 100000
namespace Go.Proofs.Ytopjekdhecikdaa
open Go.RowKit
namespace D

set_option maxHeartbeats 40000000 in
set_option maxRecDepth 100000 in
theorem prefix_walk (r : Int) (A : Option Addr) (c : Nat) (l : List AV) (A2 : Option Addr) (c2 : Nat) (l2 : List AV) (f t : Int) (w : World) (hr : 0 ≤ r ∧ r ≤ 255) (hl : ActsAt w A l) (hll : l.length ≤ 9223372036854775807) (hb : ∀ a ∈ l, a.aft ≤ 9223372036854775807) (hl2 : ActsAt w A2 l2) (hll2 : l2.length ≤ 9223372036854775807) (hb2 : ∀ a ∈ l2, a.aft ≤ 9223372036854775807) (hf : 0 ≤ f ∧ f ≤ 255) (ht' : 0 ≤ t ∧ t ≤ 255) :
    Calls Try.prog 5 #[.int .u8 r, .slice A l.length c, .slice A2 l2.length c2, .int .u8 f, .int .u8 t] w fun e w' => e = .returned (.bool true) ∧ Below w.heap.size w w' := by
  obtain ⟨hr0, hr1⟩ := hr
  have HLl := Lib.hid hl
  have HBdl := Lib.hid hb
  clear hl hb
  have HLl2 := Lib.hid hl2
  have HBdl2 := Lib.hid hb2
  clear hl2 hb2
  go_enter Try.func5, Try.ntmps5
  go_wp2_with fail
  (with_reducible refine (head_any _).mono ?_); rintro e w1 ⟨rfl, hT⟩
  go_wp2_with fail
  (with_reducible refine (ok_any A c l w1 (HLl.out.below hT) hll).mono ?_); rintro e w' ⟨rfl, rfl⟩
  cases hokl : okB l
  case false =>
    go_wp2
    go_ret
    exact ⟨rfl, hT⟩
  obtain ⟨ok1, ok2l⟩ := okB_true hokl
  have OKl := Lib.hid ok1
  clear ok1
  go_wp2_with fail
  (with_reducible refine (ok_any A2 c2 l2 w1 (HLl2.out.below hT) hll2).mono ?_); rintro e w' ⟨rfl, rfl⟩
  cases hokl2 : okB l2
  case false =>
    go_wp2
    go_ret
    exact ⟨rfl, hT⟩
  obtain ⟨ok1, ok2l2⟩ := okB_true hokl2
  have OKl2 := Lib.hid ok1
  clear ok1
  go_wp2_with fail
  (with_reducible refine (size_any r _ hr0 hr1).mono ?_); rintro e w' ⟨rfl, rfl⟩
  obtain ⟨N, hN⟩ : ∃ N : Nat, 1 + r % 12 = (N : Int) := Int.eq_ofNat_of_zero_le (by omega)
  have hN1 : 1 ≤ N := by omega
  have hN2 : N ≤ 12 := by omega
  rw [hN]
  clear hN
  obtain ⟨hf0, hf1⟩ := hf
  obtain ⟨ht0, ht1⟩ := ht'
  obtain ⟨KW, hKW⟩ : ∃ KW : Nat, f % 61 = (KW : Int) := Int.eq_ofNat_of_zero_le (by omega)
  obtain ⟨KB, hKB⟩ : ∃ KB : Nat, t % 33 = (KB : Int) := Int.eq_ofNat_of_zero_le (by omega)
  have hKW2 : KW ≤ 60 := by omega
  have hKB2 : KB ≤ 32 := by omega
  obtain ⟨st0, hst0⟩ : ∃ s, eff (start (runD (newD N) l)) = s := ⟨_, rfl⟩
  have HPre : Hid (∀ w1 : World, Below w.heap.size w w1 → Calls Try.prog 26 #[.int .i64 N, .slice A l.length c, .slice A2 l2.length c2, .int .i64 KW] w1 fun e w' =>
      ∃ A' c', e = .returned (.tuple #[.slice A' N c', .bool true]) ∧ w'.ownsRow w1.heap.size 9 1 (.slice A' N c') N (sv (secs N (settle st0 ((ents N l2).take KW)))) ∧ Below w1.heap.size w1 w') := by
    unfold Hid
    intro w1 hb1
    rw [← hst0]
    exact prefix_any N hN1 hN2 A c l A2 c2 l2 KW w1 (HLl.out.below hb1) ok2l HBdl.out OKl.out (HLl2.out.below hb1) ok2l2 OKl2.out hKW2
  have HS0 := Lib.hid hst0
  clear hst0
  go_wp2_with fail
  (with_reducible refine (tm_new (w0 := w) N hN1 (by omega) hT).mono ?_); rintro e w3 ⟨g, M, rfl, ht, hM, hb3⟩
  clear hM hb3 hT
  have HT := Lib.hid ht
  clear ht
  go_wp2_with fail
  go_loopw [16] (fun i wr => ∃ k : Nat, k ≤ l.length ∧ i = .int .i64 k ∧ ∃ M, TrM w N k g (runD (newD N) (l.take k)) M wr) (fun i _ => l.length - (intOf i).toNat)
  case atStart => exact ⟨0, Nat.zero_le _, rfl, M, HT.out⟩
  case round =>
    clear HT
    obtain ⟨k, hk, rfl, M, ht⟩ := hrel
    by_cases hlt : k < l.length
    · obtain ⟨b, off, hA, hlt2, c0, c1, c2, c3, c4, c5⟩ := (HLl.out.below ht.low) k hlt
      subst hA
      have hkl : (k : Int) < (l.length : Int) := by omega
      have hD := Lib.hid (tm_do l[k] ht (by omega) (by have := OKl.out l[k] (List.getElem_mem hlt); omega) (HBdl.out l[k] (List.getElem_mem hlt)))
      have hrt := Lib.hid (runD_take (d := newD N) hlt)
      clear ht
      go_wp2_with fail
      (with_reducible refine hD.out.mono ?_); rintro e w4 ⟨rfl, M4, ht4, hm4⟩
      have HT4 := Lib.hid ht4
      clear ht4
      go_wp2_with fail
      refine ⟨⟨k + 1, by omega, by go_num, M4, by rw [hrt.out]; exact HT4.out⟩, by simp [intOf]; omega⟩
    · obtain rfl : k = l.length := by omega
      rw [List.take_length] at ht
      have hS := Lib.hid (tm_start ht)
      have hql : (runD (newD N) l).q.length ≤ l.length := by have := (few_run (few_new N) l HBdl.out).ql; omega
      clear ht
      generalize hd0 : runD (newD N) l = d0 at *
      clear hd0
      go_wp2_with fail
      (with_reducible refine hS.out.mono ?_); rintro e w4 ⟨rfl, M4, ht4, hm4⟩
      have Ho := Lib.hid (show (start d0).off = false from rfl)
      have Ha := Lib.hid (show (start d0).arm = none from rfl)
      have hql1 : (start d0).q.length ≤ l.length := hql
      clear hm4 hS hql hk hlt
      generalize start d0 = d1 at *
      have f1 := tm_sync ht4 (by omega)
      rw [sync_clean Ho.out Ha.out] at f1
      have F1 := Lib.hid f1
      clear f1 ht4
      go_wp2_with fail
      (with_reducible refine F1.out.mono ?_); rintro e w5 ⟨rfl, M5, ht5, hm5⟩
      have Ho2 := Lib.hid (show ({ d1 with st := eff d1, q := [] } : Dk).off = false from Ho.out)
      have Ha2 := Lib.hid (show ({ d1 with st := eff d1, q := [] } : Dk).arm = none from Ha.out)
      have Hst := Lib.hid (show ({ d1 with st := eff d1, q := [] } : Dk).st = eff d1 from rfl)
      have Hq2 := Lib.hid (show ({ d1 with st := eff d1, q := [] } : Dk) = wq { d1 with st := eff d1, q := [] } [] from rfl)
      generalize ({ d1 with st := eff d1, q := [] } : Dk) = d2 at *
      have HT5 := Lib.hid ht5
      clear ht5 hm5 F1
      go_wp2_with fail
      have bk0 : Safe M5 w5.heap.size #[.int .i64 0, .int .i64 (-1), .int .i64 0, .string (str []), .bool false, .int .i64 0] 34 (w5.alloc (.cells #[.int .i64 0, .int .i64 (-1), .int .i64 0, .string (str []), .bool false, .int .i64 0] 34)) :=
        ⟨Reg.Blk.new _ _ _, fun m => by have := (HT5.out.lt _ m).2; omega⟩
      have HT6 := Lib.hid (HT5.out.below ((Below.refl w5.heap.size w5).alloc (Nat.le_refl _) (.cells #[.int .i64 0, .int .i64 (-1), .int .i64 0, .string (str []), .bool false, .int .i64 0] 34)))
      have hz5 := Lib.hid HT5.out.low.size
      have Bk0 := Lib.hid bk0
      clear bk0 HT5
      go_loopw [17, 19] (fun dn i wr => ∃ k : Nat, k ≤ l2.length ∧ i = .int .i64 k ∧ ∃ (D : Nat) (z : AV) (M : Nat → Prop), dn = .int .i64 D ∧ D = (ents N (l2.take k)).length ∧ (KW < D → (ents N (l2.take k))[KW]? = ent N z) ∧ (D ≤ KW → z.sec = -1) ∧ z.text.length ≤ 100 ∧ TrM w N (l.length + k) g (wq d2 (ents N (l2.take k))) M wr ∧
        Safe M w5.heap.size #[.int .i64 z.kind, .int .i64 z.sec, .int .i64 z.byt, .string (str z.text), .bool z.odd, .int .i64 z.aft] 34 wr) (fun _ i _ => l2.length - (intOf i).toNat)
      case atStart => exact ⟨0, Nat.zero_le _, rfl, 0, ⟨0, -1, 0, [], false, 0⟩, M5, rfl, rfl, fun h => absurd h (by omega), fun _ => rfl, by simp, by have := HT6.out; rw [Hq2.out] at this; exact this, Bk0.out⟩
      case round =>
        clear HT6 Bk0
        obtain ⟨k, hk, rfl, D, z, M, rfl, hDq, hz1, hz2, hz3, ht, bk⟩ := hrel
        have hDb : D ≤ 60 := by rw [hDq]; exact Nat.le_trans (List.length_filterMap_le _ _) (by simp; omega)
        have HDq := Lib.hid hDq
        have Hz1 := Lib.hid hz1
        have Hz2 := Lib.hid hz2
        clear hDq hz1 hz2
        by_cases hlt : k < l2.length
        · obtain ⟨b, off, hA, hlt2, c0, c1, c2, c3, c4, c5⟩ := (HLl2.out.below ht.low) k hlt
          subst hA
          have hkl : (k : Int) < (l2.length : Int) := by omega
          have hk0 : (0 : Int) ≤ (k : Int) := by omega
          have hxl : l2[k].text.length ≤ 1000000 := by have := OKl2.out l2[k] (List.getElem_mem hlt); omega
          have hx1 := Lib.hid (OKl2.out l2[k] (List.getElem_mem hlt))
          have HT := Lib.hid ht
          have Bk := Lib.hid bk
          have Cs := Lib.hid (write_ent ht.good Ho2.out Ha2.out l2[k])
          have hent := Lib.hid (ents_take (N := N) hlt)
          clear ht bk
          go_wp2_with fail
          refine Reg.wp_region_seq (by kernel_rfl) (by kernel_rfl) ?_
          simp only
          iterate 11
            apply Reg.SeqOK.val
            · intro γ W hW K hK
              obtain ⟨hc, hf, _⟩ := bcell hW
              simp only [Act.put, List.setIfInBounds_toArray, List.set_cons_zero, List.set_cons_succ] at hK
              unfold Reg.Does
              go_simp
              try simp only [IntWalk.i64_left]
              first
                | exact hK _ (Below.refl _ _)
                | (go_at_call 24; (with_reducible refine (text_any _ _ _ _ _ _ _ (by assumption)).mono ?_); rintro e w' ⟨rfl, hb⟩; exact hK _ hb)
            simp only [Act.put, List.setIfInBounds_toArray, List.set_cons_zero, List.set_cons_succ, List.nil_append, List.cons_append, Nat.reduceAdd, Nat.zero_add]
          refine Reg.SeqOK.tail (by kernel_rfl) (by kernel_rfl) (fun γ W hW _ _ _ => ?_)
          have hS := Lib.hid (tm_write l2[k].sec (atext l2[k].text l2[k].odd) (HT.out.below hW) (by omega))
          have Bk2 := Lib.hid (Bk.out.below hW)
          clear hW Bk HT
          refine Reg.tail_cons ?_
          unfold Reg.Does
          go_simp
          go_wp2_with fail
          (with_reducible refine hS.out.mono ?_); rintro e w7 ⟨rfl, M7, ht7, hm7⟩
          have bk3 := Bk2.out.moved hm7
          have HA7 := Lib.hid (HLl2.out.below ht7.low)
          have Ht7 := Lib.hid ht7
          clear hS Bk2 hm7 ht7 c0 c1 c2 c3 c4 c5 hlt2
          obtain ⟨b', off', hA, hlt2, c0, c1, c2, c3, c4, c5⟩ := HA7.out k hlt
          obtain ⟨rfl, rfl⟩ : b = b' ∧ off = off' := by injection hA with e; injection e with e1 e2; exact ⟨e1, e2⟩
          clear hA
          refine Reg.tail_cons ?_
          unfold Reg.Does
          go_simp
          refine Reg.tail_nil ?_
          rcases Cs.out with ⟨he, hen, hd2⟩ | ⟨he, hen, hd2⟩
          · rw [he]
            rw [hd2, wq_more] at Ht7
            have hle : ents N (l2.take (k + 1)) = ents N (l2.take k) ++ [(l2[k].sec.toNat, atext l2[k].text l2[k].odd)] := by have := hent.out; rw [hen] at this; exact this
            rw [← hle] at Ht7
            have Hle := Lib.hid hle
            have Hen := Lib.hid hen
            by_cases hdk : D = KW
            · subst hdk
              obtain ⟨cb, fb, zb⟩ := bk3.blk.facts
              have Bk4 := Lib.hid (bk3.upd6 (x := .int .i64 l2[k].kind) (y := .int .i64 l2[k].sec) (z := .int .i64 l2[k].byt) (t := .string (str l2[k].text)) (u := .bool l2[k].odd) (v := .int .i64 l2[k].aft))
              have Hno := Lib.hid bk3.no
              clear Cs he hd2 hle hen hent bk3
              go_wp2_with fail
              refine ⟨⟨k + 1, by omega, by go_num, D + 1, l2[k], M7, by go_num, ?_, fun _ => ?_, fun h => absurd h (by omega), hx1.out, Ht7.out.set6 _ _ _ _ _ _ Hno.out hz5.out, Bk4.out⟩, by simp [intOf]; omega⟩
              · rw [Hle.out, List.length_append, ← HDq.out]; rfl
              · rw [Hle.out, Hen.out, HDq.out, List.getElem?_append_right (Nat.le_refl _), Nat.sub_self]; rfl
            · have hdk2 : ((D : Int) == (KW : Int)) = false := by simp; omega
              have Bk4 := Lib.hid bk3
              clear Cs he hd2 hle hen hent bk3
              go_wp2_with fail
              refine ⟨⟨k + 1, by omega, by go_num, D + 1, z, M7, by go_num, ?_, fun h => ?_, fun h => Hz2.out (by omega), hz3, Ht7.out, Bk4.out⟩, by simp [intOf]; omega⟩
              · rw [Hle.out, List.length_append, ← HDq.out]; rfl
              · rw [Hle.out, List.getElem?_append_left (by rw [← HDq.out]; omega)]; exact Hz1.out (by omega)
          · rw [he]
            rw [hd2] at Ht7
            have hle : ents N (l2.take (k + 1)) = ents N (l2.take k) := by have := hent.out; rw [hen] at this; simpa using this
            rw [← hle] at Ht7
            have Hle := Lib.hid hle
            have Bk4 := Lib.hid bk3
            clear Cs he hd2 hle hen hent bk3
            go_wp2_with fail
            exact ⟨⟨k + 1, by omega, by go_num, D, z, M7, rfl, by rw [Hle.out]; exact HDq.out, fun h => by rw [Hle.out]; exact Hz1.out h, Hz2.out, hz3, Ht7.out.more (by omega), Bk4.out⟩, by simp [intOf]; omega⟩
        · obtain rfl : k = l2.length := by omega
          rw [List.take_length] at ht HDq Hz1
          have hdst : d2.st = st0 := Hst.out.trans HS0.out
          have Hg := Lib.hid ht.good
          have f1 := Lib.hid (tm_fail KW KB ht (by omega))
          have Bk := Lib.hid bk
          have fA := Lib.hid (fun (hq : (ents N l2).length ≤ KW) => failed_all (q := ents N l2) Ho2.out KW KB N (by omega) hq)
          have fB := Lib.hid (fun (s : Nat) (t : Tx) (hq : (ents N l2)[KW]? = some (s, t)) => failed_some Ho2.out KW KB N (by omega) Hg.out hq)
          have hgl := Lib.hid (length_settle (n := N) Hg.out.len (mem_take (n := KW) Hg.out.q))
          clear ht bk hk hlt
          go_wp2_with fail
          (with_reducible refine f1.out.mono ?_); rintro e w8 ⟨rfl, M8, ht8, hm8⟩
          have Bk2 := Lib.hid (Bk.out.moved hm8)
          have f2 := Lib.hid (tm_start ht8)
          clear f1 ht8 hm8 Bk
          go_wp2_with fail
          (with_reducible refine f2.out.mono ?_); rintro e w9 ⟨rfl, M9, ht9, hm9⟩
          have Bk3 := Lib.hid (Bk2.out.moved hm9)
          have Hof := Lib.hid (show (start (fail (wq d2 (ents N l2)) KW KB)).off = false from rfl)
          have ewq : (wq d2 (ents N l2)).st = st0 := hdst
          have ewq2 : (wq d2 (ents N l2)).q = ents N l2 := rfl
          rw [ewq, ewq2] at hgl
          rw [hdst] at fA fB
          generalize start (fail (wq d2 (ents N l2)) KW KB) = d3 at *
          have Ht9 := Lib.hid ht9
          have f3 := Lib.hid (tr_contents ht9.tr (by omega) Hof.out)
          clear f2 ht9 hm9 Bk2 ewq ewq2 hdst Hst HS0
          go_wp2_with fail
          (with_reducible refine f3.out.mono ?_); rintro e w10 ⟨A3, c3, rfl, ho3, hb10⟩
          have HO3 := Lib.hid ho3
          have low10 := Lib.hid (Ht9.out.below hb10).low
          have Bk4 := Lib.hid (Bk3.out.below hb10)
          have pre := Lib.hid (HPre.out w10 low10.out)
          clear ho3 hb10 f3 Bk3 Ht9
          go_wp2_with fail
          (with_reducible refine pre.out.mono ?_); rintro e w11 ⟨A4, c4, rfl, ho4, hb11⟩
          have HO4 := Lib.hid ho4
          have HO3b := Lib.hid (own_below HO3.out hb11)
          have hlt3 := Lib.hid (fun k hk => (HO3.out.lt k hk).2)
          have low11 := Lib.hid (low10.out.trans (hb11.mono low10.out.size))
          have bk5 := (Bk4.out.below hb11).blk
          obtain ⟨cb, fb, zb⟩ := bk5.facts
          clear ho4 hb11 pre Bk4 HO3 HPre
          have hn2 := conts_len N d3
          by_cases hq : (ents N l2).length ≤ KW
          · have hzs := Hz2.out (by rw [HDq.out]; exact hq)
            have hcd := fA.out hq
            rw [hzs] at cb
            rw [← hcd] at HO4
            have hsm := same_rows HO3b.out HO4.out hn2 hn2 (by omega)
            have hbb : (conts N d3 == conts N d3) = true := by simp
            rw [hbb] at hsm
            have Hsm := Lib.hid hsm
            clear hsm hbb hcd hzs
            go_wp2_with fail
            (with_reducible refine Hsm.out.mono ?_); rintro e w12 ⟨rfl, hb12⟩
            have low12 := Lib.hid (low11.out.trans (hb12.mono low11.out.size))
            clear hb12
            go_wp2
            go_ret
            exact ⟨rfl, low12.out⟩
          · have hdw : KW < D := by rw [HDq.out]; omega
            have hzq := Hz1.out hdw
            rw [List.getElem?_eq_getElem (by omega)] at hzq
            have hent : ent N z = some (z.sec.toNat, atext z.text z.odd) ∧ 0 ≤ z.sec ∧ z.sec < N ∧ (atext z.text z.odd).length = 64 := by
              unfold ent at hzq ⊢
              split at hzq
              · rename_i h; exact ⟨if_pos h, h⟩
              · cases hzq
            obtain ⟨he, zs0, zs1, zl⟩ := hent
            have hzq2 := Hz1.out hdw
            rw [he] at hzq2
            have hcd := fB.out _ _ hzq2
            have hj : z.sec.toNat < N := by omega
            obtain ⟨g1, cp, hv1, hg1b, hg1l⟩ := HO4.out.form (by omega)
            obtain ⟨rfl, rfl⟩ : A4 = some ⟨g1, 0, none⟩ ∧ c4 = cp := by injection hv1 with a b c; exact ⟨a, c⟩
            have htj : (secs N (settle st0 ((ents N l2).take KW)))[z.sec.toNat]? = some (sec (settle st0 ((ents N l2).take KW)) z.sec.toNat) := secs_get hj
            have cj : w11.cell? ⟨g1, z.sec.toNat, none⟩ = some (.string (str (sec (settle st0 ((ents N l2).take KW)) z.sec.toNat))) := by rw [HO4.out.cellAt _ (by omega), sv_get, htj]; rfl
            have fj : w11.frozen? ⟨g1, z.sec.toNat, none⟩ = false := HO4.out.frozenAt _
            have hu64 : (sec (settle st0 ((ents N l2).take KW)) z.sec.toNat).length = 64 := sec_len (by rw [hgl.out]; omega)
            generalize settle st0 ((ents N l2).take KW) = base at *
            have hxl : z.text.length ≤ 1000000 := by omega
            have x1 := str_take (atext z.text z.odd) KB
            have x2 := str_drop (sec base z.sec.toNat) KB hu64
            have x3 := str_append ((atext z.text z.odd).take KB) ((sec base z.sec.toNat).drop KB)
            have y1 : (str (atext z.text z.odd)).size = 64 := by rw [str_size]; exact zl
            have y2 : (str (sec base z.sec.toNat)).size = 64 := by rw [str_size]; exact hu64
            have y3 : (str ((atext z.text z.odd).take KB)).size ≤ 64 := by rw [str_size, List.length_take]; omega
            have y4 : (str ((sec base z.sec.toNat).drop KB)).size ≤ 64 := by rw [str_size, List.length_drop]; omega
            have y5 : ¬ 9223372036854775807 < (str ((atext z.text z.odd).take KB)).size + (str ((sec base z.sec.toNat).drop KB)).size := by omega
            have hKB3 : (KB : Int) ≤ 64 := by omega
            have hzn : ¬ (N : Int) ≤ z.sec := by omega
            have Hcd := Lib.hid hcd
            have Hu := Lib.hid hu64
            clear hzq hzq2 hcd htj hv1 fA fB he hu64
            generalize hnew : (atext z.text z.odd).take KB ++ (sec base z.sec.toNat).drop KB = new at *
            go_wp2_with fail
            refine Reg.wp_region_seq (by kernel_rfl) (by kernel_rfl) ?_
            simp only
            iterate 16
              apply Reg.SeqOK.val
              · intro γ W hW K hK
                obtain ⟨hc, hf, _⟩ := bcell hW
                simp only [Act.put, List.setIfInBounds_toArray, List.set_cons_zero, List.set_cons_succ] at hK
                unfold Reg.Does
                go_simp
                try simp only [IntWalk.i64_left]
                first
                  | exact hK _ (Below.refl _ _)
                  | (go_at_call 24; (with_reducible refine (text_any _ _ _ _ _ _ _ (by assumption)).mono ?_); rintro e w' ⟨rfl, hb⟩; exact hK _ hb)
              simp only [Act.put, List.setIfInBounds_toArray, List.set_cons_zero, List.set_cons_succ, List.nil_append, List.cons_append, Nat.reduceAdd, Nat.zero_add]
            refine Reg.SeqOK.last (by kernel_rfl) (by kernel_rfl) (fun γ W hW _ _ _ => ?_)
            obtain ⟨hc, hf, _⟩ := bcell hW
            have hst := ((own_below HO4.out hW).stored z.sec.toNat (.string (str new))).1
            rw [sv_set] at hst
            have hnow := Lib.hid (own_of (w' := W.setCell ⟨g1, z.sec.toNat, none⟩ (.string (str new))) (own_below HO3b.out hW) (fun k hk => Below.heap_setCell _ _ _ _ (fun e => by
              have := hlt3.out k hk
              simp only at e
              omega)))
            rw [← Hcd.out] at hst
            have hsm := same_rows hnow.out hst hn2 hn2 (by omega)
            have hbb : (conts N d3 == conts N d3) = true := by simp
            rw [hbb] at hsm
            have Hsm := Lib.hid hsm
            have low12 := Lib.hid (show Below w.heap.size w (W.setCell ⟨g1, z.sec.toNat, none⟩ (.string (str new))) from (low11.out.trans (hW.mono low11.out.size)).setCell (Nat.le_trans low10.out.size hg1b) _)
            have HW := Lib.hid hW
            clear hbb hst hnow hsm hW
            unfold Reg.Does
            go_simp
            go_wp2_with fail
            (with_reducible refine Hsm.out.mono ?_); rintro e w12 ⟨rfl, hb12⟩
            have low13 := Lib.hid (low12.out.trans (hb12.mono low12.out.size))
            clear hb12
            go_wp2
            go_ret
            exact ⟨rfl, low13.out⟩

end D
end Go.Proofs.Ytopjekdhecikdaa
