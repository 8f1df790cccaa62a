/- Law 'DiskRaw': the walk. -/
import Derived.Test.YtopjekdhecikdaaLR
set_option linter.unusedSimpArgs false
set_option linter.unusedVariables false
set_option maxRecDepth 100000
namespace Go.Proofs.Ytopjekdhecikdaa
open Go.RowKit
namespace D

set_option maxHeartbeats 40000000 in
set_option maxRecDepth 100000 in
theorem raw_walk (r : Int) (A : Option Addr) (c : Nat) (l : List AV) (x : AV) (w : World) (hr : 0 ≤ r ∧ r ≤ 255) (hl : ActsAt w A l) (hll : l.length ≤ 9223372036854775807) (hb : ∀ a ∈ l, a.aft ≤ 9223372036854775807) :
    Calls Try.prog 10 #[.int .u8 r, .slice A l.length c, .agg #[.int .i64 x.kind, .int .i64 x.sec, .int .i64 x.byt, .string (str x.text), .bool x.odd, .int .i64 x.aft]] w fun e w' =>
      e = .returned (.bool true) ∧ Below w.heap.size w w' := by
  obtain ⟨hr0, hr1⟩ := hr
  have HL := Lib.hid hl
  have HBd := Lib.hid hb
  clear hl hb
  go_enter Try.func10, Try.ntmps10
  go_wp2_with fail
  (with_reducible refine (head_any _).mono ?_); rintro e w1 ⟨rfl, hb1⟩
  have kx := Reg.Blk.new1 hb1
  have hT : Below w.heap.size w w1 := ((Below.refl _ _).alloc (Nat.le_refl _) _).trans (hb1.mono (by simp))
  clear hb1
  have zx : w.heap.size < w1.heap.size := kx.lt
  go_wp2_with fail
  (with_reducible refine (ok_any A c l w1 (HL.out.below hT) hll).mono ?_); rintro e w' ⟨rfl, rfl⟩
  obtain ⟨ckx, fkx, zkx⟩ := kx.facts
  cases hok : okB l
  case false =>
    go_wp2
    go_ret
    exact ⟨rfl, hT⟩
  obtain ⟨ok1, ok2⟩ := okB_true hok
  have OK1 := Lib.hid ok1
  clear ok1
  go_wp2_with fail
  have kb := Reg.Blk.new w1 #[.int .i64 x.kind, .int .i64 x.sec, .int .i64 x.byt, .string (str x.text), .bool x.odd, .int .i64 x.aft] 34
  (with_reducible refine (ok_one kb).mono ?_); rintro e w' ⟨rfl, rfl⟩
  clear kb
  cases hox : okB [x]
  case false =>
    go_wp2
    go_ret
    exact ⟨rfl, hT.alloc hT.size _⟩
  obtain ⟨ox1, _⟩ := okB_true hox
  have hxl : x.text.length ≤ 1000000 := by have := ox1 x (List.mem_singleton.2 rfl); omega
  clear ox1 hox
  have kx2 := kx.alloc (.cells #[.int .i64 x.kind, .int .i64 x.sec, .int .i64 x.byt, .string (str x.text), .bool x.odd, .int .i64 x.aft] 34)
  have hT2 := hT.alloc hT.size (.cells #[.int .i64 x.kind, .int .i64 x.sec, .int .i64 x.byt, .string (str x.text), .bool x.odd, .int .i64 x.aft] 34)
  go_wp2_with fail
  (with_reducible refine (size_any r _ hr0 hr1).mono ?_); rintro e w' ⟨rfl, rfl⟩
  obtain ⟨N, hN⟩ : ∃ N : Nat, 1 + r % 12 = (N : Int) := Int.eq_ofNat_of_zero_le (by omega)
  have hN1 : 1 ≤ N := by omega
  have hN2 : N ≤ 12 := by omega
  rw [hN]
  clear hN hT kx ckx fkx zkx
  go_wp2_with fail
  (with_reducible refine (tm_new (w0 := w) N hN1 (by omega) hT2).mono ?_); rintro e w3 ⟨g, M, rfl, ht, hM, hb3⟩
  have kx : Safe M w.heap.size _ _ w3 := ⟨kx2.keep hb3, fun m => by have := hM _ m; simp at this; omega⟩
  clear kx2 hT2 hM hb3
  go_wp2_with fail
  go_loopw [10] (fun i wr => ∃ k : Nat, k ≤ l.length ∧ i = .int .i64 k ∧ ∃ M, TrM w N k g (runD (newD N) (l.take k)) M wr ∧ Safe M w.heap.size #[.int .i64 x.kind, .int .i64 x.sec, .int .i64 x.byt, .string (str x.text), .bool x.odd, .int .i64 x.aft] 34 wr) (fun i _ => l.length - (intOf i).toNat)
  case atStart => exact ⟨0, Nat.zero_le _, rfl, M, ht, kx⟩
  case round =>
    clear ht kx
    obtain ⟨k, hk, rfl, M, ht, kx⟩ := hrel
    by_cases hlt : k < l.length
    · obtain ⟨b, off, hA, hlt2, c0, c1, c2, c3, c4, c5⟩ := (HL.out.below ht.low) k hlt
      subst hA
      have hkl : (k : Int) < (l.length : Int) := by omega
      have hD := Lib.hid (tm_do l[k] ht (by omega) (by have := OK1.out l[k] (List.getElem_mem hlt); omega) (HBd.out l[k] (List.getElem_mem hlt)))
      have Hkx := Lib.hid kx
      have hrt := Lib.hid (runD_take (d := newD N) hlt)
      clear ht kx
      go_wp2_with fail
      (with_reducible refine hD.out.mono ?_); rintro e w4 ⟨rfl, M4, ht4, hm4⟩
      have HT4 := Lib.hid ht4
      clear ht4
      go_wp2_with fail
      refine ⟨⟨k + 1, by omega, by go_num, M4, by rw [hrt.out]; exact HT4.out, Hkx.out.moved hm4⟩, by simp [intOf]; omega⟩
    · obtain rfl : k = l.length := by omega
      rw [List.take_length] at ht
      have hS := Lib.hid (tm_start ht)
      have Hkx := Lib.hid kx
      clear ht kx
      generalize hd0 : runD (newD N) l = d0 at *
      clear hd0
      go_wp2_with fail
      (with_reducible refine hS.out.mono ?_); rintro e w4 ⟨rfl, M4, ht4, hm4⟩
      have kx4 := Lib.hid (Hkx.out.moved hm4)
      clear hm4 hS Hkx hk hlt
      have hg1 := Lib.hid ht4.good
      have Ho := Lib.hid (show (start d0).off = false from rfl)
      have Ha := Lib.hid (show (start d0).arm = none from rfl)
      generalize start d0 = d1 at *
      have hRw := Lib.hid (tr_raw ht4.tr (by omega))
      have Ht4 := Lib.hid ht4
      have hsz : (str d1.st).size = N * 64 := by rw [str_size]; exact hg1.out.len
      clear ht4
      go_wp2_with fail
      (with_reducible refine hRw.out.mono ?_); rintro e w' ⟨rfl, rfl⟩
      obtain ⟨ckx, fkx, zkx⟩ := kx4.out.blk.facts
      go_wp2_with fail
      refine Reg.wp_region_seq (by kernel_rfl) (by kernel_rfl) ?_
      simp only
      iterate 5
        apply Reg.SeqOK.val
        · intro γ W hW K hK
          obtain ⟨hc, hf, _⟩ := bcell hW
          simp only [Act.put, List.setIfInBounds_toArray, List.set_cons_zero, List.set_cons_succ] at hK
          unfold Reg.Does
          go_simp
          try simp only [IntWalk.i64_left]
          first
            | exact hK _ (Below.refl _ _)
            | (go_at_call 24; (with_reducible refine (text_any _ _ _ _ _ _ _ (by assumption)).mono ?_); rintro e w' ⟨rfl, hb⟩; exact hK _ hb)
        simp only [Act.put, List.setIfInBounds_toArray, List.set_cons_zero, List.set_cons_succ, List.nil_append, List.cons_append, Nat.reduceAdd, Nat.zero_add]
      refine Reg.SeqOK.tail (by kernel_rfl) (by kernel_rfl) (fun γ W hW _ _ _ => ?_)
      have hS := Lib.hid (tm_write x.sec (atext x.text x.odd) (Ht4.out.below hW) (by omega))
      have kx6 := Lib.hid (kx4.out.below hW)
      clear hW ckx fkx zkx kx4 Ht4 hRw
      refine Reg.tail_cons ?_
      unfold Reg.Does
      go_simp
      (with_reducible refine hS.out.mono ?_); rintro e w7 ⟨rfl, M7, ht7, hm7⟩
      have kx7 := Lib.hid (kx6.out.moved hm7)
      have hw2 := write_on Ho.out Ha.out x.sec (atext x.text x.odd)
      generalize write d1 x.sec (atext x.text x.odd) = wr at *
      obtain ⟨cd, d2⟩ := wr
      simp only at ht7 hw2
      obtain ⟨ho2, ha2, hst2⟩ := hw2
      have Ho2 := Lib.hid ho2
      have Ha2 := Lib.hid ha2
      have Hst2 := Lib.hid hst2
      have Ht7 := Lib.hid ht7
      have hRd := Lib.hid (tr_read x.sec ht7.tr (by omega))
      clear hS kx6 hm7 ht7 ho2 ha2 hst2
      refine Reg.tail_nil ?_
      obtain ⟨ckx, fkx, zkx⟩ := kx7.out.blk.facts
      go_wp2_with fail
      (with_reducible refine hRd.out.mono ?_); rintro e w8 ⟨rfl, hb8⟩
      have Ht8 := Lib.hid (Ht7.out.below hb8)
      have kx8 := Lib.hid (kx7.out.below hb8)
      have hRw := tr_raw Ht8.out.tr (by omega)
      rw [Hst2.out] at hRw
      have HRw := Lib.hid hRw
      clear hb8 hRd hRw Ht7 kx7 ckx fkx zkx
      go_wp2_with fail
      (with_reducible refine HRw.out.mono ?_); rintro e w' ⟨rfl, rfl⟩
      obtain ⟨ckx, fkx, zkx⟩ := kx8.out.blk.facts
      have hN0 : 0 ≤ (N : Int) := by omega
      cases hodd : x.odd
      case true =>
        rw [hodd] at ckx
        have hF := Lib.hid (tr_fail 0 0 Ht8.out.tr (by omega))
        have hfz := fail_zero Ho2.out
        go_wp2_with fail
        (with_reducible refine hF.out.mono ?_); rintro e w9 ⟨rfl, ht9⟩
        rw [Hst2.out] at hfz
        generalize fail d2 0 0 = d3 at *
        have Hfz := Lib.hid hfz
        have hRw3 := tr_raw ht9 (by omega)
        rw [hfz] at hRw3
        have HRw3 := Lib.hid hRw3
        have hSt := Lib.hid (tr_start ht9)
        clear hfz hRw3 ht9 hF
        go_wp2_with fail
        (with_reducible refine HRw3.out.mono ?_); rintro e w' ⟨rfl, rfl⟩
        go_wp2_with fail
        (with_reducible refine hSt.out.mono ?_); rintro e w10 ⟨rfl, ht10⟩
        have hRw4 := tr_raw ht10 (by omega)
        rw [show (start d3).st = d1.st from Hfz.out] at hRw4
        have HRw4 := Lib.hid hRw4
        have hlow := Lib.hid ht10.low
        clear hRw4 ht10
        go_wp2_with fail
        (with_reducible refine HRw4.out.mono ?_); rintro e w' ⟨rfl, rfl⟩
        go_wp2
        go_ret
        exact ⟨rfl, hlow.out⟩
      · rw [hodd] at ckx
        have hSy := tr_sync Ht8.out.tr (by omega)
        have hg2 := Ht8.out.good
        rw [sync_clean Ho2.out Ha2.out] at hSy
        have HSy := Lib.hid hSy
        have hfl := Lib.hid (flat_secs N (eff d2) hg2.eff)
        have hlL : Hid ((eff d2).length ≤ 1000000) := by unfold Hid; rw [hg2.eff]; omega
        clear hSy hg2
        go_wp2_with fail
        (with_reducible refine HSy.out.mono ?_); rintro e w9 ⟨rfl, ht9⟩
        have hcc := Lib.hid (show conts N { d2 with st := eff d2, q := [] } = secs N (eff d2) from rfl)
        have Hs3 := Lib.hid (show ({ d2 with st := eff d2, q := [] } : Dk).st = eff d2 from rfl)
        have Ho3 := Lib.hid (show ({ d2 with st := eff d2, q := [] } : Dk).off = false from Ho2.out)
        generalize ({ d2 with st := eff d2, q := [] } : Dk) = d3 at *
        have hC := tr_contents ht9 (by omega) Ho3.out
        rw [hcc.out] at hC
        have HC := Lib.hid hC
        have Ht9 := Lib.hid ht9
        clear hC ht9 HSy
        go_wp2_with fail
        (with_reducible refine HC.out.mono ?_); rintro e w10 ⟨A1, c1, rfl, ho1, hb10⟩
        have Ht10 := Lib.hid (Ht9.out.below hb10)
        have HO1 := Lib.hid (StrsAt.own ho1 (secs_len' N (eff d2)))
        have hll2 := Lib.hid (secs_len' N (eff d2))
        generalize secs N (eff d2) = L at *
        clear ho1 hb10 Ht9 HC hsz
        go_wp2_with fail
        go_loop [15, 16] (fun s i => ∃ k : Nat, k ≤ N ∧ i = .int .i64 k ∧ s = .string (str (L.take k).flatten)) (fun _ i => N - (intOf i).toNat)
        case atStart => exact ⟨0, Nat.zero_le _, rfl, rfl⟩
        case round =>
          obtain ⟨k, hk, rfl, rfl⟩ := hrel
          by_cases hlt : k < N
          · obtain ⟨b, off, hA, hlt2, c0⟩ := HO1.out k (by rw [hll2.out]; exact hlt)
            subst hA
            have hkN : (k : Int) < (N : Int) := by omega
            have hsn := Lib.hid (show (L.take (k + 1)).flatten = (L.take k).flatten ++ L[k]'(by rw [hll2.out]; exact hlt) from by rw [List.take_succ_eq_append_getElem (by rw [hll2.out]; exact hlt), List.flatten_append, List.flatten_cons, List.flatten_nil, List.append_nil])
            have hcat := str_append (L.take k).flatten (L[k]'(by rw [hll2.out]; exact hlt))
            rw [← hsn.out] at hcat
            have hz1 : (str (L.take k).flatten).size ≤ 1000000 := by rw [str_size]; exact Nat.le_trans (flat_take_le L k) (by rw [hfl.out]; exact hlL.out)
            have hz2 : (str (L[k]'(by rw [hll2.out]; exact hlt))).size ≤ 1000000 := by rw [str_size]; exact Nat.le_trans (flat_get_le L k _) (by rw [hfl.out]; exact hlL.out)
            generalize L[k]'(by rw [hll2.out]; exact hlt) = tk at *
            go_wp2
            go_round
            case rel => exact ⟨k + 1, by omega, by go_num, rfl⟩
            case measure => simp [intOf]; omega
          · obtain rfl : N = k := by omega
            have hRw5 := tr_raw Ht10.out (by omega)
            rw [Hs3.out] at hRw5
            have HRw5 := Lib.hid hRw5
            have hlow := Lib.hid Ht10.out.low
            have htk : (L.take N).flatten = eff d2 := by rw [List.take_of_length_le (by rw [hll2.out]; omega)]; exact hfl.out
            rw [htk]
            clear hRw5 htk
            go_wp2_with fail
            (with_reducible refine HRw5.out.mono ?_); rintro e w' ⟨rfl, rfl⟩
            go_wp2
            go_ret
            exact ⟨rfl, hlow.out⟩

end D
end Go.Proofs.Ytopjekdhecikdaa
