/- Law 'DiskAll': the walk. -/
import Derived.Test.YtopjekdhecikdaaDv
import Derived.Test.YtopjekdhecikdaaDl
set_option linter.unusedSimpArgs false
set_option linter.unusedVariables false
set_option maxRecDepth 100000
namespace Go.Proofs.Ytopjekdhecikdaa
open Go.RowKit
namespace D

set_option maxHeartbeats 40000000 in
set_option maxRecDepth 100000 in
theorem all_walk (r : Int) (A : Option Addr) (c : Nat) (l : List AV) (by' more : Int) (w : World) (hr : 0 ≤ r ∧ r ≤ 255) (hl : ActsAt w A l) (hll : l.length ≤ 9223372036854775807) (hb : ∀ a ∈ l, a.aft ≤ 9223372036854775807)
    (_ : -9223372036854775808 ≤ by' ∧ by' ≤ 9223372036854775807) (_ : -9223372036854775808 ≤ more ∧ more ≤ 9223372036854775807) :
    Calls Try.prog 7 #[.int .u8 r, .slice A l.length c, .int .i64 by', .int .i64 more] w fun e w' => e = .returned (.bool true) ∧ Below w.heap.size w w' := by
  obtain ⟨hr0, hr1⟩ := hr
  have HL := Lib.hid hl
  have HBd := Lib.hid hb
  clear hl hb
  go_enter Try.func7, Try.ntmps7
  go_wp2_with fail
  (with_reducible refine (head_any _).mono ?_); rintro e w1 ⟨rfl, hT⟩
  go_wp2_with fail
  (with_reducible refine (ok_any A c l w1 (HL.out.below hT) hll).mono ?_); rintro e w' ⟨rfl, rfl⟩
  cases hok : okB l
  case false =>
    go_wp2
    go_ret
    exact ⟨rfl, hT⟩
  obtain ⟨ok1, ok2⟩ := okB_true hok
  have OK1 := Lib.hid ok1
  clear ok1
  go_wp2_with fail
  (with_reducible refine (size_any r _ hr0 hr1).mono ?_); rintro e w' ⟨rfl, rfl⟩
  obtain ⟨N, hN⟩ : ∃ N : Nat, 1 + r % 12 = (N : Int) := Int.eq_ofNat_of_zero_le (by omega)
  have hN1 : 1 ≤ N := by omega
  have hN2 : N ≤ 12 := by omega
  rw [hN]
  clear hN
  go_wp2_with fail
  (with_reducible refine (tr_new (w0 := w) N hN1 (by omega) hT).mono ?_); rintro e w3 ⟨g, rfl, ht⟩
  clear hT
  have HT := Lib.hid ht
  clear ht
  go_wp2_with fail
  (with_reducible refine (tr2_new hN1 HT.out).mono ?_); rintro e w4 ⟨g', rfl, ht⟩
  clear HT
  have HT := Lib.hid ht
  clear ht
  go_wp2_with fail
  go_loopw [13] (fun i wr => ∃ k : Nat, k ≤ l.length ∧ i = .int .i64 k ∧ Tr2 w N (2 * k) g (runD (newD N) (l.take k)) g' (runD (newD N) (l.take k)) wr) (fun i _ => l.length - (intOf i).toNat)
  case atStart => exact ⟨0, Nat.zero_le _, rfl, HT.out⟩
  case round =>
    clear HT
    obtain ⟨k, hk, rfl, ht⟩ := hrel
    by_cases hlt : k < l.length
    · obtain ⟨b, off, hA, hlt2, c0, c1, c2, c3, c4, c5⟩ := (HL.out.below ht.low) k hlt
      subst hA
      have hkl : (k : Int) < (l.length : Int) := by omega
      have hD := Lib.hid (tr2_do l[k] ht (by omega) (by have := OK1.out l[k] (List.getElem_mem hlt); omega) (HBd.out l[k] (List.getElem_mem hlt)))
      have hrt := Lib.hid (runD_take (d := newD N) hlt)
      clear ht
      go_wp2_with fail
      (with_reducible refine hD.out.mono ?_); rintro e w5 ⟨rfl, ht4⟩
      have Ht4 := Lib.hid ht4.swap
      obtain ⟨b2, off2, hA2, hlt3, c0, c1, c2, c3, c4, c5⟩ := (HL.out.below ht4.low) k hlt
      obtain ⟨rfl, rfl⟩ : b = b2 ∧ off = off2 := by injection hA2 with e; injection e with e1 e2; exact ⟨e1, e2⟩
      have hD2 := Lib.hid (tr2_do l[k] Ht4.out (by omega) (by have := OK1.out l[k] (List.getElem_mem hlt); omega) (HBd.out l[k] (List.getElem_mem hlt)))
      clear ht4 hD hA2
      go_wp2_with fail
      (with_reducible refine hD2.out.mono ?_); rintro e w6 ⟨rfl, ht5⟩
      have Ht5 := Lib.hid ht5.swap
      clear ht5
      go_wp2_with fail
      refine ⟨⟨k + 1, by omega, by go_num, by rw [hrt.out]; exact Ht5.out⟩, by simp [intOf]; omega⟩
    · obtain rfl : k = l.length := by omega
      rw [List.take_length] at ht
      have hS := Lib.hid (tr2_start ht)
      have hq := (few_run (few_new N) l HBd.out).ql
      clear ht
      generalize hd0 : runD (newD N) l = d0 at *
      clear hd0
      go_wp2_with fail
      (with_reducible refine hS.out.mono ?_); rintro e w5 ⟨rfl, ht5⟩
      have hS2 := Lib.hid (tr2_start ht5.swap)
      clear ht5
      go_wp2_with fail
      (with_reducible refine hS2.out.mono ?_); rintro e w6 ⟨rfl, ht6⟩
      have Ho := Lib.hid (show (start d0).off = false from rfl)
      have Ha := Lib.hid (show (start d0).arm = none from rfl)
      have hq1 : (start d0).q.length ≤ 60 := by show d0.q.length ≤ 60; omega
      generalize start d0 = d1 at *
      have f1 := tr2_fail 60 by' ht6.swap (by omega)
      rw [fail_all Ho.out (by omega)] at f1
      have F1 := Lib.hid f1
      clear f1 ht6 hS hS2
      go_wp2_with fail
      (with_reducible refine F1.out.mono ?_); rintro e w7 ⟨rfl, ht7⟩
      have f2 := tr2_fail more by' ht7 (by omega)
      rw [fail_still rfl] at f2
      have F2 := Lib.hid f2
      clear f2 ht7 F1
      go_wp2_with fail
      (with_reducible refine F2.out.mono ?_); rintro e w8 ⟨rfl, ht8⟩
      have f3 := tr2_sync ht8.swap (by omega)
      rw [sync_clean Ho.out Ha.out] at f3
      have F3 := Lib.hid f3
      clear f3 ht8 F2
      go_wp2_with fail
      (with_reducible refine F3.out.mono ?_); rintro e w9 ⟨rfl, ht9⟩
      have f4 := tr2_fail 0 by' ht9 (by omega)
      rw [fail_none (show ({ d1 with st := eff d1, q := [] } : Dk).off = false from Ho.out) rfl] at f4
      have F4 := Lib.hid f4
      clear f4 ht9 F3
      go_wp2_with fail
      (with_reducible refine F4.out.mono ?_); rintro e w10 ⟨rfl, ht10⟩
      have f5 := Lib.hid (tr2_start ht10.swap)
      clear ht10 F4
      go_wp2_with fail
      (with_reducible refine f5.out.mono ?_); rintro e w11 ⟨rfl, ht11⟩
      have f6 := Lib.hid (tr2_start ht11.swap)
      clear ht11 f5
      go_wp2_with fail
      (with_reducible refine f6.out.mono ?_); rintro e w12 ⟨rfl, ht12⟩
      have f7 := Lib.hid (tr2_start ht12.swap)
      clear ht12 f6
      go_wp2_with fail
      (with_reducible refine f7.out.mono ?_); rintro e w13 ⟨rfl, ht13⟩
      have e1 : start (start ⟨eff d1, [], true, none⟩) = start ⟨eff d1, [], true, none⟩ := rfl
      rw [e1] at ht13
      have H13 := Lib.hid ht13
      have Hof := Lib.hid (show (start ⟨eff d1, [], true, none⟩).off = false from rfl)
      have f8 := Lib.hid (tr_contents ht13.one (by omega) rfl)
      clear ht13 f7 e1
      generalize start ⟨eff d1, [], true, none⟩ = d2 at *
      go_wp2_with fail
      (with_reducible refine f8.out.mono ?_); rintro e w14 ⟨A1, c1, rfl, ho1, hb14⟩
      have HO1 := Lib.hid ho1
      have H14 := Lib.hid (H13.out.below hb14)
      have f9 := Lib.hid (tr_contents H14.out.swap.one (by omega) Hof.out)
      clear ho1 hb14 H13 f8
      go_wp2_with fail
      (with_reducible refine f9.out.mono ?_); rintro e w15 ⟨A2, c2, rfl, ho2, hb15⟩
      have H15 := Lib.hid (H14.out.below hb15)
      have hn2 := conts_len N d2
      have hsm := same_rows (own_below HO1.out hb15) ho2 hn2 hn2 (by omega)
      have hbb : (conts N d2 == conts N d2) = true := by simp
      rw [hbb] at hsm
      have Hsm := Lib.hid hsm
      clear hsm hbb hn2 ho2 hb15 HO1 H14 f9
      go_wp2_with fail
      (with_reducible refine Hsm.out.mono ?_); rintro e w16 ⟨rfl, hb16⟩
      have hlow := Lib.hid (H15.out.below hb16).low
      clear hb16
      go_wp2
      go_ret
      exact ⟨rfl, hlow.out⟩

end D
end Go.Proofs.Ytopjekdhecikdaa
