/- Law 'DiskMatchesReference': the walk. -/
import Derived.Test.YtopjekdhecikdaaDv
import Derived.Test.YtopjekdhecikdaaMl
set_option linter.unusedSimpArgs false
set_option linter.unusedVariables false
set_option maxRecDepth 100000
namespace Go.Proofs.Ytopjekdhecikdaa
open Go.RowKit
namespace D

set_option maxHeartbeats 40000000 in
set_option maxRecDepth 100000 in
theorem matches_walk (r s : Int) (A : Option Addr) (c : Nat) (l : List AV) (w : World) (hr : 0 ≤ r ∧ r ≤ 255) (bs : -9223372036854775808 ≤ s ∧ s ≤ 9223372036854775807) (hl : ActsAt w A l) (hll : l.length ≤ 9223372036854775807) (hb : ∀ a ∈ l, a.aft ≤ 9223372036854775807) :
    Calls Try.prog 3 #[.int .u8 r, .int .i64 s, .slice A l.length c] w fun e w' => e = .returned (.bool true) ∧ Below w.heap.size w w' := by
  obtain ⟨hr0, hr1⟩ := hr
  have HLl := Lib.hid hl
  have HBdl := Lib.hid hb
  clear hl hb
  go_enter Try.func3, Try.ntmps3
  go_wp2_with fail
  (with_reducible refine (head_any _).mono ?_); rintro e w1 ⟨rfl, hT⟩
  go_wp2_with fail
  (with_reducible refine (ok_any A c l w1 (HLl.out.below hT) hll).mono ?_); rintro e w' ⟨rfl, rfl⟩
  cases hokl : okB l
  case false =>
    go_wp2
    go_ret
    exact ⟨rfl, hT⟩
  obtain ⟨ok1, ok2l⟩ := okB_true hokl
  have OKl := Lib.hid ok1
  clear ok1
  by_cases hs : s < 1 ∨ 4000 < s
  · have hT2 := Lib.hid hT
    clear hT
    by_cases hs1 : s < 1
    · go_wp2_with fail
      (with_reducible refine (new_no s hs _).mono ?_); rintro e w' ⟨rfl, rfl⟩
      go_wp2_with fail
      (with_reducible refine (size_any r _ hr0 hr1).mono ?_); rintro e w' ⟨rfl, rfl⟩
      obtain ⟨N, hN⟩ : ∃ N : Nat, 1 + r % 12 = (N : Int) := Int.eq_ofNat_of_zero_le (by omega)
      have hN1 : 1 ≤ N := by omega
      have hN2 : N ≤ 12 := by omega
      have HN := Lib.hid hN
      rw [hN]
      clear hN
      go_wp2_with fail
      (with_reducible refine (new_any N hN1 (by omega) _ hT2.out.size).mono ?_); rintro e w3 ⟨g, M, rfl, hd, hM, hb3⟩
      have hT3 := Lib.hid (hT2.out.trans (hb3.mono hT2.out.size))
      have hbb : Hid (∀ k, M k → w.heap.size ≤ k ∧ k < w3.heap.size) := by obtain ⟨gs, qv, av, hi⟩ := hd; exact hi.bb
      have Hd := Lib.hid hd
      clear hd hM hb3
      go_wp2_with fail
      (with_reducible refine (size_any r _ hr0 hr1).mono ?_); rintro e w' ⟨rfl, rfl⟩
      rw [HN.out]
      go_wp2_with fail
      (with_reducible refine (rnew_any N hN1 (by omega) _ hT3.out.size).mono ?_); rintro e w4 ⟨g', M', rfl, hd', hM', hb4⟩
      have ht : TrR w N 0 g (newD N) g' w4 := by
        obtain ⟨gs, qv, av, hi⟩ := Hd.out
        exact ⟨by omega, hN1, good_new N, few_new N, ⟨M, M', ⟨gs, qv, av, hi.below hb4⟩, hd', fun k k1 k2 => by have := (hbb.out k k1).2; have := hM' k k2; omega⟩, hT3.out.trans (hb4.mono hT3.out.size)⟩
      have HT := Lib.hid ht
      clear ht hd' hM' hb4 Hd hbb hT2 hT3
      go_wp2_with fail
      go_loopw [10] (fun i wr => ∃ k : Nat, k ≤ l.length ∧ i = .int .i64 k ∧ TrR w N k g (runD (newD N) (l.take k)) g' wr) (fun i _ => l.length - (intOf i).toNat)
      case atStart => exact ⟨0, Nat.zero_le _, rfl, HT.out⟩
      case round =>
        clear HT
        obtain ⟨k, hk, rfl, ht⟩ := hrel
        by_cases hlt : k < l.length
        · obtain ⟨b, off, hA, hlt2, c0, c1, c2, c3, c4, c5⟩ := (HLl.out.below ht.low) k hlt
          subst hA
          have hkl : (k : Int) < (l.length : Int) := by omega
          have hxl : l[k].text.length ≤ 1000000 := by have := OKl.out l[k] (List.getElem_mem hlt); omega
          have hD := Lib.hid (trr_do l[k] ht (by omega) hxl (HBdl.out l[k] (List.getElem_mem hlt)))
          have hrt := Lib.hid (runD_take (d := newD N) hlt)
          clear ht
          go_wp2_with fail
          (with_reducible refine hD.out.mono ?_); rintro e w5 ⟨rfl, ht4⟩
          obtain ⟨b2, off2, hA2, hlt3, c0, c1, c2, c3, c4, c5⟩ := (HLl.out.below ht4.low) k hlt
          obtain ⟨rfl, rfl⟩ : b = b2 ∧ off = off2 := by injection hA2 with e; injection e with e1 e2; exact ⟨e1, e2⟩
          have hD2 := Lib.hid (trr_want l[k] ht4 rfl (by omega) hxl)
          clear ht4 hD hA2
          go_wp2_with fail
          (with_reducible refine hD2.out.mono ?_); rintro e w6 ⟨rfl, ht5⟩
          have Ht5 := Lib.hid ht5
          clear ht5 hD2
          generalize (doA (runD (newD N) (List.take k l)) l[k]).fst.fst = x1 at *
          generalize (doA (runD (newD N) (List.take k l)) l[k]).fst.snd = x2 at *
          go_wp2_with fail
          refine ⟨⟨k + 1, by omega, by go_num, by rw [hrt.out]; exact Ht5.out⟩, by simp [intOf]; omega⟩
        · obtain rfl : k = l.length := by omega
          rw [List.take_length] at ht
          have HT := Lib.hid ht
          clear ht hlt
          generalize runD (newD N) l = d0 at *
          go_wp2_with fail
          go_loopw [15] (fun i wr => ∃ k : Nat, k ≤ N ∧ i = .int .i64 k ∧ TrR w N l.length g d0 g' wr) (fun i _ => N - (intOf i).toNat)
          case atStart => exact ⟨0, Nat.zero_le _, rfl, HT.out⟩
          case round =>
            clear HT
            obtain ⟨k, hk2, rfl, ht⟩ := hrel
            have HT := Lib.hid ht
            clear ht
            go_wp2_with fail
            (with_reducible refine (size_any r _ hr0 hr1).mono ?_); rintro e w' ⟨rfl, rfl⟩
            rw [HN.out]
            by_cases hlt : k < N
            · have hkn : (k : Int) < (N : Int) := by omega
              obtain ⟨M, M', h1, h2, h3⟩ := HT.out.at_
              have f1 := Lib.hid (read_any k _ h1 (Fit.few HT.out.good HT.out.le HT.out.few (by omega)))
              clear h1 h2 h3
              go_wp2_with fail
              (with_reducible refine f1.out.mono ?_); rintro e w5 ⟨rfl, hb5⟩
              have HT5 := Lib.hid (HT.out.below hb5)
              obtain ⟨M2, M2', h1, h2, h3⟩ := HT5.out.at_
              have f2 := Lib.hid (rread_any k _ h2 (Fit.few HT5.out.good HT5.out.le HT5.out.few (by omega)) hN1)
              clear h1 h2 h3 hb5 f1
              go_wp2_with fail
              (with_reducible refine f2.out.mono ?_); rintro e w6 ⟨rfl, hb6⟩
              have HT6 := Lib.hid (HT5.out.below hb6)
              clear hb6 f2
              generalize read d0 k = rd at *
              obtain ⟨x1, x2⟩ := rd
              go_wp2_with fail
              exact ⟨⟨k + 1, by omega, by go_num, HT6.out⟩, by simp [intOf]; omega⟩
            · have hkn : ¬ (k : Int) < (N : Int) := by omega
              go_wp2
              go_ret
              exact ⟨rfl, HT.out.low⟩
    · have hs2 : 4000 < s := by omega
      go_wp2_with fail
      (with_reducible refine (new_no s hs _).mono ?_); rintro e w' ⟨rfl, rfl⟩
      go_wp2_with fail
      (with_reducible refine (size_any r _ hr0 hr1).mono ?_); rintro e w' ⟨rfl, rfl⟩
      obtain ⟨N, hN⟩ : ∃ N : Nat, 1 + r % 12 = (N : Int) := Int.eq_ofNat_of_zero_le (by omega)
      have hN1 : 1 ≤ N := by omega
      have hN2 : N ≤ 12 := by omega
      have HN := Lib.hid hN
      rw [hN]
      clear hN
      go_wp2_with fail
      (with_reducible refine (new_any N hN1 (by omega) _ hT2.out.size).mono ?_); rintro e w3 ⟨g, M, rfl, hd, hM, hb3⟩
      have hT3 := Lib.hid (hT2.out.trans (hb3.mono hT2.out.size))
      have hbb : Hid (∀ k, M k → w.heap.size ≤ k ∧ k < w3.heap.size) := by obtain ⟨gs, qv, av, hi⟩ := hd; exact hi.bb
      have Hd := Lib.hid hd
      clear hd hM hb3
      go_wp2_with fail
      (with_reducible refine (size_any r _ hr0 hr1).mono ?_); rintro e w' ⟨rfl, rfl⟩
      rw [HN.out]
      go_wp2_with fail
      (with_reducible refine (rnew_any N hN1 (by omega) _ hT3.out.size).mono ?_); rintro e w4 ⟨g', M', rfl, hd', hM', hb4⟩
      have ht : TrR w N 0 g (newD N) g' w4 := by
        obtain ⟨gs, qv, av, hi⟩ := Hd.out
        exact ⟨by omega, hN1, good_new N, few_new N, ⟨M, M', ⟨gs, qv, av, hi.below hb4⟩, hd', fun k k1 k2 => by have := (hbb.out k k1).2; have := hM' k k2; omega⟩, hT3.out.trans (hb4.mono hT3.out.size)⟩
      have HT := Lib.hid ht
      clear ht hd' hM' hb4 Hd hbb hT2 hT3
      go_wp2_with fail
      go_loopw [10] (fun i wr => ∃ k : Nat, k ≤ l.length ∧ i = .int .i64 k ∧ TrR w N k g (runD (newD N) (l.take k)) g' wr) (fun i _ => l.length - (intOf i).toNat)
      case atStart => exact ⟨0, Nat.zero_le _, rfl, HT.out⟩
      case round =>
        clear HT
        obtain ⟨k, hk, rfl, ht⟩ := hrel
        by_cases hlt : k < l.length
        · obtain ⟨b, off, hA, hlt2, c0, c1, c2, c3, c4, c5⟩ := (HLl.out.below ht.low) k hlt
          subst hA
          have hkl : (k : Int) < (l.length : Int) := by omega
          have hxl : l[k].text.length ≤ 1000000 := by have := OKl.out l[k] (List.getElem_mem hlt); omega
          have hD := Lib.hid (trr_do l[k] ht (by omega) hxl (HBdl.out l[k] (List.getElem_mem hlt)))
          have hrt := Lib.hid (runD_take (d := newD N) hlt)
          clear ht
          go_wp2_with fail
          (with_reducible refine hD.out.mono ?_); rintro e w5 ⟨rfl, ht4⟩
          obtain ⟨b2, off2, hA2, hlt3, c0, c1, c2, c3, c4, c5⟩ := (HLl.out.below ht4.low) k hlt
          obtain ⟨rfl, rfl⟩ : b = b2 ∧ off = off2 := by injection hA2 with e; injection e with e1 e2; exact ⟨e1, e2⟩
          have hD2 := Lib.hid (trr_want l[k] ht4 rfl (by omega) hxl)
          clear ht4 hD hA2
          go_wp2_with fail
          (with_reducible refine hD2.out.mono ?_); rintro e w6 ⟨rfl, ht5⟩
          have Ht5 := Lib.hid ht5
          clear ht5 hD2
          generalize (doA (runD (newD N) (List.take k l)) l[k]).fst.fst = x1 at *
          generalize (doA (runD (newD N) (List.take k l)) l[k]).fst.snd = x2 at *
          go_wp2_with fail
          refine ⟨⟨k + 1, by omega, by go_num, by rw [hrt.out]; exact Ht5.out⟩, by simp [intOf]; omega⟩
        · obtain rfl : k = l.length := by omega
          rw [List.take_length] at ht
          have HT := Lib.hid ht
          clear ht hlt
          generalize runD (newD N) l = d0 at *
          go_wp2_with fail
          go_loopw [15] (fun i wr => ∃ k : Nat, k ≤ N ∧ i = .int .i64 k ∧ TrR w N l.length g d0 g' wr) (fun i _ => N - (intOf i).toNat)
          case atStart => exact ⟨0, Nat.zero_le _, rfl, HT.out⟩
          case round =>
            clear HT
            obtain ⟨k, hk2, rfl, ht⟩ := hrel
            have HT := Lib.hid ht
            clear ht
            go_wp2_with fail
            (with_reducible refine (size_any r _ hr0 hr1).mono ?_); rintro e w' ⟨rfl, rfl⟩
            rw [HN.out]
            by_cases hlt : k < N
            · have hkn : (k : Int) < (N : Int) := by omega
              obtain ⟨M, M', h1, h2, h3⟩ := HT.out.at_
              have f1 := Lib.hid (read_any k _ h1 (Fit.few HT.out.good HT.out.le HT.out.few (by omega)))
              clear h1 h2 h3
              go_wp2_with fail
              (with_reducible refine f1.out.mono ?_); rintro e w5 ⟨rfl, hb5⟩
              have HT5 := Lib.hid (HT.out.below hb5)
              obtain ⟨M2, M2', h1, h2, h3⟩ := HT5.out.at_
              have f2 := Lib.hid (rread_any k _ h2 (Fit.few HT5.out.good HT5.out.le HT5.out.few (by omega)) hN1)
              clear h1 h2 h3 hb5 f1
              go_wp2_with fail
              (with_reducible refine f2.out.mono ?_); rintro e w6 ⟨rfl, hb6⟩
              have HT6 := Lib.hid (HT5.out.below hb6)
              clear hb6 f2
              generalize read d0 k = rd at *
              obtain ⟨x1, x2⟩ := rd
              go_wp2_with fail
              exact ⟨⟨k + 1, by omega, by go_num, HT6.out⟩, by simp [intOf]; omega⟩
            · have hkn : ¬ (k : Int) < (N : Int) := by omega
              go_wp2
              go_ret
              exact ⟨rfl, HT.out.low⟩
  · obtain ⟨S, rfl⟩ := Int.eq_ofNat_of_zero_le (show 0 ≤ s by omega)
    have hs1 : ¬ (S : Int) < 1 := by omega
    have hs2 : ¬ 4000 < (S : Int) := by omega
    go_wp2_with fail
    (with_reducible refine (new_any S (by omega) (by omega) _ hT.size).mono ?_); rintro e w2 ⟨g0, M0, rfl, _, _, hb2⟩
    have hT2 := Lib.hid (hT.trans (hb2.mono hT.size))
    clear hT hb2
    go_wp2_with fail
    (with_reducible refine (size_any r _ hr0 hr1).mono ?_); rintro e w' ⟨rfl, rfl⟩
    obtain ⟨N, hN⟩ : ∃ N : Nat, 1 + r % 12 = (N : Int) := Int.eq_ofNat_of_zero_le (by omega)
    have hN1 : 1 ≤ N := by omega
    have hN2 : N ≤ 12 := by omega
    have HN := Lib.hid hN
    rw [hN]
    clear hN
    go_wp2_with fail
    (with_reducible refine (new_any N hN1 (by omega) _ hT2.out.size).mono ?_); rintro e w3 ⟨g, M, rfl, hd, hM, hb3⟩
    have hT3 := Lib.hid (hT2.out.trans (hb3.mono hT2.out.size))
    have hbb : Hid (∀ k, M k → w.heap.size ≤ k ∧ k < w3.heap.size) := by obtain ⟨gs, qv, av, hi⟩ := hd; exact hi.bb
    have Hd := Lib.hid hd
    clear hd hM hb3
    go_wp2_with fail
    (with_reducible refine (size_any r _ hr0 hr1).mono ?_); rintro e w' ⟨rfl, rfl⟩
    rw [HN.out]
    go_wp2_with fail
    (with_reducible refine (rnew_any N hN1 (by omega) _ hT3.out.size).mono ?_); rintro e w4 ⟨g', M', rfl, hd', hM', hb4⟩
    have ht : TrR w N 0 g (newD N) g' w4 := by
      obtain ⟨gs, qv, av, hi⟩ := Hd.out
      exact ⟨by omega, hN1, good_new N, few_new N, ⟨M, M', ⟨gs, qv, av, hi.below hb4⟩, hd', fun k k1 k2 => by have := (hbb.out k k1).2; have := hM' k k2; omega⟩, hT3.out.trans (hb4.mono hT3.out.size)⟩
    have HT := Lib.hid ht
    clear ht hd' hM' hb4 Hd hbb hT2 hT3
    go_wp2_with fail
    go_loopw [10] (fun i wr => ∃ k : Nat, k ≤ l.length ∧ i = .int .i64 k ∧ TrR w N k g (runD (newD N) (l.take k)) g' wr) (fun i _ => l.length - (intOf i).toNat)
    case atStart => exact ⟨0, Nat.zero_le _, rfl, HT.out⟩
    case round =>
      clear HT
      obtain ⟨k, hk, rfl, ht⟩ := hrel
      by_cases hlt : k < l.length
      · obtain ⟨b, off, hA, hlt2, c0, c1, c2, c3, c4, c5⟩ := (HLl.out.below ht.low) k hlt
        subst hA
        have hkl : (k : Int) < (l.length : Int) := by omega
        have hxl : l[k].text.length ≤ 1000000 := by have := OKl.out l[k] (List.getElem_mem hlt); omega
        have hD := Lib.hid (trr_do l[k] ht (by omega) hxl (HBdl.out l[k] (List.getElem_mem hlt)))
        have hrt := Lib.hid (runD_take (d := newD N) hlt)
        clear ht
        go_wp2_with fail
        (with_reducible refine hD.out.mono ?_); rintro e w5 ⟨rfl, ht4⟩
        obtain ⟨b2, off2, hA2, hlt3, c0, c1, c2, c3, c4, c5⟩ := (HLl.out.below ht4.low) k hlt
        obtain ⟨rfl, rfl⟩ : b = b2 ∧ off = off2 := by injection hA2 with e; injection e with e1 e2; exact ⟨e1, e2⟩
        have hD2 := Lib.hid (trr_want l[k] ht4 rfl (by omega) hxl)
        clear ht4 hD hA2
        go_wp2_with fail
        (with_reducible refine hD2.out.mono ?_); rintro e w6 ⟨rfl, ht5⟩
        have Ht5 := Lib.hid ht5
        clear ht5 hD2
        generalize (doA (runD (newD N) (List.take k l)) l[k]).fst.fst = x1 at *
        generalize (doA (runD (newD N) (List.take k l)) l[k]).fst.snd = x2 at *
        go_wp2_with fail
        refine ⟨⟨k + 1, by omega, by go_num, by rw [hrt.out]; exact Ht5.out⟩, by simp [intOf]; omega⟩
      · obtain rfl : k = l.length := by omega
        rw [List.take_length] at ht
        have HT := Lib.hid ht
        clear ht hlt
        generalize runD (newD N) l = d0 at *
        go_wp2_with fail
        go_loopw [15] (fun i wr => ∃ k : Nat, k ≤ N ∧ i = .int .i64 k ∧ TrR w N l.length g d0 g' wr) (fun i _ => N - (intOf i).toNat)
        case atStart => exact ⟨0, Nat.zero_le _, rfl, HT.out⟩
        case round =>
          clear HT
          obtain ⟨k, hk2, rfl, ht⟩ := hrel
          have HT := Lib.hid ht
          clear ht
          go_wp2_with fail
          (with_reducible refine (size_any r _ hr0 hr1).mono ?_); rintro e w' ⟨rfl, rfl⟩
          rw [HN.out]
          by_cases hlt : k < N
          · have hkn : (k : Int) < (N : Int) := by omega
            obtain ⟨M, M', h1, h2, h3⟩ := HT.out.at_
            have f1 := Lib.hid (read_any k _ h1 (Fit.few HT.out.good HT.out.le HT.out.few (by omega)))
            clear h1 h2 h3
            go_wp2_with fail
            (with_reducible refine f1.out.mono ?_); rintro e w5 ⟨rfl, hb5⟩
            have HT5 := Lib.hid (HT.out.below hb5)
            obtain ⟨M2, M2', h1, h2, h3⟩ := HT5.out.at_
            have f2 := Lib.hid (rread_any k _ h2 (Fit.few HT5.out.good HT5.out.le HT5.out.few (by omega)) hN1)
            clear h1 h2 h3 hb5 f1
            go_wp2_with fail
            (with_reducible refine f2.out.mono ?_); rintro e w6 ⟨rfl, hb6⟩
            have HT6 := Lib.hid (HT5.out.below hb6)
            clear hb6 f2
            generalize read d0 k = rd at *
            obtain ⟨x1, x2⟩ := rd
            go_wp2_with fail
            exact ⟨⟨k + 1, by omega, by go_num, HT6.out⟩, by simp [intOf]; omega⟩
          · have hkn : ¬ (k : Int) < (N : Int) := by omega
            go_wp2
            go_ret
            exact ⟨rfl, HT.out.low⟩

end D
end Go.Proofs.Ytopjekdhecikdaa
