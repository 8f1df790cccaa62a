/- Digests: the walk of 'DigestLists'. -/
import Derived.Test.YtdoakahedgeejaaDoorSu
import Derived.Test.YtdoakahedgeejaaDoorSw
import Derived.Test.YtdoakahedgeejaaDoorSn
set_option linter.unusedSimpArgs false
set_option linter.unusedVariables false
set_option maxRecDepth 100000
namespace Go.Proofs.YtdoakahedgeejaaDoor
open Go.RowKit
namespace S

theorem list1 (t : Tx) (w : World) (ht : Tabs w) (h1 : t.length ≤ 1000000) : Calls Tryd.prog 14 #[.slice (some ⟨w.heap.size, 0, none⟩) 1 1] (w.alloc (.cells #[.string (str t)] 9)) fun e w' => e = .returned (.string (str (listL [t]))) ∧ Below w.heap.size w w' := by
  have hb : Below w.heap.size w (w.alloc (.cells #[.string (str t)] 9)) := (Below.refl _ _).alloc (Nat.le_refl _) _
  have h := list_any (some ⟨w.heap.size, 0, none⟩) 1 [t] (w.alloc (.cells #[.string (str t)] 9)) (fun i hi => by
    obtain ⟨c, _⟩ := Reg.cells_at (Reg.heap_new w (.cells #[.string (str t)] 9))
    refine ⟨_, 0, rfl, by simp, ?_⟩
    rw [c]
    match i, hi with
    | 0, _ => rfl) (by simp) (by simpa using h1) (by have := dec_le t.length; simp [joinT]; omega) (ht.below hb)
  refine h.mono ?_
  rintro e w' ⟨rfl, hb2⟩
  exact ⟨rfl, hb.trans (hb2.mono hb.size)⟩

theorem run_min2 (x y m : Int) (h : min x y = m) (ts : Array TypeId) (t : TypeId) (w : World) : (Builtin.min_ ts t #[.int .i64 x, .int .i64 y]).run Tryd.prog w = .ok (.int .i64 m) w := by
  rw [run_min_int2]
  have : (if y < x then y else x) = m := by split <;> omega
  rw [this]

set_option maxHeartbeats 4000000 in
theorem lists_walk (A : Option Addr) (c : Nat) (l : List Tx) (B : Option Addr) (d : Nat) (m : List Tx) (x y : ByteArray) (w : World)
    (hl : StrsAt w A l) (hn : (l.length ≤ c ∧ c ≤ maxLen) ∧ (A = none → c = 0)) (hb : ∀ t ∈ l, t.length ≤ maxLen)
    (hl2 : StrsAt w B m) (hn2 : (m.length ≤ d ∧ d ≤ maxLen) ∧ (B = none → d = 0)) (hb2 : ∀ t ∈ m, t.length ≤ maxLen)
    (hx : x.size ≤ maxLen) (hy : y.size ≤ maxLen) (hta : Tabs w) :
    Calls Tryd.prog 9 #[.slice A l.length c, .slice B m.length d, .string x, .string y] w fun e w' => e = .returned (.bool true) ∧ Below w.heap.size w w' := by
  unfold maxLen at hn hn2 hx hy
  have HT := Lib.hid hta
  have HL1 := Lib.hid hl
  have HL2 := Lib.hid hl2
  have HH := Lib.hid (head_any w hta)
  have hlen : l.length ≤ 9223372036854775807 := by omega
  have hlen2 : m.length ≤ 9223372036854775807 := by omega
  have hstl := str_toList
  obtain ⟨n, hm⟩ : ∃ n : Nat, min (min (x.size : Int) (y.size : Int)) 9 = (n : Int) := Int.eq_ofNat_of_zero_le (by omega)
  have hm1 : (n : Int) ≤ (x.size : Int) := by omega
  have hm2 : (n : Int) ≤ (y.size : Int) := by omega
  have hm0 : (0 : Int) ≤ (n : Int) := by omega
  have hmin := run_min3 _ _ _ _ hm
  obtain ⟨k, hk⟩ : ∃ k : Nat, min (n : Int) 6 = (k : Int) := Int.eq_ofNat_of_zero_le (by omega)
  have hk1 : (k : Int) ≤ (n : Int) := by omega
  have hk0 : (0 : Int) ≤ (k : Int) := by omega
  have hmin2 := run_min2 _ _ _ hk
  have HM : Hid (n ≤ 9 ∧ n ≤ x.size ∧ n ≤ y.size ∧ k ≤ n ∧ k = min n 6) := by unfold Hid; omega
  clear hm hk
  clear hta hl hn hb hl2 hn2 hb2
  go_enter Tryd.func9, Tryd.ntmps9
  go_wp2_with fail
  (with_reducible refine HH.out.mono ?_); rintro e w1 ⟨rfl, hb1⟩
  have HB := Lib.hid hb1
  have HF := Lib.hid (few_any A c l 200 w1 (HL1.out.below hb1) hlen)
  have HF2 := Lib.hid (few_any B d m 200 w1 (HL2.out.below hb1) hlen2)
  clear hb1 HH
  go_wp2_with fail
  (with_reducible refine HF.out.mono ?_); rintro e w1 ⟨rfl, rfl⟩
  clear HF
  by_cases hf : fewB l 200 = true
  rotate_left
  · rw [Bool.not_eq_true] at hf
    rw [hf]
    clear hf
    go_wp2_with fail
    go_ret
    exact ⟨rfl, HB.out⟩
  have HFB := Lib.hid hf
  rw [hf]
  clear hf
  go_wp2_with fail
  (with_reducible refine HF2.out.mono ?_); rintro e w1 ⟨rfl, rfl⟩
  clear HF2
  by_cases hf : fewB m 200 = true
  rotate_left
  · rw [Bool.not_eq_true] at hf
    rw [hf]
    clear hf
    go_wp2_with fail
    go_ret
    exact ⟨rfl, HB.out⟩
  have HFB2 := Lib.hid hf
  rw [hf]
  clear hf
  have HQ := Lib.hid (joined_any A c l w1 (HL1.out.below HB.out) HFB.out)
  go_wp2_with fail
  (with_reducible refine HQ.out.mono ?_); rintro e w2 ⟨rfl, hb2⟩
  replace HB := Lib.hid (HB.out.trans (hb2.mono HB.out.size))
  have HQ2 := Lib.hid (joined_any B d m w2 (HL2.out.below HB.out) HFB2.out)
  clear hb2 HQ
  go_wp2_with fail
  (with_reducible refine HQ2.out.mono ?_); rintro e w3 ⟨rfl, hb2⟩
  replace HB := Lib.hid (HB.out.trans (hb2.mono HB.out.size))
  have HQ3 := Lib.hid (list_few (c := c) (HL1.out.below HB.out) HFB.out (HT.out.below HB.out))
  have hfj := few_join HFB.out
  have hfj2 := few_join HFB2.out
  have HQ4 := Lib.hid (fun W (hW : Tabs W) => sumT (joinT l) W hfj hW)
  have hjl := joinT_law (a := l) (b := m) (fun t ht => by have := few_small HFB.out t ht; omega) (fun t ht => by have := few_small HFB2.out t ht; omega)
  have HSH := Lib.hid (fun h1 h2 => short_law (joinT l) (joinT m) h1 h2)
  have HL3 := Lib.hid (fun W (h1 : StrsAt W A l) (h : Tabs W) => list_few (c := c) h1 HFB.out h)
  have HL4 := Lib.hid (fun W (h1 : StrsAt W B m) (h : Tabs W) => list_few (c := d) h1 HFB2.out h)
  have HSM := Lib.hid (fun W (h1 : StrsAt W A l) (h2 : StrsAt W B m) => same_any A c l B d m W h1 h2 hlen hlen2)
  unfold listL at HQ3 HL3 HL4
  rw [hjl] at HSH
  have hz1 := str_size (joinT l)
  have hz2 := str_size (joinT m)
  have hZ1 := Lib.hid hz1
  have hZ2 := Lib.hid hz2
  generalize sumL (joinT l) = L1 at *
  generalize sumL (joinT m) = L2 at *
  generalize joinT l = j1 at *
  generalize joinT m = j2 at *
  generalize decide (l = m) = q at *
  clear hb2 HQ2 hz1 hz2 hfj hfj2
  go_wp2_with fail
  (with_reducible refine HQ3.out.mono ?_); rintro e w4 ⟨rfl, hb2⟩
  replace HB := Lib.hid (HB.out.trans (hb2.mono HB.out.size))
  clear hb2 HQ3
  go_wp2_with fail
  (with_reducible refine (HQ4.out _ (HT.out.below HB.out)).mono ?_); rintro e w5 ⟨rfl, hb2⟩
  replace HB := Lib.hid (HB.out.trans (hb2.mono HB.out.size))
  clear hb2 HQ4
  go_wp2_with fail
  (with_reducible refine (HSM.out _ (HL1.out.below HB.out) (HL2.out.below HB.out)).mono ?_); rintro e w6 ⟨rfl, hb2⟩
  replace HB := Lib.hid (HB.out.trans (hb2.mono HB.out.size))
  clear hb2
  have hqq : (q != q) = false := by simp
  by_cases h1 : j1.length ≤ 7
  · have h1' : ((str j1).size : Int) ≤ 7 := by rw [hZ1.out]; omega
    by_cases h2 : j2.length ≤ 7
    · have h2' : ((str j2).size : Int) ≤ 7 := by rw [hZ2.out]; omega
      have hsh := HSH.out h1 h2
      go_wp2_with fail
      (with_reducible refine (HL3.out _ (HL1.out.below HB.out) (HT.out.below HB.out)).mono ?_); rintro e w7 ⟨rfl, hb2⟩
      replace HB := Lib.hid (HB.out.trans (hb2.mono HB.out.size))
      clear hb2
      go_wp2_with fail
      (with_reducible refine (HL4.out _ (HL2.out.below HB.out) (HT.out.below HB.out)).mono ?_); rintro e w8 ⟨rfl, hb2⟩
      replace HB := Lib.hid (HB.out.trans (hb2.mono HB.out.size))
      clear hb2
      go_wp2_with fail
      (with_reducible refine (HSM.out _ (HL1.out.below HB.out) (HL2.out.below HB.out)).mono ?_); rintro e w9 ⟨rfl, hb2⟩
      replace HB := Lib.hid (HB.out.trans (hb2.mono HB.out.size))
      clear hb2
      go_wp2_with fail
      obtain ⟨a, ha⟩ : ∃ a, a = x.data.toList.take n := ⟨_, rfl⟩
      have ea : x.extract 0 n = str a := by rw [ext_data, ha]; rfl
      obtain ⟨hn9, hnx, hny, hkn, hk6⟩ := HM.out
      have la : a.length = n := by rw [ha, List.length_take, ← Lib.size_eq]; omega
      obtain ⟨p, hp⟩ : ∃ p, p = a.take k := ⟨_, rfl⟩
      have ep : (str a).extract 0 k = str p := by rw [ext_data, hp, str_data]; rfl
      obtain ⟨r, hr⟩ : ∃ r, r = (y.data.toList.drop k).take (n - k) := ⟨_, rfl⟩
      have er : y.extract k n = str r := by rw [ext_data, hr]
      have lp : p.length = k := by rw [hp, List.length_take]; omega
      have lr : r.length = n - k := by rw [hr, List.length_take, List.length_drop, ← Lib.size_eq]; omega
      have hlaw := one_law a (p ++ r) (by simp only [List.length_append]; omega) (by omega) (by
        rw [hp, List.take_append]
        have h1 : (a.take k).length = k := by rw [List.length_take]; omega
        rw [h1]
        by_cases h6 : n < 6
        · obtain rfl : k = n := by omega
          have e0 : r = [] := List.eq_nil_of_length_eq_zero (by omega)
          rw [e0]
          simp only [List.take_nil, List.append_nil]
          rw [List.take_take, show min 6 k = k by omega, List.take_of_length_le (by omega), List.take_of_length_le (by omega)]
        · obtain rfl : k = 6 := by omega
          simp [List.take_take])
      rw [ea]
      have sa : (str a).size = n := by rw [str_size, la]
      have hsa : (k : Int) ≤ ((str a).size : Int) := by omega
      have ho : ¬ 9223372036854775807 < min k (str a).size + (min n y.size - k) := by omega
      have HE := Lib.hid (And.intro ep er)
      clear ep er hp hr ha ea sa hn9 hnx hny hkn hk6
      refine Reg.wp_region_seq (by kernel_rfl) (by kernel_rfl) ?_
      simp only
      iterate 10
        apply Reg.SeqOK.val
        · intro γ W hW K hK
          obtain ⟨hc, hf, _⟩ := bcell hW
          simp only [Act.put, List.setIfInBounds_toArray, List.set_cons_zero, List.set_cons_succ] at hK
          unfold Reg.Does
          go_simp
          try simp only [IntWalk.i64_left]
          first
            | exact hK _ (Below.refl _ _)
            | (trace_state; fail)
        simp only [Act.put, List.setIfInBounds_toArray, List.set_cons_zero, List.set_cons_succ, List.nil_append, List.cons_append, Nat.reduceAdd, Nat.zero_add]
      refine Reg.SeqOK.last (by kernel_rfl) (by kernel_rfl) (fun γ W hW _ _ _ => ?_)
      replace HB := Lib.hid (HB.out.trans (hW.mono HB.out.size))
      clear hW
      obtain ⟨ep, er⟩ := HE.out
      rw [ep, er, str_app]
      unfold Reg.Does
      go_simp
      generalize hxy : p ++ r = b at *
      have lb : b.length ≤ 9 := by rw [← hxy, List.length_append]; have := HM.out; omega
      have la9 : a.length ≤ 9 := by have := HM.out; omega
      clear hxy ep er ho
      go_wp2_with fail
      (with_reducible refine (list1 _ _ (HT.out.below HB.out) (by omega)).mono ?_); rintro e w10 ⟨rfl, hb2⟩
      replace HB := Lib.hid (HB.out.trans (hb2.mono HB.out.size))
      clear hb2
      go_wp2_with fail
      (with_reducible refine (list1 _ _ (HT.out.below HB.out) (by omega)).mono ?_); rintro e w11 ⟨rfl, hb2⟩
      replace HB := Lib.hid (HB.out.trans (hb2.mono HB.out.size))
      clear hb2
      go_wp2_with fail
      go_ret
      exact ⟨by simp, HB.out⟩

    · have h2' : ¬ ((str j2).size : Int) ≤ 7 := by rw [hZ2.out]; omega
      go_wp2_with fail
      obtain ⟨a, ha⟩ : ∃ a, a = x.data.toList.take n := ⟨_, rfl⟩
      have ea : x.extract 0 n = str a := by rw [ext_data, ha]; rfl
      obtain ⟨hn9, hnx, hny, hkn, hk6⟩ := HM.out
      have la : a.length = n := by rw [ha, List.length_take, ← Lib.size_eq]; omega
      obtain ⟨p, hp⟩ : ∃ p, p = a.take k := ⟨_, rfl⟩
      have ep : (str a).extract 0 k = str p := by rw [ext_data, hp, str_data]; rfl
      obtain ⟨r, hr⟩ : ∃ r, r = (y.data.toList.drop k).take (n - k) := ⟨_, rfl⟩
      have er : y.extract k n = str r := by rw [ext_data, hr]
      have lp : p.length = k := by rw [hp, List.length_take]; omega
      have lr : r.length = n - k := by rw [hr, List.length_take, List.length_drop, ← Lib.size_eq]; omega
      have hlaw := one_law a (p ++ r) (by simp only [List.length_append]; omega) (by omega) (by
        rw [hp, List.take_append]
        have h1 : (a.take k).length = k := by rw [List.length_take]; omega
        rw [h1]
        by_cases h6 : n < 6
        · obtain rfl : k = n := by omega
          have e0 : r = [] := List.eq_nil_of_length_eq_zero (by omega)
          rw [e0]
          simp only [List.take_nil, List.append_nil]
          rw [List.take_take, show min 6 k = k by omega, List.take_of_length_le (by omega), List.take_of_length_le (by omega)]
        · obtain rfl : k = 6 := by omega
          simp [List.take_take])
      rw [ea]
      have sa : (str a).size = n := by rw [str_size, la]
      have hsa : (k : Int) ≤ ((str a).size : Int) := by omega
      have ho : ¬ 9223372036854775807 < min k (str a).size + (min n y.size - k) := by omega
      have HE := Lib.hid (And.intro ep er)
      clear ep er hp hr ha ea sa hn9 hnx hny hkn hk6
      refine Reg.wp_region_seq (by kernel_rfl) (by kernel_rfl) ?_
      simp only
      iterate 10
        apply Reg.SeqOK.val
        · intro γ W hW K hK
          obtain ⟨hc, hf, _⟩ := bcell hW
          simp only [Act.put, List.setIfInBounds_toArray, List.set_cons_zero, List.set_cons_succ] at hK
          unfold Reg.Does
          go_simp
          try simp only [IntWalk.i64_left]
          first
            | exact hK _ (Below.refl _ _)
            | (trace_state; fail)
        simp only [Act.put, List.setIfInBounds_toArray, List.set_cons_zero, List.set_cons_succ, List.nil_append, List.cons_append, Nat.reduceAdd, Nat.zero_add]
      refine Reg.SeqOK.last (by kernel_rfl) (by kernel_rfl) (fun γ W hW _ _ _ => ?_)
      replace HB := Lib.hid (HB.out.trans (hW.mono HB.out.size))
      clear hW
      obtain ⟨ep, er⟩ := HE.out
      rw [ep, er, str_app]
      unfold Reg.Does
      go_simp
      generalize hxy : p ++ r = b at *
      have lb : b.length ≤ 9 := by rw [← hxy, List.length_append]; have := HM.out; omega
      have la9 : a.length ≤ 9 := by have := HM.out; omega
      clear hxy ep er ho
      go_wp2_with fail
      (with_reducible refine (list1 _ _ (HT.out.below HB.out) (by omega)).mono ?_); rintro e w10 ⟨rfl, hb2⟩
      replace HB := Lib.hid (HB.out.trans (hb2.mono HB.out.size))
      clear hb2
      go_wp2_with fail
      (with_reducible refine (list1 _ _ (HT.out.below HB.out) (by omega)).mono ?_); rintro e w11 ⟨rfl, hb2⟩
      replace HB := Lib.hid (HB.out.trans (hb2.mono HB.out.size))
      clear hb2
      go_wp2_with fail
      go_ret
      exact ⟨by simp, HB.out⟩

  · have h1' : ¬ ((str j1).size : Int) ≤ 7 := by rw [hZ1.out]; omega
    go_wp2_with fail
    obtain ⟨a, ha⟩ : ∃ a, a = x.data.toList.take n := ⟨_, rfl⟩
    have ea : x.extract 0 n = str a := by rw [ext_data, ha]; rfl
    obtain ⟨hn9, hnx, hny, hkn, hk6⟩ := HM.out
    have la : a.length = n := by rw [ha, List.length_take, ← Lib.size_eq]; omega
    obtain ⟨p, hp⟩ : ∃ p, p = a.take k := ⟨_, rfl⟩
    have ep : (str a).extract 0 k = str p := by rw [ext_data, hp, str_data]; rfl
    obtain ⟨r, hr⟩ : ∃ r, r = (y.data.toList.drop k).take (n - k) := ⟨_, rfl⟩
    have er : y.extract k n = str r := by rw [ext_data, hr]
    have lp : p.length = k := by rw [hp, List.length_take]; omega
    have lr : r.length = n - k := by rw [hr, List.length_take, List.length_drop, ← Lib.size_eq]; omega
    have hlaw := one_law a (p ++ r) (by simp only [List.length_append]; omega) (by omega) (by
      rw [hp, List.take_append]
      have h1 : (a.take k).length = k := by rw [List.length_take]; omega
      rw [h1]
      by_cases h6 : n < 6
      · obtain rfl : k = n := by omega
        have e0 : r = [] := List.eq_nil_of_length_eq_zero (by omega)
        rw [e0]
        simp only [List.take_nil, List.append_nil]
        rw [List.take_take, show min 6 k = k by omega, List.take_of_length_le (by omega), List.take_of_length_le (by omega)]
      · obtain rfl : k = 6 := by omega
        simp [List.take_take])
    rw [ea]
    have sa : (str a).size = n := by rw [str_size, la]
    have hsa : (k : Int) ≤ ((str a).size : Int) := by omega
    have ho : ¬ 9223372036854775807 < min k (str a).size + (min n y.size - k) := by omega
    have HE := Lib.hid (And.intro ep er)
    clear ep er hp hr ha ea sa hn9 hnx hny hkn hk6
    refine Reg.wp_region_seq (by kernel_rfl) (by kernel_rfl) ?_
    simp only
    iterate 10
      apply Reg.SeqOK.val
      · intro γ W hW K hK
        obtain ⟨hc, hf, _⟩ := bcell hW
        simp only [Act.put, List.setIfInBounds_toArray, List.set_cons_zero, List.set_cons_succ] at hK
        unfold Reg.Does
        go_simp
        try simp only [IntWalk.i64_left]
        first
          | exact hK _ (Below.refl _ _)
          | (trace_state; fail)
      simp only [Act.put, List.setIfInBounds_toArray, List.set_cons_zero, List.set_cons_succ, List.nil_append, List.cons_append, Nat.reduceAdd, Nat.zero_add]
    refine Reg.SeqOK.last (by kernel_rfl) (by kernel_rfl) (fun γ W hW _ _ _ => ?_)
    replace HB := Lib.hid (HB.out.trans (hW.mono HB.out.size))
    clear hW
    obtain ⟨ep, er⟩ := HE.out
    rw [ep, er, str_app]
    unfold Reg.Does
    go_simp
    generalize hxy : p ++ r = b at *
    have lb : b.length ≤ 9 := by rw [← hxy, List.length_append]; have := HM.out; omega
    have la9 : a.length ≤ 9 := by have := HM.out; omega
    clear hxy ep er ho
    go_wp2_with fail
    (with_reducible refine (list1 _ _ (HT.out.below HB.out) (by omega)).mono ?_); rintro e w10 ⟨rfl, hb2⟩
    replace HB := Lib.hid (HB.out.trans (hb2.mono HB.out.size))
    clear hb2
    go_wp2_with fail
    (with_reducible refine (list1 _ _ (HT.out.below HB.out) (by omega)).mono ?_); rintro e w11 ⟨rfl, hb2⟩
    replace HB := Lib.hid (HB.out.trans (hb2.mono HB.out.size))
    clear hb2
    go_wp2_with fail
    go_ret
    exact ⟨by simp, HB.out⟩

end S
end Go.Proofs.YtdoakahedgeejaaDoor
