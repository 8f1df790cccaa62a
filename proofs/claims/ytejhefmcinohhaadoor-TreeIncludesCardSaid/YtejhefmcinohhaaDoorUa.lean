/- Trees: the walk of 'TreeGrows'. -/
import Derived.Test.YtejhefmcinohhaaDoorTz
set_option linter.unusedSimpArgs false
set_option linter.unusedVariables false
set_option maxRecDepth 100000
namespace Go.Proofs.YtejhefmcinohhaaDoor
open Go.RowKit
namespace S

theorem all_take {l : List Tx} (h : l.all isD = true) (k : Nat) : (l.take k).all isD = true := List.all_eq_true.2 fun t ht => List.all_eq_true.1 h t (List.mem_of_mem_take ht)
theorem all_drop {l : List Tx} (h : l.all isD = true) (k : Nat) : (l.drop k).all isD = true := List.all_eq_true.2 fun t ht => List.all_eq_true.1 h t (List.mem_of_mem_drop ht)
theorem all_snoc {l : List Tx} {x : Tx} (h : l.all isD = true) (k : isD x = true) : (l ++ [x]).all isD = true := by rw [List.all_append, h]; simp [k]
theorem root_all {l : List Tx} (h : l.all isD = true) : isD (rootT l) = true := root_dig l fun t ht => List.all_eq_true.1 h t ht
theorem path_dig : ∀ n (l : List Tx) i, l.length = n → l.all isD = true → (pathT l i).all isD = true := by
  intro n
  induction n using Nat.strongRecOn with
  | ind n ih =>
    intro l i hl h
    by_cases h2 : 2 ≤ n
    · obtain ⟨k0, k1, k2, _⟩ := hf_spec h2
      by_cases hk : i < hf n
      · rw [path_left (by omega) (by rw [hl]; exact hk), hl]
        exact all_snoc (ih (hf n) k1 _ _ (by simp; omega) (all_take h _)) (root_all (all_drop h _))
      · rw [path_right (by omega) (by rw [hl]; exact hk), hl]
        exact all_snoc (ih (n - hf n) (by omega) _ _ (by simp; omega) (all_drop h _)) (root_all (all_take h _))
    · rw [path_one _ (by omega)]; rfl
theorem link_dig : ∀ n (l : List Tx) m wh, l.length = n → l.all isD = true → (linkT l m wh).all isD = true := by
  intro n
  induction n using Nat.strongRecOn with
  | ind n ih =>
    intro l m wh hl h
    by_cases hlt : m < n
    · by_cases h2 : 2 ≤ n
      · obtain ⟨k0, k1, k2, _⟩ := hf_spec h2
        by_cases hk : m ≤ hf n
        · rw [link_left wh (by omega) (by omega) (by rw [hl]; exact hk), hl]
          exact all_snoc (ih (hf n) k1 _ _ _ (by simp; omega) (all_take h _)) (root_all (all_drop h _))
        · rw [link_right wh (by omega) (by omega) (by rw [hl]; exact hk), hl]
          exact all_snoc (ih (n - hf n) (by omega) _ _ _ (by simp; omega) (all_drop h _)) (root_all (all_take h _))
      · rw [linkT, if_neg (by omega), if_pos (by omega)]; rfl
    · rw [link_end wh (by omega)]
      cases wh with
      | true => rfl
      | false => simpa using root_all h
/-- What 'Link' gives extends. -/
theorem grow_ext (l : List Tx) (m : Nat) (hl : l.all isD = true) (hm : m ≤ l.length) (hn : l.length ≤ 1000000) : extB (rootT (l.take m)) m (rootT l) l.length (lnk l m) = true := by
  unfold extB
  have e1 : decide ((0 : Int) ≤ (m : Int)) = true := decide_eq_true (by omega)
  have e2 : decide ((m : Int) ≤ (l.length : Int)) = true := decide_eq_true (by omega)
  have e3 : decide ((l.length : Int) ≤ 1000000) = true := decide_eq_true (by omega)
  rw [e1, e2, e3, root_all (all_take hl m), root_all hl]
  unfold lnk
  by_cases h0 : m = 0
  · subst h0
    rw [if_pos rfl, if_pos (by simp), List.take_zero, root_nil]
    by_cases hz : l.length = 0
    · rw [List.eq_nil_of_length_eq_zero hz, root_nil]; simp
    · have : decide ((0 : Int) < (l.length : Int)) = true := decide_eq_true (by omega)
      rw [this]; simp
  · rw [if_neg h0, if_neg (by omega), link_dig l.length l m true rfl hl, Int.toNat_natCast, Int.toNat_natCast, both_link l.length l m true _ rfl (by omega) hm (fun _ => rfl), link_len l.length l m true rfl (by omega)]
    simp
theorem grow_len (l : List Tx) (m : Nat) (hm : m ≤ l.length) : (lnk l m).length ≤ bitsN l.length + 1 ∧ ((lnk l m).length = 0 ↔ (m = 0 ∨ m = l.length)) := by
  unfold lnk
  by_cases h0 : m = 0
  · subst h0; simp
  · rw [if_neg h0, link_len l.length l m true rfl (by omega)]
    refine ⟨long_bits _ _ (by omega), ?_⟩
    rw [long_zero _ _ (by omega) hm]
    simp [h0]
theorem bits_step {k : Nat} (h : 0 < k) : bitsN k = bitsN (k / 2) + 1 := by
  conv => lhs; rw [bitsN]
  rw [if_neg (by omega)]
theorem bits_zero : bitsN 0 = 0 := by rw [bitsN]; simp
theorem tdiv2 (k : Nat) : Int.tdiv (k : Int) 2 = ((k / 2 : Nat) : Int) := by rw [Int.tdiv_eq_ediv_of_nonneg (by omega)]; omega

set_option maxHeartbeats 8000000 in
theorem grows_walk (A : Option Addr) (c : Nat) (l : List Tx) (kz : Int) (w : World)
    (hl : StrsAt w A l) (hn : (l.length ≤ c ∧ c ≤ maxLen) ∧ (A = none → c = 0)) (hb : ∀ t ∈ l, t.length ≤ maxLen) (hk : 0 ≤ kz ∧ kz ≤ 255) (hta : Tabs w) :
    Calls Tryd.prog 6 #[.slice A l.length c, .int .u8 kz] w fun e w' => e = .returned (.bool true) ∧ Below w.heap.size w w' := by
  obtain ⟨R, rfl⟩ := Int.eq_ofNat_of_zero_le hk.1
  have HT := Lib.hid hta
  have HL := Lib.hid (lst_of hl hn)
  have TL := Lib.hid (txb_of hb)
  have HH := Lib.hid (head_any w hta)
  have hR0 : (0 : Int) ≤ (R : Int) := by omega
  have hR1 : (R : Int) ≤ 255 := hk.2
  clear hta hl hn hb hk
  obtain ⟨n, hln⟩ : ∃ n, n = l.length := ⟨_, rfl⟩
  have HN := Lib.hid hln
  rw [← hln] at HL ⊢
  have hnl : n ≤ 9223372036854775807 := by have := HL.out.cap; have := HL.out.max; omega
  clear hln
  go_enter Tryd.func6, Tryd.ntmps6
  go_wp2_with fail
  (with_reducible refine HH.out.mono ?_); rintro e w1 ⟨rfl, hb1⟩
  have HB := Lib.hid hb1
  replace HT := Lib.hid (HT.out.below hb1)
  replace HL := Lib.hid (HL.out.below hb1)
  clear hb1 HH
  have HG := Lib.hid (good_L HL.out TL.out)
  go_wp2_with fail
  (with_reducible refine HG.out.mono ?_); rintro e w2 ⟨rfl, hb2⟩
  replace HB := Lib.hid (HB.out.trans (hb2.mono HB.out.size))
  replace HT := Lib.hid (HT.out.below hb2)
  replace HL := Lib.hid (HL.out.below hb2)
  clear hb2 HG
  cases hg : goodB l with
  | false =>
    go_wp2_with fail
    go_ret
    exact ⟨rfl, HB.out⟩
  | true =>
  have GA := Lib.hid (good_all hg)
  have GF := Lib.hid (good_few hg)
  clear hg
  have hn20 : n ≤ 20 := by have := few_n GF.out; have := HN.out; omega
  obtain ⟨m, hm⟩ : ∃ m, m = R % (n + 1) := ⟨_, rfl⟩
  obtain ⟨n1, hn1⟩ : ∃ n1, n1 = n + 1 := ⟨_, rfl⟩
  have hw1 : IntKind.i64.wrap ((n : Int) + 1) = (n1 : Int) := by rw [IntWalk.i64_left, IntWalk.wrap64_in _ (by omega)]; omega
  have hrem : (R : Int) % (n1 : Int) = (m : Int) := by rw [hm, hn1]; rfl
  have hrem2 : Int.tmod (R : Int) (n1 : Int) = (m : Int) := by rw [Int.tmod_eq_emod_of_nonneg hR0]; exact hrem
  have hnz : ((n1 : Int) == 0) = false := by simp; omega
  have hnz' : ¬ (n1 : Int) = 0 := by omega
  have hnz2 : ¬ n1 = 0 := by omega
  have hmn : m ≤ n := by rw [hm]; have := Nat.mod_lt R (show 0 < n + 1 by omega); omega
  have HM := Lib.hid hmn
  have hmw : IntKind.i64.wrap (m : Int) = (m : Int) := by rw [IntWalk.i64_left]; exact IntWalk.wrap64_in _ (by omega)
  have hmI : (m : Int) ≤ (n : Int) := by omega
  have GL := grow_len l m (by rw [← HN.out]; exact hmn)
  have GX := grow_ext l m GA.out (by rw [← HN.out]; exact hmn) (by have := HN.out; omega)
  rw [← HN.out] at GL GX
  have HLk := Lib.hid (link_L m HL.out (by omega) HT.out GA.out hmn)
  have TX : Hid (TxB (lnk l m)) := fun t ht => by
    unfold lnk at ht
    split at ht
    · simp at ht
    · have := isD_sm (List.all_eq_true.1 (link_dig l.length l m true rfl GA.out) t ht); unfold Sm at this; omega
  have hLn : (lnk l m).length ≤ 40 := by
    have := GL.1
    have := bits_lt n
    unfold lnk
    split
    · simp
    · rw [link_len n l m true HN.out.symm (by omega)]
      have := long_le n m true 5 (by omega) (by omega)
      omega
  obtain ⟨x, hx⟩ : ∃ x, x = lnk l m := ⟨_, rfl⟩
  rw [← hx] at GL GX HLk TX hLn
  have HGL := Lib.hid GL
  have HGX := Lib.hid GX
  have HLn := Lib.hid hLn
  clear hm hn1 hmn GL GX hx hLn
  go_wp2_with fail
  (with_reducible refine HLk.out.mono ?_); rintro e w3 ⟨⟨Ax, cx, rfl, hl3⟩, hb2⟩
  have HX := Lib.hid hl3
  replace HB := Lib.hid (HB.out.trans (hb2.mono HB.out.size))
  replace HT := Lib.hid (HT.out.below hb2)
  replace HL := Lib.hid (HL.out.below hb2)
  clear hb2 hl3 HLk
  obtain ⟨q, hq⟩ : ∃ q, q = x.length := ⟨_, rfl⟩
  rw [← hq] at HX HGL HLn ⊢
  clear hq
  clear hrem hrem2 hw1 hnz hnz' hnz2 hR0 hR1
  go_wp2_with fail
  go_loop [9, 10] (fun a b => ∃ j k : Nat, a = .int .i64 j ∧ b = .int .i64 k ∧ k ≤ 20 ∧ j ≤ 20 ∧ j + k ≤ 20 ∧ j + bitsN k = bitsN n) (fun _ b => (intOf b).toNat)
  case atStart => exact ⟨0, n, rfl, rfl, by omega, by omega, by omega, by omega⟩
  case round =>
    obtain ⟨j, k, rfl, rfl, hk20, hj20, hjk, hbits⟩ := hrel
    have HBits := Lib.hid hbits
    clear hbits
    by_cases hk0 : 0 < k
    · have hk0' : (0 : Int) < (k : Int) := by omega
      obtain ⟨k2, hk2⟩ : ∃ k2, k2 = k / 2 := ⟨_, rfl⟩
      have hdv := tdiv2 k
      rw [← hk2] at hdv
      have hdv2 : (k : Int) / 2 = (k2 : Int) := by omega
      have hdw : IntKind.i64.wrap (k2 : Int) = (k2 : Int) := by rw [IntWalk.i64_left]; exact IntWalk.wrap64_in _ (by omega)
      have HK2 := Lib.hid hk2
      clear hk2
      go_wp2_with fail
      have hk2 := HK2.out
      refine ⟨⟨j + 1, k2, by go_num, by go_num, by omega, by omega, by omega, ?_⟩, by simp [intOf]; omega⟩
      have := bits_step hk0
      have := HBits.out
      rw [hk2]
      omega
    · obtain rfl : k = 0 := by omega
      have hjb : j = bitsN n := by have := HBits.out; rw [bits_zero] at this; omega
      have hqj : q ≤ j + 1 := by rw [hjb]; exact HGL.out.1
      have HZ : Hid ((q = 0) ↔ (m = 0 ∨ m = n)) := HGL.out.2
      clear hjb
      obtain ⟨At, hsl, ht⟩ := to_L HL.out HM.out
      have HTk := Lib.hid ht
      have HRt := rooted_L ht (by omega) HT.out (fun t ht => TL.out t (List.mem_of_mem_take ht))
      rw [rooted_all (all_take GA.out m)] at HRt
      have HRt := Lib.hid HRt
      clear ht
      go_wp2_with fail
      (with_reducible refine HRt.out.mono ?_); rintro e w4 ⟨rfl, hb2⟩
      replace HB := Lib.hid (HB.out.trans (hb2.mono HB.out.size))
      replace HT := Lib.hid (HT.out.below hb2)
      replace HL := Lib.hid (HL.out.below hb2)
      replace HX := Lib.hid (HX.out.below hb2)
      clear hb2 HRt
      have HRl := rooted_L HL.out (by omega) HT.out TL.out
      rw [rooted_all GA.out] at HRl
      have HRl := Lib.hid HRl
      go_wp2_with fail
      (with_reducible refine HRl.out.mono ?_); rintro e w5 ⟨rfl, hb2⟩
      replace HB := Lib.hid (HB.out.trans (hb2.mono HB.out.size))
      replace HT := Lib.hid (HT.out.below hb2)
      replace HX := Lib.hid (HX.out.below hb2)
      clear hb2 HRl
      have hs1 := isD_sm (root_all (all_take GA.out m))
      have hs2 := isD_sm (root_all GA.out)
      unfold Sm at hs1 hs2
      have HE := extends_L (rootT (l.take m)) m (rootT l) n HX.out (by have := HLn.out; omega) HT.out TX.out (by omega) (by omega)
      rw [HGX.out] at HE
      have HE := Lib.hid HE
      clear hs1 hs2
      have hqj' : (q : Int) ≤ (j : Int) + 1 := by omega
      by_cases hm0 : m = 0
      · subst hm0
        have hq0 : q = 0 := HZ.out.2 (.inl rfl)
        subst hq0
        have HE0 : Hid (Calls Tryd.prog 20 #[.string (str (rootT [])), .int .i64 0, .string (str (rootT l)), .int .i64 n, .slice Ax 0 cx] w5 fun e w' => e = .returned (.bool true) ∧ Below w5.heap.size w5 w') := HE.out
        clear HE
        go_wp2_with fail
        (with_reducible refine HE0.out.mono ?_); rintro e w6 ⟨rfl, hb2⟩
        replace HB := Lib.hid (HB.out.trans (hb2.mono HB.out.size))
        clear hb2
        go_wp2_with fail
        go_ret
        exact ⟨by simp, HB.out⟩
      · have hmz : ((m : Int) == 0) = false := by simp; omega
        have hmz' : ¬ (m : Int) = 0 := by omega
        by_cases hmn : m = n
        · subst hmn
          have hq0 : q = 0 := HZ.out.2 (.inr rfl)
          subst hq0
          go_wp2_with fail
          (with_reducible refine HE.out.mono ?_); rintro e w6 ⟨rfl, hb2⟩
          replace HB := Lib.hid (HB.out.trans (hb2.mono HB.out.size))
          clear hb2
          go_wp2_with fail
          go_ret
          exact ⟨by simp, HB.out⟩
        · have hq0 : ¬ q = 0 := fun h => by rcases HZ.out.1 h with h | h <;> omega
          have hqz : ((q : Int) == 0) = false := by simp; omega
          have hqz' : ¬ (q : Int) = 0 := by omega
          have hmnz : ((m : Int) == (n : Int)) = false := by simp; omega
          have hmnz' : ¬ (m : Int) = (n : Int) := by omega
          go_wp2_with fail
          (with_reducible refine HE.out.mono ?_); rintro e w6 ⟨rfl, hb2⟩
          replace HB := Lib.hid (HB.out.trans (hb2.mono HB.out.size))
          clear hb2
          go_wp2_with fail
          go_ret
          exact ⟨by simp, HB.out⟩

end S
end Go.Proofs.YtejhefmcinohhaaDoor
