/- Trees: the walk of 'TreeBinds'. -/
import Derived.Test.YtejhefmcinohhaaDoorTx
set_option linter.unusedSimpArgs false
set_option linter.unusedVariables false
set_option maxRecDepth 100000
namespace Go.Proofs.YtejhefmcinohhaaDoor
open Go.RowKit
namespace S

theorem good_all {l : List Tx} (h : goodB l = true) : l.all isD = true := by unfold goodB at h; rw [Bool.and_eq_true] at h; exact h.1
theorem good_few {l : List Tx} (h : goodB l = true) : fewT l = true := by unfold goodB at h; rw [Bool.and_eq_true] at h; exact h.2
theorem rooted_all {l : List Tx} (h : l.all isD = true) : rootedT l = rootT l := by unfold rootedT; rw [if_pos h]
theorem check_true {r : Tx} {n i : Nat} {d : Tx} {p : List Tx} (h : checkB r n i d p = true) : p.all isD = true ∧ isD d = true ∧ upT n i d p.reverse = r ∧ p.length = lenT n i := by
  unfold checkB at h
  simp only [Bool.and_eq_true, decide_eq_true_eq, beq_iff_eq, Int.toNat_natCast] at h
  exact ⟨h.1.1.1.2, h.1.1.2, h.1.2, h.2⟩

attribute [local go_sem ↓ high] Ap.builtin_appA in
set_option maxHeartbeats 8000000 in
theorem binds_walk (A : Option Addr) (c : Nat) (l : List Tx) (kz : Int) (s : ByteArray) (B : Option Addr) (d : Nat) (p : List Tx) (w : World)
    (hl : StrsAt w A l) (hn : (l.length ≤ c ∧ c ≤ maxLen) ∧ (A = none → c = 0)) (hb : ∀ t ∈ l, t.length ≤ maxLen) (hk : 0 ≤ kz ∧ kz ≤ 255) (hs : s.size ≤ maxLen)
    (hl2 : StrsAt w B p) (hn2 : (p.length ≤ d ∧ d ≤ maxLen) ∧ (B = none → d = 0)) (hb2 : ∀ t ∈ p, t.length ≤ maxLen) (hta : Tabs w) :
    Calls Tryd.prog 4 #[.slice A l.length c, .int .u8 kz, .string s, .slice B p.length d] w fun e w' => e = .returned (.bool true) ∧ Below w.heap.size w w' := by
  obtain ⟨t, rfl⟩ : ∃ t, s = str t := ⟨s.data.toList, (str_of s).symm⟩
  obtain ⟨R, rfl⟩ := Int.eq_ofNat_of_zero_le hk.1
  have HT := Lib.hid hta
  have HL := Lib.hid (lst_of hl hn)
  have HM := Lib.hid (lst_of hl2 hn2)
  have TL := Lib.hid (txb_of hb)
  have TM := Lib.hid (txb_of hb2)
  have HH := Lib.hid (head_any w hta)
  have hstl := str_toList
  have hsz := str_size t
  rw [hsz] at hs
  unfold maxLen at hs
  have HS9 : Hid (t.length ≤ 9223372036854775807) := by unfold Hid; omega
  have hR0 : (0 : Int) ≤ (R : Int) := by omega
  have hR1 : (R : Int) ≤ 255 := hk.2
  clear hta hl hn hb hl2 hn2 hb2 hs hk
  obtain ⟨n, hln⟩ : ∃ n, n = l.length := ⟨_, rfl⟩
  obtain ⟨m, hpm⟩ : ∃ m, m = p.length := ⟨_, rfl⟩
  have HN := Lib.hid hln
  have HP := Lib.hid hpm
  rw [← hln] at HL ⊢
  rw [← hpm] at HM ⊢
  have hnl : n ≤ 9223372036854775807 := by have := HL.out.cap; have := HL.out.max; omega
  have hnm : m ≤ 9223372036854775807 := by have := HM.out.cap; have := HM.out.max; omega
  clear hln hpm
  go_enter Tryd.func4, Tryd.ntmps4
  go_wp2_with fail
  (with_reducible refine HH.out.mono ?_); rintro e w1 ⟨rfl, hb1⟩
  have HB := Lib.hid hb1
  replace HT := Lib.hid (HT.out.below hb1)
  replace HL := Lib.hid (HL.out.below hb1)
  replace HM := Lib.hid (HM.out.below hb1)
  clear hb1 HH
  have HG := Lib.hid (good_L HL.out TL.out)
  go_wp2_with fail
  (with_reducible refine HG.out.mono ?_); rintro e w2 ⟨rfl, hb2⟩
  replace HB := Lib.hid (HB.out.trans (hb2.mono HB.out.size))
  replace HT := Lib.hid (HT.out.below hb2)
  replace HL := Lib.hid (HL.out.below hb2)
  replace HM := Lib.hid (HM.out.below hb2)
  clear hb2 HG
  cases hg : goodB l with
  | false =>
    go_wp2_with fail
    go_ret
    exact ⟨rfl, HB.out⟩
  | true =>
  have GA := Lib.hid (good_all hg)
  have GF := Lib.hid (good_few hg)
  clear hg
  have HF2 := Lib.hid (few_L HM.out)
  go_wp2_with fail
  (with_reducible refine HF2.out.mono ?_); rintro e w2 ⟨rfl, rfl⟩
  clear HF2
  cases hf : fewT p with
  | false =>
    go_wp2_with fail
    go_ret
    exact ⟨rfl, HB.out⟩
  | true =>
  have FM := Lib.hid hf
  clear hf
  by_cases h100 : t.length ≤ 100
  rotate_left
  · have h100' : (t.length : Int) > 100 := by omega
    go_wp2_with fail
    go_ret
    exact ⟨rfl, HB.out⟩
  have h100' : ¬ (t.length : Int) > 100 := by omega
  have h100d : decide (100 < t.length) = false := decide_eq_false (by omega)
  have HSh : Hid (Sh t) := h100
  by_cases hn0 : n = 0
  · subst hn0
    go_wp2_with fail
    go_ret
    exact ⟨rfl, HB.out⟩
  have hnz : ((n : Int) == 0) = false := by simp; omega
  have hnz' : ¬ (n : Int) = 0 := by omega
  obtain ⟨i, hi⟩ : ∃ i, i = R % n := ⟨_, rfl⟩
  have hrem : (R : Int) % (n : Int) = (i : Int) := by omega
  have hrem2 : Int.tmod (R : Int) (n : Int) = (i : Int) := by rw [Int.tmod_eq_emod_of_nonneg hR0]; exact hrem
  have hin : i < n := by rw [hi]; exact Nat.mod_lt _ (by omega)
  have HI := Lib.hid hin
  have hn20 : n ≤ 20 := by have := few_n GF.out; have := HN.out; omega
  have hm20 : m ≤ 20 := by have := few_n FM.out; have := HP.out; omega
  have hiI : (i : Int) < (n : Int) := by omega
  have hi0 : (0 : Int) ≤ (i : Int) := by omega
  have hil : i < l.length := by rw [← HN.out]; exact hin
  obtain ⟨bb, off, eA, zb, cx⟩ := HL.out.at_ i hil
  have HNE : Hid (∀ x, x = l[i] → (t == x) = false → t ≠ l[i]) := fun x hx h e => by rw [hx, ← e] at h; simp at h
  have LAW := Lib.hid (fun q => binds_law n l i hil t q HN.out.symm (dig_sm GA.out))
  have PLEN := Lib.hid (path_len n l i HN.out.symm)
  obtain ⟨x, hx⟩ : ∃ x, x = l[i] := ⟨_, rfl⟩
  rw [← hx] at cx
  have HX := Lib.hid hx
  subst eA
  clear hi hx hn0 h100
  cases htx : (t == x) with
  | true =>
    go_wp2_with fail
    go_ret
    exact ⟨rfl, HB.out⟩
  | false =>
  have HTX := Lib.hid (HNE.out x HX.out htx)
  have HRo := rooted_L HL.out (by omega) HT.out TL.out
  rw [rooted_all GA.out] at HRo
  have HRo := Lib.hid HRo
  go_wp2_with fail
  (with_reducible refine HRo.out.mono ?_); rintro e w3 ⟨rfl, hb3⟩
  replace HB := Lib.hid (HB.out.trans (hb3.mono HB.out.size))
  replace HT := Lib.hid (HT.out.below hb3)
  replace HL := Lib.hid (HL.out.below hb3)
  replace HM := Lib.hid (HM.out.below hb3)
  clear hb3 HRo
  have HC := Lib.hid (check_L (rootT l) n i t HM.out (by omega) HT.out TM.out HS9.out)
  cases hcb : checkB (rootT l) n i t p with
  | false =>
    rw [hcb] at HC
    go_wp2_with fail
    (with_reducible refine HC.out.mono ?_); rintro e w4 ⟨rfl, hb4⟩
    replace HB := Lib.hid (HB.out.trans (hb4.mono HB.out.size))
    clear hb4
    go_wp2_with fail
    go_ret
    exact ⟨rfl, HB.out⟩
  | true =>
  rw [hcb] at HC
  obtain ⟨p1, p2, p3, p4⟩ := check_true hcb
  have PP := Lib.hid (And.intro p1 (And.intro p2 (And.intro p3 p4)))
  clear hcb p1 p2 p3 p4
  have HSB : Hid (∀ t' ∈ textsT l ++ pathTexts n i t p.reverse, t'.length ≤ 140737488351232) := app_b (texts_b _ l rfl (dig_sh GA.out)) (ptexts_b n i t _ HSh.out (fun y hy => few_sh FM.out y (List.mem_reverse.1 hy)))
  have HSH : Hid (shownB (textsT l ++ pathTexts n i t p.reverse) = true) := by
    rcases LAW.out p.reverse (fun y hy => (few_sh FM.out y (List.mem_reverse.1 hy)).sm) HSh.out.sm PP.out.2.2.1 with h | h
    · exact absurd h HTX.out
    · exact (shown_iff _).2 h
  have hmlen : m = lenT n i := by rw [HP.out]; exact PP.out.2.2.2
  have HML := Lib.hid hmlen
  clear hmlen
  go_wp2_with fail
  (with_reducible refine HC.out.mono ?_); rintro e w4 ⟨rfl, hb4⟩
  replace HB := Lib.hid (HB.out.trans (hb4.mono HB.out.size))
  replace HT := Lib.hid (HT.out.below hb4)
  replace HL := Lib.hid (HL.out.below hb4)
  replace HM := Lib.hid (HM.out.below hb4)
  clear hb4 HC cx zb
  have HPa := Lib.hid (toLT (path_L i HL.out (by omega) HT.out GA.out HI.out) rfl (by rw [PLEN.out, ← HML.out]))
  go_wp2_with fail
  (with_reducible refine HPa.out.mono ?_); rintro e w5 ⟨⟨A5, c5, rfl, hl5⟩, hb5⟩
  replace HB := Lib.hid (HB.out.trans (hb5.mono HB.out.size))
  replace HL := Lib.hid (HL.out.below hb5)
  replace HM := Lib.hid (HM.out.below hb5)
  clear hb5 hl5 HPa
  have HXt := Lib.hid (texts_L HL.out (by omega) (dig_sh GA.out))
  go_wp2_with fail
  (with_reducible refine HXt.out.mono ?_); rintro e w7 ⟨⟨A7, c7, rfl, ho7⟩, hb7⟩
  have HX2 := Lib.hid (ptexts_L n i t (HM.out.below hb7) HSh.out (few_sh FM.out) HI.out (by omega) (by omega) HML.out)
  have HO7 := Lib.hid ho7
  have HB7 := Lib.hid hb7
  clear hb7 ho7
  go_wp2_with fail
  (with_reducible refine HX2.out.mono ?_); rintro e w8 ⟨⟨A8, c8, rfl, ho8⟩, hb8⟩
  have hb68 := HB7.out.trans (hb8.mono HB7.out.size)
  have TX1 := texts_len n l HN.out.symm
  have TX2 := pt_len n i t p.reverse
  have hsum : (textsT l).length + (pathTexts n i t p.reverse).length ≤ 100 := by rw [TX2, ← HML.out]; omega
  obtain ⟨A9, c9, w9, hrun, ho9, hb9⟩ := app2 (HO7.out.below hb8) (ho8.lst' rfl) (by omega) hb68 hb68.size
  have HSW := Lib.hid (shown_L (ho9.lst' rfl) (by rw [List.length_append]; omega) HSB.out)
  rw [HSH.out] at HSW
  rw [List.length_append] at hrun HSW
  replace HB := Lib.hid (HB.out.trans (hb9.mono HB.out.size))
  clear hb8 ho8 hb68 ho9 hb9 TX1 TX2 hsum
  go_wp2_with fail
  (with_reducible refine HSW.out.mono ?_); rintro e w10 ⟨rfl, hb10⟩
  replace HB := Lib.hid (HB.out.trans (hb10.mono HB.out.size))
  clear hb10
  go_wp2_with fail
  go_ret
  exact ⟨rfl, HB.out⟩

end S
end Go.Proofs.YtejhefmcinohhaaDoor
