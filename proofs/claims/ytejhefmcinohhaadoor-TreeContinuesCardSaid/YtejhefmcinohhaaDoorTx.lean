/- Trees: the walk of 'TreeRoots'. -/
import Derived.Test.YtejhefmcinohhaaDoorTv
set_option linter.unusedSimpArgs false
set_option linter.unusedVariables false
set_option maxRecDepth 100000
namespace Go.Proofs.YtejhefmcinohhaaDoor
open Go.RowKit
namespace S

/-- 'append(l, m...)' -/
theorem app2 {w0 w : World} {B cap c n : Nat} {A0 A : Option Addr} {l m : List Tx} (hown : Own B w (.slice A0 l.length cap) l) (hm : Lst w A n c m) (hn : l.length + n ≤ 1000000) (hB : Below B w0 w) (hBw : B ≤ w.heap.size) :
    ∃ A' c' w', (Ap.appA #[22, 22] 22 #[.slice A0 l.length cap, .slice A n c]).run Tryd.prog w = .ok (.slice A' (l ++ m).length c') w' ∧
      Own B w' (.slice A' (l ++ m).length c') (l ++ m) ∧ Below B w0 w' := by
  obtain ⟨i0, hi0, hz⟩ := Option.map_eq_some_iff.1 info_str
  simp only [Prod.mk.injEq] at hz
  obtain ⟨hz0, hz1, hz2⟩ := hz
  obtain ⟨h1, rfl, h3, h4, h5⟩ := hm
  obtain ⟨A', c', w', hrun, ho, hgr, _⟩ := Ap.run_appX (c := c) Tryd.underlying22 hi0 hz0 hz1 hz2 rfl (by omega) (by omega) 22 hown (src_of h1) h5 hn hBw
  have e1 : (l ++ m).length = l.length + m.length := by simp
  refine ⟨A', c', w', by rw [e1]; exact hrun, ?_, hB.grown hgr hBw (fun k e => ?_)⟩
  · show World.ownsRow _ _ _ _ _ _ _
    rw [e1, show sv (l ++ m) = sv l ++ sv m by simp [sv]]
    exact ho
  · have h0 : w.ownsRow B 9 1 (.slice A0 l.length cap) l.length (sv l) := hown
    exact (World.ownsRow.lt h0 k e).1
theorem Own.lst' {B : Nat} {w : World} {A : Option Addr} {n c : Nat} {l : List Tx} (h : Own B w (.slice A n c) l) (hn : l.length = n) : Lst w A n c l := by
  obtain ⟨A', c', e, hl⟩ := h.lst
  injection e with e1 e2 e3
  subst e1 e3
  rw [hn] at hl; exact hl
theorem lst_of {w : World} {A : Option Addr} {c : Nat} {l : List Tx} (h : StrsAt w A l) (hn : (l.length ≤ c ∧ c ≤ maxLen) ∧ (A = none → c = 0)) : Lst w A l.length c l := ⟨h, rfl, hn.1.1, by have := hn.1.2; unfold maxLen at this; omega, hn.2⟩
theorem txb_of {l : List Tx} (h : ∀ t ∈ l, t.length ≤ maxLen) : TxB l := fun t ht => by have := h t ht; unfold maxLen at this; omega
theorem few_n {l : List Tx} (h : fewT l = true) : l.length ≤ 20 := by unfold fewT at h; simp at h; exact h.1
theorem few_sh {l : List Tx} (h : fewT l = true) : ∀ t ∈ l, Sh t := fun t ht => by
  unfold fewT at h
  rw [Bool.and_eq_true] at h
  have := fewB_all h.2 t ht
  unfold Sh; omega
theorem dig_sh {l : List Tx} (h : l.all isD = true) : ∀ t ∈ l, Sh t := fun t ht => isD_sh (List.all_eq_true.1 h t ht)
theorem dig_sm {l : List Tx} (h : l.all isD = true) : ∀ t ∈ l, Sm t := fun t ht => isD_sm (List.all_eq_true.1 h t ht)
theorem app_b {l m : List Tx} {N : Nat} (h : ∀ t ∈ l, t.length ≤ N) (k : ∀ t ∈ m, t.length ≤ N) : ∀ t ∈ l ++ m, t.length ≤ N := fun t ht => by
  rcases List.mem_append.1 ht with ht | ht
  · exact h t ht
  · exact k t ht

attribute [local go_sem ↓ high] Ap.builtin_appA in
set_option maxHeartbeats 8000000 in
theorem roots_walk (A : Option Addr) (c : Nat) (l : List Tx) (B : Option Addr) (d : Nat) (m : List Tx) (w : World)
    (hl : StrsAt w A l) (hn : (l.length ≤ c ∧ c ≤ maxLen) ∧ (A = none → c = 0)) (hb : ∀ t ∈ l, t.length ≤ maxLen)
    (hl2 : StrsAt w B m) (hn2 : (m.length ≤ d ∧ d ≤ maxLen) ∧ (B = none → d = 0)) (hb2 : ∀ t ∈ m, t.length ≤ maxLen) (hta : Tabs w) :
    Calls Tryd.prog 5 #[.slice A l.length c, .slice B m.length d] w fun e w' => e = .returned (.bool true) ∧ Below w.heap.size w w' := by
  have HT := Lib.hid hta
  have HL := Lib.hid (lst_of hl hn)
  have HM := Lib.hid (lst_of hl2 hn2)
  have TL := Lib.hid (txb_of hb)
  have TM := Lib.hid (txb_of hb2)
  have HH := Lib.hid (head_any w hta)
  have hstl := str_toList
  have hnl : l.length ≤ 9223372036854775807 := by have := HL.out.cap; have := HL.out.max; omega
  have hnm : m.length ≤ 9223372036854775807 := by have := HM.out.cap; have := HM.out.max; omega
  clear hta hl hn hb hl2 hn2 hb2
  go_enter Tryd.func5, Tryd.ntmps5
  go_wp2_with fail
  (with_reducible refine HH.out.mono ?_); rintro e w1 ⟨rfl, hb1⟩
  have HB := Lib.hid hb1
  replace HT := Lib.hid (HT.out.below hb1)
  replace HL := Lib.hid (HL.out.below hb1)
  replace HM := Lib.hid (HM.out.below hb1)
  clear hb1 HH
  have HF := Lib.hid (few_L HL.out)
  have HF2 := Lib.hid (few_L HM.out)
  go_wp2_with fail
  (with_reducible refine HF.out.mono ?_); rintro e w1 ⟨rfl, rfl⟩
  clear HF
  cases hf : fewT l with
  | false =>
    go_wp2_with fail
    go_ret
    exact ⟨rfl, HB.out⟩
  | true =>
  have FL := Lib.hid hf
  clear hf
  go_wp2_with fail
  (with_reducible refine HF2.out.mono ?_); rintro e w1 ⟨rfl, rfl⟩
  clear HF2
  cases hf : fewT m with
  | false =>
    go_wp2_with fail
    go_ret
    exact ⟨rfl, HB.out⟩
  | true =>
  have FM := Lib.hid hf
  clear hf
  by_cases hlm : l.length = m.length
  rotate_left
  · have hlm' : ((l.length : Int) == (m.length : Int)) = false := by simp; omega
    have hlm2 : ¬ (l.length : Int) = (m.length : Int) := by omega
    go_wp2_with fail
    go_ret
    exact ⟨rfl, HB.out⟩
  have HLM := Lib.hid hlm
  obtain ⟨n, hln⟩ : ∃ n, n = l.length := ⟨_, rfl⟩
  have hmn : m.length = n := by omega
  have HN := Lib.hid hln
  have hn20 : n ≤ 20 := by have := few_n FL.out; omega
  rw [hmn] at HM ⊢
  rw [← hln] at HL ⊢
  clear hnl hnm hlm hln hmn
  have HR := Lib.hid (root_L HL.out (by omega) HT.out TL.out)
  go_wp2_with fail
  (with_reducible refine HR.out.mono ?_); rintro e w2 ⟨rfl, hb2⟩
  replace HB := Lib.hid (HB.out.trans (hb2.mono HB.out.size))
  replace HT := Lib.hid (HT.out.below hb2)
  replace HL := Lib.hid (HL.out.below hb2)
  replace HM := Lib.hid (HM.out.below hb2)
  clear hb2 HR
  have HR := Lib.hid (root_L HM.out (by omega) HT.out TM.out)
  have hg : Hid (goodB l = l.all isD) := by unfold Hid goodB; rw [FL.out, Bool.and_true]
  have hg2 : Hid (goodB m = m.all isD) := by unfold Hid goodB; rw [FM.out, Bool.and_true]
  cases hql : l.all isD with
  | false =>
    rw [if_neg (by decide)]
    go_wp2_with fail
    (with_reducible refine HR.out.mono ?_); rintro e w3 ⟨rfl, hb3⟩
    replace HB := Lib.hid (HB.out.trans (hb3.mono HB.out.size))
    replace HL := Lib.hid (HL.out.below hb3)
    replace HM := Lib.hid (HM.out.below hb3)
    clear hb3 HR
    have HG := good_L HL.out TL.out
    rw [hg.out, hql] at HG
    have HG := Lib.hid HG
    cases hqm : m.all isD with
    | false =>
      rw [if_neg (by decide)]
      go_wp2_with fail
      (with_reducible refine HG.out.mono ?_); rintro e w4 ⟨rfl, hb4⟩
      replace HB := Lib.hid (HB.out.trans (hb4.mono HB.out.size))
      have HG2 := good_L (HM.out.below hb4) TM.out
      rw [hg2.out, hqm] at HG2
      have HG2 := Lib.hid HG2
      clear hb4
      go_wp2_with fail
      (with_reducible refine HG2.out.mono ?_); rintro e w5 ⟨rfl, hb5⟩
      replace HB := Lib.hid (HB.out.trans (hb5.mono HB.out.size))
      clear hb5
      go_wp2_with fail
      go_ret
      exact ⟨rfl, HB.out⟩
    | true =>
      rw [if_pos rfl]
      go_wp2_with fail
      (with_reducible refine HG.out.mono ?_); rintro e w4 ⟨rfl, hb4⟩
      replace HB := Lib.hid (HB.out.trans (hb4.mono HB.out.size))
      have HG2 := good_L (HM.out.below hb4) TM.out
      rw [hg2.out, hqm] at HG2
      have HG2 := Lib.hid HG2
      clear hb4
      go_wp2_with fail
      (with_reducible refine HG2.out.mono ?_); rintro e w5 ⟨rfl, hb5⟩
      replace HB := Lib.hid (HB.out.trans (hb5.mono HB.out.size))
      clear hb5
      go_wp2_with fail
      go_ret
      exact ⟨rfl, HB.out⟩
  | true =>
    rw [if_pos rfl]
    go_wp2_with fail
    (with_reducible refine HR.out.mono ?_); rintro e w3 ⟨rfl, hb3⟩
    replace HB := Lib.hid (HB.out.trans (hb3.mono HB.out.size))
    replace HL := Lib.hid (HL.out.below hb3)
    replace HM := Lib.hid (HM.out.below hb3)
    clear hb3 HR
    have HG := good_L HL.out TL.out
    rw [hg.out, hql] at HG
    have HG := Lib.hid HG
    cases hqm : m.all isD with
    | false =>
      rw [if_neg (by decide)]
      go_wp2_with fail
      (with_reducible refine HG.out.mono ?_); rintro e w4 ⟨rfl, hb4⟩
      replace HB := Lib.hid (HB.out.trans (hb4.mono HB.out.size))
      have HG2 := good_L (HM.out.below hb4) TM.out
      rw [hg2.out, hqm] at HG2
      have HG2 := Lib.hid HG2
      clear hb4
      go_wp2_with fail
      (with_reducible refine HG2.out.mono ?_); rintro e w5 ⟨rfl, hb5⟩
      replace HB := Lib.hid (HB.out.trans (hb5.mono HB.out.size))
      clear hb5
      go_wp2_with fail
      go_ret
      exact ⟨rfl, HB.out⟩
    | true =>
      rw [if_pos rfl]
      go_wp2_with fail
      (with_reducible refine HG.out.mono ?_); rintro e w4 ⟨rfl, hb4⟩
      replace HB := Lib.hid (HB.out.trans (hb4.mono HB.out.size))
      replace HL := Lib.hid (HL.out.below hb4)
      replace HM := Lib.hid (HM.out.below hb4)
      have HG2 := good_L HM.out TM.out
      rw [hg2.out, hqm] at HG2
      have HG2 := Lib.hid HG2
      clear hb4
      go_wp2_with fail
      (with_reducible refine HG2.out.mono ?_); rintro e w5 ⟨rfl, hb5⟩
      replace HB := Lib.hid (HB.out.trans (hb5.mono HB.out.size))
      replace HL := Lib.hid (HL.out.below hb5)
      replace HM := Lib.hid (HM.out.below hb5)
      clear hb5
      have HS := Lib.hid (same_L HL.out HM.out)
      have QL := Lib.hid hql
      have QM := Lib.hid hqm
      clear hql hqm
      by_cases heq : l = m
      · rw [decide_eq_true heq] at HS
        have HEQ : Hid (rootT l = rootT m) := by unfold Hid; rw [heq]
        clear heq
        generalize rootT l = ra at *
        generalize rootT m = rb at *
        go_wp2_with fail
        (with_reducible refine HS.out.mono ?_); rintro e w6 ⟨rfl, hb6⟩
        replace HB := Lib.hid (HB.out.trans (hb6.mono HB.out.size))
        clear hb6
        go_wp2_with fail
        go_ret
        exact ⟨by simp [HEQ.out], HB.out⟩
      · rw [decide_eq_false heq] at HS
        have LAW := Lib.hid (roots_law n l m HN.out.symm (by rw [← HLM.out, HN.out]) (dig_sm QL.out) (dig_sm QM.out))
        have HNE := Lib.hid heq
        have TX1 := texts_len n l HN.out.symm
        have TX2 := texts_len n m (by rw [← HLM.out, HN.out])
        have TXL : Hid ((textsT l).length + (textsT m).length ≤ 42) := by unfold Hid; omega
        have HSB : Hid (∀ t ∈ textsT l ++ textsT m, t.length ≤ 140737488351232) := app_b (texts_b _ l rfl (dig_sh QL.out)) (texts_b _ m rfl (dig_sh QM.out))
        have SL := Lib.hid (dig_sh QL.out)
        have SM := Lib.hid (dig_sh QM.out)
        clear heq TX1 TX2
        generalize hra : rootT l = ra at *
        generalize hrb : rootT m = rb at *
        cases hrr : (ra == rb) with
        | false =>
          have hrr' : (ra != rb) = true := by simp [bne, hrr]
          clear hra hrb
          go_wp2_with fail
          (with_reducible refine HS.out.mono ?_); rintro e w6 ⟨rfl, hb6⟩
          replace HB := Lib.hid (HB.out.trans (hb6.mono HB.out.size))
          clear hb6
          go_wp2_with fail
          go_ret
          exact ⟨by simp, HB.out⟩
        | true =>
          have hrr' : (ra != rb) = false := by simp [bne, hrr]
          have HSH : Hid (shownB (textsT l ++ textsT m) = true) := by
            rcases LAW.out (by simpa using hrr) with h | h
            · exact absurd h HNE.out
            · exact (shown_iff _).2 h
          clear hra hrb
          go_wp2_with fail
          (with_reducible refine HS.out.mono ?_); rintro e w6 ⟨rfl, hb6⟩
          replace HB := Lib.hid (HB.out.trans (hb6.mono HB.out.size))
          replace HL := Lib.hid (HL.out.below hb6)
          replace HM := Lib.hid (HM.out.below hb6)
          clear hb6
          have HX := Lib.hid (texts_L HL.out (by omega) SL.out)
          go_wp2_with fail
          (with_reducible refine HX.out.mono ?_); rintro e w7 ⟨⟨A7, c7, rfl, ho7⟩, hb7⟩
          have HX2 := Lib.hid (texts_L (HM.out.below hb7) (by omega) SM.out)
          have HO7 := Lib.hid ho7
          have HB7 := Lib.hid hb7
          clear hb7 ho7
          go_wp2_with fail
          (with_reducible refine HX2.out.mono ?_); rintro e w8 ⟨⟨A8, c8, rfl, ho8⟩, hb8⟩
          have hb68 := HB7.out.trans (hb8.mono HB7.out.size)
          obtain ⟨A9, c9, w9, hrun, ho9, hb9⟩ := app2 (HO7.out.below hb8) (ho8.lst' rfl) (by have := TXL.out; omega) hb68 hb68.size
          have HSW := Lib.hid (shown_L (ho9.lst' rfl) (by rw [List.length_append]; have := TXL.out; omega) HSB.out)
          rw [HSH.out] at HSW
          rw [List.length_append] at hrun HSW
          replace HB := Lib.hid (HB.out.trans (hb9.mono HB.out.size))
          clear hb8 ho8 hb68 ho9 hb9
          go_wp2_with fail
          (with_reducible refine HSW.out.mono ?_); rintro e w10 ⟨rfl, hb10⟩
          replace HB := Lib.hid (HB.out.trans (hb10.mono HB.out.size))
          clear hb10
          go_wp2_with fail
          go_ret
          exact ⟨rfl, HB.out⟩

end S
end Go.Proofs.YtejhefmcinohhaaDoor
