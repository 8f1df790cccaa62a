/- Trees: the reference's 'Shown'. -/
import Derived.Test.YtejhefmcinohhaaDoorTq
set_option linter.unusedSimpArgs false
set_option linter.unusedVariables false
set_option maxRecDepth 100000
namespace Go.Proofs.YtejhefmcinohhaaDoor
open Go.RowKit
namespace S

/-- No two different strings with one digest at these places. -/
def NoP (l : List Tx) (i k : Nat) : Prop := ∀ a b, l[i]? = some a → l[k]? = some b → sumL a = sumL b → a = b
theorem shown_true {l : List Tx} {i k : Nat} (hi : i < l.length) (hk : k < l.length) (h : sumL l[i] = sumL l[k]) (hne : l[i] ≠ l[k]) : shownB l = true :=
  (shown_iff l).2 ⟨_, List.getElem_mem hi, _, List.getElem_mem hk, hne, h⟩
theorem shown_false {l : List Tx} (h : ∀ i k, i < l.length → k < i → NoP l i k) : shownB l = false := by
  cases hs : shownB l with
  | false => rfl
  | true =>
    obtain ⟨a, ha, b, hb, hne, he⟩ := (shown_iff l).1 hs
    obtain ⟨i, hi, rfl⟩ := List.getElem_of_mem ha
    obtain ⟨k, hk, rfl⟩ := List.getElem_of_mem hb
    exfalso
    rcases Nat.lt_trichotomy i k with h1 | h1 | h1
    · exact hne (h k i hk h1 _ _ (List.getElem?_eq_getElem hk) (List.getElem?_eq_getElem hi) he.symm).symm
    · subst h1; exact hne rfl
    · exact hne (h i k hi h1 _ _ (List.getElem?_eq_getElem hi) (List.getElem?_eq_getElem hk) he)

attribute [local go_sem ↓ high] Ap.builtin_appA in
set_option maxHeartbeats 4000000 in
theorem shown_any (l : List Tx) (A : Option Addr) (c : Nat) (w : World) (hn : l.length ≤ 100000) (hl : StrsAt w A l) (hs : ∀ t ∈ l, t.length ≤ 140737488351232) :
    Calls Tryd.prog 14 #[.slice A l.length c] w fun e w' => e = .returned (.bool (shownB l)) ∧ Below w.heap.size w w' := by
  have HL := Lib.hid hl
  have HS := Lib.hid hs
  have hlen : l.length ≤ 9223372036854775807 := by omega
  have hstl := str_toList
  clear hl hs
  go_enter Tryd.func14, Tryd.ntmps14
  go_wp2_with fail
  go_loopw [3, 4] (fun v i wr => ∃ (k : Nat) (Ao : Option Addr) (co : Nat), k ≤ l.length ∧ i = .int .i64 k ∧ v = .slice Ao k co ∧ Own w.heap.size wr v ((l.take k).map sumL) ∧ Below w.heap.size w wr) (fun _ i _ => l.length - (intOf i).toNat)
  case atStart => exact ⟨0, none, 0, Nat.zero_le _, rfl, rfl, Own.nil _ _, Below.refl _ _⟩
  case round =>
    obtain ⟨k, Ao, co, hk, rfl, rfl, ho, hlow⟩ := hrel
    have HLow := Lib.hid hlow
    have HO := Lib.hid ho
    clear hlow ho
    have hml : ((l.take k).map sumL).length = k := by simp; omega
    have HML := Lib.hid hml
    clear hml
    by_cases hlt : k < l.length
    · obtain ⟨b, off, hA, hbs, c0⟩ := (HL.out.below HLow.out) k hlt
      subst hA
      have hki : (k : Int) < (l.length : Int) := by omega
      have hk0 : (0 : Int) ≤ (k : Int) := by omega
      have hx2 := HS.out l[k] (List.getElem_mem hlt)
      have HT : Hid ((l.take (k + 1)).map sumL = (l.take k).map sumL ++ [sumL l[k]]) := by unfold Hid; rw [← List.take_append_getElem hlt, List.map_append]; rfl
      generalize l[k] = x at *
      have hq := rsum_any (str x) wr (by rw [str_size]; exact hx2)
      rw [str_data] at hq
      have HQ := Lib.hid hq
      have ho : Own w.heap.size wr (.slice Ao ((l.take k).map sumL).length co) ((l.take k).map sumL) := by rw [HML.out]; exact HO.out
      obtain ⟨A3, c3, w3, hrun, ho3, hL3⟩ := app1 (sumL x) ho (by rw [HML.out]; omega) HLow.out HLow.out.size
      rw [HML.out] at hrun
      have HO3 := Lib.hid ho3
      have HL3 := Lib.hid hL3
      have e3 : ((l.take k).map sumL ++ [sumL x]).length = k + 1 := by rw [List.length_append, HML.out]; rfl
      rw [e3] at hrun
      have HE3 := Lib.hid e3
      clear hq ho ho3 hL3 e3 HO hx2
      go_wp2_with fail
      (with_reducible refine HQ.out.mono ?_); rintro e w2 ⟨rfl, rfl⟩
      go_wp2_with fail
      refine ⟨⟨k + 1, A3, c3, by omega, by go_num, rfl, ?_, HL3.out⟩, by simp [intOf]; omega⟩
      rw [HT.out]
      have h := HO3.out
      rw [HE3.out] at h
      exact h
    · obtain rfl : k = l.length := by omega
      have ho := HO.out
      rw [List.take_length] at ho
      obtain ⟨As, cs, es, hss, hs1, hs2, hs3, hs4⟩ := ho.parts
      injection es with e1 e2 e3
      subst e1 e3
      clear e2
      have HSS := Lib.hid hss
      have HM : Hid (∀ i (h : i < l.length), (l.map sumL)[i]'(by simpa using h) = sumL l[i]) := fun i h => by simp
      have HL0 : Hid (StrsAt wr A l) := HL.out.below HLow.out
      clear ho hss hs1 hs2 hs3 hs4 HO HML hk
      go_wp2_with fail
      rename World => w1
      go_loopw [5] (fun i wr2 => ∃ k : Nat, k ≤ l.length ∧ i = .int .i64 k ∧ (∀ a b, a < k → b < a → NoP l a b) ∧ Below w1.heap.size w1 wr2) (fun i _ => l.length - (intOf i).toNat)
      case atStart => exact ⟨0, Nat.zero_le _, rfl, fun a b h => by omega, Below.refl _ _⟩
      case round =>
        obtain ⟨i, hi, rfl, hno, hl2⟩ := hrel
        have HNo := Lib.hid hno
        have HL2 := Lib.hid hl2
        clear hno hl2
        by_cases hlt2 : i < l.length
        · have hii : (i : Int) < (l.length : Int) := by omega
          have hi0 : (0 : Int) ≤ (i : Int) := by omega
          go_wp2_with fail
          rename World => w2
          go_loopw [6] (fun kv wr3 => ∃ k : Nat, k ≤ i ∧ kv = .int .i64 k ∧ (∀ b, b < k → NoP l i b) ∧ Below w1.heap.size w1 wr3) (fun kv _ => i - (intOf kv).toNat)
          case atStart => exact ⟨0, Nat.zero_le _, rfl, fun b h => by omega, HL2.out⟩
          case round =>
            obtain ⟨j, hj, rfl, hno, hl3⟩ := hrel
            have HNo3 := Lib.hid hno
            have HL3 := Lib.hid hl3
            clear hno hl3
            by_cases hlt3 : j < i
            · have hjl : j < l.length := by omega
              obtain ⟨b, off, hA, hbs, c1⟩ := (HL0.out.below HL3.out) i hlt2
              obtain ⟨b', off', hA', hbs', c2⟩ := (HL0.out.below HL3.out) j hjl
              obtain ⟨d, of2, hD, hds, c3⟩ := (HSS.out.below HL3.out) i (by simpa using hlt2)
              obtain ⟨d', of2', hD', hds', c4⟩ := (HSS.out.below HL3.out) j (by simpa using hjl)
              rw [HM.out i hlt2] at c3
              rw [HM.out j hjl] at c4
              subst hA hD
              simp only [Option.some.injEq, Addr.mk.injEq, and_true] at hA' hD'
              obtain ⟨rfl, rfl⟩ := hA'
              obtain ⟨rfl, rfl⟩ := hD'
              have hji : (j : Int) < (i : Int) := by omega
              have hjl' : (j : Int) < (l.length : Int) := by omega
              have hj0 : (0 : Int) ≤ (j : Int) := by omega
              have HTr : Hid (sumL l[i] = sumL l[j] → l[i] ≠ l[j] → shownB l = true) := fun h1 h2 => shown_true hlt2 hjl h1 h2
              have HFa : Hid ((sumL l[i] = sumL l[j] → l[i] = l[j]) → NoP l i j) := fun h a b ha hb he => by
                rw [List.getElem?_eq_getElem hlt2] at ha
                rw [List.getElem?_eq_getElem hjl] at hb
                injection ha with ha
                injection hb with hb
                subst ha hb
                exact h he
              generalize l[i] = x at *
              generalize l[j] = y at *
              generalize hsx : sumL x = sx at *
              generalize hsy : sumL y = sy at *
              clear hbs' hds' hsx hsy hjl
              cases hq : (sx == sy) with
              | false =>
                have hne : sx ≠ sy := by simpa using hq
                have HNE := Lib.hid hne
                clear hne
                go_wp2_with fail
                refine Reg.wp_region_seq (by kernel_rfl) (by kernel_rfl) ?_
                simp only
                iterate 20
                  apply Reg.SeqOK.val
                  · intro γ W hW K hK
                    obtain ⟨hc, hf, _⟩ := bcell hW
                    simp only [Act.put, List.setIfInBounds_toArray, List.set_cons_zero, List.set_cons_succ] at hK
                    unfold Reg.Does
                    go_simp
                    try simp only [IntWalk.i64_left]
                    first
                      | exact hK _ (Below.refl _ _)
                      | (trace_state; fail)
                  simp only [Act.put, List.setIfInBounds_toArray, List.set_cons_zero, List.set_cons_succ, List.nil_append, List.cons_append, Nat.reduceAdd, Nat.zero_add]
                refine Reg.SeqOK.nil (by kernel_rfl) (fun γ W hW _ _ _ => ?_)
                have HW := Lib.hid (HL3.out.trans (hW.mono HL3.out.size))
                clear hW c1 c2 c3 c4
                go_wp2_with fail
                refine ⟨⟨j + 1, by omega, by go_num, fun b hb => ?_, HW.out⟩, by simp [intOf]; omega⟩
                rcases Nat.lt_or_ge b j with h | h
                · exact HNo3.out b h
                · obtain rfl : b = j := by omega
                  exact HFa.out (fun h => absurd h HNE.out)
              | true =>
                have heq : sx = sy := by simpa using hq
                cases hq2 : (x != y) with
                | false =>
                  have hxy : x = y := by simpa using hq2
                  have HXY := Lib.hid (And.intro heq hxy)
                  have hq3 : (x == y) = true := by simpa using hxy
                  clear heq hxy
                  go_wp2_with fail
                  refine Reg.wp_region_seq (by kernel_rfl) (by kernel_rfl) ?_
                  simp only
                  iterate 20
                    apply Reg.SeqOK.val
                    · intro γ W hW K hK
                      obtain ⟨hc, hf, _⟩ := bcell hW
                      simp only [Act.put, List.setIfInBounds_toArray, List.set_cons_zero, List.set_cons_succ] at hK
                      unfold Reg.Does
                      go_simp
                      try simp only [IntWalk.i64_left]
                      first
                        | exact hK _ (Below.refl _ _)
                        | (trace_state; fail)
                    simp only [Act.put, List.setIfInBounds_toArray, List.set_cons_zero, List.set_cons_succ, List.nil_append, List.cons_append, Nat.reduceAdd, Nat.zero_add]
                  refine Reg.SeqOK.nil (by kernel_rfl) (fun γ W hW _ _ _ => ?_)
                  have HW := Lib.hid (HL3.out.trans (hW.mono HL3.out.size))
                  clear hW c1 c2 c3 c4
                  go_wp2_with fail
                  refine ⟨⟨j + 1, by omega, by go_num, fun b hb => ?_, HW.out⟩, by simp [intOf]; omega⟩
                  rcases Nat.lt_or_ge b j with h | h
                  · exact HNo3.out b h
                  · obtain rfl : b = j := by omega
                    exact HFa.out (fun h => HXY.out.2)
                | true =>
                  have hxy : x ≠ y := by simpa using hq2
                  have HXY := Lib.hid (HTr.out heq hxy)
                  have hq3 : (x == y) = false := by simpa using hxy
                  clear heq hxy
                  go_wp2_with fail
                  refine Reg.wp_region_seq (by kernel_rfl) (by kernel_rfl) ?_
                  simp only
                  iterate 20
                    apply Reg.SeqOK.val
                    · intro γ W hW K hK
                      obtain ⟨hc, hf, _⟩ := bcell hW
                      simp only [Act.put, List.setIfInBounds_toArray, List.set_cons_zero, List.set_cons_succ] at hK
                      unfold Reg.Does
                      go_simp
                      try simp only [IntWalk.i64_left]
                      first
                        | exact hK _ (Below.refl _ _)
                        | (trace_state; fail)
                    simp only [Act.put, List.setIfInBounds_toArray, List.set_cons_zero, List.set_cons_succ, List.nil_append, List.cons_append, Nat.reduceAdd, Nat.zero_add]
                  refine Reg.SeqOK.nil (by kernel_rfl) (fun γ W hW _ _ _ => ?_)
                  have HW := Lib.hid (HL3.out.trans (hW.mono HL3.out.size))
                  clear hW c1 c2 c3 c4
                  go_wp2_with fail
                  go_ret
                  exact ⟨by rw [HXY.out]; rfl, HLow.out.trans (HW.out.mono HLow.out.size)⟩
            · obtain rfl : j = i := by omega
              have hjj : ¬ (j : Int) < (j : Int) := by omega
              go_wp2_with fail
              refine ⟨⟨j + 1, by omega, by go_num, fun a b ha hb => ?_, HL3.out⟩, by simp [intOf]; omega⟩
              rcases Nat.lt_or_ge a j with h | h
              · exact HNo.out a b h hb
              · obtain rfl : a = j := by omega
                exact HNo3.out b hb
        · obtain rfl : i = l.length := by omega
          have HFF := Lib.hid (shown_false fun a b ha hb => HNo.out a b ha hb)
          go_wp2_with fail
          go_ret
          exact ⟨by rw [HFF.out]; rfl, HLow.out.trans (HL2.out.mono HLow.out.size)⟩

end S
end Go.Proofs.YtejhefmcinohhaaDoor

/- Trees: the law's 'rooted', 'few', 'good'. -/
namespace Go.Proofs.YtejhefmcinohhaaDoor
open Go.RowKit
namespace S

def rootedT (l : List Tx) : Tx := if l.all isD then rootT l else []
theorem rooted_any (l : List Tx) (A : Option Addr) (c : Nat) (w : World) (hn : l.length ≤ 1000000) (ht : Tabs w) (hl : StrsAt w A l) (hc : l.length ≤ c) (hc2 : c ≤ 9223372036854775807) (hA : A = none → c = 0) (hs : ∀ t ∈ l, t.length ≤ 9223372036854775807) :
    Calls Tryd.prog 10 #[.slice A l.length c] w fun e w' => e = .returned (.string (str (rootedT l))) ∧ Below w.heap.size w w' := by
  have HR := root_any l A c w hn ht hl hc hc2 hA hs
  have HE : Hid (rootedT l = if l.all isD then rootT l else []) := rfl
  generalize l.all isD = q at *
  cases q with
  | true =>
    rw [if_pos rfl] at HR HE
    have HR := Lib.hid HR
    clear ht hl hs hA
    go_enter Tryd.func10, Tryd.ntmps10
    go_wp2_with fail
    (with_reducible refine HR.out.mono ?_); rintro e w1 ⟨rfl, hb1⟩
    have HB := Lib.hid hb1
    clear hb1 HR
    go_wp2_with fail
    go_ret
    exact ⟨by rw [HE.out]; rfl, HB.out⟩
  | false =>
    rw [if_neg (by decide)] at HR HE
    have HR := Lib.hid HR
    clear ht hl hs hA
    go_enter Tryd.func10, Tryd.ntmps10
    go_wp2_with fail
    (with_reducible refine HR.out.mono ?_); rintro e w1 ⟨rfl, hb1⟩
    have HB := Lib.hid hb1
    clear hb1 HR
    go_wp2_with fail
    go_ret
    exact ⟨by rw [HE.out]; rfl, HB.out⟩

def fewT (l : List Tx) : Bool := decide (l.length ≤ 20) && fewB l 100
def goodB (l : List Tx) : Bool := l.all isD && fewT l
theorem tfew_any (A : Option Addr) (c : Nat) (l : List Tx) (w : World) (hl : StrsAt w A l) (hn : l.length ≤ 9223372036854775807) :
    Calls Tryd.prog 13 #[.slice A l.length c] w fun e w' => e = .returned (.bool (fewT l)) ∧ w' = w := by
  have HF := Lib.hid (few_any A c l 100 w hl hn)
  clear hl
  by_cases h : l.length ≤ 20
  · have h' : (l.length : Int) ≤ 20 := by omega
    have E : Hid (fewT l = fewB l 100) := by unfold Hid fewT; rw [decide_eq_true h, Bool.true_and]
    clear h
    go_enter Tryd.func13, Tryd.ntmps13
    go_wp2_with fail
    (with_reducible refine HF.out.mono ?_); rintro e w1 ⟨rfl, rfl⟩
    go_wp2_with fail
    go_ret
    exact ⟨by rw [E.out]; simp, rfl⟩
  · have h' : ¬ (l.length : Int) ≤ 20 := by omega
    have E : Hid (fewT l = false) := by unfold Hid fewT; rw [decide_eq_false h, Bool.false_and]
    clear h
    go_enter Tryd.func13, Tryd.ntmps13
    go_wp2_with fail
    go_ret
    exact ⟨by rw [E.out]; rfl, rfl⟩
theorem good_any (A : Option Addr) (c : Nat) (L : List Tx) (w : World) (hl : StrsAt w A L) (hn : L.length ≤ 9223372036854775807) (hs : ∀ t ∈ L, t.length ≤ 9223372036854775807) :
    Calls Tryd.prog 9 #[.slice A L.length c] w fun e w' => e = .returned (.bool (goodB L)) ∧ Below w.heap.size w w' := by
  have HL := Lib.hid hl
  have HS := Lib.hid hs
  clear hl hs
  go_enter Tryd.func9, Tryd.ntmps9
  go_wp2_with fail
  go_loopw [3] (fun i wr => ∃ k : Nat, k ≤ L.length ∧ i = .int .i64 k ∧ prN L k = true ∧ Below w.heap.size w wr) (fun i _ => L.length - (intOf i).toNat)
  case atStart => exact ⟨0, Nat.zero_le _, rfl, rfl, Below.refl _ _⟩
  case round =>
    obtain ⟨k, hk, rfl, hg, hbw⟩ := hrel
    have HG := Lib.hid hg
    have HB := Lib.hid hbw
    clear hg hbw
    by_cases hlt : k < L.length
    · obtain ⟨b, off, hA, hb, c0⟩ := (HL.out.below HB.out) k hlt
      subst hA
      have hki : (k : Int) < (L.length : Int) := by omega
      have hk0 : (0 : Int) ≤ (k : Int) := by omega
      have HV : Hid (∀ v, isD L[k] = v → prN L (k + 1) = v ∧ (v = false → L.all isD = false)) := fun v h => ⟨by rw [prN_succ hlt, HG.out, h]; simp, fun hv => prN_false hlt (by rw [h, hv])⟩
      have HQ := Lib.hid (is_str L[k] wr (HS.out _ (List.getElem_mem hlt)))
      generalize L[k] = t at *
      generalize hv : isD t = v at *
      clear hv
      go_wp2_with fail
      (with_reducible refine HQ.out.mono ?_); rintro e w2 ⟨rfl, hb2⟩
      have HB2 := Lib.hid (HB.out.trans (hb2.mono HB.out.size))
      clear hb2 HQ
      cases v with
      | true =>
        go_wp2_with fail
        refine ⟨⟨k + 1, by omega, by go_num, (HV.out _ rfl).1, HB2.out⟩, by simp [intOf]; omega⟩
      | false =>
        go_wp2_with fail
        go_ret
        refine ⟨?_, HB2.out⟩
        unfold goodB
        rw [(HV.out _ rfl).2 rfl]; rfl
    · obtain rfl : k = L.length := by omega
      have HQ := Lib.hid (tfew_any A c L wr (HL.out.below HB.out) hn)
      have E : Hid (goodB L = fewT L) := by unfold Hid goodB; rw [← prN_all, HG.out, Bool.true_and]
      go_wp2_with fail
      (with_reducible refine HQ.out.mono ?_); rintro e w2 ⟨rfl, rfl⟩
      go_wp2_with fail
      go_ret
      exact ⟨by rw [E.out]; rfl, HB.out⟩

end S
end Go.Proofs.YtejhefmcinohhaaDoor

/- Trees: the contracts over lists in memory. -/
namespace Go.Proofs.YtejhefmcinohhaaDoor
open Go.RowKit
namespace S

/-- A list of strings in memory, by its address, its length and its capacity. -/
structure Lst (w : World) (A : Option Addr) (n c : Nat) (l : List Tx) : Prop where
  at_ : StrsAt w A l
  len : l.length = n
  cap : n ≤ c
  max : c ≤ 9223372036854775807
  nil : A = none → c = 0
theorem Lst.below {w w' : World} {A : Option Addr} {n c : Nat} {l : List Tx} (h : Lst w A n c l) (hb : Below w.heap.size w w') : Lst w' A n c l := ⟨h.at_.below hb, h.len, h.cap, h.max, h.nil⟩
theorem Lst.alloc {w : World} {A : Option Addr} {n c : Nat} {l : List Tx} (h : Lst w A n c l) (o : Obj) : Lst (w.alloc o) A n c l := h.below ((Below.refl _ _).alloc (Nat.le_refl _) _)
theorem Own.lst {B : Nat} {w : World} {v : Value} {l : List Tx} (h : Own B w v l) : ∃ A c, v = .slice A l.length c ∧ Lst w A l.length c l := by
  obtain ⟨A, c, e, h1, h2, h3, h4, _⟩ := h.parts
  exact ⟨A, c, e, h1, rfl, h2, h3, h4⟩
theorem Lst.lit {w : World} (l : List Tx) {n : Nat} (hn : l.length = n) (h9 : n ≤ 9223372036854775807) {g : Nat} {T : TypeId} (hg : Reg.Blk g (l.map fun t => Value.string (str t)).toArray T w) : Lst w (some ⟨g, 0, none⟩) n n l :=
  ⟨strs_lit l hg, hn, Nat.le_refl _, h9, fun e => by cases e⟩
theorem Lst.empty (w : World) : Lst w none 0 0 [] := ⟨fun i hi => by simp at hi, rfl, Nat.le_refl _, by omega, fun _ => rfl⟩
/-- What a call gives that returns a list. -/
def LstR (w w' : World) (e : Ending) (l : List Tx) : Prop := ∃ A c, e = .returned (.slice A l.length c) ∧ Lst w' A l.length c l
def LstT (w w' : World) (e : Ending) (l : List Tx) : Prop := ∃ A c, e = .returned (.tuple #[.slice A l.length c, .int .i64 0]) ∧ Lst w' A l.length c l
def TxB (l : List Tx) : Prop := ∀ t ∈ l, t.length ≤ 9223372036854775807

theorem path_L {W : World} {A : Option Addr} {n c : Nat} {l : List Tx} (i : Nat) (h : Lst W A n c l) (hn : n ≤ 100000) (ht : Tabs W) (hok : l.all isD = true) (hi : i < n) :
    Calls Tryd.prog 11 #[.slice A n c, .int .i64 i] W fun e w' => LstT W w' e (pathT l i) ∧ Below W.heap.size W w' := by
  obtain ⟨h1, rfl, h3, h4, h5⟩ := h
  refine (path_yes l i A c W hn ht h1 h3 h4 h5 hok hi).mono ?_
  rintro e w' ⟨⟨v, rfl, ho⟩, hb⟩
  obtain ⟨A', c', rfl, hl⟩ := ho.lst
  exact ⟨⟨A', c', rfl, hl⟩, hb⟩
theorem pathno_L {W : World} {A : Option Addr} {n c : Nat} {l : List Tx} (i : Int) (h : Lst W A n c l) (hn : n ≤ 100000) (hs : TxB l) (hok : pathOk l i = false) :
    Calls Tryd.prog 11 #[.slice A n c, .int .i64 i] W fun e w' => e = .returned (.tuple #[.slice none 0 0, .int .i64 1]) ∧ Below W.heap.size W w' := by
  obtain ⟨h1, rfl, h3, h4, h5⟩ := h
  exact path_no l i A c W (by omega) h1 hs hok
theorem link_L {W : World} {A : Option Addr} {n c : Nat} {l : List Tx} (i : Nat) (h : Lst W A n c l) (hn : n ≤ 100000) (ht : Tabs W) (hok : l.all isD = true) (hi : i ≤ n) :
    Calls Tryd.prog 19 #[.slice A n c, .int .i64 i] W fun e w' => LstT W w' e (lnk l i) ∧ Below W.heap.size W w' := by
  obtain ⟨h1, rfl, h3, h4, h5⟩ := h
  refine (link_yes l i A c W hn ht h1 h3 h4 h5 hok hi).mono ?_
  rintro e w' ⟨⟨v, rfl, ho⟩, hb⟩
  obtain ⟨A', c', rfl, hl⟩ := ho.lst
  exact ⟨⟨A', c', rfl, hl⟩, hb⟩
theorem root_L {W : World} {A : Option Addr} {n c : Nat} {l : List Tx} (h : Lst W A n c l) (hn : n ≤ 100000) (ht : Tabs W) (hs : TxB l) :
    Calls Tryd.prog 17 #[.slice A n c] W fun e w' => e = .returned (if l.all isD then .tuple #[.string (str (rootT l)), .int .i64 0] else .tuple #[.string (str []), .int .i64 1]) ∧ Below W.heap.size W w' := by
  obtain ⟨h1, rfl, h3, h4, h5⟩ := h
  exact root_any l A c W (by omega) ht h1 h3 h4 h5 hs
theorem rooted_L {W : World} {A : Option Addr} {n c : Nat} {l : List Tx} (h : Lst W A n c l) (hn : n ≤ 100000) (ht : Tabs W) (hs : TxB l) :
    Calls Tryd.prog 10 #[.slice A n c] W fun e w' => e = .returned (.string (str (rootedT l))) ∧ Below W.heap.size W w' := by
  obtain ⟨h1, rfl, h3, h4, h5⟩ := h
  exact rooted_any l A c W (by omega) ht h1 h3 h4 h5 hs
theorem check_L {W : World} {A : Option Addr} {n c : Nat} {l : List Tx} (root : Tx) (m i : Int) (d : Tx) (h : Lst W A n c l) (hn : n ≤ 100000) (ht : Tabs W) (hs : TxB l) (hd : d.length ≤ 9223372036854775807) :
    Calls Tryd.prog 12 #[.string (str root), .int .i64 m, .int .i64 i, .string (str d), .slice A n c] W fun e w' => e = .returned (.bool (checkB root m i d l)) ∧ Below W.heap.size W w' := by
  obtain ⟨h1, rfl, h3, h4, h5⟩ := h
  exact treecheck_any root m i d l A c W (by omega) ht h1 h3 h4 h5 hs hd
theorem extends_L {W : World} {A : Option Addr} {n c : Nat} {l : List Tx} (old : Tx) (m : Int) (root : Tx) (k : Int) (h : Lst W A n c l) (hn : n ≤ 100000) (ht : Tabs W) (hs : TxB l) (ho : old.length ≤ 9223372036854775807) (hr : root.length ≤ 9223372036854775807) :
    Calls Tryd.prog 20 #[.string (str old), .int .i64 m, .string (str root), .int .i64 k, .slice A n c] W fun e w' => e = .returned (.bool (extB old m root k l)) ∧ Below W.heap.size W w' := by
  obtain ⟨h1, rfl, h3, h4, h5⟩ := h
  exact extends_any old m root k l A c W (by omega) ht h1 h3 h4 h5 hs ho hr
theorem same_L {W : World} {A B : Option Addr} {n c m d : Nat} {a b : List Tx} (h : Lst W A n c a) (k : Lst W B m d b) :
    Calls Tryd.prog 18 #[.slice A n c, .slice B m d] W fun e w' => e = .returned (.bool (decide (a = b))) ∧ Below W.heap.size W w' := by
  obtain ⟨h1, rfl, h3, h4, h5⟩ := h
  obtain ⟨k1, rfl, k3, k4, k5⟩ := k
  exact same_any A c a B d b W h1 k1 (by omega) (by omega)
theorem few_L {W : World} {A : Option Addr} {n c : Nat} {l : List Tx} (h : Lst W A n c l) :
    Calls Tryd.prog 13 #[.slice A n c] W fun e w' => e = .returned (.bool (fewT l)) ∧ w' = W := by
  obtain ⟨h1, rfl, h3, h4, h5⟩ := h
  exact tfew_any A c l W h1 (by omega)
theorem good_L {W : World} {A : Option Addr} {n c : Nat} {l : List Tx} (h : Lst W A n c l) (hs : TxB l) :
    Calls Tryd.prog 9 #[.slice A n c] W fun e w' => e = .returned (.bool (goodB l)) ∧ Below W.heap.size W w' := by
  obtain ⟨h1, rfl, h3, h4, h5⟩ := h
  exact good_any A c l W h1 (by omega) hs
theorem texts_L {W : World} {A : Option Addr} {n c : Nat} {l : List Tx} (h : Lst W A n c l) (hn : n ≤ 1000) (hs : ∀ t ∈ l, Sh t) :
    Calls Tryd.prog 15 #[.slice A n c] W fun e w' => (∃ A c, e = .returned (.slice A (textsT l).length c) ∧ Own W.heap.size w' (.slice A (textsT l).length c) (textsT l)) ∧ Below W.heap.size W w' := by
  obtain ⟨h1, rfl, h3, h4, h5⟩ := h
  refine (rtexts_any _ l A c W rfl hn h1 h3 h4 h5 hs).mono ?_
  rintro e w' ⟨⟨v, rfl, A', c', rfl, ho, _⟩, hb⟩
  exact ⟨⟨A', c', rfl, ho⟩, hb⟩
theorem ptexts_L {W : World} {A : Option Addr} {n c : Nat} {l : List Tx} (m i : Nat) (d : Tx) (h : Lst W A n c l) (hd : Sh d) (hs : ∀ t ∈ l, Sh t) (hi : i < m) (hm : m ≤ 1000000) (hn : n ≤ 1000) (hl : n = lenT m i) :
    Calls Tryd.prog 16 #[.int .i64 m, .int .i64 i, .string (str d), .slice A n c] W fun e w' => (∃ A c, e = .returned (.slice A (pathTexts m i d l.reverse).length c) ∧ Own W.heap.size w' (.slice A (pathTexts m i d l.reverse).length c) (pathTexts m i d l.reverse)) ∧ Below W.heap.size W w' := by
  obtain ⟨h1, h2, h3, h4, h5⟩ := h
  refine (rptexts_any d hd m i l A c n W hi hm h2 hl hn h1 h3 h4 hs).mono ?_
  rintro e w' ⟨⟨v, rfl, ho⟩, hb⟩
  obtain ⟨A', c', rfl, hl⟩ := ho.lst
  exact ⟨⟨A', c', rfl, ho⟩, hb⟩
theorem ltexts_L {W : World} {A : Option Addr} {n c : Nat} {l : List Tx} (m i : Nat) (whole : Bool) (d : Tx) (h : Lst W A n c l) (hd : Sh d) (hs : ∀ t ∈ l, Sh t) (h1i : 1 ≤ i) (hi : i ≤ m) (hm : m ≤ 1000) (hn : n ≤ 1000) (hl : n = longT m i whole) :
    Calls Tryd.prog 21 #[.int .i64 m, .int .i64 i, .bool whole, .string (str d), .slice A n c] W fun e w' => (∃ A c, e = .returned (.slice A (linkTexts m i whole d l.reverse).length c) ∧ Own W.heap.size w' (.slice A (linkTexts m i whole d l.reverse).length c) (linkTexts m i whole d l.reverse)) ∧ Below W.heap.size W w' := by
  obtain ⟨h1, h2, h3, h4, h5⟩ := h
  refine (rltexts_any d hd m i whole l A c n W h1i hi hm h2 hl hn h1 h3 h4 hs).mono ?_
  rintro e w' ⟨⟨v, rfl, ho⟩, hb⟩
  obtain ⟨A', c', rfl, hl⟩ := ho.lst
  exact ⟨⟨A', c', rfl, ho⟩, hb⟩
theorem shown_L {W : World} {A : Option Addr} {n c : Nat} {l : List Tx} (h : Lst W A n c l) (hn : n ≤ 100000) (hs : ∀ t ∈ l, t.length ≤ 140737488351232) :
    Calls Tryd.prog 14 #[.slice A n c] W fun e w' => e = .returned (.bool (shownB l)) ∧ Below W.heap.size W w' := by
  obtain ⟨h1, rfl, h3, h4, h5⟩ := h
  exact shown_any l A c W hn h1 hs

/-! The texts that are digested are short. -/
theorem jn_len {a b : Tx} (ha : Sh a) (hb : Sh b) : (jn a b).length ≤ 140737488351232 := few_join (few_node ha hb)
theorem texts_b : ∀ n (l : List Tx), l.length = n → (∀ t ∈ l, Sh t) → ∀ t ∈ textsT l, t.length ≤ 140737488351232 := by
  intro n
  induction n using Nat.strongRecOn with
  | ind n ih =>
    intro l hl hs t ht
    by_cases h2 : 2 ≤ n
    · obtain ⟨k0, k1, k2, _⟩ := hf_spec h2
      rw [texts_step (by omega), hl] at ht
      rcases List.mem_append.1 ht with ht | ht
      · rcases List.mem_append.1 ht with ht | ht
        · exact ih (hf n) k1 _ (by simp; omega) (sh_take hs _) t ht
        · exact ih (n - hf n) (by omega) _ (by simp; omega) (sh_drop hs _) t ht
      · obtain rfl := List.mem_singleton.1 ht
        exact jn_len (root_sh _ (sh_take hs _)) (root_sh _ (sh_drop hs _))
    · rw [textsT, if_pos (by omega)] at ht
      split at ht
      · obtain rfl := List.mem_singleton.1 ht
        exact few_join (by decide)
      · simp at ht
theorem sh_tail {q : List Tx} (h : ∀ t ∈ q, Sh t) : ∀ t ∈ q.tail, Sh t := fun t ht => h t (List.mem_of_mem_tail ht)
theorem sh_headD {q : List Tx} (h : ∀ t ∈ q, Sh t) : Sh (q.headD []) := by
  cases q with
  | nil => simp [Sh]
  | cons x q => exact h x List.mem_cons_self
theorem ptexts_b : ∀ n i d (q : List Tx), Sh d → (∀ t ∈ q, Sh t) → ∀ t ∈ pathTexts n i d q, t.length ≤ 140737488351232 := by
  intro n
  induction n using Nat.strongRecOn with
  | ind n ih =>
    intro i d q hd hq t ht
    by_cases h2 : 2 ≤ n
    · obtain ⟨k0, k1, k2, _⟩ := hf_spec h2
      by_cases hk : i < hf n
      · rw [pt_left _ _ h2 hk] at ht
        rcases List.mem_append.1 ht with ht | ht
        · exact ih (hf n) k1 _ _ _ hd (sh_tail hq) t ht
        · obtain rfl := List.mem_singleton.1 ht
          exact jn_len (up_sh _ _ _ _ hd) (sh_headD hq)
      · rw [pt_right _ _ h2 hk] at ht
        rcases List.mem_append.1 ht with ht | ht
        · exact ih (n - hf n) (by omega) _ _ _ hd (sh_tail hq) t ht
        · obtain rfl := List.mem_singleton.1 ht
          exact jn_len (sh_headD hq) (up_sh _ _ _ _ hd)
    · rw [pt_one _ _ _ (by omega)] at ht; simp at ht
theorem ltexts_b : ∀ n m whole d (q : List Tx), Sh d → (∀ t ∈ q, Sh t) → ∀ t ∈ linkTexts n m whole d q, t.length ≤ 140737488351232 := by
  intro n
  induction n using Nat.strongRecOn with
  | ind n ih =>
    intro m whole d q hd hq t ht
    by_cases hlt : m < n
    · by_cases h2 : 2 ≤ n
      · obtain ⟨k0, k1, k2, _⟩ := hf_spec h2
        by_cases hk : m ≤ hf n
        · rw [lt_left _ _ _ hlt h2 hk] at ht
          rcases List.mem_append.1 ht with ht | ht
          · exact ih (hf n) k1 _ _ _ _ hd (sh_tail hq) t ht
          · obtain rfl := List.mem_singleton.1 ht
            exact jn_len (both_sh _ _ _ _ _ hd (sh_tail hq)).2 (sh_headD hq)
        · rw [lt_right _ _ _ hlt h2 hk] at ht
          rcases List.mem_append.1 ht with ht | ht
          · rcases List.mem_append.1 ht with ht | ht
            · exact ih (n - hf n) (by omega) _ _ _ _ hd (sh_tail hq) t ht
            · obtain rfl := List.mem_singleton.1 ht
              exact jn_len (sh_headD hq) (both_sh _ _ _ _ _ hd (sh_tail hq)).1
          · obtain rfl := List.mem_singleton.1 ht
            exact jn_len (sh_headD hq) (both_sh _ _ _ _ _ hd (sh_tail hq)).2
      · rw [linkTexts, if_neg (by omega), if_pos (by omega)] at ht; simp at ht
    · rw [lt_end _ _ _ (by omega)] at ht; simp at ht

end S
end Go.Proofs.YtejhefmcinohhaaDoor
